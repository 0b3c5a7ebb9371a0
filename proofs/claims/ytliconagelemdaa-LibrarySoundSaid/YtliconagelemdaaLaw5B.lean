/- The walk of the law LibrarySound: the number is the last root and not the first one. -/
import Derived.Test.YtliconagelemdaaLaw5H
namespace Go.Proofs.Ytliconagelemdaa
open Go.RowKit Go.Shelf
set_option linter.unusedVariables false

attribute [local go_sem ↓] Go.wp_at_zero Go.wp_at_succ

set_option maxRecDepth 100000 in
set_option maxHeartbeats 20000000 in
theorem librarySound_B (a0 : Option Addr) (len0 cap0 : Nat) (z0 : List Int) (a1 : Int) (a2 : Int) (a3 : Int) (a4 : Int) (w : World) (w0 : GoRow .i64 w a0 len0 cap0 z0) (w1 : (Lit.int .i64 a1).wf = true) (w2 : (Lit.int .i64 a2).wf = true) (w3 : (Lit.int .i64 a3).wf = true) (w4 : (Lit.int .i64 a4).wf = true)
    (h1 : IntKind.u64.wrap a4 = rootL (namesZ (entsZ (z0.take len0) 24))) (h2 : IntKind.u64.wrap a4 ≠ rootL ((namesZ (entsZ (z0.take len0) 24)).take ((arZ a2 ((entsZ (z0.take len0) 24).length : Int)).toNat + 1))) :
    Calls Try.prog 7 #[.slice a0 len0 cap0, .int .i64 a1, .int .i64 a2, .int .i64 a3, .int .i64 a4] w fun e w' => e = .returned (.bool true) ∧ Below w.heap.size w w' := by
  obtain ⟨hI, hlc, hcap, hwf⟩ := w0.ints
  have hzI : ∀ z ∈ z0.take len0, I z := fun z hz => I_of_wf (hwf z hz)
  have hlen : len0 ≤ maxLen := Nat.le_trans hlc hcap
  have ha1 := I_of_wf w1
  have ha2 := I_of_wf w2
  have ha3 := I_of_wf w3
  clear hwf w1 w0 w2 w3 w4
  have hby := entsZ_byt hzI 24
  have hl := entsZ_length (z0.take len0) 24
  have HE := Lib.hid (entries_any a0 len0 cap0 (z0.take len0) 24 w hlen (by omega) hzI hI)
  obtain ⟨es, hes⟩ : ∃ es, entsZ (z0.take len0) 24 = es := ⟨_, rfl⟩
  rw [hes] at hby hl HE h1 h2
  clear hes hzI hI
  obtain ⟨N, hN⟩ : ∃ N, es.length = N := ⟨_, rfl⟩
  rw [hN] at hl h2
  have HBY := Lib.hid hby
  have HN := Lib.hid hN
  clear hby hN
  have H1 := Lib.hid h1
  have H2 := Lib.hid h2
  clear h1 h2
  go_enter Try.func7, Try.ntmps7
  go_wp2_with fail
  refine HE.out.mono ?_
  rintro e w2 ⟨A2, c2, rfl, hE2, b2⟩
  have hR2 := hE2.rows
  rw [HN.out] at hR2 ⊢
  clear hE2 HE
  go_wp2_with fail
  refine (tree_any A2 N c2 es _ (by omega) HBY.out hR2).mono ?_
  rintro e w4 ⟨lb, rfl, hL4, b4⟩
  have hR4 := (hR2.below b4).more b4.size
  have B4 := Below.step b2 b4
  obtain ⟨S, hS⟩ : ∃ S : Nat → Prop, (fun k => w2.heap.size ≤ k) = S := ⟨_, rfl⟩
  rw [hS] at hL4
  clear hS hR2 b4 b2
  by_cases hN0 : N = 0
  · have hz : ((N : Int) == 0) = true := by simp; omega
    go_wp2_with fail
    refine (lives_any _).mono ?_
    rintro e w5 ⟨rfl, b5⟩
    go_wp2_with fail
    go_ret
    exact ⟨rfl, Below.step B4 b5⟩
  · have hz : ((N : Int) == 0) = false := by simp; omega
    -- the index, and the first size
    obtain ⟨hi0, hiN⟩ := arZ_lt a1 (m := (N : Int)) (by omega)
    obtain ⟨hj0, hjN⟩ := arZ_lt a2 (m := (N : Int)) (by omega)
    have RA := Lib.hid (around_any a1 (N : Int) (by omega) (by omega) ha1)
    have RB := Lib.hid (around_any a2 (N : Int) (by omega) (by omega) ha2)
    obtain ⟨i, hii⟩ : ∃ i : Nat, arZ a1 (N : Int) = (i : Int) := ⟨(arZ a1 (N : Int)).toNat, by omega⟩
    obtain ⟨j, hjj⟩ : ∃ j : Nat, arZ a2 (N : Int) = (j : Int) := ⟨(arZ a2 (N : Int)).toNat, by omega⟩
    rw [hii] at RA hi0 hiN
    rw [hjj] at RB hj0 hjN
    have hjj2 : (arZ a2 (N : Int)).toNat = j := by omega
    clear hii hjj ha1 ha2
    go_wp2_with fail
    refine (RA.out _).mono ?_
    rintro e w' ⟨rfl, rfl⟩
    go_wp2_with fail
    refine (RB.out _).mono ?_
    rintro e w' ⟨rfl, rfl⟩
    clear RA RB hz
    -- the path, the link and both roots
    obtain ⟨m, hmj⟩ : ∃ m : Nat, m = j + 1 := ⟨_, rfl⟩
    have h1 := H1.out
    have h2 := H2.out
    rw [hjj2, ← hmj] at h2
    clear H1 H2 hjj2
    have hm1 : 1 ≤ m := by omega
    have hmN : m ≤ N := by omega
    have hP := Lib.hid (fun W (h : LibAt W S lb es) => Path_yes S lb es i N W h (by rw [HN.out]; omega) (by omega))
    have hK := Lib.hid (fun W (h : LibAt W S lb es) => Link_yes S lb es m N W h (by rw [HN.out]; omega) (by omega))
    have hRt := Lib.hid (fun W (h : LibAt W S lb es) => Root_yes S lb es N W h (by rw [HN.out]; omega))
    have hOl := Lib.hid (fun W (h : LibAt W S lb es) => Root_yes S lb es m W h (by rw [HN.out]; omega))
    have hpn : partZ es 0 N = namesZ es := by have := partZ_all es; rwa [HN.out] at this
    have hlx : (namesZ es).length = N := by rw [namesZ_length, HN.out]
    rw [hpn] at hP hK hRt
    rw [partZ_first] at hOl
    rw [linkZ_pos (by omega)] at hK
    have hgi := names_get (es := es) (i := i) (by rw [HN.out]; omega)
    obtain ⟨f, hf⟩ : ∃ f, es[i]?.getD [] = f := ⟨_, rfl⟩
    have hfB : Byt f ∧ f.length ≤ 65536 := by rw [← hf, List.getElem?_eq_getElem (by rw [HN.out]; omega)]; exact HBY.out _ (List.getElem_mem _)
    rw [hf] at hgi
    -- the plain laws
    have c1 := fun other (h : other ≠ rootL (namesZ es)) => checkZ_root (i := i) hlx (by omega) h
    have c2' := fun x (hx : U x) (h : x ≠ (namesZ es)[i]?.getD 0) => checkZ_leaf (i := i) hlx (by omega) hx (by rw [hgi]; exact nameZ_U _) h
    have c3 := fun k (hk : k < (pathL (namesZ es) i).length) x (hx : U x) (h : x ≠ elt (pathL (namesZ es) i) k) => checkZ_elt (i := i) hlx (by omega) hk hx h
    have d1 := fun other (ho : U other) (h : other ≠ rootL ((namesZ es).take m)) => checkLinkZ_from (m := m) hlx (by omega) (by omega) ho h
    have d2 := fun other (h : other ≠ rootL (namesZ es)) => checkLinkZ_to (m := m) hlx (by omega) (by omega) h
    have d3 := fun k (hk : k < (linkL (namesZ es) m true).length) x (hx : U x) (h : x ≠ elt (linkL (namesZ es) m true) k) => checkLinkZ_elt (m := m) hlx (by omega) (by omega) hk hx h
    have d4 : m = N → linkL (namesZ es) m true = [] := fun e => by
      have := linkL_all (namesZ es) true
      rw [hlx, ← e] at this
      exact this
    rw [hgi] at c1 c2' c3
    have hPU := pathL_U (namesZ es).length (namesZ es) i
    have hQU := linkF_U ((namesZ es).length + 1) (namesZ es) m true
    have hPL : (pathL (namesZ es) i).length ≤ 24 := by have := pathL_len (namesZ es) i; omega
    have hQL : (linkL (namesZ es) m true).length ≤ 25 := by have := linkL_len (l := namesZ es) (m := m) true (by omega) (by omega); omega
    have hPU' : ∀ z ∈ pathL (namesZ es) i, U z := hPU
    have hQU' : ∀ z ∈ linkL (namesZ es) m true, U z := hQU
    have hrU := rootL_U (namesZ es)
    have hoU := rootL_U ((namesZ es).take m)
    obtain ⟨p, hp⟩ : ∃ p, pathL (namesZ es) i = p := ⟨_, rfl⟩
    obtain ⟨q, hq⟩ : ∃ q, linkL (namesZ es) m true = q := ⟨_, rfl⟩
    obtain ⟨rt, hrt⟩ : ∃ r, rootL (namesZ es) = r := ⟨_, rfl⟩
    obtain ⟨old, hol⟩ : ∃ r, rootL ((namesZ es).take m) = r := ⟨_, rfl⟩
    rw [hp] at hP c1 c2' c3 hPL hPU'
    rw [hq] at hK d1 d2 d3 d4 hQL hQU'
    rw [hrt] at hRt c1 c2' c3 d1 d2 d3 hrU h1
    rw [hol] at hOl d1 d2 d3 hoU h2
    have H1 := Lib.hid h1
    have H2 := Lib.hid h2
    clear h1 h2
    have HC := Lib.hid (And.intro c1 (And.intro c2' c3))
    have HD := Lib.hid (And.intro d1 (And.intro d2 (And.intro d3 d4)))
    have HU := Lib.hid (And.intro hPU' (And.intro hQU' (And.intro hrU hoU)))
    clear c1 c2' c3 d1 d2 d3 d4 hPU hQU hPU' hQU' hrU hoU hp hq hrt hol hpn hlx hgi
    go_wp2_with fail
    rw [show (1 : Int) + (j : Int) = (m : Int) from by omega]
    clear hmj hj0 hjN
    refine (hP.out _ hL4).mono ?_
    rintro e w5 ⟨Ap, cp, rfl, hown5, b5⟩
    have hL5 := hL4.below b5
    have hR5 := (hR4.below b5).more b5.size
    have hIp5 := Ints.of_own hown5
    have B5 := Below.step B4 b5
    clear hL4 hR4 B4 b5 hown5 hP
    go_wp2_with fail
    refine (hK.out _ hL5).mono ?_
    rintro e w6 ⟨Aq, cq, rfl, hown6, b6⟩
    have hL6 := hL5.below b6
    have hR6 := (hR5.below b6).more b6.size
    have hIp6 := hIp5.at b6
    have hIq6 := Ints.of_own hown6
    have B6 := Below.step B5 b6
    clear hL5 hR5 B5 b6 hown6 hK hIp5
    go_wp2_with fail
    refine (hRt.out _ hL6).mono ?_
    rintro e w7 ⟨rfl, b7⟩
    have hL7 := hL6.below b7
    have hR7 := (hR6.below b7).more b7.size
    have hIp7 := hIp6.at b7
    have hIq7 := hIq6.at b7
    have B7 := Below.step B6 b7
    clear hL6 hR6 B6 b7 hRt hIp6 hIq6
    go_wp2_with fail
    refine (hOl.out _ hL7).mono ?_
    rintro e u ⟨rfl, b8⟩
    have hRu := (hR7.below b8).more b8.size
    have hIp := hIp7.at b8
    have hIq := hIq7.at b8
    have Bu := Below.step B7 b8
    clear hL7 hR7 B7 b8 hOl hIp7 hIq7
    -- the entry
    obtain ⟨gx, ox, hA2, hgx, hrow⟩ := hRu.2 (by omega)
    obtain ⟨Ax, nx, cx, hcx, hnx, hcxm, hIx⟩ := hrow i (by omega)
    subst hA2
    rw [hf] at hIx
    have hnxl : nx ≤ 65536 := by rw [← hIx.1]; exact hfB.2
    have HFB := Lib.hid hfB
    have HIX := Lib.hid (And.intro hIp (And.intro hIq hIx))
    clear hRu hrow hf hfB hIp hIq hIx
    have hoU := wrap_U a4
    obtain ⟨np, hnp⟩ : ∃ np, p.length = np := ⟨_, rfl⟩
    obtain ⟨nq, hnq⟩ : ∃ nq, q.length = nq := ⟨_, rfl⟩
    have HNP := Lib.hid (And.intro hnp hnq)
    rw [hnp] at hPL HIX ⊢
    rw [hnq] at hQL HIX ⊢
    clear hnp hnq
    obtain ⟨o, ho⟩ : ∃ o, IntKind.u64.wrap a4 = o := ⟨_, rfl⟩
    have h1 := H1.out
    have h2 := H2.out
    rw [ho] at hoU h1 h2
    clear H1 H2
    have HO := Lib.hid hoU
    clear hoU
    have H1 := Lib.hid h1
    have H2 := Lib.hid h2
    clear h1 h2
    go_upto_region 13 with fail
    clear ho
    have h1 := H1.out
    have h2 := H2.out
    clear H1 H2
    have hne : (o != rt) = false := by simp [h1]
    clear h1
    have hne2 : (o != old) = true := by simpa using h2
    have HH3 := Lib.hid (HD.out.1 o HO.out h2)
    clear h2
    have bB := Below.refl u.heap.size u
    have HQ1 := Lib.hid (HIX.out.2.1.at bB)
    go_wp2_with fail
    refine (CheckLink_no o rt m N Aq nq cq q _ (by omega) hm1 hmN (by omega) HD.out.2.2.2 HH3.out HQ1.out).mono ?_
    rintro e v2 ⟨rfl, c1⟩
    have bB1 := Below.step bB c1
    clear bB c1 HQ1
    have bB := bB1
    clear bB1
    go_wp2_with fail
    obtain ⟨hr0, hr1⟩ := arZ_lt a3 (m := 255) (by omega)
    have HR := Lib.hid (around_any a3 255 (by omega) (by omega) ha3)
    have HR2 := Lib.hid (And.intro (around_big a3 1073741824 (by omega) (by omega) ha3) (arZ_lt a3 (m := 1073741824) (by omega)))
    obtain ⟨r, hr⟩ : ∃ r, arZ a3 255 = r := ⟨_, rfl⟩
    rw [hr] at hr0 hr1 HR
    clear hr ha3
    have Hxi := Lib.hid hcx
    clear hcx
    go_loopw [25] (fun x wr => ∃ k : Nat, k ≤ nx ∧ x = .int .i64 (k : Int) ∧ Below u.heap.size u wr) (fun x _ => nx - (intOf x).toNat)
    case atStart => exact ⟨0, Nat.zero_le _, rfl, bB⟩
    case round =>
      clear bB
      obtain ⟨k, hk, rfl, hB⟩ := hrel
      have hcw : wr.cell? ⟨gx, ox + i, none⟩ = some (.slice Ax nx cx) := (hB.cell (p := ⟨gx, ox + i, none⟩) hgx).trans Hxi.out
      by_cases hlt : k < nx
      · have hd : decide (k < nx) = true := by simpa using hlt
        obtain ⟨i0, hi, hz0, hz1, hz2⟩ := info_parts info_u8
        have hgw : gx < wr.heap.size := Nat.lt_of_lt_of_le hgx hB.size
        have hcw1 : (wr.alloc (.cells #[] 5)).cell? ⟨gx, ox + i, none⟩ = some (.slice Ax nx cx) := (((Below.refl wr.heap.size wr).alloc (Nat.le_refl _) _).cell (p := ⟨gx, ox + i, none⟩) hgw).trans hcw
        have hsrc := (HIX.out.2.2.at hB).below ((Below.refl _ wr).alloc (Nat.le_refl _) (.cells #[] 5))
        go_wp2_with (at_builtin; refine wpList_append_ints _ rfl _ _ 39 rfl wr.heap.size 5 i0 (.int .u8 0) 1 Try.underlying39 hi hz0 hz1 hz2 rfl (.slice (some ⟨wr.heap.size, 0, none⟩) 0 0) 0 [] rfl (World.ownsRow_lit wr #[] 0 (Nat.le_refl _) (by unfold maxLen; omega) rfl) .u8 wr.heap.size Ax nx cx f rfl hsrc (by unfold maxLen; omega) (by omega) (by simp) ?_; intro v' w1 hown' hgrow)
        rw [Nat.zero_add, List.nil_append] at hown'
        obtain ⟨g, cap, hv, hg, hglt⟩ := hown'.form (by omega)
        subst hv
        have hb1 : Below wr.heap.size wr w1 := ((Below.refl _ _).alloc (Nat.le_refl _) _).grown hgrow (by simp) (fun g hg => Nat.le_of_eq (by simpa [Value.ownBlock] using hg))
        have hfl := HIX.out.2.2.1
        obtain ⟨q0, hq0⟩ : ∃ q0, f[k]?.getD 0 = q0 := ⟨_, rfl⟩
        have hck : w1.cell? ⟨g, k, none⟩ = some (.int .u8 q0) := by
          rw [hown'.cellAt k (by omega), List.getElem?_map, List.getElem?_eq_getElem (by omega), ← hq0, List.getElem?_eq_getElem (by omega)]; rfl
        have hq0b : 0 ≤ q0 ∧ q0 < 256 := by rw [← hq0]; exact HFB.out.1.get k
        have hfk := hown'.frozenAt k
        have HW := Lib.hid (And.intro hown' (And.intro hb1 (And.intro hB (And.intro hq0 hfl))))
        clear hown' hb1 hB hq0 hgrow hcw1 hsrc hcw hfl
        go_cut [] (fun wx => wx = (w1.setCell ⟨g, k, none⟩ (.int .u8 (IntKind.u8.wrap (IntKind.u8.wrap (q0 + 1) + IntKind.u8.wrap r)))).drew)
        case first =>
          go_region_law ((go_simp; go_at_call 18; refine (HR.out _).mono ?_; rintro e w' ⟨rfl, rfl⟩))
          all_goals
            go_wp2_with fail
            go_meet
            exact rfl
        case rest =>
        subst hcut
        obtain ⟨x, hx⟩ : ∃ x, IntKind.u8.wrap (IntKind.u8.wrap (q0 + 1) + IntKind.u8.wrap r) = x := ⟨_, rfl⟩
        have hxb : 0 ≤ x ∧ x < 256 := by rw [← hx]; exact byte_in _
        have hxne : x ≠ q0 := by rw [← hx]; exact byte_other hq0b ⟨hr0, hr1⟩
        rw [hx]
        clear hx hck hfk
        have hY := (HW.out.1.stored k (.int .u8 x)).1
        rw [map_set_int] at hY
        have hBU : Below u.heap.size u (w1.setCell ⟨g, k, none⟩ (.int .u8 x)).drew := (Below.step HW.out.2.2.1 (HW.out.2.1.setCell (p := ⟨g, k, none⟩) hg _)).drew
        have hYU : Ints .u8 (w1.setCell ⟨g, k, none⟩ (.int .u8 x)).drew (w1.setCell ⟨g, k, none⟩ (.int .u8 x)).drew.heap.size (some ⟨g, 0, none⟩) nx (f.set k x) := (Ints.of_own hY).at (Below.refl _ _).drew
        have hyb : Byt (f.set k x) := HFB.out.1.set k hxb
        have hne := name_other HFB.out.1 (k := k) (by rw [HW.out.2.2.2.2]; exact hlt) hxb (by rw [HW.out.2.2.2.1]; exact hxne)
        have hN1 : (nameZ (f.set k x) == nameZ f) = false := by simpa using hne
        have hno := HC.out.2.1 _ (nameZ_U _) hne
        obtain ⟨W5, hU⟩ : ∃ U, (w1.setCell ⟨g, k, none⟩ (.int .u8 x)).drew = U := ⟨_, rfl⟩
        obtain ⟨y, hyy⟩ : ∃ y, f.set k x = y := ⟨_, rfl⟩
        rw [hU] at hBU hYU ⊢
        rw [hyy] at hYU hyb hN1 hno
        have hXU := HIX.out.2.2.at hBU
        have hPU := HIX.out.1.at hBU
        have hcU : W5.cell? ⟨gx, ox + i, none⟩ = some (.slice Ax nx cx) := (hBU.cell (p := ⟨gx, ox + i, none⟩) hgx).trans Hxi.out
        have hgU : gx < W5.heap.size := Nat.lt_of_lt_of_le hgx hBU.size
        clear hU hyy hY hne hxne hxb HR HR2
        have hno' := Lib.hid hno
        clear hno
        go_wp2_with fail
        go_region_held3 (fun w' => w'.cell? ⟨gx, ox + i, none⟩ = some (.slice Ax nx cx) ∧ Below W5.heap.size W5 w')
          (first
            | exact ⟨hcU, (Below.refl _ _).drew⟩
            | exact held_next hgU (by assumption) (by assumption))
          (first
            | (go_at_call 29; (with_reducible refine (entryBytes_any (some ⟨g, 0, none⟩) nx cap y (by omega) hyb _ (by exact held_ints (by assumption) hYU)).mono ?_); rintro e w' ⟨rfl, b⟩)
            | (go_at_call 29; (with_reducible refine (entryBytes_any Ax nx cx f (by omega) HFB.out.1 _ (by exact held_ints (by assumption) hXU)).mono ?_); rintro e w' ⟨rfl, b⟩)
            | (go_at_call 27; refine (Check_no rt i N (some ⟨g, 0, none⟩) nx cap y Ap np cp p _ (by omega) (by omega) (by omega) hyb (by omega) hno'.out (by exact held_ints (by assumption) hYU) (by exact held_ints (by assumption) hPU)).mono ?_; rintro e w' ⟨rfl, b⟩))
        all_goals
          rename_i hH
          have hB6 := Below.step hBU hH.2
          go_wp2_with fail
          go_roundw
          case rel => exact ⟨k + 1, by omega, by go_num, hB6⟩
          case measure => simp [intOf]; omega
      · have hd : decide (k < nx) = false := by simpa using hlt
        clear hk hlt hr0 hr1 HR
        go_wp2_with fail
        go_loopw [27] (fun x wr => ∃ k : Nat, k ≤ np ∧ x = .int .i64 (k : Int) ∧ Below u.heap.size u wr) (fun x _ => np - (intOf x).toNat)
        case atStart => exact ⟨0, Nat.zero_le _, rfl, hB⟩
        case round =>
          clear hB
          obtain ⟨k, hk, rfl, hB⟩ := hrel
          by_cases hlt : k < np
          · have hd : decide (k < np) = true := by simpa using hlt
            obtain ⟨i0, hi, hz0, hz1, hz2⟩ := info_parts info_u64
            have hsrc := (HIX.out.1.at hB).below ((Below.refl _ wr).alloc (Nat.le_refl _) (.cells #[] 40))
            go_wp2_with (at_builtin; refine wpList_append_ints _ rfl _ _ 25 rfl wr.heap.size 40 i0 (.int .u64 0) 8 Try.underlying25 hi hz0 hz1 hz2 rfl (.slice (some ⟨wr.heap.size, 0, none⟩) 0 0) 0 [] rfl (World.ownsRow_lit wr #[] 0 (Nat.le_refl _) (by unfold maxLen; omega) rfl) .u64 wr.heap.size Ap np cp p rfl hsrc (by unfold maxLen; omega) (by omega) (by simp) ?_; intro v' w1 hown' hgrow)
            rw [Nat.zero_add, List.nil_append] at hown'
            obtain ⟨g, cap, hv, hg, hglt⟩ := hown'.form (by omega)
            subst hv
            have hb1 : Below wr.heap.size wr w1 := ((Below.refl _ _).alloc (Nat.le_refl _) _).grown hgrow (by simp) (fun g hg => Nat.le_of_eq (by simpa [Value.ownBlock] using hg))
            have hfl := HIX.out.1.1
            obtain ⟨q0, hq0⟩ : ∃ q0, elt p k = q0 := ⟨_, rfl⟩
            have hck : w1.cell? ⟨g, k, none⟩ = some (.int .u64 q0) := by
              rw [hown'.cellAt k (by omega), List.getElem?_map, List.getElem?_eq_getElem (by omega), ← hq0]
              unfold elt
              rw [List.getElem?_eq_getElem (by omega)]
              rfl
            have hq0b : U q0 := by rw [← hq0]; exact elt_U HU.out.1 k
            have hfk := hown'.frozenAt k
            have HW := Lib.hid (And.intro hown' (And.intro hb1 (And.intro hB (And.intro hq0 (And.intro hfl hq0b)))))
            clear hown' hb1 hB hq0 hgrow hsrc hfl hq0b
            go_cut [] (fun wx => wx = (w1.setCell ⟨g, k, none⟩ (.int .u64 (IntKind.u64.wrap (IntKind.u64.wrap (q0 + 1) + IntKind.u64.wrap (arZ a3 1073741824))))).drew)
            case first =>
              go_region_law ((go_simp; go_at_call 18; refine (HR2.out.1 _).mono ?_; rintro e w' ⟨rfl, rfl⟩))
              all_goals
                go_wp2_with fail
                go_meet
                exact rfl
            case rest =>
            subst hcut
            obtain ⟨x, hx⟩ : ∃ x, IntKind.u64.wrap (IntKind.u64.wrap (q0 + 1) + IntKind.u64.wrap (arZ a3 1073741824)) = x := ⟨_, rfl⟩
            have hxU : U x := by rw [← hx]; exact wrap_U _
            have hxne : x ≠ q0 := by rw [← hx]; exact num_other HW.out.2.2.2.2.2 HR2.out.2
            rw [hx]
            clear hx hck hfk
            have hY := (HW.out.1.stored k (.int .u64 x)).1
            rw [map_set_int] at hY
            have hBU : Below u.heap.size u (w1.setCell ⟨g, k, none⟩ (.int .u64 x)).drew := (Below.step HW.out.2.2.1 (HW.out.2.1.setCell (p := ⟨g, k, none⟩) hg _)).drew
            have hYU : Ints .u64 (w1.setCell ⟨g, k, none⟩ (.int .u64 x)).drew (w1.setCell ⟨g, k, none⟩ (.int .u64 x)).drew.heap.size (some ⟨g, 0, none⟩) np (p.set k x) := (Ints.of_own hY).at (Below.refl _ _).drew
            have hno := HC.out.2.2 k (by rw [HW.out.2.2.2.2.1]; exact hlt) x hxU (by rw [HW.out.2.2.2.1]; exact hxne)
            obtain ⟨W5, hU⟩ : ∃ U, (w1.setCell ⟨g, k, none⟩ (.int .u64 x)).drew = U := ⟨_, rfl⟩
            rw [hU] at hBU hYU ⊢
            have HY := Lib.hid (And.intro hYU hno)
            clear hU hY hYU hno hxne hxU
            have hcU : W5.cell? ⟨gx, ox + i, none⟩ = some (.slice Ax nx cx) := (hBU.cell (p := ⟨gx, ox + i, none⟩) hgx).trans Hxi.out
            have HBU := Lib.hid hBU
            clear hBU
            go_wp2_with fail
            refine (Check_no rt i N Ax nx cx f (some ⟨g, 0, none⟩) np cap (p.set k x) _ (by omega) (by omega) (by omega) HFB.out.1 (by omega) HY.out.2 (HIX.out.2.2.at HBU.out) HY.out.1).mono ?_
            rintro e W6 ⟨rfl, b6⟩
            have hB6 := Below.step HBU.out b6
            clear b6 hcU
            go_wp2_with fail
            go_roundw
            case rel => exact ⟨k + 1, by omega, by go_num, hB6⟩
            case measure => simp [intOf]; omega
          · have hd : decide (k < np) = false := by simpa using hlt
            clear hk hlt
            go_wp2_with fail
            go_loopw [29] (fun x wr => ∃ k : Nat, k ≤ nq ∧ x = .int .i64 (k : Int) ∧ Below u.heap.size u wr) (fun x _ => nq - (intOf x).toNat)
            case atStart => exact ⟨0, Nat.zero_le _, rfl, hB⟩
            case round =>
              clear hB
              obtain ⟨k, hk, rfl, hB⟩ := hrel
              by_cases hlt : k < nq
              · have hd : decide (k < nq) = true := by simpa using hlt
                obtain ⟨i0, hi, hz0, hz1, hz2⟩ := info_parts info_u64
                have hsrc := (HIX.out.2.1.at hB).below ((Below.refl _ wr).alloc (Nat.le_refl _) (.cells #[] 40))
                go_wp2_with (at_builtin; refine wpList_append_ints _ rfl _ _ 25 rfl wr.heap.size 40 i0 (.int .u64 0) 8 Try.underlying25 hi hz0 hz1 hz2 rfl (.slice (some ⟨wr.heap.size, 0, none⟩) 0 0) 0 [] rfl (World.ownsRow_lit wr #[] 0 (Nat.le_refl _) (by unfold maxLen; omega) rfl) .u64 wr.heap.size Aq nq cq q rfl hsrc (by unfold maxLen; omega) (by omega) (by simp) ?_; intro v' w1 hown' hgrow)
                rw [Nat.zero_add, List.nil_append] at hown'
                obtain ⟨g, cap, hv, hg, hglt⟩ := hown'.form (by omega)
                subst hv
                have hb1 : Below wr.heap.size wr w1 := ((Below.refl _ _).alloc (Nat.le_refl _) _).grown hgrow (by simp) (fun g hg => Nat.le_of_eq (by simpa [Value.ownBlock] using hg))
                have hfl := HIX.out.2.1.1
                obtain ⟨q0, hq0⟩ : ∃ q0, elt q k = q0 := ⟨_, rfl⟩
                have hck : w1.cell? ⟨g, k, none⟩ = some (.int .u64 q0) := by
                  rw [hown'.cellAt k (by omega), List.getElem?_map, List.getElem?_eq_getElem (by omega), ← hq0]
                  unfold elt
                  rw [List.getElem?_eq_getElem (by omega)]
                  rfl
                have hq0b : U q0 := by rw [← hq0]; exact elt_U HU.out.2.1 k
                have hfk := hown'.frozenAt k
                have HW := Lib.hid (And.intro hown' (And.intro hb1 (And.intro hB (And.intro hq0 (And.intro hfl hq0b)))))
                clear hown' hb1 hB hq0 hgrow hsrc hfl hq0b
                go_cut [] (fun wx => wx = (w1.setCell ⟨g, k, none⟩ (.int .u64 (IntKind.u64.wrap (IntKind.u64.wrap (q0 + 1) + IntKind.u64.wrap (arZ a3 1073741824))))).drew)
                case first =>
                  go_region_law ((go_simp; go_at_call 18; refine (HR2.out.1 _).mono ?_; rintro e w' ⟨rfl, rfl⟩))
                  all_goals
                    go_wp2_with fail
                    go_meet
                    exact rfl
                case rest =>
                subst hcut
                obtain ⟨x, hx⟩ : ∃ x, IntKind.u64.wrap (IntKind.u64.wrap (q0 + 1) + IntKind.u64.wrap (arZ a3 1073741824)) = x := ⟨_, rfl⟩
                have hxU : U x := by rw [← hx]; exact wrap_U _
                have hxne : x ≠ q0 := by rw [← hx]; exact num_other HW.out.2.2.2.2.2 HR2.out.2
                rw [hx]
                clear hx hck hfk
                have hY := (HW.out.1.stored k (.int .u64 x)).1
                rw [map_set_int] at hY
                have hBU : Below u.heap.size u (w1.setCell ⟨g, k, none⟩ (.int .u64 x)).drew := (Below.step HW.out.2.2.1 (HW.out.2.1.setCell (p := ⟨g, k, none⟩) hg _)).drew
                have hYU : Ints .u64 (w1.setCell ⟨g, k, none⟩ (.int .u64 x)).drew (w1.setCell ⟨g, k, none⟩ (.int .u64 x)).drew.heap.size (some ⟨g, 0, none⟩) nq (q.set k x) := (Ints.of_own hY).at (Below.refl _ _).drew
                have hno := HD.out.2.2.1 k (by rw [HW.out.2.2.2.2.1]; exact hlt) x hxU (by rw [HW.out.2.2.2.1]; exact hxne)
                obtain ⟨W5, hU⟩ : ∃ U, (w1.setCell ⟨g, k, none⟩ (.int .u64 x)).drew = U := ⟨_, rfl⟩
                rw [hU] at hBU hYU ⊢
                have HY := Lib.hid (And.intro hYU hno)
                clear hU hY hYU hno hxne hxU
                have hcU : W5.cell? ⟨gx, ox + i, none⟩ = some (.slice Ax nx cx) := (hBU.cell (p := ⟨gx, ox + i, none⟩) hgx).trans Hxi.out
                have HBU := Lib.hid hBU
                clear hBU
                go_wp2_with fail
                refine (CheckLink_no old rt m N (some ⟨g, 0, none⟩) nq cap (q.set k x) _ (by omega) hm1 hmN (by omega) (fun e => by have h0 := HD.out.2.2.2 e; rw [h0]; rfl) HY.out.2 HY.out.1).mono ?_
                rintro e W6 ⟨rfl, b6⟩
                have hB6 := Below.step HBU.out b6
                clear b6 hcU
                go_wp2_with fail
                go_roundw
                case rel => exact ⟨k + 1, by omega, by go_num, hB6⟩
                case measure => simp [intOf]; omega
              · have hd : decide (k < nq) = false := by simpa using hlt
                clear hk hlt
                go_wp2_with fail
                refine (lives_any _).mono ?_
                rintro e W7 ⟨rfl, b7⟩
                go_wp2_with fail
                go_ret
                exact ⟨rfl, Below.step (Below.step Bu hB) b7⟩
end Go.Proofs.Ytliconagelemdaa
