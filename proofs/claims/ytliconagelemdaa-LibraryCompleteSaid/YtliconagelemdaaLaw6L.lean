/- The walk of the law LibraryComplete. -/
import Derived.Test.YtliconagelemdaaComp
namespace Go.Proofs.Ytliconagelemdaa
open Go.RowKit Go.Shelf
set_option linter.unusedVariables false

attribute [local go_sem ↓] Go.wp_at_zero Go.wp_at_succ

set_option maxRecDepth 100000 in
set_option maxHeartbeats 20000000 in
theorem libraryComplete_law (a0 : Option Addr) (len0 cap0 : Nat) (z0 : List Int) (a1 : Option Addr) (len1 cap1 : Nat) (z1 : List Int) (w : World) (w0 : GoRow .i64 w a0 len0 cap0 z0) (w1 : GoRow .i64 w a1 len1 cap1 z1) :
    Calls Try.prog 8 #[.slice a0 len0 cap0, .slice a1 len1 cap1] w fun e w' => e = .returned (.bool true) ∧ Below w.heap.size w w' := by
  obtain ⟨hI0, hlc0, hcap0, hwf0⟩ := w0.ints
  obtain ⟨hI1, hlc1, hcap1, hwf1⟩ := w1.ints
  have hz0I : ∀ z ∈ z0.take len0, I z := fun z hz => I_of_wf (hwf0 z hz)
  have hz1I : ∀ z ∈ z1.take len1, I z := fun z hz => I_of_wf (hwf1 z hz)
  have hlen0 : len0 ≤ maxLen := Nat.le_trans hlc0 hcap0
  have hlen1 : len1 ≤ maxLen := Nat.le_trans hlc1 hcap1
  clear w0 w1 hwf0 hwf1
  have hby := entsZ_byt hz0I 20
  have hl := entsZ_length (z0.take len0) 20
  have hby1 := entsZ_byt hz1I 12
  have hl1 := entsZ_length (z1.take len1) 12
  have HE := Lib.hid (entries_any a0 len0 cap0 (z0.take len0) 20 w hlen0 (by omega) hz0I hI0)
  have HF := Lib.hid (fun W (b : Below w.heap.size w W) => entries_any a1 len1 cap1 (z1.take len1) 12 W hlen1 (by omega) hz1I ((hI1.below b).more b.size))
  obtain ⟨es, hes⟩ : ∃ es, entsZ (z0.take len0) 20 = es := ⟨_, rfl⟩
  obtain ⟨fs, hfs⟩ : ∃ fs, entsZ (z1.take len1) 12 = fs := ⟨_, rfl⟩
  rw [hes] at hby hl HE
  rw [hfs] at hby1 hl1 HF
  clear hes hz0I hI0 hfs hz1I hI1 hlen0 hlen1
  obtain ⟨N, hN⟩ : ∃ N, es.length = N := ⟨_, rfl⟩
  obtain ⟨M, hM⟩ : ∃ M, fs.length = M := ⟨_, rfl⟩
  rw [hN] at hl
  rw [hM] at hl1
  have HBY := Lib.hid (And.intro hby hby1)
  have HN := Lib.hid (And.intro hN hM)
  clear hby hby1 hN hM
  go_enter Try.func8, Try.ntmps8
  go_wp2_with fail
  refine HE.out.mono ?_
  rintro e w2 ⟨A2, c2, rfl, hE2, b2⟩
  have hR2 := hE2.rows
  rw [HN.out.1] at hR2 ⊢
  have hX2 := hE2.mono (S' := Btw w.heap.size w2.heap.size) fun k hk h => ⟨h, hk⟩
  have hs2 := b2.size
  clear hE2 HE
  go_wp2_with fail
  refine (tree_any A2 N c2 es _ (by omega) HBY.out.1 hR2).mono ?_
  rintro e w4 ⟨lb, rfl, hL4, b4⟩
  have hs4 := b4.size
  have hT4 := hL4.mono (S' := Btw w2.heap.size w4.heap.size) fun k hk h => ⟨h, hk⟩
  have B4 := Below.step b2 b4
  have hX4 := hX2.below b4
  clear hL4 hR2 b4 b2 hX2
  go_wp2_with fail
  refine (Copy_any _ lb es _ hT4).mono ?_
  rintro e w5 ⟨cb, rfl, hL5, b5⟩
  have hs5 := b5.size
  have hU5 := hL5.mono (S' := Btw w4.heap.size w5.heap.size) fun k hk h => ⟨h, hk⟩
  have B5 := Below.step B4 b5
  have hX5 := hX4.below b5
  have hT5 := hT4.below b5
  clear hL5 b5 B4 hX4 hT4
  go_wp2_with fail
  refine (HF.out _ B5).mono ?_
  rintro e w6 ⟨A6, c6, rfl, hE6, b6⟩
  have hs6 := b6.size
  have hF6 := hE6.mono (S' := Btw w5.heap.size w6.heap.size) fun k hk h => ⟨h, hk⟩
  have B6 := Below.step B5 b6
  have hX6 := hX5.below b6
  have hU6 := hU5.below b6
  have hT6 := (hT5.below b6).mono (S' := Sides w2.heap.size w4.heap.size w6.heap.size) fun k _ hk => .inl hk
  rw [HN.out.2]
  clear hE6 b6 B5 hX5 hT5 hU5 HF
  obtain ⟨x, hx⟩ : ∃ x, w2.heap.size = x := ⟨_, rfl⟩
  obtain ⟨y, hy⟩ : ∃ y, w4.heap.size = y := ⟨_, rfl⟩
  obtain ⟨z, hz⟩ : ∃ z, w5.heap.size = z := ⟨_, rfl⟩
  obtain ⟨v, hv⟩ : ∃ v, w6.heap.size = v := ⟨_, rfl⟩
  rw [hx] at hs2 hX6
  rw [hx, hy] at hs4
  rw [hy, hz] at hs5 hU6
  rw [hz, hv] at hs6 hF6
  rw [hx, hy, hv] at hT6
  have HV := Lib.hid hv
  clear hx hy hz hv
  have hF6r := hF6.rows
  rw [HN.out.2] at hF6r
  have H6 := Lib.hid (And.intro hX6 (And.intro hU6 (And.intro hF6 B6)))
  clear hX6 hU6 hF6 B6
  go_wp2_with fail
  go_loopw [9] (fun i wr => ∃ k : Nat, k ≤ M ∧ i = .int .i64 (k : Int) ∧ LibAt wr (Sides x y v) lb (es ++ fs.take k) ∧ Chg (Sides x y v) w6 wr) (fun i _ => M - (intOf i).toNat)
  case atStart => exact ⟨0, Nat.zero_le _, rfl, by rw [List.take_zero, List.append_nil]; exact hT6, Chg.refl _ _⟩
  case round =>
    clear hT6
    obtain ⟨k, hk, rfl, hT, hC⟩ := hrel
    by_cases hlt : k < M
    · have hd : decide (k < M) = true := by simpa using hlt
      have hFr : EntsAt wr (Btw z v) A6 c6 fs := H6.out.2.2.1.keep fun g hg hS => hC.block g hg (by
        unfold Sides
        unfold Btw at hS
        omega)
      obtain ⟨vs, hro, hroS, hen⟩ := hFr
      obtain ⟨v1, hv1, hev⟩ := hen k (by rw [HN.out.2]; exact hlt)
      obtain ⟨g, hA6, _, hglt, hcg⟩ := row_cell hro hv1
      obtain ⟨A', c', hv2, hcc, hcm, hI'⟩ := entry_ints hev
      subst hA6 hv2
      obtain ⟨zs, hzs⟩ : ∃ zs, fs[k]?.getD [] = zs := ⟨_, rfl⟩
      have hzb : Byt zs ∧ zs.length ≤ 65536 := by rw [← hzs, List.getElem?_eq_getElem (by rw [HN.out.2]; exact hlt)]; exact HBY.out.2 _ (List.getElem_mem _)
      have hTk : fs.take (k + 1) = fs.take k ++ [zs] := by
        rw [List.take_succ_eq_append_getElem (by rw [HN.out.2]; exact hlt), ← hzs, List.getElem?_eq_getElem (by rw [HN.out.2]; exact hlt)]
        rfl
      rw [hzs] at hev hI' hcg hcc
      have hfar : 0 < zs.length → ∀ b off, A' = some ⟨b, off, none⟩ → ¬ Sides x y v b := fun _ b off e => by
        have h1 := hev.2 b (own_addr hev.1 e)
        unfold Btw at h1
        unfold Sides
        omega
      have hlk : (es ++ fs.take k).length = N + k := by rw [List.length_append, List.length_take, HN.out.1, HN.out.2]; omega
      have HA := Lib.hid (Append_any (Sides x y v) lb (es ++ fs.take k) A' zs.length c' zs wr hT hzb.2 hzb.1 hI' hfar (by omega))
      rw [hlk] at HA
      have HT := Lib.hid (And.intro hTk hzs)
      have hCs := hC.size
      have HCC := Lib.hid hC
      obtain ⟨nz, hnz⟩ : ∃ nz, zs.length = nz := ⟨_, rfl⟩
      rw [hnz] at HA hcg
      clear hro hroS hen hv1 hev hI' hfar hlk hTk hzs hT hC hzb hnz hcc
      go_wp2_with fail
      refine HA.out.mono ?_
      rintro e w7 ⟨rfl, hL7, hC7⟩
      have hL8 : LibAt w7 (Sides x y v) lb (es ++ fs.take (k + 1)) := by
        rw [HT.out.1, ← List.append_assoc]
        refine hL7.mono fun i _ h => ?_
        rcases h with h | h
        · exact h
        · have := HV.out; unfold Sides; omega
      have hC8 := HCC.out.trans hC7
      clear HA hL7 hC7 hcg
      go_wp2_with fail
      go_roundw
      case rel => exact ⟨k + 1, by omega, by go_num, hL8, hC8⟩
      case measure => simp [intOf]; omega
    · have hd : decide (k < M) = false := by simpa using hlt
      have hkM : fs.take k = fs := List.take_of_length_le (by rw [HN.out.2]; omega)
      rw [hkM] at hT
      have hB0 : Both w (Sides x y v) lb (es ++ fs) (Btw y z) cb es A2 N wr := by
        have hsz := HV.out
        refine ⟨hT, H6.out.2.1.keep hC.size fun g hg hS => hC.block g hg (by unfold Sides; unfold Btw at hS; omega), ?_, H6.out.2.2.2.trans (hC.toBelow (by omega) fun g hg => by unfold Sides; omega)⟩
        have h1 := (H6.out.1.keep (W' := wr) fun g hg hS => hC.block g hg (by unfold Sides; unfold Btw at hS; omega)).rows
        rw [HN.out.1] at h1
        exact h1
      clear hT hC hkM hk hlt H6 HV hs2 hs4 hs5 hs6 hF6r
      obtain ⟨ST, hST⟩ : ∃ S, Sides x y v = S := ⟨_, rfl⟩
      obtain ⟨SU, hSU⟩ : ∃ S, Btw y z = S := ⟨_, rfl⟩
      rw [hST, hSU] at hB0
      clear hST hSU
      obtain ⟨nm, hnm⟩ : ∃ nm, N + M = nm := ⟨_, rfl⟩
      have hgl : (es ++ fs).length = nm := by rw [List.length_append, HN.out.1, HN.out.2]; exact hnm
      have hll : (namesZ (es ++ fs)).length = nm := by rw [namesZ_length, hgl]
      have hpa : partZ (es ++ fs) 0 nm = namesZ (es ++ fs) := by have := partZ_all (es ++ fs); rwa [hgl] at this
      have hnn : ((nm : Int) != (N : Int) + (M : Int)) = false := by simp; omega
      have hNN : ((N : Int) != (N : Int)) = false := by simp
      have hNm : N ≤ nm := by omega
      have hnm2 : nm ≤ 32 := by omega
      clear hnm
      -- what the calls answer
      have q1 := fun W (h : LibAt W SU cb es) => len_any SU cb es W h
      have q2 := fun W (h : LibAt W ST lb (es ++ fs)) => len_any ST lb (es ++ fs) W h
      have q3 := fun W (h : LibAt W ST lb (es ++ fs)) => Root_yes ST lb (es ++ fs) nm W h (by rw [hgl]; omega)
      have r1 := fun W (h : LibAt W ST lb (es ++ fs)) n (hn : n ≤ N) => Root_yes ST lb (es ++ fs) n W h (by rw [hgl]; omega)
      have r2 := fun W (h : LibAt W SU cb es) n (hn : n ≤ N) => Root_yes SU cb es n W h (by rw [HN.out.1]; omega)
      have r3 := fun W (h : LibAt W ST lb (es ++ fs)) n (hn : n ≤ N) => Link_yes ST lb (es ++ fs) n nm W h (by rw [hgl]; omega) (by omega)
      have r4 := fun W (h : LibAt W ST lb (es ++ fs)) i n (hn : n ≤ N) (hi : i < n) => Path_yes ST lb (es ++ fs) i n W h (by rw [hgl]; omega) hi
      have r5 := fun W (h : LibAt W SU cb es) i n (hn : n ≤ N) (hi : i < n) => Path_yes SU cb es i n W h (by rw [HN.out.1]; omega) hi
      have r6 := fun W (h : LibAt W ST lb (es ++ fs)) i n (hn : n ≤ N) (hi : i < n) => Link_yes ST lb (es ++ fs) i n W h (by rw [hgl]; omega) (by omega)
      rw [HN.out.1] at q1
      rw [hgl] at q2
      rw [hpa] at q3 r3
      obtain ⟨gs, hgs⟩ : ∃ gs, es ++ fs = gs := ⟨_, rfl⟩
      have HG := Lib.hid (show ∀ n, n ≤ N → partZ gs 0 n = (namesZ es).take n from fun n hn => by rw [← hgs]; exact partZ_firsts (by rw [HN.out.1]; exact hn))
      have HG2 := Lib.hid (show ∀ n, n ≤ N → (namesZ gs).take n = (namesZ es).take n from fun n hn => by
        rw [← partZ_first, ← hgs]; exact partZ_firsts (by rw [HN.out.1]; exact hn))
      rw [hgs] at q2 q3 r1 r3 r4 r6 hB0 hll
      have hlx : (namesZ es).length = N := by rw [namesZ_length, HN.out.1]
      have HLL := Lib.hid (And.intro hll hlx)
      obtain ⟨R, hR⟩ : ∃ R, rootL (namesZ gs) = R := ⟨_, rfl⟩
      rw [hR] at q3
      have HR := Lib.hid hR
      have HQ := Lib.hid (And.intro q1 (And.intro q2 q3))
      have HP := Lib.hid (And.intro r1 (And.intro r2 (And.intro r3 (And.intro r4 (And.intro r5 r6)))))
      clear q1 q2 q3 r1 r2 r3 r4 r5 r6 hR hgs hpa hgl hll hlx
      go_wp2_with fail
      refine (HQ.out.1 _ hB0.u).mono ?_
      rintro e w' ⟨rfl, rfl⟩
      go_wp2_with fail
      refine (HQ.out.2.1 _ hB0.t).mono ?_
      rintro e w' ⟨rfl, rfl⟩
      go_wp2_with fail
      refine (HQ.out.2.1 _ hB0.t).mono ?_
      rintro e w' ⟨rfl, rfl⟩
      go_wp2_with fail
      refine (HQ.out.2.2 _ hB0.t).mono ?_
      rintro e v1 ⟨rfl, bv1⟩
      have hB1 := hB0.step bv1
      clear hB0 bv1 hnn hNN
      go_wp2_with fail
      go_loopw [14] (fun i wr => ∃ n : Nat, n ≤ N + 1 ∧ i = .int .i64 (n : Int) ∧ Both w ST lb gs SU cb es A2 N wr) (fun i _ => N + 1 - (intOf i).toNat)
      case atStart => exact ⟨0, Nat.zero_le _, rfl, hB1⟩
      case round =>
        clear hB1
        obtain ⟨n, hn, rfl, hB⟩ := hrel
        by_cases hlt : n ≤ N
        · have hd : decide (n ≤ N) = true := by simpa using hlt
          have k1 := fun W h => HP.out.1 W h n hlt
          have k2 := fun W h => HP.out.2.1 W h n hlt
          have k3 := fun W h => HP.out.2.2.1 W h n hlt
          rw [HG.out n hlt] at k1
          simp only [partZ_first] at k2
          have k4 := fun Ap cp W h => CheckLink_ok (namesZ gs) n nm Ap cp W HLL.out.1 (by omega) (by omega) h
          rw [HG2.out n hlt, HR.out] at k4
          have hsh := linkZ_short (l := namesZ gs) (n := n) (by rw [HLL.out.1]; omega) (by rw [HLL.out.1]; omega)
          obtain ⟨pl, hpl⟩ : ∃ pl, linkZ (namesZ gs) n = pl := ⟨_, rfl⟩
          rw [hpl] at k3 k4 hsh
          -- what the inner calls answer
          have m1 := fun W h i hi => HP.out.2.2.2.1 W h i n hlt hi
          have m2 := fun W h i hi => HP.out.2.2.2.2.1 W h i n hlt hi
          have m3 := fun W h i hi => HP.out.2.2.2.2.2 W h i n hlt hi
          rw [HG.out n hlt] at m1 m3
          simp only [partZ_first] at m2
          have hle : ((namesZ es).take n).length = n := by rw [List.length_take, HLL.out.2]; omega
          have m4 := fun W h i (hi : i < n) => HP.out.1 W h i (by omega)
          have hti : ∀ i, i < n → partZ gs 0 i = ((namesZ es).take n).take i := fun i hi => by
            rw [HG.out i (by omega), List.take_take, Nat.min_eq_left (by omega)]
          have hgi : ∀ i, i < n → ((namesZ es).take n)[i]?.getD 0 = nameZ (es[i]?.getD []) := fun i hi => by
            rw [List.getElem?_take_of_lt hi]; exact names_get (by rw [HN.out.1]; omega)
          obtain ⟨l, hl'⟩ : ∃ l, (namesZ es).take n = l := ⟨_, rfl⟩
          rw [hl'] at k1 k2 k4 m1 m2 m3 hle hti hgi
          obtain ⟨ra, hra⟩ : ∃ r, rootL l = r := ⟨_, rfl⟩
          rw [hra] at k1 k2 k4
          have HRA := Lib.hid hra
          have HK := Lib.hid (And.intro k1 (And.intro k2 (And.intro k3 k4)))
          have HM := Lib.hid (And.intro m1 (And.intro m2 (And.intro m3 m4)))
          have HT := Lib.hid (And.intro hle (And.intro hti hgi))
          have hrr : (ra != ra) = false := by simp
          obtain ⟨np, hnp⟩ : ∃ np, pl.length = np := ⟨_, rfl⟩
          have HNP := Lib.hid hnp
          rw [hnp] at hsh
          have hd13 : decide ((13 : Int) < (np : Int)) = false := by simp; omega
          clear k1 k2 k3 k4 m1 m2 m3 m4 hle hti hgi hra hpl hl' hnp
          go_wp2_with fail
          refine (HK.out.1 _ hB.t).mono ?_
          rintro e u1 ⟨rfl, c1⟩
          have hB1 := hB.step c1
          clear hB c1
          go_wp2_with fail
          refine (HK.out.2.1 _ hB1.u).mono ?_
          rintro e u2 ⟨rfl, c2⟩
          have hB2 := hB1.step c2
          clear hB1 c2
          go_wp2_with fail
          refine (HQ.out.2.1 _ hB2.t).mono ?_
          rintro e w' ⟨rfl, rfl⟩
          go_wp2_with fail
          refine (HK.out.2.2.1 _ hB2.t).mono ?_
          rintro e u3 ⟨Ap, cp, rfl, hown3, c3⟩
          have hB3 := hB2.step c3
          have hI3 := Ints.of_own hown3
          rw [HNP.out]
          clear hB2 c3 hown3
          go_wp2_with fail
          refine (HQ.out.2.1 _ hB3.t).mono ?_
          rintro e w' ⟨rfl, rfl⟩
          have hk4 := HK.out.2.2.2 Ap cp u3 hI3
          rw [HNP.out] at hk4
          have HK4 := Lib.hid hk4
          clear hk4 hI3
          go_wp2_with fail
          refine HK4.out.mono ?_
          rintro e u4 ⟨rfl, c4⟩
          have hB4 := hB3.step c4
          clear hB3 c4 HK4
          go_wp2_with fail
          clear hd13 hrr
          go_loopw [21] (fun i wr => ∃ j : Nat, j ≤ n ∧ i = .int .i64 (j : Int) ∧ Both w ST lb gs SU cb es A2 N wr) (fun i _ => n - (intOf i).toNat)
          case atStart => exact ⟨0, Nat.zero_le _, rfl, hB4⟩
          case round =>
            clear hB4
            obtain ⟨j, hj, rfl, hB⟩ := hrel
            by_cases hjn : j < n
            · have hdj : decide (j < n) = true := by simpa using hjn
              have m1 := fun W h => HM.out.1 W h j hjn
              have m2 := fun W h => HM.out.2.1 W h j hjn
              have m3 := fun W h => HM.out.2.2.1 W h j hjn
              have m4 := fun W h => HM.out.2.2.2 W h j hjn
              rw [HT.out.2.1 j hjn] at m4
              have m5 := fun Ab nb cb' zs Ap cp W (h0 : zs = es[j]?.getD []) h1 h2 h3 h4 => Check_ok l n j Ab nb cb' zs Ap cp W HT.out.1 hjn (by omega) (by rw [h0]; exact HT.out.2.2 j hjn) h1 h2 h3 h4
              have m6 := fun Ap cp W h => CheckLink_ok l j n Ap cp W HT.out.1 (by omega) (by omega) h
              have s1 := pathL_short (l := l) j (p := 12) (by rw [HT.out.1]; omega)
              have s2 := linkZ_short (l := l) (n := j) (by rw [HT.out.1]; omega) (by rw [HT.out.1]; omega)
              obtain ⟨cc, hcc⟩ : ∃ cc, pathL l j = cc := ⟨_, rfl⟩
              obtain ⟨qq, hqq⟩ : ∃ qq, linkZ l j = qq := ⟨_, rfl⟩
              obtain ⟨rf, hrf⟩ : ∃ rf, rootL (l.take j) = rf := ⟨_, rfl⟩
              rw [hcc] at m1 m2 m5 s1
              rw [hqq] at m3 m6 s2
              rw [hrf] at m4 m6
              rw [HRA.out] at m5 m6
              obtain ⟨nc, hnc⟩ : ∃ nc, cc.length = nc := ⟨_, rfl⟩
              obtain ⟨nq, hnq⟩ : ∃ nq, qq.length = nq := ⟨_, rfl⟩
              rw [hnc] at s1 m5
              rw [hnq] at s2 m6
              have HMM := Lib.hid (And.intro m1 (And.intro m2 (And.intro m3 (And.intro m4 (And.intro m5 m6)))))
              have HNC := Lib.hid (And.intro hnc hnq)
              have hd12 : decide ((12 : Int) < (nc : Int)) = false := by simp; omega
              clear m1 m2 m3 m4 m5 m6 hcc hqq hrf hnc hnq
              go_wp2_with fail
              refine (HMM.out.1 _ hB.t).mono ?_
              rintro e u1 ⟨A1, c1, rfl, hown1, b1⟩
              have hB1 := hB.step b1
              have hI1 := Ints.of_own hown1
              rw [HNC.out.1] at hI1 ⊢
              clear hB b1 hown1
              go_wp2_with fail
              refine (HMM.out.2.1 _ hB1.u).mono ?_
              rintro e u2 ⟨A3, c3, rfl, hown3, b3⟩
              have hB2 := hB1.step b3
              have hI3 := Ints.of_own hown3
              have hI12 := hI1.at b3
              rw [HNC.out.1] at hI3 ⊢
              clear hB1 b3 hown3 hI1
              go_wp2_with fail
              refine (HMM.out.2.2.1 _ hB2.t).mono ?_
              rintro e u3 ⟨A4, c4, rfl, hown4, b4⟩
              have hB3 := hB2.step b4
              have hI4 := Ints.of_own hown4
              have hI13 := hI12.at b4
              have hI33 := hI3.at b4
              rw [HNC.out.2] at hI4 ⊢
              clear hB2 b4 hown4 hI12 hI3
              go_wp2_with fail
              refine (HMM.out.2.2.2.1 _ hB3.t).mono ?_
              rintro e u4 ⟨rfl, b5⟩
              have hB4 := hB3.step b5
              have hI14 := hI13.at b5
              have hI34 := hI33.at b5
              have hI44 := hI4.at b5
              clear hB3 b5 hI13 hI33 hI4
              go_wp2_with fail
              refine (sameU64_any _ _ _ _ _ _ cc cc (by omega) (by omega) _ hI14 hI34).mono ?_
              rintro e u5 ⟨rfl, b6⟩
              rw [sameB_true rfl]
              have hB5 := hB4.step b6
              have hI15 := hI14.at b6
              have hI45 := hI44.at b6
              clear hB4 b6 hI14 hI34 hI44
              obtain ⟨gx, ox, hA2, hgx, hrow⟩ := hB5.x.2 (by omega)
              obtain ⟨Ax, nx, cx, hcx, hnx, hcxm, hIx⟩ := hrow j (by omega)
              subst hA2
              have hfB : Byt (es[j]?.getD []) ∧ (es[j]?.getD []).length ≤ 65536 := by rw [List.getElem?_eq_getElem (by rw [HN.out.1]; omega)]; exact HBY.out.1 _ (List.getElem_mem _)
              have hnxl : nx ≤ 65536 := by rw [← hIx.1]; exact hfB.2
              have HCK := Lib.hid (HMM.out.2.2.2.2.1 Ax nx cx _ A1 c1 u5 rfl (by omega) hfB.1 hIx hI15)
              clear hrow hIx hfB
              go_wp2_with fail
              refine HCK.out.mono ?_
              rintro e u6 ⟨rfl, b7⟩
              have hB6 := hB5.step b7
              have HCL := Lib.hid (HMM.out.2.2.2.2.2 A4 c4 u6 (hI45.at b7))
              clear hB5 b7 hI15 hI45 hcx
              go_wp2_with fail
              refine HCL.out.mono ?_
              rintro e u7 ⟨rfl, b8⟩
              have hB7 := hB6.step b8
              clear hB6 b8
              go_wp2_with fail
              go_roundw
              case rel => exact ⟨j + 1, by omega, by go_num, hB7⟩
              case measure => simp [intOf]; omega
            · have hdj : decide (j < n) = false := by simpa using hjn
              go_wp2_with fail
              go_roundw
              case rel => exact ⟨n + 1, by omega, by go_num, hB⟩
              case measure => simp [intOf]; omega
        · have hd : decide (n ≤ N) = false := by simpa using hlt
          go_wp2_with fail
          refine (lives_any _).mono ?_
          rintro e v9 ⟨rfl, b9⟩
          go_wp2_with fail
          go_ret
          exact ⟨rfl, (hB.step b9).b⟩
end Go.Proofs.Ytliconagelemdaa
