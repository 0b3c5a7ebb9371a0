/- The walk of Copy. -/
import Derived.Test.YtliconagelemdaaEnts2
import Derived.Test.YtliconagelemdaaWalkC
namespace Go.Proofs.Ytliconagelemdaa
open Go.RowKit Go.Shelf
set_option linter.unusedVariables false

attribute [local go_sem ↓] Go.wp_at_zero Go.wp_at_succ

theorem partZ_pre {es fs : List (List Int)} {s n : Nat} (h : s + n ≤ es.length) : partZ (es ++ fs) s n = partZ es s n := by
  unfold partZ
  rw [show namesZ (es ++ fs) = namesZ es ++ namesZ fs from by simp [namesZ], List.drop_append_of_le_length (by rw [namesZ_length]; omega), List.take_append_of_le_length (by rw [List.length_drop, namesZ_length]; omega)]
theorem partZ_of_take {es : List (List Int)} {k s n : Nat} (h : s + n ≤ k) (hk : k ≤ es.length) : partZ (es.take k) s n = partZ es s n := by
  have h1 := partZ_pre (es := es.take k) (fs := es.drop k) (s := s) (n := n) (by rw [List.length_take]; omega)
  rw [List.take_append_drop] at h1
  exact h1.symm

/-- Behind the entries' append of Copy. -/
def CopyMid (w : World) (cb : Nat) (es : List (List Int)) (zs : List Int) (mb : Nat) (M : Int → Int → Option Int) (wx : World) : Prop :=
  ∃ A c vs, LibW wx (fun k => w.heap.size ≤ k) cb (es ++ [zs]) es.length A c vs mb M ∧ Below w.heap.size w wx ∧ ∀ a b v, M a b = some v → a + b ≤ (es.length : Int)

/-- The head of the loop over the sizes. -/
def CopyLoop (w : World) (cb : Nat) (es : List (List Int)) (zs : List Int) (A : Option Addr) (c : Nat) (vs : List Value) (mb N q : Nat) (wr : World) : Prop :=
  ∃ M m, (m = N + 1 ∨ q = 1 ∧ m = N) ∧ LibW wr (fun k => w.heap.size ≤ k) cb (es ++ [zs]) m A c vs mb M ∧ Below w.heap.size w wr ∧ ∀ a b v, M a b = some v → a + b ≤ (N : Int) ∨ (a + b = (N : Int) + 1 ∧ b < (q : Int))

set_option maxRecDepth 100000 in
set_option maxHeartbeats 4000000 in
theorem Copy_any (S : Nat → Prop) (lb : Nat) (es : List (List Int)) (w : World) (hL : LibAt w S lb es) :
    Calls Try.prog 30 #[.pointer (some ⟨lb, 0, none⟩)] w fun e w' => ∃ cb, e = .returned (.pointer (some ⟨cb, 0, none⟩)) ∧ LibAt w' (fun k => w.heap.size ≤ k) cb es ∧ Below w.heap.size w w' := by
  have HLL := Lib.hid hL
  obtain ⟨A0, c0, vs0, mb0, M0, h0⟩ := hL
  have hfew := h0.few
  have hlt0 := h0.lt
  have hc0 := h0.cell0
  obtain ⟨E, hE⟩ : ∃ E, es.length = E := ⟨_, rfl⟩
  have hent := h0.ent
  have hrow := h0.row
  have hbyt := h0.byt
  rw [hE] at hfew hc0 hent hrow
  have HE := Lib.hid hE
  have HX := Lib.hid (And.intro hent (And.intro hrow hbyt))
  clear hE hent hrow hbyt h0
  obtain ⟨i0, hi, hz0, hz1, hz2⟩ := info_parts info_bytes
  go_enter Try.func30, Try.ntmps30
  go_wp2_with fail
  refine (new_any _).mono ?_
  rintro e w1 ⟨rfl, hL1, b1⟩
  obtain ⟨cb, hcb⟩ : ∃ cb, w.heap.size + 1 = cb := ⟨_, rfl⟩
  have hcbw : w.heap.size ≤ cb := by omega
  rw [hcb] at hL1 ⊢
  clear hcb
  have hc1 : w1.cell? ⟨lb, 0, none⟩ = some (.slice A0 E c0) := (b1.cell (p := ⟨lb, 0, none⟩) hlt0).trans hc0
  go_wp2_with fail
  clear hc1
  go_loopw [14] (fun x wr => ∃ k : Nat, k ≤ E ∧ x = .int .i64 (k : Int) ∧ LibAt wr (fun k => w.heap.size ≤ k) cb (es.take k) ∧ Below w.heap.size w wr) (fun x _ => E - (intOf x).toNat)
  case atStart => exact ⟨0, Nat.zero_le _, rfl, hL1, b1⟩
  case round =>
    clear hL1 b1
    obtain ⟨N, hk, rfl, hLr, hB⟩ := hrel
    by_cases hlt : N < E
    · have hd : decide (N < E) = true := by simpa using hlt
      obtain ⟨v, hv, hev, _⟩ := HX.out.1 N hlt
      obtain ⟨A', c', rfl⟩ := own_slice hev
      have hI := Ints.of_own hev
      have hIr := (hI.below hB).more hB.size
      obtain ⟨g, cap, hv2, _, hglt⟩ := HX.out.2.1.form (by omega)
      injection hv2 with hA hl hcap
      subst hA
      have hrc := HX.out.2.1.cellAt N (by omega)
      rw [hv] at hrc
      have hcr : wr.cell? ⟨g, N, none⟩ = some (.slice A' (es[N]?.getD []).length c') := (hB.cell (p := ⟨g, N, none⟩) hglt).trans hrc
      have hzb : Byt (es[N]?.getD []) ∧ (es[N]?.getD []).length ≤ 65536 := by
        rw [List.getElem?_eq_getElem (by rw [HE.out]; exact hlt)]; exact HX.out.2.2 _ (List.getElem_mem _)
      have hlk : (es.take N).length = N := by rw [List.length_take, HE.out]; omega
      have HT := Lib.hid (show es.take (N + 1) = es.take N ++ [es[N]?.getD []] from by
        rw [List.take_succ_eq_append_getElem (by rw [HE.out]; exact hlt), List.getElem?_eq_getElem (by rw [HE.out]; exact hlt)]
        rfl)
      obtain ⟨zs, hzs⟩ : ∃ zs, es[N]?.getD [] = zs := ⟨_, rfl⟩
      rw [hzs] at hIr hcr hzb HT
      obtain ⟨n', hn'⟩ : ∃ n', zs.length = n' := ⟨_, rfl⟩
      rw [hn'] at hIr hcr hzb
      have HZ := Lib.hid (And.intro hzb hn')
      have hn65 := hzb.2
      clear hzs hv hev hI hrc hl hcap hzb hn'
      obtain ⟨A, c, vs, mb, M, h⟩ := hLr
      have hc := h.cell0
      have hltc := h.lt
      have hf := h.frozen 0
      have hrow := h.row
      have hblk := h.blk
      rw [hlk] at hc hrow hblk
      obtain ⟨fs, hfs⟩ : ∃ fs, es.take N = fs := ⟨_, rfl⟩
      rw [hfs] at h hlk HT
      have HN := Lib.hid hlk
      have HFS := Lib.hid hfs
      clear hfs hlk
      have Hne := Lib.hid (show (Value.slice A N c).ownBlock ≠ some cb from by
        rcases hrow.2 with ⟨hv, _⟩ | ⟨g', cap, cur, hv, _, hh, _⟩
        · rw [hv]; simp [Value.ownBlock]
        · rw [hv]
          intro he
          have : g' = cb := by simpa [Value.ownBlock] using he
          subst this
          rw [hh] at hblk
          injection hblk with hblk
          injection hblk with _ ht
          revert ht
          decide)
      have HH := Lib.hid h
      have hNb : N ≤ 4096 := by omega
      clear h
      go_upto_region 5 with fail
      clear hcr
      go_cut [] (fun wx => CopyMid w cb fs zs mb M wx)
      case first =>
       go_region_law (first
        | (refine step_append_lies _ (by rfl) _ _ _ (by rfl) 0 39 i0 _ 1 24 Try.underlying23 hi hz0 hz1 hz2 rfl (by decide) (.slice A N c) N vs (by rfl) (hrow1.alloc _) ⟨w1.heap.size, 0, none⟩ 1 1 [.slice A2 n' c2] (by rfl) (by rfl) (World.news_of_block (cs := #[.slice A2 n' c2]) (t := 39) (fr := (0, 0)) (heap_alloc_new w1 _)) (by simp [Value.oneCell']) (by decide) (by unfold maxLen; omega) (by omega) (by omega) (w1.heap.size + 1) (by simp) ?_; intro gg cap w3 hown3 hgrow hat hglt; obtain ⟨hc3, _, hf3⟩ := two_cells ((far_keep hgrow (by omega) Hne.out).trans hblk1))
        | (go_simp; go_at_call 45; refine (clone_any A' n' c' zs (by omega) _ (by exact hIr)).mono ?_; rintro e w1 ⟨v, rfl, hown1, b1'⟩; have b1 := Below.undrew b1'; clear b1'; obtain ⟨A2, c2, hv⟩ := own_slice hown1; subst hv; have hz1' : wr.heap.size ≤ w1.heap.size := b1.size; have hlt1 : cb < w1.heap.size := Nat.lt_of_lt_of_le hltc b1.size; have hblk1 : w1.heap[cb]? = some (.cells #[.slice A N c, .map (some mb)] 63 (0, 0)) := (b1.block cb hltc).trans hblk; have hc1 := (two_cells hblk1).1; have hrow1 : w1.ownsRow 0 39 1 (.slice A N c) N vs := own_below (w := wr) hrow b1))
       all_goals
        go_wp2_with fail
        go_meet
        have hE := HN.out
        subst hE
        have hm := lib_more HH.out (by omega) HZ.out.1.1 HZ.out.2 HZ.out.1.2 b1 hown1 hown3 hgrow hat
        exact ⟨_, _, _, hm.1.mono (fun k _ hk => by rcases hk with hk | hk; exact hk; exact Nat.le_trans hB.size hk), hB.trans (hm.2.toBelow hB.size (fun k hk => by omega)), fun a b v hm => by obtain ⟨s', n'', rfl, rfl, _, hle, _⟩ := HH.out.ok.right a b v hm; omega⟩
      case rest =>
      obtain ⟨A3, c3, vs3, hm, hBc, hM⟩ := hcut
      have hLL : CopyLoop w cb fs zs A3 c3 vs3 mb N 1 wc := by
        have hE := HN.out
        subst hE
        exact ⟨M, fs.length, .inr ⟨rfl, rfl⟩, hm, hBc, fun a b v h => .inl (hM a b v h)⟩
      clear hm hBc hM hc hf hltc hblk hrow Hne HH hIr hglt
      go_wp2_with fail
      go_loopw [6] (fun x wr => ∃ q : Nat, Pow q ∧ 1 ≤ q ∧ q ≤ 2 * (N + 1) ∧ x = .int .i64 (q : Int) ∧ CopyLoop w cb fs zs A3 c3 vs3 mb N q wr) (fun x _ => 10000 - (intOf x).toNat)
      case atStart => exact ⟨1, Pow.one, Nat.le_refl _, by omega, rfl, hLL⟩
      case round =>
        clear hLL hB
        obtain ⟨q, hq, hq1, hqN, rfl, hA⟩ := hrel
        by_cases hdv : (N + 1) % q = 0
        · have hle : q ≤ N + 1 := Nat.le_of_dvd (by omega) (Nat.dvd_of_mod_eq_zero hdv)
          have hd3 : ((((N : Int) + 1) % (q : Int)) == 0) = true := by
            simp only [beq_iff_eq]
            have := congrArg (Int.ofNat) hdv
            simpa using this
          obtain ⟨Mr, m, hmm, hLr, hBr, hMr⟩ := hA
          have hcl := hLr.cell1
          have hltr := hLr.lt
          have hmbne : mb ≠ cb := fun e => by
            obtain ⟨es', ck, hmq, _⟩ := hLr.map
            rw [e, hLr.blk] at hmq
            cases hmq
          have HL := Lib.hid hLr
          have HBr := Lib.hid (And.intro hBr hmm)
          have HMr := Lib.hid hMr
          obtain ⟨st, hst⟩ : ∃ st : Nat, N + 1 = st + q := ⟨N + 1 - q, by omega⟩
          have hst2 : (N : Int) + 1 - (q : Int) = (st : Int) := by omega
          have HLat := Lib.hid (HLL.out.below hBr).drew
          clear hLr hBr hmm hMr
          go_wp2_with fail
          have hel : (fs ++ [zs]).length = N + 1 := by rw [List.length_append, HN.out]; rfl
          have HV := Lib.hid (show partZ es st q = partZ (fs ++ [zs]) st q from by
            rw [← HT.out, partZ_of_take (by omega) (by rw [HE.out]; omega)])
          have HNO2 := Lib.hid (show Mr (st : Int) (q : Int) = none from by
            cases hx : Mr (st : Int) (q : Int) with
            | none => rfl
            | some v => rcases HMr.out _ _ _ hx with h1 | h1 <;> omega)
          have h1st : st + q ≤ es.length := by rw [HE.out]; omega
          have HI1 := Lib.hid (show I (st : Int) from I_nat (by omega))
          have HI2 := Lib.hid (show I (q : Int) from I_nat (by omega))
          have HEL := Lib.hid hel
          clear hel hst2
          go_region_held3 (fun w' => w'.cell? ⟨cb, 1, none⟩ = some (.map (some mb)))
            (first | exact hcl | exact hcl6 | exact hclW)
            (first
              | (go_at_call 36; refine (root_int S lb es q st (q : Int) (st : Int) rfl rfl _ (by exact HLat.out) h1st).mono ?_; rintro e w6 ⟨rfl, b6'⟩; have b6 := Below.undrew b6'; clear b6'; have hcl6 : w6.cell? ⟨cb, 1, none⟩ = some (.map (some mb)) := (b6.cell (p := ⟨cb, 1, none⟩) hltr).trans hcl; obtain ⟨W2, hrun, hR2, hg2⟩ := (HL.out.map.same (b6.block mb HL.out.map.lt)).store HI1.out HI2.out HNO2.out (rootL (partZ es st q)); unfold keyV at hrun; have hclW : W2.cell? ⟨cb, 1, none⟩ = some (.map (some mb)) := hg2.cell hcl6 (by simp; exact hmbne.symm)))
          have hL9 : LibW W2 (fun k => w.heap.size ≤ k) cb (fs ++ [zs]) (N + 1) A3 c3 vs3 mb (setM Mr (st : Int) (q : Int) (rootL (partZ (fs ++ [zs]) st q))) ∧ Chg (fun k => w.heap.size ≤ k) wr W2 := by
            rw [HV.out] at hR2
            refine lib_store HL.out b6 hq1 (by rw [HEL.out]; omega) hR2 hg2 fun i hi => ?_
            rcases HBr.out.2 with h1 | ⟨h1, h2⟩
            · exact setM_keep (HL.out.ok.leaf i (by omega))
            · by_cases h3 : i < N
              · exact setM_keep (HL.out.ok.leaf i (by omega))
              · have h4 : i = st := by omega
                subst h4
                have := setM_same Mr (i : Int) (q : Int) (rootL (partZ (fs ++ [zs]) i q))
                intro e
                rw [show (1 : Int) = (q : Int) from by omega, this] at e
                cases e
          have hA9 : CopyLoop w cb fs zs A3 c3 vs3 mb N (2 * q) W2 := ⟨_, N + 1, .inl rfl, hL9.1, HBr.out.1.trans (hL9.2.toBelow HBr.out.1.size (fun k hk => by omega)), fun a b v hv => by
            rcases setM_some hv with ⟨rfl, rfl⟩ | h1
            · exact .inr ⟨by omega, by omega⟩
            · rcases HMr.out a b v h1 with h2 | h2
              · exact .inl h2
              · exact .inr ⟨h2.1, by omega⟩⟩
          clear hL9 hclW hg2 hR2 hrun hcl6 b6
          go_wp2_with fail
          exact ⟨⟨2 * q, hq.two, by omega, by omega, by go_num, hA9⟩, by simp [intOf]; omega⟩
        · have hd3 : ((((N : Int) + 1) % (q : Int)) == 0) = false := by
            simp only [beq_eq_false_iff_ne, ne_eq]
            intro e
            apply hdv
            have : (((N + 1) % q : Nat) : Int) = 0 := by simpa using e
            omega
          have hq2 : q ≠ 1 := fun e => hdv (by rw [e, Nat.mod_one])
          obtain ⟨Mr, m, hmm, hLr, hBr, _⟩ := hA
          have hmN : m = N + 1 := by rcases hmm with h | h; exact h; exact absurd h.1 hq2
          subst hmN
          have hL8 : LibAt wr (fun k => w.heap.size ≤ k) cb (es.take (N + 1)) := by
            rw [HT.out]
            exact ⟨A3, c3, vs3, mb, Mr, by rw [List.length_append, HN.out]; exact hLr⟩
          clear hLr hmm hdv
          go_wp2_with fail
          go_roundw
          case rel => exact ⟨N + 1, by omega, by go_num, hL8, hBr⟩
          case measure => simp [intOf]; omega
    · have hd : decide (N < E) = false := by simpa using hlt
      have hNE : N = E := by omega
      have HT := Lib.hid (show es.take N = es from by rw [List.take_of_length_le (by rw [HE.out]; omega)])
      rw [HT.out] at hLr
      clear hNE HT
      go_wp2_with fail
      go_ret
      exact ⟨cb, rfl, hLr, hB⟩
end Go.Proofs.Ytliconagelemdaa
