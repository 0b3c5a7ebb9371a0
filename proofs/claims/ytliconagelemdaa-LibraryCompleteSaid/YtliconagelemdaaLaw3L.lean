/- The walk of the law LibraryEntries. -/
import Derived.Test.YtliconagelemdaaBok
namespace Go.Proofs.Ytliconagelemdaa
open Go.RowKit Go.Shelf
set_option linter.unusedVariables false

attribute [local go_sem ↓] Go.wp_at_zero Go.wp_at_succ

set_option maxRecDepth 100000 in
set_option maxHeartbeats 20000000 in
theorem libraryEntries_law (a0 : Option Addr) (len0 cap0 : Nat) (z0 : List Int) (a1 : Int) (w : World) (w0 : GoRow .i64 w a0 len0 cap0 z0) (w1 : (Lit.int .i64 a1).wf = true) :
    Calls Try.prog 6 #[.slice a0 len0 cap0, .int .i64 a1] w fun e w' => e = .returned (.bool true) ∧ Below w.heap.size w w' := by
  obtain ⟨hI, hlc, hcap, hwf⟩ := w0.ints
  have hzI : ∀ z ∈ z0.take len0, I z := fun z hz => I_of_wf (hwf z hz)
  have hlen : len0 ≤ maxLen := Nat.le_trans hlc hcap
  have ha1 := I_of_wf w1
  unfold I at ha1
  clear hwf w1 w0
  have hby := entsZ_byt hzI 20
  have hl := entsZ_length (z0.take len0) 20
  have HE := Lib.hid (fun W (b : Below w.heap.size w W) => entries_any a0 len0 cap0 (z0.take len0) 20 W hlen (by omega) hzI ((hI.below b).more b.size))
  obtain ⟨es, hes⟩ : ∃ es, entsZ (z0.take len0) 20 = es := ⟨_, rfl⟩
  rw [hes] at hby hl HE
  clear hes hzI hI
  obtain ⟨N, hN⟩ : ∃ N, es.length = N := ⟨_, rfl⟩
  rw [hN] at hl
  have HBY := Lib.hid hby
  have HN := Lib.hid hN
  clear hby hN
  go_enter Try.func6, Try.ntmps6
  go_wp2_with fail
  refine (HE.out w (Below.refl _ _)).mono ?_
  rintro e w2 ⟨A2, c2, rfl, hE2, b2⟩
  have hR2 := hE2.rows
  have hB2 := (hE2.mono (S' := Btw w.heap.size w2.heap.size) fun k hk h => ⟨h, hk⟩).bok HBY.out
  rw [HN.out] at hR2 hB2 ⊢
  clear hE2
  have hs2 := b2.size
  go_wp2_with fail
  refine (tree_any A2 N c2 es _ (by omega) HBY.out hR2).mono ?_
  rintro e w4 ⟨lb, rfl, hL4, b4⟩
  have hs4 := b4.size
  have hL := hL4.mono (S' := Btw w2.heap.size w4.heap.size) fun k hk h => ⟨h, hk⟩
  have B4 := Below.step b2 b4
  have hB4 := hB2.keep (fun k hk _ => b4.block k hk)
  clear hL4 hB2 hR2 b4 b2
  go_wp2_with fail
  refine (len_any _ lb es _ hL).mono ?_
  rintro e w5 ⟨rfl, rfl⟩
  rw [HN.out]
  have hNN : ((N : Int) != (N : Int)) = false := by simp
  go_wp2_with fail
  refine (HE.out w4 B4).mono ?_
  rintro e w5 ⟨Aw, cw, rfl, hE5, b5⟩
  have hs5 := b5.size
  rw [HN.out]
  have hK5 : Kept w w2.heap.size w4.heap.size w5.heap.size lb es Aw cw A2 N w5 := ⟨hL.below b5, hE5.mono fun k hk h => ⟨h, hk⟩, hB4.keep (fun k hk _ => b5.block k hk), Below.step B4 b5, Nat.le_refl _⟩
  obtain ⟨x, hx⟩ : ∃ x, w2.heap.size = x := ⟨_, rfl⟩
  obtain ⟨y, hy⟩ : ∃ y, w4.heap.size = y := ⟨_, rfl⟩
  obtain ⟨z, hz⟩ : ∃ z, w5.heap.size = z := ⟨_, rfl⟩
  rw [hx, hy, hz] at hK5
  rw [hx] at hs2
  rw [hx, hy] at hs4
  rw [hy, hz] at hs5
  clear hx hy hz hE5 HE B4 hB4 hL b5
  obtain ⟨w6, hmk, hK6⟩ : ∃ w6, (Instr.makeSlice 39 (.int .i64 65537) (.int .i64 65537)).run Try.prog w5 = .ok (.slice (some ⟨w5.heap.size, 0, none⟩) 65537 65537) w6 ∧ Kept w x y z lb es Aw cw A2 N w6 := by
    obtain ⟨i0, hi, hz0, hz1, hz2⟩ := info_parts info_u8
    obtain ⟨w6, h1, _, h3⟩ := run_make_full (P := Try.prog) w5 0 39 5 i0 (.int .u8 0) 1 Try.underlying39 hi hz0 hz1 .i64 .i64 65537 (by rw [hz2]; decide) (by unfold maxLen; decide) (Nat.zero_le _)
    exact ⟨w6, h1, hK5.step ⟨h3.os, h3.tape, h3.output, h3.size, fun k hk => h3.block k hk (by simp)⟩⟩
  clear hK5
  go_wp2_with fail
  clear hmk
  refine (Append_long _ lb es _ 65537 65537 _ hK6.lib (by decide) (by unfold maxLen; decide)).mono ?_
  rintro e w7 ⟨rfl, rfl⟩
  go_wp2_with fail
  refine (len_any _ lb es _ hK6.lib).mono ?_
  rintro e w7 ⟨rfl, rfl⟩
  rw [HN.out]
  go_wp2_with fail
  clear hNN
  go_loopw [10] (fun i wr => ∃ k : Nat, k ≤ N ∧ i = .int .i64 (k : Int) ∧ Kept w x y z lb es Aw cw A2 N wr)
    (fun i _ => N - (intOf i).toNat)
  case atStart => exact ⟨0, Nat.zero_le _, rfl, hK6⟩
  case round =>
    clear hK6
    obtain ⟨k, hk, rfl, hK⟩ := hrel
    by_cases hlt : k < N
    · have hd : decide (k < N) = true := by simpa using hlt
      obtain ⟨gb, A8, n8, c8, hA2, hgb, hcb, hn8, hc8, hc8m, hby8⟩ := hK.old k hlt
      subst hA2
      go_wp2_with fail
      go_loopw [11] (fun i wr => ∃ j : Nat, j ≤ n8 ∧ i = .int .i64 (j : Int) ∧ Kept w x y z lb es Aw cw (some ⟨gb, 0, none⟩) N wr ∧ wr.cell? ⟨gb, k, none⟩ = some (.slice A8 n8 c8) ∧ Bytes8 wr (Btw w.heap.size x) A8 n8)
        (fun i _ => n8 - (intOf i).toNat)
      case atStart => exact ⟨0, Nat.zero_le _, rfl, hK, hcb, hby8⟩
      case round =>
        clear hK hcb hby8
        rename_i wq _
        obtain ⟨j, hj, rfl, hK, hcb, hby8⟩ := hrel
        by_cases hjn : j < n8
        · have hdj : decide (j < n8) = true := by simpa using hjn
          obtain ⟨g, hA8, hg, hc⟩ := hby8 (by omega)
          obtain ⟨q, hcq, hfq⟩ := hc j hjn
          subst hA8
          have HK := Lib.hid (And.intro hK (And.intro hby8 (And.intro hcb hcq)))
          clear hc hK hby8
          have hcb' : wr.drew.cell? ⟨gb, k, none⟩ = some (.slice (some ⟨g, 0, none⟩) n8 c8) := hcb
          have hcq' : wr.drew.cell? ⟨g, j, none⟩ = some (.int .u8 q) := hcq
          have hfq' : wr.drew.frozen? ⟨g, j, none⟩ = false := hfq
          go_wp2_with fail
          go_region
          all_goals
            go_wp2_with fail
            exact ⟨⟨j + 1, by omega, by go_num, (HK.out.1.setOld hs4 (p := ⟨g, j, none⟩) HK.out.2.2.2 hg _).drew, slice_at_other HK.out.2.2.1 HK.out.2.2.2 _, HK.out.2.1.set HK.out.2.2.2 _⟩, by simp [intOf]; omega⟩
        · have hdj : decide (j < n8) = false := by simpa using hjn
          clear hby8
          go_wp2_with fail
          refine (Get_yes _ lb es k _ hK.lib (by rw [HN.out]; omega)).mono ?_
          rintro e w7 ⟨v, rfl, hown, bX⟩
          obtain ⟨f, hf⟩ : ∃ f, es[k]?.getD [] = f := ⟨_, rfl⟩
          have hfl : f.length ≤ 65536 := by rw [← hf, List.getElem?_eq_getElem (by rw [HN.out]; omega)]; exact (HBY.out _ (List.getElem_mem _)).2
          rw [hf] at hown
          obtain ⟨AX, cX, hv⟩ := own_slice hown
          subst hv
          have hK7 := hK.step bX
          have hwant := (hK7.want.rows).2 (by rw [HN.out]; omega)
          obtain ⟨wb, wo, hAw, hwlt, hwc⟩ := hwant
          obtain ⟨AY, nY, cY, hcY, _, _, hIY⟩ := hwc k (by rw [HN.out]; omega)
          rw [hf] at hIY
          have hIX := Ints.of_own hown
          have hnY : nY ≤ 65536 := by rw [← hIY.1]; exact hfl
          subst hAw
          clear hwc
          have HW := Lib.hid hf
          have HO := Lib.hid hown
          clear hf hown
          go_wp2_with fail
          refine (sameBytes_any _ _ _ _ _ _ f f (by omega) (by omega) _ hIX hIY).mono ?_
          rintro e w7' ⟨rfl, bX'⟩
          rw [sameB_true rfl]
          have hK8 := hK7.step bX'
          have hown8 := own_below HO.out bX'
          have hB8 := own_bytes8 (S := fun g => z ≤ g) hown8 (fun g hg => Nat.le_trans hK.size (hown8.lt g hg).1)
          clear hK hK7 HO hcb hcY hIX hIY hown8 bX bX'
          go_wp2_with fail
          go_loopw [14] (fun i wr => ∃ j : Nat, j ≤ f.length ∧ i = .int .i64 (j : Int) ∧ Kept w x y z lb es (some ⟨wb, wo, none⟩) cw (some ⟨gb, 0, none⟩) N wr ∧ Bytes8 wr (fun g => z ≤ g) AX f.length)
            (fun i _ => f.length - (intOf i).toNat)
          case atStart => exact ⟨0, Nat.zero_le _, rfl, hK8, hB8⟩
          case round =>
            clear hK8 hB8
            obtain ⟨j2, hj2, rfl, hK, hB8⟩ := hrel
            by_cases hjn2 : j2 < f.length
            · have hdj2 : decide (j2 < f.length) = true := by simpa using hjn2
              obtain ⟨g, hAX, hg, hc⟩ := hB8 (by omega)
              obtain ⟨q, hcq, hfq⟩ := hc j2 hjn2
              subst hAX
              have HK := Lib.hid (And.intro hK (And.intro hB8 hcq))
              clear hc hK hB8
              go_wp2_with fail
              exact ⟨⟨j2 + 1, by omega, by go_num, HK.out.1.setNew hs2 hs4 hs5 (p := ⟨g, j2, none⟩) hg _, HK.out.2.1.set HK.out.2.2 _⟩, by simp [intOf]; omega⟩
            · have hdj2 : decide (j2 < f.length) = false := by simpa using hjn2
              clear hB8
              go_wp2_with fail
              refine (Get_yes _ lb es k _ hK.lib (by rw [HN.out]; omega)).mono ?_
              rintro e u7 ⟨v, rfl, hown, bX⟩
              have hfl2 := hfl
              rw [HW.out] at hown
              obtain ⟨AZ, cZ, hv⟩ := own_slice hown
              subst hv
              have hK7 := hK.step bX
              obtain ⟨wb', wo', hAw', hwlt', hwc'⟩ := (hK7.want.rows).2 (by rw [HN.out]; omega)
              obtain ⟨AU, nU, cU, hcU, _, _, hIU⟩ := hwc' k (by rw [HN.out]; omega)
              obtain ⟨rfl, rfl⟩ : wb = wb' ∧ wo = wo' := by injection hAw' with e; injection e with h1 h2; exact ⟨h1, h2⟩
              rw [HW.out] at hIU
              have hIX := Ints.of_own hown
              have hnU : nU ≤ 65536 := by rw [← hIU.1]; exact hfl2
              clear hwc' hAw' hown
              go_wp2_with fail
              refine (sameBytes_any _ _ _ _ _ _ f f (by omega) (by omega) _ hIX hIU).mono ?_
              rintro e u8 ⟨rfl, bX'⟩
              rw [sameB_true rfl]
              have hK8 := hK7.step bX'
              clear hK7 hcU hIU hIX hK bX bX'
              go_wp2_with fail
              go_roundw
              case rel => exact ⟨k + 1, by omega, by go_num, hK8⟩
              case measure => simp [intOf]; omega
    · have hd : decide (k < N) = false := by simpa using hlt
      obtain rfl : k = N := by omega
      go_wp2_with fail
      refine (Get_no _ lb es _ _ hK.lib (by rw [HN.out]; omega)).mono ?_
      rintro e w7 ⟨rfl, rfl⟩
      go_wp2_with fail
      refine (Get_no _ lb es _ _ hK.lib (by omega)).mono ?_
      rintro e w7 ⟨rfl, rfl⟩
      by_cases hg : 0 ≤ a1 ∧ a1 < (k : Int)
      · obtain ⟨m, rfl⟩ : ∃ m : Nat, a1 = (m : Int) := ⟨a1.toNat, by omega⟩
        have hd1 : decide (m < k) = true := by simp; omega
        have hd0 : decide ((0 : Int) ≤ (m : Int)) = true := by simp
        go_wp2_with fail
        refine (Get_yes _ lb es m _ hK.lib (by rw [HN.out]; omega)).mono ?_
        rintro e w7 ⟨v7, rfl, hown7, b7⟩
        have hK7 := hK.step b7
        go_wp2_with fail
        refine (lives_any _).mono ?_
        rintro e w8 ⟨rfl, b8⟩
        go_wp2_with fail
        go_ret
        exact ⟨rfl, (hK7.step b8).below⟩
      · go_wp2_with fail
        refine (Get_no _ lb es _ _ hK.lib (by rw [HN.out]; omega)).mono ?_
        rintro e w7 ⟨rfl, rfl⟩
        by_cases h0 : 0 ≤ a1
        · have hd0 : decide (0 ≤ a1) = true := by simpa using h0
          have hd1 : decide (a1 < (k : Int)) = false := by simp; omega
          go_wp2_with fail
          refine (lives_any _).mono ?_
          rintro e w8 ⟨rfl, b8⟩
          go_wp2_with fail
          go_ret
          exact ⟨rfl, (hK.step b8).below⟩
        · have hd0 : decide (0 ≤ a1) = false := by simpa using h0
          go_wp2_with fail
          refine (lives_any _).mono ?_
          rintro e w8 ⟨rfl, b8⟩
          go_wp2_with fail
          go_ret
          exact ⟨rfl, (hK.step b8).below⟩

end Go.Proofs.Ytliconagelemdaa
