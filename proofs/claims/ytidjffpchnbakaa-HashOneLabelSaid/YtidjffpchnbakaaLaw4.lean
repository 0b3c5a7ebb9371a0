/- The walk of the law HashGroups. -/
import Derived.Test.YtidjffpchnbakaaLaw3
namespace Go.Proofs.Ytidjffpchnbakaa
open Go.RowKit Go.Shelf
set_option linter.unusedVariables false

theorem byt_snoc {zs : List Int} (h : Byt zs) (z : Int) (hz : 0 ≤ z ∧ z < 256) : Byt (zs ++ [z]) := by
  intro y hy
  rcases List.mem_append.1 hy with h1 | h1
  · exact h y h1
  · simp at h1
    rw [h1]
    exact hz

set_option maxRecDepth 100000 in
set_option maxHeartbeats 2000000 in
theorem hashGroups_law (a0 : ByteArray) (a1 : Option Addr) (len1 cap1 : Nat) (z1 : List Int) (w : World) (w0 : a0.size ≤ maxLen) (w1 : GoRow .u8 w a1 len1 cap1 z1) :
    Calls Try.prog 8 #[.string a0, .slice a1 len1 cap1] w fun e w' => e = .returned (.bool true) ∧ Below w.heap.size w w' := by
  obtain ⟨hI, hlc, hcap, hwf⟩ := w1.ints
  obtain ⟨i0, hi, hz0, hz1, hz2⟩ := info_parts info_int
  obtain ⟨j0, hj, hy0, hy1, hy2⟩ := info_parts info_u8
  have hby := (Byt_of_wf hwf).take (60 : Int).toNat
  have hl : ((z1.take len1).take (60 : Int).toNat).length ≤ 60 := List.length_take_le _ _
  clear hwf w1
  go_enter Try.func8, Try.ntmps8
  go_wp2_with fail
  refine (short_int _ _ (by decide) (by decide) w0 _).mono ?_
  rintro e w' ⟨s, rfl, hs, rfl⟩
  have hs1 : s.size ≤ 1000000 := Nat.le_trans hs (by decide)
  clear hs w0
  go_wp2_with fail
  refine (few_int _ _ _ _ _ (by decide) (by decide) hlc hcap _ hI).mono ?_
  rintro e u1 ⟨v, rfl, hown, B1⟩
  obtain ⟨A, c, hv⟩ := own_slice hown
  subst hv
  have hX1 := Ints.of_own hown
  have hc1 := own_cap hown
  clear hown hI hlc hcap
  obtain ⟨zs, hzs⟩ : ∃ zs, (z1.take len1).take (60 : Int).toNat = zs := ⟨_, rfl⟩
  rw [hzs] at hX1 hl hby hc1 ⊢
  clear hzs
  go_wp2_with fail
  refine (refWords_any _ _ _ zs (by omega) hby _ hX1).mono ?_
  rintro e u2 ⟨v, rfl, hown, b2⟩
  obtain ⟨A1, c1, hv⟩ := own_slice hown
  subst hv
  have hW2 := Ints.of_own hown
  have B2 := B1.trans (b2.mono B1.size)
  have hX2 := (hX1.below b2).more b2.size
  clear hown hX1 b2 B1
  have hwl : (wordsZ zs).length ≤ 1000 := by rw [wordsZ_length]; omega
  obtain ⟨ws, hws⟩ : ∃ ws, wordsZ zs = ws := ⟨_, rfl⟩
  rw [hws] at hW2 hwl ⊢
  have hbz : (bytesZ (strZ s) zs != sumZ (strZ s) (ws.map wrap64 ++ [(zs.length : Int)])) = false := by unfold bytesZ; rw [hws]; simp
  clear hws
  go_wp2_with fail
  go_loopw [8, 9] (fun v i wr => ∃ k : Nat, k ≤ ws.length ∧ i = .int .i64 (k : Int) ∧ wr.ownsRow u2.heap.size 3 1 v k ((ws.map wordV).take k) ∧ Below u2.heap.size u2 wr) (fun _ i _ => ws.length - (intOf i).toNat)
  case atStart => exact ⟨0, Nat.zero_le _, rfl, World.ownsRow_nil _ _ _ _, Below.refl _ _⟩
  case round =>
    obtain ⟨k, hk, rfl, hown, hB2⟩ := hrel
    by_cases hlt : k < ws.length
    · have hd : decide (k < ws.length) = true := by simp; omega
      obtain ⟨b, off, rfl, hblt, hcs⟩ := hW2.2 (by omega)
      have hcx : wr.cell? ⟨b, off + k, none⟩ = some (.int .u64 ws[k]) := (hB2.cell (p := ⟨b, off + k, none⟩) hblt).trans ((hcs k hlt).trans (by rw [List.getElem?_eq_getElem hlt]; rfl))
      have HT := Lib.hid (show (ws.map wordV).take (k + 1) = (ws.map wordV).take k ++ [.int .i64 (wrap64 ws[k])] from by rw [List.take_succ_eq_append_getElem (by simpa using hlt), List.getElem_map]; rfl)
      clear hcs hbz
      go_wp2_with (at_builtin; refine wpList_append_own _ rfl _ _ 22 rfl u2.heap.size 3 i0 (.int .i64 0) 1 8 Try.underlying22 hi hz0 hz1 hz2 rfl (by decide) _ _ _ rfl (hown.alloc _) ⟨wr.heap.size, 0, none⟩ 1 1 [.int .i64 (wrap64 ws[k])] rfl rfl (cell_one_new _ _ _) (by simp [Value.oneCell']) (by unfold maxLen; omega) (by omega) (by have := hB2.size; simp; omega) ?_; intro v' w1 hown' hgrow _)
      obtain ⟨_, hb1⟩ := grown_keeps hown hB2.size hgrow
      go_roundw
      case rel => exact ⟨k + 1, by omega, by go_num, by rw [HT.out]; exact hown', hB2.trans hb1⟩
      case measure => simp [intOf]; omega
    · have hd : decide (k < ws.length) = false := by simp; omega
      obtain rfl : k = ws.length := by omega
      rw [List.take_of_length_le (by simp)] at hown
      have B3 := B2.trans (hB2.mono B2.size)
      have hX3 := (hX2.below hB2).more hB2.size
      clear hd hlt
      go_wp2_with fail
      refine (bytes_any s hs1 _ _ _ zs (by omega) hby _ hX3).mono ?_
      rintro e u4 ⟨rfl, b4⟩
      have D4 : Below u2.heap.size u2 u4 := hB2.trans (b4.mono hB2.size)
      have hown4 := own_below hown b4
      clear hX3 hW2 hown hB2 b4 B3
      go_wp2_with (at_builtin; refine wpList_append_own _ rfl _ _ 22 rfl u2.heap.size 3 i0 (.int .i64 0) 1 8 Try.underlying22 hi hz0 hz1 hz2 rfl (by decide) _ _ _ rfl (hown4.alloc _) ⟨u4.heap.size, 0, none⟩ 1 1 [.int .i64 (zs.length : Int)] rfl rfl (cell_one_new _ _ _) (by simp [Value.oneCell']) (by unfold maxLen; omega) (by omega) (by have := D4.size; simp; omega) ?_; intro v' u5 hown' hgrow _; obtain ⟨g', cap', rfl⟩ := ownsRow_succ hown')
      obtain ⟨_, hb5⟩ := grown_keeps hown4 D4.size hgrow
      have D5 := D4.trans hb5
      have hI' : Ints .i64 u5 u5.heap.size (some ⟨g', 0, none⟩) (ws.length + 1) (ws.map wrap64 ++ [(zs.length : Int)]) := Ints.of_own (base := u2.heap.size) (e := 3) (c := cap') (by rw [List.map_append, ← wordV_map]; exact hown')
      clear hown' hgrow hown4 hb5 D4
      refine (sum_any s hs1 _ _ _ _ (by omega) _ hI').mono ?_
      rintro e u6 ⟨rfl, b6⟩
      have D6 := D5.trans (b6.mono D5.size)
      clear D5 b6 hI'
      go_wp2_with fail
      clear hbz
      refine (few_int _ _ _ _ _ (by decide) (by decide) hc1.1 hc1.2 _ ((hX2.below D6).more D6.size)).mono ?_
      rintro e u7 ⟨v, rfl, hown, b7⟩
      have D7 := D6.trans (b7.mono D6.size)
      rw [List.take_of_length_le (i := (60 : Int).toNat) (l := zs) hl] at hown
      obtain ⟨A7, c7, hv⟩ := own_slice hown
      subst hv
      have h67 := b7.size
      have h26 := D6.size
      clear D6 b7
      by_cases h8 : zs.length % 8 = 0
      · have hd : (((zs.length : Int) % 8) == 0) = true := by simp; omega
        go_wp2_with (at_builtin; refine wpList_append_own _ rfl _ _ 30 rfl u6.heap.size 5 j0 (.int .u8 0) 1 1 Try.underlying30 hj hy0 hy1 hy2 rfl (by decide) _ _ _ rfl (hown.alloc _) ⟨u7.heap.size, 0, none⟩ 1 1 [.int .u8 0] rfl rfl (cell_one_new _ _ _) (by simp [Value.oneCell']) (by unfold maxLen; omega) (by omega) (by simp; omega) ?_; intro v' x8 hown' hgrow _; obtain ⟨g8, cap8, rfl⟩ := ownsRow_succ hown')
        obtain ⟨_, hb8⟩ := grown_keeps hown h67 hgrow
        have D8 := D7.trans (hb8.mono h26)
        refine (lives_any _).mono ?_
        rintro e u9 ⟨rfl, b9⟩
        have B9 := B2.trans ((D8.trans (b9.mono D8.size)).mono B2.size)
        go_wp2_with fail
        go_ret
        exact ⟨rfl, B9⟩
      · have hd : (((zs.length : Int) % 8) == 0) = false := by simp; omega
        go_wp2_with (at_builtin; refine wpList_append_own _ rfl _ _ 30 rfl u6.heap.size 5 j0 (.int .u8 0) 1 1 Try.underlying30 hj hy0 hy1 hy2 rfl (by decide) _ _ _ rfl (hown.alloc _) ⟨u7.heap.size, 0, none⟩ 1 1 [.int .u8 0] rfl rfl (cell_one_new _ _ _) (by simp [Value.oneCell']) (by unfold maxLen; omega) (by omega) (by simp; omega) ?_; intro v' x8 hown' hgrow _; obtain ⟨g8, cap8, rfl⟩ := ownsRow_succ hown')
        obtain ⟨_, hb8⟩ := grown_keeps hown h67 hgrow
        have D8 := D7.trans (hb8.mono h26)
        have hL8 : Ints .u8 x8 x8.heap.size (some ⟨g8, 0, none⟩) (zs.length + 1) (zs ++ [0]) := Ints.of_own (base := u6.heap.size) (e := 5) (c := cap8) (by rw [List.map_append]; exact hown')
        have hX8 := (hX2.below D8).more D8.size
        have hlo := bytes_longer (strZ s) h8 (by omega)
        clear hX2 hown hown' hgrow
        refine (bytes_any s hs1 _ _ _ _ (by omega) (byt_snoc hby 0 (by decide)) _ hL8).mono ?_
        rintro e u9 ⟨rfl, b9⟩
        have hX9 := (hX8.below b9).more b9.size
        have D9 := D8.trans (b9.mono D8.size)
        go_wp2_with fail
        refine (bytes_any s hs1 _ _ _ zs (by omega) hby _ hX9).mono ?_
        rintro e u10 ⟨rfl, b10⟩
        have D10 := D9.trans (b10.mono D9.size)
        go_wp2_with fail
        refine (lives_any _).mono ?_
        rintro e u11 ⟨rfl, b11⟩
        have B11 := B2.trans ((D10.trans (b11.mono D10.size)).mono B2.size)
        go_wp2_with fail
        go_ret
        exact ⟨rfl, B11⟩
end Go.Proofs.Ytidjffpchnbakaa
