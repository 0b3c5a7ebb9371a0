/- The walk of the law HashOneGroup. -/
import Derived.Test.YtidjffpchnbakaaLaw4
namespace Go.Proofs.Ytidjffpchnbakaa
open Go.RowKit Go.Shelf
set_option linter.unusedVariables false

theorem map_set_int (k : IntKind) (xs : List Int) (j : Nat) (v : Int) : (xs.map (Value.int k)).set j (.int k v) = (xs.set j v).map (Value.int k) := by rw [List.map_set]

set_option maxRecDepth 100000 in
set_option maxHeartbeats 2000000 in
/-- What stands behind the changes: two lists that part within one group. -/
theorem hashOneGroup_law (a0 : ByteArray) (a1 : Option Addr) (len1 cap1 : Nat) (z1 : List Int) (a2 : Int) (a3 : Int) (a4 : Int) (w : World) (w0 : a0.size ≤ maxLen) (w1 : GoRow .u8 w a1 len1 cap1 z1) (w2 : (Lit.int .i64 a2).wf = true) (w3 : (Lit.int .u8 a3).wf = true) (w4 : (Lit.int .u8 a4).wf = true) :
    Calls Try.prog 6 #[.string a0, .slice a1 len1 cap1, .int .i64 a2, .int .u8 a3, .int .u8 a4] w fun e w' => e = .returned (.bool true) ∧ Below w.heap.size w w' := by
  obtain ⟨hI, hlc, hcap, hwf⟩ := w1.ints
  obtain ⟨j0, hj, hy0, hy1, hy2⟩ := info_parts info_u8
  have hby := (Byt_of_wf hwf).take (39 : Int).toNat
  have hl : ((z1.take len1).take (39 : Int).toNat).length ≤ 39 := List.length_take_le _ _
  have h2 := bounds_i64 w2
  clear hwf w1 w2 w3 w4
  go_enter Try.func6, Try.ntmps6
  go_wp2_with fail
  refine (short_int _ _ (by decide) (by decide) w0 _).mono ?_
  rintro e w' ⟨s, rfl, hs, rfl⟩
  have hs1 : s.size ≤ 1000000 := Nat.le_trans hs (by decide)
  clear hs w0
  go_wp2_with fail
  refine (few_int _ _ _ _ _ (by decide) (by decide) hlc hcap _ hI).mono ?_
  rintro e u1 ⟨v, rfl, hown, B1⟩
  obtain ⟨A, c, hv⟩ := own_slice hown
  subst hv
  clear hI hlc hcap
  obtain ⟨zs, hzs⟩ : ∃ zs, (z1.take len1).take (39 : Int).toNat = zs := ⟨_, rfl⟩
  rw [hzs] at hown hl hby ⊢
  clear hzs
  go_wp2_with (at_builtin; refine wpList_append_own _ rfl _ _ 30 rfl w.heap.size 5 j0 (.int .u8 0) 1 1 Try.underlying30 hj hy0 hy1 hy2 rfl (by decide) _ _ _ rfl (hown.alloc _) ⟨u1.heap.size, 0, none⟩ 1 1 [.int .u8 65] rfl rfl (cell_one_new _ _ _) (by simp [Value.oneCell']) (by unfold maxLen; omega) (by omega) (by have := B1.size; simp; omega) ?_; intro v' u2 hown' hgrow _; obtain ⟨g2, cap2, rfl⟩ := ownsRow_succ hown')
  obtain ⟨_, hb2⟩ := grown_keeps hown B1.size hgrow
  have B2 := B1.trans hb2
  have hX2 : Ints .u8 u2 u2.heap.size (some ⟨g2, 0, none⟩) (zs.length + 1) (zs ++ [65]) := Ints.of_own (base := w.heap.size) (e := 5) (c := cap2) (by rw [List.map_append]; exact hown')
  have hc2 := own_cap hown'
  clear hown hown' hgrow hb2 B1
  have hbx := byt_snoc hby 65 (by decide)
  have hxl : (zs ++ [65]).length = zs.length + 1 := by simp
  obtain ⟨xs, hxs⟩ : ∃ xs, zs ++ [65] = xs := ⟨_, rfl⟩
  obtain ⟨n, hn⟩ : ∃ n, zs.length + 1 = n := ⟨_, rfl⟩
  rw [hxs] at hX2 hbx hxl
  rw [hn] at hX2 hc2 hxl ⊢
  have hn40 : n ≤ 40 := by omega
  have hn1 : 1 ≤ n := by omega
  clear hn hxs hby hl
  refine (few_int _ _ _ _ _ (by decide) (by decide) hc2.1 hc2.2 _ hX2).mono ?_
  rintro e u3 ⟨v, rfl, hown, b3⟩
  rw [List.take_of_length_le (i := (40 : Int).toNat) (l := xs) (by rw [hxl]; exact hn40)] at hown
  rw [hxl] at hown
  obtain ⟨g, c3, hv, hg, _⟩ := hown.form (by omega)
  subst hv
  have B3 := B2.trans (b3.mono B2.size)
  have hX3 := hX2.below b3
  have h23 := b3.size
  have h02 := B2.size
  clear b3 B2 hX2
  go_wp2_with fail
  refine (around_any _ _ (by omega) (by omega) h2 _).mono ?_
  rintro e w' ⟨rfl, rfl⟩
  obtain ⟨hk0, hk1⟩ := arZ_lt a2 (m := (n : Int)) (by omega)
  obtain ⟨k, hk⟩ := Int.eq_ofNat_of_zero_le hk0
  rw [hk] at hk1 ⊢
  clear hk hk0
  have hk2 : k < n := by omega
  obtain ⟨q, hck⟩ : ∃ q, u3.cell? ⟨g, k, none⟩ = some (.int .u8 q) := ⟨_, by
    rw [hown.cellAt k (by omega), List.getElem?_map, List.getElem?_eq_getElem (by omega)]; rfl⟩
  have hfk := hown.frozenAt k
  by_cases h8a : k + 1 < n
  · have hd : decide ((k : Int) + 1 < (n : Int)) = true := by simp; omega
    by_cases h8b : (k + 1) % 8 ≠ 0
    · have he : ((((k : Int) + 1) % 8) != 0) = true := by simp; omega
      have hst := hown.stored k (.int .u8 (bits .xor .u8 q a3))
      have hYo1 := hst.1
      rw [map_set_int] at hYo1
      obtain ⟨q1, hck1⟩ : ∃ q1, (u3.setCell ⟨g, k, none⟩ (.int .u8 (bits .xor .u8 q a3))).cell? ⟨g, k + 1, none⟩ = some (.int .u8 q1) := ⟨_, by rw [hYo1.cellAt (k + 1) (by omega), List.getElem?_map, List.getElem?_set_ne (by omega), List.getElem?_eq_getElem (by omega)]; rfl⟩
      have hfk1 := hYo1.frozenAt (k + 1)
      have hst2 := hYo1.stored (k + 1) (.int .u8 (bits .xor .u8 q1 a4))
      have hYo := hst2.1
      rw [map_set_int] at hYo
      have hB4 : Below u2.heap.size u3 ((u3.setCell ⟨g, k, none⟩ (.int .u8 (bits .xor .u8 q a3))).setCell ⟨g, k + 1, none⟩ (.int .u8 (bits .xor .u8 q1 a4))) := ((Below.refl _ _).setCell (p := ⟨g, k, none⟩) hg _).setCell (p := ⟨g, k + 1, none⟩) hg _
      have hnear := near_two hbx (k := k) (by omega) h8b (xor8_byte q a3) (xor8_byte q1 a4)
      clear hst hst2 hYo1
      go_wp2_with fail
      clear hck hfk hown hck1 hfk1
      obtain ⟨ys, hys⟩ : ∃ ys, (xs.set k (bits .xor .u8 q a3)).set (k + 1) (bits .xor .u8 q1 a4) = ys := ⟨_, rfl⟩
      obtain ⟨U, hU⟩ : ∃ U, (u3.setCell ⟨g, k, none⟩ (.int .u8 (bits .xor .u8 q a3))).setCell ⟨g, k + 1, none⟩ (.int .u8 (bits .xor .u8 q1 a4)) = U := ⟨_, rfl⟩
      rw [hys, hU] at hYo
      rw [hU] at hB4 ⊢
      rw [hys] at hnear
      clear hys hU
      have B4 : Below w.heap.size w U := B3.trans (hB4.mono h02)
      have hXU := (hX3.below hB4).more (show u2.heap.size ≤ U.heap.size from Nat.le_trans h23 hB4.size)
      have hYU := Ints.of_own hYo
      have hN := hnear.bytes (strZ s)
      have hbz := hnear.bz
      clear hnear hB4 hX3 hYo B3 h23
      refine (bytes_any s hs1 _ _ _ xs (by omega) hbx _ hXU).mono ?_
      rintro e u5 ⟨rfl, b5⟩
      have hX5 := (hXU.below b5).more b5.size
      have hY5 := (hYU.below b5).more b5.size
      have B5 := B4.trans (b5.mono B4.size)
      clear hXU hYU b5 B4
      go_wp2_with fail
      refine (bytes_any s hs1 _ _ _ ys (by omega) hbz _ hY5).mono ?_
      rintro e u6 ⟨rfl, b6⟩
      have hX6 := (hX5.below b6).more b6.size
      have hY6 := (hY5.below b6).more b6.size
      have B6 := B5.trans (b6.mono B5.size)
      clear hX5 hY5 b6 B5
      go_wp2_with fail
      refine (sameBytes_any _ _ _ _ _ _ xs ys (by omega) (by omega) _ hX6 hY6).mono ?_
      rintro e u7 ⟨rfl, b7⟩
      have B7 := B6.trans (b7.mono B6.size)
      clear hX6 hY6 b7 B6
      go_wp2_with fail
      refine (lives_any _).mono ?_
      rintro e u8 ⟨rfl, b8⟩
      have B8 := B7.trans (b8.mono B7.size)
      go_wp2_with fail
      go_ret
      exact ⟨rfl, B8⟩
    · have he : ((((k : Int) + 1) % 8) != 0) = false := by simp; omega
      have hst := hown.stored k (.int .u8 (bits .xor .u8 q a3))
      have hYo := hst.1
      rw [map_set_int] at hYo
      have hB4 : Below u2.heap.size u3 (u3.setCell ⟨g, k, none⟩ (.int .u8 (bits .xor .u8 q a3))) := (Below.refl _ _).setCell (p := ⟨g, k, none⟩) hg _
      have hnear := near_one hbx (k := k) (by omega) (xor8_byte q a3)
      clear hst
      go_wp2_with fail
      clear hck hfk hown
      obtain ⟨ys, hys⟩ : ∃ ys, xs.set k (bits .xor .u8 q a3) = ys := ⟨_, rfl⟩
      obtain ⟨U, hU⟩ : ∃ U, u3.setCell ⟨g, k, none⟩ (.int .u8 (bits .xor .u8 q a3)) = U := ⟨_, rfl⟩
      rw [hys, hU] at hYo
      rw [hU] at hB4 ⊢
      rw [hys] at hnear
      clear hys hU
      have B4 : Below w.heap.size w U := B3.trans (hB4.mono h02)
      have hXU := (hX3.below hB4).more (show u2.heap.size ≤ U.heap.size from Nat.le_trans h23 hB4.size)
      have hYU := Ints.of_own hYo
      have hN := hnear.bytes (strZ s)
      have hbz := hnear.bz
      clear hnear hB4 hX3 hYo B3 h23
      refine (bytes_any s hs1 _ _ _ xs (by omega) hbx _ hXU).mono ?_
      rintro e u5 ⟨rfl, b5⟩
      have hX5 := (hXU.below b5).more b5.size
      have hY5 := (hYU.below b5).more b5.size
      have B5 := B4.trans (b5.mono B4.size)
      clear hXU hYU b5 B4
      go_wp2_with fail
      refine (bytes_any s hs1 _ _ _ ys (by omega) hbz _ hY5).mono ?_
      rintro e u6 ⟨rfl, b6⟩
      have hX6 := (hX5.below b6).more b6.size
      have hY6 := (hY5.below b6).more b6.size
      have B6 := B5.trans (b6.mono B5.size)
      clear hX5 hY5 b6 B5
      go_wp2_with fail
      refine (sameBytes_any _ _ _ _ _ _ xs ys (by omega) (by omega) _ hX6 hY6).mono ?_
      rintro e u7 ⟨rfl, b7⟩
      have B7 := B6.trans (b7.mono B6.size)
      clear hX6 hY6 b7 B6
      go_wp2_with fail
      refine (lives_any _).mono ?_
      rintro e u8 ⟨rfl, b8⟩
      have B8 := B7.trans (b8.mono B7.size)
      go_wp2_with fail
      go_ret
      exact ⟨rfl, B8⟩
  · have hd : decide ((k : Int) + 1 < (n : Int)) = false := by simp; omega
    have hst := hown.stored k (.int .u8 (bits .xor .u8 q a3))
    have hYo := hst.1
    rw [map_set_int] at hYo
    have hB4 : Below u2.heap.size u3 (u3.setCell ⟨g, k, none⟩ (.int .u8 (bits .xor .u8 q a3))) := (Below.refl _ _).setCell (p := ⟨g, k, none⟩) hg _
    have hnear := near_one hbx (k := k) (by omega) (xor8_byte q a3)
    clear hst
    go_wp2_with fail
    clear hck hfk hown
    obtain ⟨ys, hys⟩ : ∃ ys, xs.set k (bits .xor .u8 q a3) = ys := ⟨_, rfl⟩
    obtain ⟨U, hU⟩ : ∃ U, u3.setCell ⟨g, k, none⟩ (.int .u8 (bits .xor .u8 q a3)) = U := ⟨_, rfl⟩
    rw [hys, hU] at hYo
    rw [hU] at hB4 ⊢
    rw [hys] at hnear
    clear hys hU
    have B4 : Below w.heap.size w U := B3.trans (hB4.mono h02)
    have hXU := (hX3.below hB4).more (show u2.heap.size ≤ U.heap.size from Nat.le_trans h23 hB4.size)
    have hYU := Ints.of_own hYo
    have hN := hnear.bytes (strZ s)
    have hbz := hnear.bz
    clear hnear hB4 hX3 hYo B3 h23
    refine (bytes_any s hs1 _ _ _ xs (by omega) hbx _ hXU).mono ?_
    rintro e u5 ⟨rfl, b5⟩
    have hX5 := (hXU.below b5).more b5.size
    have hY5 := (hYU.below b5).more b5.size
    have B5 := B4.trans (b5.mono B4.size)
    clear hXU hYU b5 B4
    go_wp2_with fail
    refine (bytes_any s hs1 _ _ _ ys (by omega) hbz _ hY5).mono ?_
    rintro e u6 ⟨rfl, b6⟩
    have hX6 := (hX5.below b6).more b6.size
    have hY6 := (hY5.below b6).more b6.size
    have B6 := B5.trans (b6.mono B5.size)
    clear hX5 hY5 b6 B5
    go_wp2_with fail
    refine (sameBytes_any _ _ _ _ _ _ xs ys (by omega) (by omega) _ hX6 hY6).mono ?_
    rintro e u7 ⟨rfl, b7⟩
    have B7 := B6.trans (b7.mono B6.size)
    clear hX6 hY6 b7 B6
    go_wp2_with fail
    refine (lives_any _).mono ?_
    rintro e u8 ⟨rfl, b8⟩
    have B8 := B7.trans (b8.mono B7.size)
    go_wp2_with fail
    go_ret
    exact ⟨rfl, B8⟩
end Go.Proofs.Ytidjffpchnbakaa
