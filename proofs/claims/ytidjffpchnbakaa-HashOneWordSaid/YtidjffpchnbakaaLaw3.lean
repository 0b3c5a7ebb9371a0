/- The walks of the laws HashArguments and HashGroups. -/
import Derived.Test.YtidjffpchnbakaaLaw2
namespace Go.Proofs.Ytidjffpchnbakaa
open Go.RowKit Go.Shelf
set_option linter.unusedVariables false

theorem own_cap {w : World} {base : Nat} {e : TypeId} {size n c : Nat} {A : Option Addr} {xs : List Value} (h : w.ownsRow base e size (.slice A n c) n xs) : n ≤ c ∧ c ≤ maxLen := by
  rcases h.2 with ⟨hv, h0⟩ | ⟨g, cap, cur, hv, _, _, h1, h2, _⟩
  · injection hv with _ _ hc
    subst hc
    exact ⟨by omega, by unfold maxLen; omega⟩
  · injection hv with _ _ hc
    subst hc
    exact ⟨h1, h2⟩

set_option maxRecDepth 100000 in
set_option maxHeartbeats 1000000 in
theorem hashArguments_law (a0 : Option Addr) (len0 cap0 : Nat) (z0 : List Int) (a1 : Option Addr) (len1 cap1 : Nat) (z1 : List Int) (w : World) (w0 : GoRow .i64 w a0 len0 cap0 z0) (w1 : GoRow .u8 w a1 len1 cap1 z1) :
    Calls Try.prog 10 #[.slice a0 len0 cap0, .slice a1 len1 cap1] w fun e w' => e = .returned (.bool true) ∧ Below w.heap.size w w' := by
  obtain ⟨hI, hlc, hcap, _⟩ := w0.ints
  obtain ⟨hI', hlc', hcap', hwf⟩ := w1.ints
  have hby := (Byt_of_wf hwf).take (30 : Int).toNat
  clear hwf w0 w1
  have hl : ((z0.take len0).take (10 : Int).toNat).length ≤ 1000000 := Nat.le_trans (List.length_take_le _ _) (by decide)
  have hl' : ((z1.take len1).take (30 : Int).toNat).length ≤ 1000000 := Nat.le_trans (List.length_take_le _ _) (by decide)
  go_enter Try.func10, Try.ntmps10
  go_wp2_with fail
  refine (ints_int _ _ _ _ _ (by decide) (by decide) hlc hcap _ hI).mono ?_
  rintro e u1 ⟨v, rfl, hown, B1⟩
  obtain ⟨A, c, hv⟩ := own_slice hown
  subst hv
  have hX1 := Ints.of_own hown
  clear hown
  obtain ⟨zs, hzs⟩ : ∃ zs, (z0.take len0).take (10 : Int).toNat = zs := ⟨_, rfl⟩
  rw [hzs] at hX1 hl ⊢
  have HZ := Lib.hid hzs
  clear hzs
  go_wp2_with fail
  refine (few_int _ _ _ _ _ (by decide) (by decide) hlc' hcap' _ ((hI'.below B1).more B1.size)).mono ?_
  rintro e u2 ⟨v, rfl, hown, b2⟩
  obtain ⟨A', c', hv⟩ := own_slice hown
  subst hv
  have hY2 := Ints.of_own hown
  clear hown
  obtain ⟨ys, hys⟩ : ∃ ys, (z1.take len1).take (30 : Int).toNat = ys := ⟨_, rfl⟩
  rw [hys] at hY2 hl' hby ⊢
  have HY := Lib.hid hys
  clear hys
  have B2 := B1.trans (b2.mono B1.size)
  have hX2 := (hX1.below b2).more b2.size
  clear hX1 b2 B1
  go_wp2_with fail
  refine (sum_any _ (by decide) _ _ _ zs hl _ hX2).mono ?_
  rintro e u3 ⟨rfl, b3⟩
  have B3 := B2.trans (b3.mono B2.size)
  have hX3 := (hX2.below b3).more b3.size
  have hY3 := (hY2.below b3).more b3.size
  clear hX2 hY2 B2 b3
  go_wp2_with fail
  refine (bytes_any _ (by decide) _ _ _ ys hl' hby _ hY3).mono ?_
  rintro e u4 ⟨rfl, b4⟩
  have B4 := B3.trans (b4.mono B3.size)
  have hX4 := (hX3.below b4).more b4.size
  have hY4 := (hY3.below b4).more b4.size
  clear hX3 hY3 B3 b4
  go_wp2_with fail
  refine (ints_int _ _ _ _ _ (by decide) (by decide) hlc hcap _ ((hI.below B4).more B4.size)).mono ?_
  rintro e u5 ⟨v, rfl, hown, b5⟩
  obtain ⟨A5, c5, hv⟩ := own_slice hown
  subst hv
  have hP5 := Ints.of_own hown
  clear hown
  rw [HZ.out] at hP5 ⊢
  have B5 := B4.trans (b5.mono B4.size)
  have hX5 := (hX4.below b5).more b5.size
  have hY5 := (hY4.below b5).more b5.size
  clear hX4 hY4 B4 b5
  go_wp2_with fail
  refine (sameInts_any _ _ _ _ _ _ zs zs hl hl _ hX5 hP5).mono ?_
  rintro e u6 ⟨rfl, b6⟩
  rw [sameB_true rfl]
  have B6 := B5.trans (b6.mono B5.size)
  have hX6 := (hX5.below b6).more b6.size
  have hY6 := (hY5.below b6).more b6.size
  clear hX5 hY5 B5 b6 hP5
  go_wp2_with fail
  refine (few_int _ _ _ _ _ (by decide) (by decide) hlc' hcap' _ ((hI'.below B6).more B6.size)).mono ?_
  rintro e u7 ⟨v, rfl, hown, b7⟩
  obtain ⟨A7, c7, hv⟩ := own_slice hown
  subst hv
  have hP7 := Ints.of_own hown
  clear hown
  rw [HY.out] at hP7 ⊢
  have B7 := B6.trans (b7.mono B6.size)
  have hX7 := (hX6.below b7).more b7.size
  have hY7 := (hY6.below b7).more b7.size
  clear hX6 hY6 B6 b7
  go_wp2_with fail
  refine (sameBytes_any _ _ _ _ _ _ ys ys hl' hl' _ hY7 hP7).mono ?_
  rintro e u8 ⟨rfl, b8⟩
  rw [sameB_true rfl]
  have B8 := B7.trans (b8.mono B7.size)
  have hX8 := (hX7.below b8).more b8.size
  have hY8 := (hY7.below b8).more b8.size
  clear hX7 hY7 B7 b8 hP7
  go_wp2_with fail
  refine (sum_any _ (by decide) _ _ _ zs hl _ hX8).mono ?_
  rintro e u9 ⟨rfl, b9⟩
  have B9 := B8.trans (b9.mono B8.size)
  have hY9 := (hY8.below b9).more b9.size
  clear hX8 hY8 B8 b9
  go_wp2_with fail
  refine (bytes_any _ (by decide) _ _ _ ys hl' hby _ hY9).mono ?_
  rintro e u10 ⟨rfl, b10⟩
  have B10 := B9.trans (b10.mono B9.size)
  clear hY9 B9 b10
  go_wp2_with fail
  refine (lives_any _).mono ?_
  rintro e u11 ⟨rfl, b11⟩
  have B11 := B10.trans (b11.mono B10.size)
  go_wp2_with fail
  go_ret
  exact ⟨rfl, B11⟩
end Go.Proofs.Ytidjffpchnbakaa
