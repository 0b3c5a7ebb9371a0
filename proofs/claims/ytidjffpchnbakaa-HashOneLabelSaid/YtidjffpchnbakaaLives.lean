/- The law's own example: lives returns true. -/
import Derived.Test.YtidjffpchnbakaaSmall
namespace Go.Proofs.Ytidjffpchnbakaa
open Go.RowKit Go.Shelf
set_option linter.unusedVariables false

theorem lives_a : (sumZ (strZ ⟨#[97]⟩) [5] != sumZ (strZ ⟨#[97]⟩) [6]) = true := by decide +kernel
theorem lives_b : (bytesZ (strZ ⟨#[97]⟩) [1, 2] == sumZ (strZ ⟨#[97]⟩) [513, 2]) = true := by decide +kernel
theorem lives_c : (sumZ [112, 97, 105, 114] [wrap64 1, wrap64 2] != sumZ [112, 97, 105, 114] [wrap64 1, wrap64 3]) = true := by decide +kernel

set_option maxRecDepth 100000 in
set_option maxHeartbeats 1000000 in
theorem lives_any (w : World) : Calls Try.prog 15 #[] w fun e w' => e = .returned (.bool true) ∧ Below w.heap.size w w' := by
  have ha := lives_a
  have hb := lives_b
  have hc := lives_c
  go_enter Try.func15, Try.ntmps15
  go_wp2_with fail
  refine (sum_any _ (by decide) _ _ _ [5] (by decide) _ (ints_new .i64 w [5] 3 |>.more (by simp))).mono ?_
  rintro e w1 ⟨rfl, b1⟩
  have B1 : Below w.heap.size w w1 := ((Below.refl _ w).alloc (Nat.le_refl _) _).trans (b1.mono (by simp))
  clear b1
  go_wp2_with fail
  refine (sum_any _ (by decide) _ _ _ [6] (by decide) _ (ints_new .i64 w1 [6] 3 |>.more (by simp))).mono ?_
  rintro e w2 ⟨rfl, b2⟩
  have B2 : Below w.heap.size w w2 := (B1.alloc B1.size _).trans (b2.mono (by have := B1.size; simp; omega))
  clear b2 B1
  go_wp2_with fail
  refine (bytes_any _ (by decide) _ _ _ [1, 2] (by decide) (by intro z hz; simp at hz; omega) _ (ints_new .u8 w2 [1, 2] 5 |>.more (by simp))).mono ?_
  rintro e w3 ⟨rfl, b3⟩
  have B3 : Below w.heap.size w w3 := (B2.alloc B2.size _).trans (b3.mono (by have := B2.size; simp; omega))
  clear b3 B2
  go_wp2_with fail
  refine (sum_any _ (by decide) _ _ _ [513, 2] (by decide) _ (ints_new .i64 w3 [513, 2] 3 |>.more (by simp))).mono ?_
  rintro e w4 ⟨rfl, b4⟩
  have B4 : Below w.heap.size w w4 := (B3.alloc B3.size _).trans (b4.mono (by have := B3.size; simp; omega))
  clear b4 B3
  go_wp2_with fail
  refine (pair_any _ _ _).mono ?_
  rintro e w5 ⟨rfl, b5⟩
  have B5 : Below w.heap.size w w5 := B4.trans (b5.mono B4.size)
  clear b5 B4
  go_wp2_with fail
  refine (pair_any _ _ _).mono ?_
  rintro e w6 ⟨rfl, b6⟩
  have B6 : Below w.heap.size w w6 := B5.trans (b6.mono B5.size)
  clear b6 B5
  go_wp2_with fail
  go_ret
  exact ⟨rfl, B6⟩
end Go.Proofs.Ytidjffpchnbakaa
