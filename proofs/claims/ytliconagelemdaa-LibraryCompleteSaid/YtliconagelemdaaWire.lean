/- The reference's varints: the bytes that entries are made of. -/
import Derived.Test.YtliconagelemdaaLinkR
namespace Go.Proofs.Ytliconagelemdaa
open Go.RowKit Go.Shelf
set_option linter.unusedVariables false

/-- The varint's bytes. -/
def uintF : Nat → Int → List Int
  | 0, n => [n % 256]
  | f + 1, n => if 127 < n then (128 + n % 128) :: uintF f (n / 128) else [n]
def uintZ (n : Int) : List Int := uintF 9 n
def zigZ (n : Int) : Int := if n < 0 then 2 * (-(n + 1)) + 1 else 2 * n
def intZ (n : Int) : List Int := uintZ (zigZ n)

theorem uintF_len : ∀ (f : Nat) (n : Int), 1 ≤ (uintF f n).length ∧ (uintF f n).length ≤ f + 1
  | 0, _ => by simp [uintF]
  | f + 1, n => by
    unfold uintF
    have := uintF_len f (n / 128)
    split
    · simp; omega
    · simp
theorem uintF_byt : ∀ (f : Nat) (n : Int), 0 ≤ n → Byt (uintF f n)
  | 0, n, h => by
    intro z hz
    simp [uintF] at hz
    omega
  | f + 1, n, h => by
    unfold uintF
    by_cases h1 : 127 < n
    · rw [if_pos h1]
      intro z hz
      rcases List.mem_cons.1 hz with h2 | h2
      · omega
      · exact uintF_byt f (n / 128) (by omega) z h2
    · rw [if_neg h1]
      intro z hz
      have := List.mem_singleton.1 hz
      omega

theorem zigZ_U {n : Int} (h : I n) : U (zigZ n) := by
  unfold I at h
  unfold zigZ U
  split <;> omega
theorem intZ_len (n : Int) : 1 ≤ (intZ n).length ∧ (intZ n).length ≤ 10 := uintF_len 9 _
theorem intZ_byt {n : Int} (h : I n) : Byt (intZ n) := by
  have := zigZ_U h
  unfold U at this
  exact uintF_byt 9 _ (by omega)

/-- A row of bytes is returned. -/
def BytesPost (zs : List Int) (w : World) (e : Ending) (w' : World) : Prop :=
  ∃ v, e = .returned v ∧ w'.ownsRow w.heap.size 5 1 v zs.length (zs.map (Value.int .u8)) ∧ Below w.heap.size w w'

set_option maxRecDepth 100000 in
theorem zigzag_any (n : Int) (h : I n) (w : World) :
    Calls Try.prog 52 #[.int .i64 n] w fun e w' => e = .returned (.int .u64 (zigZ n)) ∧ w = w' := by
  unfold I at h
  by_cases h0 : n < 0
  · have HZ := Lib.hid (show zigZ n = 2 * (-(n + 1)) + 1 from if_pos h0)
    go_enter Try.func52, Try.ntmps52
    go_wp2
    go_ret
    exact ⟨by rw [HZ.out]; rfl, rfl⟩
  · have HZ := Lib.hid (show zigZ n = 2 * n from if_neg h0)
    go_enter Try.func52, Try.ntmps52
    go_wp2
    go_ret
    exact ⟨by rw [HZ.out]; rfl, rfl⟩

set_option maxRecDepth 100000 in
set_option maxHeartbeats 1000000 in
theorem uint_any (n : Int) (hn : U n) (w : World) :
    Calls Try.prog 51 #[.int .u64 n] w (BytesPost (uintZ n) w) := by
  obtain ⟨i0, hi, hz0, hz1, hz2⟩ := info_parts info_u8
  unfold U at hn
  go_enter Try.func51, Try.ntmps51
  go_wp2
  go_loopw [0, 3] (fun x v wr => ∃ (f : Nat) (m : Int) (acc : List Int), f ≤ 9 ∧ 0 ≤ m ∧ m < 18446744073709551616 ∧ m < 128 ^ f * 2 ∧ x = .int .u64 m ∧ acc ++ uintF f m = uintZ n ∧ acc.length + f ≤ 9 ∧ wr.ownsRow w.heap.size 5 1 v acc.length (acc.map (Value.int .u8)) ∧ Below w.heap.size w wr)
    (fun x _ _ => (intOf x).toNat)
  case atStart => exact ⟨9, n, [], Nat.le_refl _, by omega, by omega, by omega, rfl, rfl, by simp, World.ownsRow_nil _ _ _ _, Below.refl _ _⟩
  case round =>
    obtain ⟨f, m, acc, hf, hm0, hm1, hm2, rfl, heq, hal, hown, hB⟩ := hrel
    by_cases hlt : 127 < m
    · have hd : decide (127 < m) = true := by simpa using hlt
      obtain ⟨f', rfl⟩ : ∃ f', f = f' + 1 := by
        cases f with
        | zero => simp at hm2; omega
        | succ f' => exact ⟨f', rfl⟩
      have HM := Lib.hid (show m / 128 < 128 ^ f' * 2 from by rw [Int.pow_succ] at hm2; omega)
      have HE := Lib.hid (show acc ++ [128 + m % 128] ++ uintF f' (m / 128) = uintZ n from by
        rw [← heq, uintF, if_pos hlt]
        simp)
      clear heq hm2
      go_wp2_with (at_builtin; refine wpList_append_own _ rfl _ _ 39 rfl w.heap.size 5 i0 (.int .u8 0) 1 1 Try.underlying39 hi hz0 hz1 hz2 rfl (by decide) _ _ _ rfl (hown.alloc _) ⟨wr.heap.size, 0, none⟩ 1 1 [.int .u8 (128 + m % 128)] rfl rfl (cell_one_new _ _ _) (by simp [Value.oneCell']) (by unfold maxLen; omega) (by omega) (by have := hB.size; simp; omega) ?_; intro v' w1 hown' hgrow _)
      obtain ⟨_, hb1⟩ := grown_keeps hown hB.size hgrow
      go_roundw
      case rel => exact ⟨f', m / 128, acc ++ [128 + m % 128], by omega, by omega, by omega, HM.out, by go_num, HE.out, by simp; omega, by simpa using hown', hB.trans hb1⟩
      case measure => simp [intOf]; omega
    · have hd : decide (127 < m) = false := by simpa using hlt
      have HE := Lib.hid (show acc ++ [m] = uintZ n from by
        rw [← heq]
        cases f with
        | zero => simp at hm2; rw [uintF, Int.emod_eq_of_lt hm0 (by omega)]
        | succ f => rw [uintF, if_neg hlt])
      clear heq hm2
      go_wp2_with (at_builtin; refine wpList_append_own _ rfl _ _ 39 rfl w.heap.size 5 i0 (.int .u8 0) 1 1 Try.underlying39 hi hz0 hz1 hz2 rfl (by decide) _ _ _ rfl (hown.alloc _) ⟨wr.heap.size, 0, none⟩ 1 1 [.int .u8 (m)] rfl rfl (cell_one_new _ _ _) (by simp [Value.oneCell']) (by unfold maxLen; omega) (by omega) (by have := hB.size; simp; omega) ?_; intro v' w1 hown' hgrow _)
      obtain ⟨_, hb1⟩ := grown_keeps hown hB.size hgrow
      go_ret
      refine ⟨_, rfl, ?_, hB.trans hb1⟩
      rw [← HE.out]
      simpa using hown'

set_option maxRecDepth 100000 in
theorem int_any (n : Int) (hn : I n) (w : World) :
    Calls Try.prog 31 #[.int .i64 n] w (BytesPost (intZ n) w) := by
  go_enter Try.func31, Try.ntmps31
  go_wp2_with fail
  refine (zigzag_any n hn _).mono ?_
  rintro e w1 ⟨rfl, rfl⟩
  go_wp2_with fail
  refine (uint_any (zigZ n) (zigZ_U hn) _).mono ?_
  rintro e w1 ⟨v, rfl, hown, b1⟩
  go_wp2
  go_ret
  exact ⟨_, rfl, hown, b1⟩

end Go.Proofs.Ytliconagelemdaa
