/- The small helpers of the reference: Around, SameBytes, Same. -/
import Derived.BigQuiet
import Derived.Deep.QuietTactic
import Derived.Test.YtliconagelemdaaRefB
namespace Go.Proofs.Ytliconagelemdaa
open Go.RowKit Go.Shelf
set_option linter.unusedVariables false

theorem around_any (n m : Int) (h1 : 1 ≤ m) (h2 : m ≤ 1000000) (hn : -9223372036854775808 ≤ n ∧ n ≤ 9223372036854775807) (w : World) :
    Calls Try.prog 18 #[.int .i64 n, .int .i64 m] w fun e w' => e = .returned (.int .i64 (arZ n m)) ∧ w = w' := by
  have hm0 : (m == 0) = false := by simp; omega
  by_cases h : n < 0
  · go_enter Try.func18, Try.ntmps18
    go_wp2
    go_ret
    refine ⟨?_, rfl⟩
    show Ending.returned (.int .i64 (-((n + 1).tmod m))) = _
    unfold arZ
    rw [if_pos h, ← Int.neg_tmod, Int.tmod_eq_emod_of_nonneg (by omega)]
  · go_enter Try.func18, Try.ntmps18
    go_wp2
    go_ret
    exact ⟨by unfold arZ; rw [if_neg (by omega)]; rfl, rfl⟩

theorem info_u8 : (Try.prog.info? 5).map (fun i => (i.zero, i.size, i.bytes)) = some (some (.int .u8 0), 1, 1) := by kernel_rfl

set_option maxRecDepth 100000 in
set_option maxHeartbeats 1000000 in
/-- Two slices of integers held against each other. -/
theorem sameBytes_any (A B : Option Addr) (n m c d : Nat) (xs ys : List Int) (hn : n ≤ 1000000) (hm : m ≤ 1000000) (w : World) (hX : Ints .u8 w w.heap.size A n xs) (hY : Ints .u8 w w.heap.size B m ys) :
    Calls Try.prog 26 #[.slice A n c, .slice B m d] w fun e w' => e = .returned (.bool (sameB xs ys)) ∧ Below w.heap.size w w' := by
  by_cases hnm : n = m
  · obtain rfl : n = m := hnm
    have hne : ((n : Int) != (n : Int)) = false := by simp
    go_enter Try.func26, Try.ntmps26
    go_wp2
    clear hne
    go_loopw [5] (fun i wr => ∃ k : Nat, k ≤ n ∧ i = .int .i64 (k : Int) ∧ xs.take k = ys.take k ∧ Below w.heap.size w wr) (fun i _ => n - (intOf i).toNat)
    case atStart => exact ⟨0, Nat.zero_le _, rfl, rfl, Below.refl _ _⟩
    case round =>
      obtain ⟨k, hk, rfl, hpre, hB⟩ := hrel
      have HP := Lib.hid hpre
      clear hpre
      have hxl := hX.1
      have hyl := hY.1
      by_cases hlt : k < n
      · obtain ⟨b, off, rfl, hblt, hcs⟩ := hX.2 (by omega)
        obtain ⟨b', off', rfl, hblt', hcs'⟩ := hY.2 (by omega)
        have hcx : wr.cell? ⟨b, off + k, none⟩ = some (.int .u8 (xs[k]?.getD 0)) := (hB.cell (p := ⟨b, off + k, none⟩) hblt).trans (hcs k hlt)
        have hcy : wr.cell? ⟨b', off' + k, none⟩ = some (.int .u8 (ys[k]?.getD 0)) := (hB.cell (p := ⟨b', off' + k, none⟩) hblt').trans (hcs' k hlt)
        clear hcs hcs'
        by_cases heq : xs[k]?.getD 0 = ys[k]?.getD 0
        · have hb : ((xs[k]?.getD 0) != (ys[k]?.getD 0)) = false := by simp [heq]
          have HE := Lib.hid (show xs.take (k + 1) = ys.take (k + 1) from by rw [take_snoc_get xs k (by omega), take_snoc_get ys k (by omega), heq, HP.out])
          clear heq hxl hyl
          go_wp2
          go_quiet (fail)
          go_wp2
          exact ⟨⟨k + 1, by omega, by go_num, HE.out, below_drewN hB _⟩, by simp [intOf]; omega⟩
        · have hb : ((xs[k]?.getD 0) != (ys[k]?.getD 0)) = true := by simp [heq]
          have HE := Lib.hid (sameB_false (fun e : xs = ys => heq (by rw [e])))
          clear heq hxl hyl
          go_wp2
          go_quiet (fail)
          go_wp2
          go_ret
          exact ⟨by rw [HE.out]; rfl, below_drewN hB _⟩
      · have HE := Lib.hid (sameB_true (show xs = ys from by have := HP.out; rwa [List.take_of_length_le (by omega), List.take_of_length_le (by omega)] at this))
        clear hxl hyl
        go_wp2
        go_ret
        exact ⟨by rw [HE.out]; rfl, hB⟩
  · have hne : ((n : Int) != (m : Int)) = true := by simp; omega
    have HE := Lib.hid (sameB_false (fun e : xs = ys => hnm (by rw [← hX.1, ← hY.1, e])))
    go_enter Try.func26, Try.ntmps26
    go_wp2
    go_ret
    exact ⟨by rw [HE.out]; rfl, Below.refl _ _⟩

set_option maxRecDepth 100000 in
set_option maxHeartbeats 1000000 in
/-- Two slices of integers held against each other. -/
theorem sameU64_any (A B : Option Addr) (n m c d : Nat) (xs ys : List Int) (hn : n ≤ 1000000) (hm : m ≤ 1000000) (w : World) (hX : Ints .u64 w w.heap.size A n xs) (hY : Ints .u64 w w.heap.size B m ys) :
    Calls Try.prog 13 #[.slice A n c, .slice B m d] w fun e w' => e = .returned (.bool (sameB xs ys)) ∧ Below w.heap.size w w' := by
  by_cases hnm : n = m
  · obtain rfl : n = m := hnm
    have hne : ((n : Int) != (n : Int)) = false := by simp
    go_enter Try.func13, Try.ntmps13
    go_wp2
    clear hne
    go_loopw [5] (fun i wr => ∃ k : Nat, k ≤ n ∧ i = .int .i64 (k : Int) ∧ xs.take k = ys.take k ∧ Below w.heap.size w wr) (fun i _ => n - (intOf i).toNat)
    case atStart => exact ⟨0, Nat.zero_le _, rfl, rfl, Below.refl _ _⟩
    case round =>
      obtain ⟨k, hk, rfl, hpre, hB⟩ := hrel
      have HP := Lib.hid hpre
      clear hpre
      have hxl := hX.1
      have hyl := hY.1
      by_cases hlt : k < n
      · obtain ⟨b, off, rfl, hblt, hcs⟩ := hX.2 (by omega)
        obtain ⟨b', off', rfl, hblt', hcs'⟩ := hY.2 (by omega)
        have hcx : wr.cell? ⟨b, off + k, none⟩ = some (.int .u64 (xs[k]?.getD 0)) := (hB.cell (p := ⟨b, off + k, none⟩) hblt).trans (hcs k hlt)
        have hcy : wr.cell? ⟨b', off' + k, none⟩ = some (.int .u64 (ys[k]?.getD 0)) := (hB.cell (p := ⟨b', off' + k, none⟩) hblt').trans (hcs' k hlt)
        clear hcs hcs'
        by_cases heq : xs[k]?.getD 0 = ys[k]?.getD 0
        · have hb : ((xs[k]?.getD 0) != (ys[k]?.getD 0)) = false := by simp [heq]
          have HE := Lib.hid (show xs.take (k + 1) = ys.take (k + 1) from by rw [take_snoc_get xs k (by omega), take_snoc_get ys k (by omega), heq, HP.out])
          clear heq hxl hyl
          go_wp2
          go_quiet (fail)
          go_wp2
          exact ⟨⟨k + 1, by omega, by go_num, HE.out, below_drewN hB _⟩, by simp [intOf]; omega⟩
        · have hb : ((xs[k]?.getD 0) != (ys[k]?.getD 0)) = true := by simp [heq]
          have HE := Lib.hid (sameB_false (fun e : xs = ys => heq (by rw [e])))
          clear heq hxl hyl
          go_wp2
          go_quiet (fail)
          go_wp2
          go_ret
          exact ⟨by rw [HE.out]; rfl, below_drewN hB _⟩
      · have HE := Lib.hid (sameB_true (show xs = ys from by have := HP.out; rwa [List.take_of_length_le (by omega), List.take_of_length_le (by omega)] at this))
        clear hxl hyl
        go_wp2
        go_ret
        exact ⟨by rw [HE.out]; rfl, hB⟩
  · have hne : ((n : Int) != (m : Int)) = true := by simp; omega
    have HE := Lib.hid (sameB_false (fun e : xs = ys => hnm (by rw [← hX.1, ← hY.1, e])))
    go_enter Try.func13, Try.ntmps13
    go_wp2
    go_ret
    exact ⟨by rw [HE.out]; rfl, Below.refl _ _⟩

end Go.Proofs.Ytliconagelemdaa
