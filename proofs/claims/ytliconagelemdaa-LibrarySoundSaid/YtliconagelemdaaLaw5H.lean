/- The walk of the law LibrarySound. -/
import Derived.Deep.RegionHeld3
import Derived.Test.YtliconagelemdaaSound
namespace Go.Proofs.Ytliconagelemdaa
open Go.RowKit Go.Shelf
set_option linter.unusedVariables false

attribute [local go_sem ↓] Go.wp_at_zero Go.wp_at_succ

theorem held_next {U W W' : World} {p : Addr} {v : Value} (hp : p.block < U.heap.size) (h : W.cell? p = some v ∧ Below U.heap.size U W) (b : Below W.heap.size W W') : W'.cell? p = some v ∧ Below U.heap.size U W' :=
  ⟨(b.cell (p := p) (Nat.lt_of_lt_of_le hp h.2.size)).trans h.1, h.2.trans (b.mono h.2.size)⟩
theorem held_ints {U W : World} {p : Addr} {v : Value} {k : IntKind} {A : Option Addr} {n : Nat} {xs : List Int} (h : W.cell? p = some v ∧ Below U.heap.size U W) (hX : Ints k U U.heap.size A n xs) : Ints k W W.heap.size A n xs :=
  (hX.below h.2).more h.2.size
theorem Ints.at {k : IntKind} {U W : World} {A : Option Addr} {n : Nat} {xs : List Int} (h : Ints k U U.heap.size A n xs) (b : Below U.heap.size U W) : Ints k W W.heap.size A n xs := (h.below b).more b.size
theorem map_set_int (k : IntKind) (xs : List Int) (i : Nat) (v : Int) : (xs.map (Value.int k)).set i (.int k v) = (xs.set i v).map (Value.int k) := by
  rw [List.map_set]

end Go.Proofs.Ytliconagelemdaa
