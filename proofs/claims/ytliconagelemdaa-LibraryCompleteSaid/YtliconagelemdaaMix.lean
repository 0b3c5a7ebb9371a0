/- The contract of hash.mix and of the reference's mix: one plain function on integers, the world unchanged. -/
import Derived.WalkKit
import Derived.WalkSpells
import Derived.WalkLawsBesides
import Derived.Test.YtliconagelemdaaProg
import Derived.Test.YtliconagelemdaaPlain
namespace Go.Proofs.Ytliconagelemdaa
open Go.RowKit

theorem wrap_tdiv (x : Int) : IntKind.u64.wrap ((IntKind.u64.wrap x).tdiv 4294967296) = IntKind.u64.wrap x / 4294967296 := by
  have h := wrap_U x
  unfold U at h
  rw [Int.tdiv_eq_ediv_of_nonneg h.1]
  exact wrap_of_U (by unfold U; omega)

theorem mix_any (s x : Int) (w : World) :
    Calls Try.prog 41 #[.int .u64 s, .int .u64 x] w fun e w' => e = .returned (.int .u64 (mixZ s x)) ∧ w = w' := by
  go_enter Try.func41, Try.ntmps41
  go_wp2
  go_ret
  exact ⟨rfl, rfl⟩

theorem refMix_any (s x : Int) (w : World) :
    Calls Try.prog 56 #[.int .u64 s, .int .u64 x] w fun e w' => e = .returned (.int .u64 (mixZ s x)) ∧ w = w' := by
  go_enter Try.func56, Try.ntmps56
  go_wp2
  go_ret
  refine ⟨?_, rfl⟩
  show Ending.returned (Value.int .u64 (bits .xor .u64 _ (IntKind.u64.wrap ((IntKind.u64.wrap _).tdiv 4294967296)))) = _
  rw [wrap_tdiv]
  rfl
end Go.Proofs.Ytliconagelemdaa
