/- The law LibrarySound: its four ways joined. -/
import Derived.Test.YtliconagelemdaaLaw5A
import Derived.Test.YtliconagelemdaaLaw5B
import Derived.Test.YtliconagelemdaaLaw5C
import Derived.Test.YtliconagelemdaaLaw5D
namespace Go.Proofs.Ytliconagelemdaa
open Go.RowKit Go.Shelf

theorem librarySound_law (a0 : Option Addr) (len0 cap0 : Nat) (z0 : List Int) (a1 : Int) (a2 : Int) (a3 : Int) (a4 : Int) (w : World) (w0 : GoRow .i64 w a0 len0 cap0 z0) (w1 : (Lit.int .i64 a1).wf = true) (w2 : (Lit.int .i64 a2).wf = true) (w3 : (Lit.int .i64 a3).wf = true) (w4 : (Lit.int .i64 a4).wf = true) :
    Calls Try.prog 7 #[.slice a0 len0 cap0, .int .i64 a1, .int .i64 a2, .int .i64 a3, .int .i64 a4] w fun e w' => e = .returned (.bool true) ∧ Below w.heap.size w w' := by
  by_cases h1 : IntKind.u64.wrap a4 = rootL (namesZ (entsZ (z0.take len0) 24))
  · by_cases h2 : IntKind.u64.wrap a4 = rootL ((namesZ (entsZ (z0.take len0) 24)).take ((arZ a2 ((entsZ (z0.take len0) 24).length : Int)).toNat + 1))
    · exact librarySound_A a0 len0 cap0 z0 a1 a2 a3 a4 w w0 w1 w2 w3 w4 h1 h2
    · exact librarySound_B a0 len0 cap0 z0 a1 a2 a3 a4 w w0 w1 w2 w3 w4 h1 h2
  · by_cases h2 : IntKind.u64.wrap a4 = rootL ((namesZ (entsZ (z0.take len0) 24)).take ((arZ a2 ((entsZ (z0.take len0) 24).length : Int)).toNat + 1))
    · exact librarySound_C a0 len0 cap0 z0 a1 a2 a3 a4 w w0 w1 w2 w3 w4 h1 h2
    · exact librarySound_D a0 len0 cap0 z0 a1 a2 a3 a4 w w0 w1 w2 w3 w4 h1 h2
end Go.Proofs.Ytliconagelemdaa
