/-
  No cell of these rows narrows 'for every input' (looked for: loops, veiled, ifaces, maps, wideKeys, modest, calm, conditions, laid).
  DERIVED. THE GIVEN ROWS OF THIS SEAT. 6 by the template 'for every input the law returns true; each argument reads behind the call as it read before'; 0 by the template 'total and deterministic' (their statements: YtliconagelemdaaTotals.lean).
  GIVEN WITH THE SEED: the statements are not yours to turn. If you find one false, say at which input.
  Laid BY PROGRAM, IN A SANDBOX (cutbox-rows.mjs): the forced cells as the released guide's own fill.sh prints them over the translation 2f7997b2e0286ef5… (all of the seat's roots in one cut). By AI agents, Wed Nov 11 2026. No macro, syntax, notation, axiom, sorry.
-/
import Derived.Test.YtliconagelemdaaChecked
import GoSem.Claim
import GoSem.ClaimJoined
import GoSem.ClaimMapViews
import Derived.JoinedTies
import Derived.KernelRfl
namespace Go.Proofs.Ytliconagelemdaa
/- THE CELL 'sum', in the pinned program and in every row, IS THE sha256 OF THE DUMP (.gsa) THAT YtliconagelemdaaProg.lean LOADS. Nothing in Lean hashes anything: it is a label: what it is worth is what the hold of that sum in a sandbox is worth. -/
noncomputable def Try.pinned : Pinned := { name := "ytliconagelemdaa", sum := "2f7997b2e0286ef5a517647aedd271ac2a20e08eec3787b98f35cd77c5772ad1", checked := Try.checked }
namespace Rows
def none {H : Type} : Left H := { results := [], args := [] }

/-- 'enthymemelaw37.LibraryProofs': WHATEVER THE INPUT: true; the input reads as it did. -/
def libraryProofsSpec : ChangeSpec := { name := "libraryProofs", fn := fun _ => fun
  | [d1, d2, d3] => { results := [.lit (.bool true)], args := [d1, d2, d3] }
  | _ => none }
def libraryProofsRow : OpenClaim := { program := "ytliconagelemdaa", sum := "2f7997b2e0286ef5a517647aedd271ac2a20e08eec3787b98f35cd77c5772ad1", func := "enthymeme/enthymemelaw37.LibraryProofs", spec := "libraryProofs", unfollowed := true, recurses := true, plainKeys := false, apart := false }
def LibraryProofsSaid : Prop := libraryProofsRow.holds Try.pinned (OpenSpec.ofChange libraryProofsSpec)

/-- ITS FALSE NEIGHBOUR: 'it returns false'. Refute it at one input. -/
def libraryProofsWrong : ChangeSpec := { name := "libraryProofs", fn := fun _ => fun
  | [d1, d2, d3] => { results := [.lit (.bool false)], args := [d1, d2, d3] }
  | _ => none }
def LibraryProofsWrongFalsely : Prop := libraryProofsRow.holds Try.pinned (OpenSpec.ofChange libraryProofsWrong)

/-- 'enthymemelaw37.LibraryJoined': WHATEVER THE INPUT: true; the input reads as it did. -/
def libraryJoinedSpec : ChangeSpec := { name := "libraryJoined", fn := fun _ => fun
  | [d1, d2, d3, d4] => { results := [.lit (.bool true)], args := [d1, d2, d3, d4] }
  | _ => none }
def libraryJoinedRow : OpenClaim := { program := "ytliconagelemdaa", sum := "2f7997b2e0286ef5a517647aedd271ac2a20e08eec3787b98f35cd77c5772ad1", func := "enthymeme/enthymemelaw37.LibraryJoined", spec := "libraryJoined", unfollowed := true, recurses := true, plainKeys := false, apart := false }
def LibraryJoinedSaid : Prop := libraryJoinedRow.holds Try.pinned (OpenSpec.ofChange libraryJoinedSpec)

/-- ITS FALSE NEIGHBOUR: 'it returns false'. Refute it at one input. -/
def libraryJoinedWrong : ChangeSpec := { name := "libraryJoined", fn := fun _ => fun
  | [d1, d2, d3, d4] => { results := [.lit (.bool false)], args := [d1, d2, d3, d4] }
  | _ => none }
def LibraryJoinedWrongFalsely : Prop := libraryJoinedRow.holds Try.pinned (OpenSpec.ofChange libraryJoinedWrong)

/-- 'enthymemelaw37.LibraryRoots': WHATEVER THE INPUT: true; the input reads as it did. -/
def libraryRootsSpec : ChangeSpec := { name := "libraryRoots", fn := fun _ => fun
  | [d1, d2] => { results := [.lit (.bool true)], args := [d1, d2] }
  | _ => none }
def libraryRootsRow : OpenClaim := { program := "ytliconagelemdaa", sum := "2f7997b2e0286ef5a517647aedd271ac2a20e08eec3787b98f35cd77c5772ad1", func := "enthymeme/enthymemelaw37.LibraryRoots", spec := "libraryRoots", unfollowed := true, recurses := true, plainKeys := false, apart := false }
def LibraryRootsSaid : Prop := libraryRootsRow.holds Try.pinned (OpenSpec.ofChange libraryRootsSpec)

/-- ITS FALSE NEIGHBOUR: 'it returns false'. Refute it at one input. -/
def libraryRootsWrong : ChangeSpec := { name := "libraryRoots", fn := fun _ => fun
  | [d1, d2] => { results := [.lit (.bool false)], args := [d1, d2] }
  | _ => none }
def LibraryRootsWrongFalsely : Prop := libraryRootsRow.holds Try.pinned (OpenSpec.ofChange libraryRootsWrong)

/-- 'enthymemelaw37.LibraryEntries': WHATEVER THE INPUT: true; the input reads as it did. -/
def libraryEntriesSpec : ChangeSpec := { name := "libraryEntries", fn := fun _ => fun
  | [d1, d2] => { results := [.lit (.bool true)], args := [d1, d2] }
  | _ => none }
def libraryEntriesRow : OpenClaim := { program := "ytliconagelemdaa", sum := "2f7997b2e0286ef5a517647aedd271ac2a20e08eec3787b98f35cd77c5772ad1", func := "enthymeme/enthymemelaw37.LibraryEntries", spec := "libraryEntries", unfollowed := true, recurses := true, plainKeys := false, apart := false }
def LibraryEntriesSaid : Prop := libraryEntriesRow.holds Try.pinned (OpenSpec.ofChange libraryEntriesSpec)

/-- ITS FALSE NEIGHBOUR: 'it returns false'. Refute it at one input. -/
def libraryEntriesWrong : ChangeSpec := { name := "libraryEntries", fn := fun _ => fun
  | [d1, d2] => { results := [.lit (.bool false)], args := [d1, d2] }
  | _ => none }
def LibraryEntriesWrongFalsely : Prop := libraryEntriesRow.holds Try.pinned (OpenSpec.ofChange libraryEntriesWrong)

/-- 'enthymemelaw37.LibrarySound': WHATEVER THE INPUT: true; the input reads as it did. -/
def librarySoundSpec : ChangeSpec := { name := "librarySound", fn := fun _ => fun
  | [d1, d2, d3, d4, d5] => { results := [.lit (.bool true)], args := [d1, d2, d3, d4, d5] }
  | _ => none }
def librarySoundRow : OpenClaim := { program := "ytliconagelemdaa", sum := "2f7997b2e0286ef5a517647aedd271ac2a20e08eec3787b98f35cd77c5772ad1", func := "enthymeme/enthymemelaw37.LibrarySound", spec := "librarySound", unfollowed := true, recurses := true, plainKeys := false, apart := false }
def LibrarySoundSaid : Prop := librarySoundRow.holds Try.pinned (OpenSpec.ofChange librarySoundSpec)

/-- ITS FALSE NEIGHBOUR: 'it returns false'. Refute it at one input. -/
def librarySoundWrong : ChangeSpec := { name := "librarySound", fn := fun _ => fun
  | [d1, d2, d3, d4, d5] => { results := [.lit (.bool false)], args := [d1, d2, d3, d4, d5] }
  | _ => none }
def LibrarySoundWrongFalsely : Prop := librarySoundRow.holds Try.pinned (OpenSpec.ofChange librarySoundWrong)

/-- 'enthymemelaw37.LibraryComplete': WHATEVER THE INPUT: true; the input reads as it did. -/
def libraryCompleteSpec : ChangeSpec := { name := "libraryComplete", fn := fun _ => fun
  | [d1, d2] => { results := [.lit (.bool true)], args := [d1, d2] }
  | _ => none }
def libraryCompleteRow : OpenClaim := { program := "ytliconagelemdaa", sum := "2f7997b2e0286ef5a517647aedd271ac2a20e08eec3787b98f35cd77c5772ad1", func := "enthymeme/enthymemelaw37.LibraryComplete", spec := "libraryComplete", unfollowed := true, recurses := true, plainKeys := false, apart := false }
def LibraryCompleteSaid : Prop := libraryCompleteRow.holds Try.pinned (OpenSpec.ofChange libraryCompleteSpec)

/-- ITS FALSE NEIGHBOUR: 'it returns false'. Refute it at one input. -/
def libraryCompleteWrong : ChangeSpec := { name := "libraryComplete", fn := fun _ => fun
  | [d1, d2] => { results := [.lit (.bool false)], args := [d1, d2] }
  | _ => none }
def LibraryCompleteWrongFalsely : Prop := libraryCompleteRow.holds Try.pinned (OpenSpec.ofChange libraryCompleteWrong)

/- THE SECOND FORM. 'bulk': how many values and letters a reading holds, each counted each time it is reached (what is shared counts as often as it is met; a slice's spare places count too). A statement '..UptoSaid' is the law's where the arguments, and the package variables that the reading takes, are together of bulk at most 1048576: NARROWER than '..Said'. Prove '..Said' where nothing that the law and all that it calls make is longer than what came in: it says more and counts as full. Else prove '..UptoSaid'. A law counts once. -/
mutual
def uptoBulk {H : Type} : DataW H → Nat
  | .lit (.string bytes) => bytes.length + 1
  | .lit _ => 1
  | .nil => 1
  | .ptr d => uptoBulk d + 1
  | .slice elems spare => uptoBulkAll elems + uptoBulkAll spare + 1
  | .agg parts => uptoBulkAll parts + 1
  | .iface _ d => uptoBulk d + 1
  | .map entries => uptoBulkEntries entries + 1
  | .held _ => 1
def uptoBulkAll {H : Type} : List (DataW H) → Nat
  | [] => 0
  | d :: r => uptoBulk d + uptoBulkAll r
def uptoBulkEntries {H : Type} : List (Lit × DataW H) → Nat
  | [] => 0
  | x :: r => uptoBulkEntry x + uptoBulkEntries r
def uptoBulkEntry {H : Type} : Lit × DataW H → Nat
  | (.string bytes, d) => bytes.length + uptoBulk d + 1
  | (_, d) => uptoBulk d + 1
 end
def uptoSmall : (H : Type) → List (DataW H) → Bool := fun _ ds => decide (uptoBulkAll ds ≤ 1048576)
def OpenSpec.upto (s : _root_.Go.ChangeSpec) : _root_.Go.OpenSpec := { _root_.Go.OpenSpec.ofChange s with cond := some uptoSmall }

/-- 'enthymemelaw37.LibraryProofs', WHERE WHAT IT READS IS OF BULK AT MOST 1048576: true; the input reads as it did. -/
def libraryProofsUptoRow : OpenClaim := { program := "ytliconagelemdaa", sum := "2f7997b2e0286ef5a517647aedd271ac2a20e08eec3787b98f35cd77c5772ad1", func := "enthymeme/enthymemelaw37.LibraryProofs", spec := "libraryProofs", unfollowed := true, recurses := true, plainKeys := false, apart := false, narrowed := true }
def LibraryProofsUptoSaid : Prop := libraryProofsUptoRow.holds Try.pinned (OpenSpec.upto libraryProofsSpec)

/-- 'enthymemelaw37.LibraryJoined', WHERE WHAT IT READS IS OF BULK AT MOST 1048576: true; the input reads as it did. -/
def libraryJoinedUptoRow : OpenClaim := { program := "ytliconagelemdaa", sum := "2f7997b2e0286ef5a517647aedd271ac2a20e08eec3787b98f35cd77c5772ad1", func := "enthymeme/enthymemelaw37.LibraryJoined", spec := "libraryJoined", unfollowed := true, recurses := true, plainKeys := false, apart := false, narrowed := true }
def LibraryJoinedUptoSaid : Prop := libraryJoinedUptoRow.holds Try.pinned (OpenSpec.upto libraryJoinedSpec)

/-- 'enthymemelaw37.LibraryRoots', WHERE WHAT IT READS IS OF BULK AT MOST 1048576: true; the input reads as it did. -/
def libraryRootsUptoRow : OpenClaim := { program := "ytliconagelemdaa", sum := "2f7997b2e0286ef5a517647aedd271ac2a20e08eec3787b98f35cd77c5772ad1", func := "enthymeme/enthymemelaw37.LibraryRoots", spec := "libraryRoots", unfollowed := true, recurses := true, plainKeys := false, apart := false, narrowed := true }
def LibraryRootsUptoSaid : Prop := libraryRootsUptoRow.holds Try.pinned (OpenSpec.upto libraryRootsSpec)

/-- 'enthymemelaw37.LibraryEntries', WHERE WHAT IT READS IS OF BULK AT MOST 1048576: true; the input reads as it did. -/
def libraryEntriesUptoRow : OpenClaim := { program := "ytliconagelemdaa", sum := "2f7997b2e0286ef5a517647aedd271ac2a20e08eec3787b98f35cd77c5772ad1", func := "enthymeme/enthymemelaw37.LibraryEntries", spec := "libraryEntries", unfollowed := true, recurses := true, plainKeys := false, apart := false, narrowed := true }
def LibraryEntriesUptoSaid : Prop := libraryEntriesUptoRow.holds Try.pinned (OpenSpec.upto libraryEntriesSpec)

/-- 'enthymemelaw37.LibrarySound', WHERE WHAT IT READS IS OF BULK AT MOST 1048576: true; the input reads as it did. -/
def librarySoundUptoRow : OpenClaim := { program := "ytliconagelemdaa", sum := "2f7997b2e0286ef5a517647aedd271ac2a20e08eec3787b98f35cd77c5772ad1", func := "enthymeme/enthymemelaw37.LibrarySound", spec := "librarySound", unfollowed := true, recurses := true, plainKeys := false, apart := false, narrowed := true }
def LibrarySoundUptoSaid : Prop := librarySoundUptoRow.holds Try.pinned (OpenSpec.upto librarySoundSpec)

/-- 'enthymemelaw37.LibraryComplete', WHERE WHAT IT READS IS OF BULK AT MOST 1048576: true; the input reads as it did. -/
def libraryCompleteUptoRow : OpenClaim := { program := "ytliconagelemdaa", sum := "2f7997b2e0286ef5a517647aedd271ac2a20e08eec3787b98f35cd77c5772ad1", func := "enthymeme/enthymemelaw37.LibraryComplete", spec := "libraryComplete", unfollowed := true, recurses := true, plainKeys := false, apart := false, narrowed := true }
def LibraryCompleteUptoSaid : Prop := libraryCompleteUptoRow.holds Try.pinned (OpenSpec.upto libraryCompleteSpec)

end Rows
end Go.Proofs.Ytliconagelemdaa
