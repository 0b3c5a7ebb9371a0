/- The walk of Path: it returns the path. -/
import Derived.Laws.EntriesVeiled
import Derived.Test.YtliconagelemdaaWalkD
namespace Go.Proofs.Ytliconagelemdaa
open Go.RowKit Go.Shelf
set_option linter.unusedVariables false

theorem pathWalk_int (S : Nat → Prop) (lb : Nat) (es : List (List Int)) (w : World) (hL : LibAt w S lb es) (Bl Bp Bw : Nat) (hBp : w.heap.size ≤ Bp) (n i start : Nat) (sI : Int) (hsI : sI = (start : Int)) (acc : List Int) (W : World) (hC : Collects w W Bl Bp Bw lb 64 (pathFn Bl Bp Bw) acc) (h1 : 1 ≤ n) (h2 : i < n) (h3 : start + n ≤ es.length) (h4 : acc.length + n ≤ 10000) :
    Calls Try.prog 34 #[.int .i64 (i : Int), .int .i64 sI, .int .i64 (n : Int), .pointer (some ⟨Bw, 0, none⟩), .pointer (some ⟨Bp, 0, none⟩), .pointer (some ⟨Bl, 0, none⟩)] W
      (WalkPost w Bl Bp Bw lb 64 (pathFn Bl Bp Bw) (acc ++ pathL (partZ es start n) i)) := by
  subst hsI
  exact pathWalk_any S lb es w hL Bl Bp Bw hBp n i start acc W hC h1 h2 h3 h4

theorem coll_new (w : World) (lb : Nat) (tw : TypeId) (fv : Value) :
    Collects w (((w.alloc (.cells #[.pointer (some ⟨lb, 0, none⟩)] 27)).alloc (.cells #[.slice none 0 0] 25)).alloc (.cells #[fv] tw)) w.heap.size (w.heap.size + 1) (w.heap.size + 1 + 1) lb tw fv [] := by
  have b1 := Boxed.new w 27 (.pointer (some ⟨lb, 0, none⟩))
  have b2 := Boxed.new (w.alloc (.cells #[.pointer (some ⟨lb, 0, none⟩)] 27)) 25 (.slice none 0 0)
  have b3 := Boxed.new ((w.alloc (.cells #[.pointer (some ⟨lb, 0, none⟩)] 27)).alloc (.cells #[.slice none 0 0] 25)) tw fv
  simp only [World.size_alloc] at b2 b3
  exact ⟨none, 0, (((Below.refl _ w).alloc (Nat.le_refl _) _).alloc (by simp) _).alloc (by simp; omega) _, (b1.alloc _).alloc _, b3, b2.alloc _, World.ownsRow_nil _ _ _ _⟩

/-- A list of hashes in new memory is returned, and an error code. -/
def ListPost (l : List Int) (e0 : Int) (w : World) (e : Ending) (w' : World) : Prop :=
  ∃ A c, e = .returned (.tuple #[.slice A l.length c, .int .i64 e0]) ∧ w'.ownsRow w.heap.size 40 1 (.slice A l.length c) l.length (l.map (Value.int .u64)) ∧ Below w.heap.size w w'

set_option maxRecDepth 100000 in
theorem Path_yes (S : Nat → Prop) (lb : Nat) (es : List (List Int)) (i n : Nat) (w : World) (hL : LibAt w S lb es) (hn : n ≤ es.length) (hi : i < n) :
    Calls Try.prog 12 #[.pointer (some ⟨lb, 0, none⟩), .int .i64 (i : Int), .int .i64 (n : Int)] w (ListPost (pathL (partZ es 0 n) i) 0 w) := by
  have hfew := hL.few
  obtain ⟨A0, c0, hc, hlt⟩ : ∃ A c, w.cell? ⟨lb, 0, none⟩ = some (.slice A es.length c) ∧ lb < w.heap.size := by
    obtain ⟨A0, c0, vs0, mb0, M0, h0⟩ := hL
    exact ⟨A0, c0, h0.cell0, h0.lt⟩
  have hd1 : decide ((n : Int) < 1) = false := by simp; omega
  have hd2 : decide (es.length < n) = false := by simp; omega
  have hd3 : decide ((i : Int) < 0) = false := by simp
  have hd4 : decide (n ≤ i) = false := by simp; omega
  go_enter Try.func12, Try.ntmps12
  go_wp2_with fail
  have hC := coll_new w lb 64 (pathFn w.heap.size (w.heap.size + 1) (w.heap.size + 1 + 1))
  refine (pathWalk_int S lb es w hL w.heap.size (w.heap.size + 1) (w.heap.size + 1 + 1) (by omega) n i 0 0 rfl [] _ hC (by omega) hi (by omega) (by simp; omega)).mono ?_
  rintro e W1 ⟨⟨v0, rfl⟩, A, c, hK⟩
  rw [List.nil_append] at hK
  have hcp := hK.bp.cell
  obtain ⟨l, hl⟩ : ∃ l, pathL (partZ es 0 n) i = l := ⟨_, rfl⟩
  rw [hl] at hK hcp
  have HK := Lib.hid hK
  have HL := Lib.hid hl
  clear hK hl
  go_wp2_with fail
  go_ret2
  rw [HL.out]
  exact ⟨A, c, rfl, HK.out.row, HK.out.below⟩

set_option maxRecDepth 100000 in
theorem Path_no (S : Nat → Prop) (lb : Nat) (es : List (List Int)) (i n : Int) (w : World) (hL : LibAt w S lb es) (hn : n < 1 ∨ (es.length : Int) < n ∨ i < 0 ∨ n ≤ i) :
    Calls Try.prog 12 #[.pointer (some ⟨lb, 0, none⟩), .int .i64 i, .int .i64 n] w (ListPost [] 5 w) := by
  obtain ⟨A0, c0, hc, hlt⟩ : ∃ A c, w.cell? ⟨lb, 0, none⟩ = some (.slice A es.length c) ∧ lb < w.heap.size := by
    obtain ⟨A0, c0, vs0, mb0, M0, h0⟩ := hL
    exact ⟨A0, c0, h0.cell0, h0.lt⟩
  have hfin : ∀ o : Obj, ListPost [] 5 w (.returned (.tuple #[.slice none 0 0, .int .i64 5])) (w.alloc o) := fun o => ⟨none, 0, rfl, World.ownsRow_nil _ _ _ _, (Below.refl _ w).alloc (Nat.le_refl _) _⟩
  have HF := Lib.hid hfin
  clear hfin
  by_cases h1 : n < 1
  · have hd1 : decide (n < 1) = true := by simpa using h1
    go_enter Try.func12, Try.ntmps12
    go_wp2
    go_ret2
    exact HF.out _
  · have hd1 : decide (n < 1) = false := by simpa using h1
    by_cases h2 : (es.length : Int) < n
    · have hd2 : decide ((es.length : Int) < n) = true := by simpa using h2
      go_enter Try.func12, Try.ntmps12
      go_wp2
      go_ret2
      exact HF.out _
    · have hd2 : decide ((es.length : Int) < n) = false := by simpa using h2
      by_cases h3 : i < 0
      · have hd3 : decide (i < 0) = true := by simpa using h3
        go_enter Try.func12, Try.ntmps12
        go_wp2
        go_ret2
        exact HF.out _
      · have hd3 : decide (i < 0) = false := by simpa using h3
        have hd4 : decide (n ≤ i) = true := by simp; omega
        go_enter Try.func12, Try.ntmps12
        go_wp2
        go_ret2
        exact HF.out _
end Go.Proofs.Ytliconagelemdaa
