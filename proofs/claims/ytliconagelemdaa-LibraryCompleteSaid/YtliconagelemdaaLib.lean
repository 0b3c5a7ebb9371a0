/- Words for the library in memory: which blocks a call may change (Chg), and what a library is (LibAt). -/
import Derived.Test.YtliconagelemdaaMap
namespace Go.Proofs.Ytliconagelemdaa
open Go.RowKit Go.Shelf
set_option linter.unusedVariables false

/-- Of the blocks that were there only those in S may have changed. -/
structure Chg (S : Nat → Prop) (W W' : World) : Prop where
  os : W'.os = W.os
  tape : W'.tape = W.tape
  output : W'.output = W.output
  size : W.heap.size ≤ W'.heap.size
  block : ∀ k, k < W.heap.size → ¬ S k → W'.heap[k]? = W.heap[k]?

theorem Chg.refl (S : Nat → Prop) (W : World) : Chg S W W := ⟨rfl, rfl, rfl, Nat.le_refl _, fun _ _ _ => rfl⟩
theorem Chg.trans {S : Nat → Prop} {A B C : World} (h : Chg S A B) (k : Chg S B C) : Chg S A C :=
  ⟨k.os.trans h.os, k.tape.trans h.tape, k.output.trans h.output, Nat.le_trans h.size k.size, fun i hi hs => (k.block i (Nat.lt_of_lt_of_le hi h.size) hs).trans (h.block i hi hs)⟩
theorem Chg.below {S : Nat → Prop} {A B C : World} (h : Chg S A B) (k : Below B.heap.size B C) : Chg S A C :=
  h.trans ⟨k.os, k.tape, k.output, k.size, fun i hi _ => k.block i hi⟩
theorem Chg.mono {S S' : Nat → Prop} {A B : World} (h : Chg S A B) (hs : ∀ k, k < A.heap.size → S k → S' k) : Chg S' A B :=
  ⟨h.os, h.tape, h.output, h.size, fun i hi hn => h.block i hi fun e => hn (hs i hi e)⟩
theorem Chg.toBelow {S : Nat → Prop} {A B : World} (h : Chg S A B) {n : Nat} (hn : n ≤ A.heap.size) (hs : ∀ k, k < n → ¬ S k) : Below n A B :=
  ⟨h.os, h.tape, h.output, h.size, fun k hk => h.block k (by omega) (hs k hk)⟩
theorem Chg.grown {S : Nat → Prop} {A B C : World} {row : Option Nat} (h : Chg S A B) (hg : B.grownBy C row) (hr : ∀ k, row = some k → S k ∨ A.heap.size ≤ k) : Chg S A C :=
  ⟨hg.os.trans h.os, hg.tape.trans h.tape, hg.output.trans h.output, Nat.le_trans h.size hg.size, fun k hk hn => (hg.block k (Nat.lt_of_lt_of_le hk h.size) (fun e => by rcases hr k e.symm with h1 | h1; exact hn h1; omega)).trans (h.block k hk hn)⟩
theorem Chg.alloc {S : Nat → Prop} {A B : World} (h : Chg S A B) (o : Obj) : Chg S A (B.alloc o) := h.below ((Below.refl _ _).alloc (Nat.le_refl _) _)
theorem Chg.drew {S : Nat → Prop} {A B : World} (h : Chg S A B) : Chg S A B.drew := ⟨h.os, h.tape, h.output, h.size, h.block⟩
theorem Chg.setCell {S : Nat → Prop} {A B : World} (h : Chg S A B) {p : Addr} (hp : S p.block ∨ A.heap.size ≤ p.block) (u : Value) : Chg S A (B.setCell p u) :=
  ⟨h.os, h.tape, h.output, Nat.le_trans h.size (by simp [World.setCell]), fun k hk hn => (Below.heap_setCell B p u k (by rintro rfl; rcases hp with h1 | h1; exact hn h1; omega)).trans (h.block k hk hn)⟩

/-- What is owned from a block on is owned from every earlier one on. -/
theorem own_base {w : World} {base base' : Nat} {e : TypeId} {size n : Nat} {v : Value} {xs : List Value} (h : w.ownsRow base e size v n xs) (hb : base' ≤ base) : w.ownsRow base' e size v n xs := by
  refine ⟨h.1, ?_⟩
  rcases h.2 with h2 | ⟨g, cap, cur, hv, hg, r⟩
  · exact Or.inl h2
  · exact Or.inr ⟨g, cap, cur, hv, by omega, r⟩
theorem own_same {w w' : World} {base : Nat} {e : TypeId} {size n : Nat} {v : Value} {xs : List Value} (h : w.ownsRow base e size v n xs) (hb : ∀ g, v.ownBlock = some g → w'.heap[g]? = w.heap[g]?) : w'.ownsRow base e size v n xs := by
  refine ⟨h.1, ?_⟩
  rcases h.2 with h2 | ⟨g, cap, cur, hv, hg, hh, r⟩
  · exact Or.inl h2
  · exact Or.inr ⟨g, cap, cur, hv, hg, (hb g (by rw [hv]; rfl)).trans hh, r⟩
/-- An owned row does not lie in a block of another element type. -/
theorem own_type {w : World} {base : Nat} {e : TypeId} {size n : Nat} {v : Value} {xs : List Value} (h : w.ownsRow base e size v n xs) {g : Nat} (hg : v.ownBlock = some g) : ∃ cur, w.heap[g]? = some (.cells cur e (0, 0)) := by
  rcases h.2 with ⟨rfl, _⟩ | ⟨g', cap, cur, hv, _, hh, _⟩
  · simp [Value.ownBlock] at hg
  · subst hv
    obtain rfl : g' = g := by simpa [Value.ownBlock] using hg
    exact ⟨cur, hh⟩

/-- The slice value v holds the bytes zs, in a block of S. -/
def EntryAt (W : World) (S : Nat → Prop) (v : Value) (zs : List Int) : Prop :=
  W.ownsRow 0 5 1 v zs.length (zs.map (Value.int .u8)) ∧ ∀ g, v.ownBlock = some g → S g

theorem EntryAt.keep {W W' : World} {S : Nat → Prop} {v : Value} {zs : List Int} (h : EntryAt W S v zs) (hb : ∀ k, k < W.heap.size → S k → W'.heap[k]? = W.heap[k]?) : EntryAt W' S v zs :=
  ⟨own_same h.1 fun g hg => hb g (h.1.lt g hg).2 (h.2 g hg), h.2⟩
theorem EntryAt.mono {W : World} {S S' : Nat → Prop} {v : Value} {zs : List Int} (h : EntryAt W S v zs) (hs : ∀ k, k < W.heap.size → S k → S' k) : EntryAt W S' v zs :=
  ⟨h.1, fun g hg => hs g (h.1.lt g hg).2 (h.2 g hg)⟩

/-- The names of entries. -/
def namesZ (es : List (List Int)) : List Int := es.map nameZ
theorem namesZ_length (es : List (List Int)) : (namesZ es).length = es.length := by simp [namesZ]

/-- Which roots the map has: all that it has are right, and it has those of the first m entries. -/
structure MapOK (es : List (List Int)) (m : Nat) (M : Int → Int → Option Int) : Prop where
  leaf : ∀ i : Nat, i < m → M i 1 ≠ none
  right : ∀ a b v, M a b = some v → ∃ s n : Nat, a = s ∧ b = n ∧ 1 ≤ n ∧ s + n ≤ es.length ∧ v = rootL (((namesZ es).drop s).take n)

/-- Block lb is a library with the entries es, whose map has the roots of the first m entries; its memory lies in S. -/
structure LibW (W : World) (S : Nat → Prop) (lb : Nat) (es : List (List Int)) (m : Nat) (A : Option Addr) (c : Nat) (vs : List Value) (mb : Nat) (M : Int → Int → Option Int) : Prop where
  blk : W.heap[lb]? = some (.cells #[.slice A es.length c, .map (some mb)] 63 (0, 0))
  inS : S lb
  row : W.ownsRow 0 39 1 (.slice A es.length c) es.length vs
  rowS : ∀ g, (Value.slice A es.length c).ownBlock = some g → S g
  map : RootMap W mb M
  mapS : S mb
  ent : ∀ i, i < es.length → ∃ v, vs[i]? = some v ∧ EntryAt W S v (es[i]?.getD [])
  byt : ∀ e ∈ es, Byt e ∧ e.length ≤ 65536
  few : es.length ≤ 4096
  ok : MapOK es m M

def LibAt (W : World) (S : Nat → Prop) (lb : Nat) (es : List (List Int)) : Prop := ∃ A c vs mb M, LibW W S lb es es.length A c vs mb M

theorem LibW.lt {W : World} {S : Nat → Prop} {lb : Nat} {es : List (List Int)} {m : Nat} {A : Option Addr} {c : Nat} {vs : List Value} {mb : Nat} {M : Int → Int → Option Int} (h : LibW W S lb es m A c vs mb M) : lb < W.heap.size := (Array.getElem?_eq_some_iff.1 h.blk).1

theorem LibW.keep {W W' : World} {S : Nat → Prop} {lb : Nat} {es : List (List Int)} {m : Nat} {A : Option Addr} {c : Nat} {vs : List Value} {mb : Nat} {M : Int → Int → Option Int} (h : LibW W S lb es m A c vs mb M)
    (hz : W.heap.size ≤ W'.heap.size) (hb : ∀ k, k < W.heap.size → S k → W'.heap[k]? = W.heap[k]?) : LibW W' S lb es m A c vs mb M where
  blk := (hb lb h.lt h.inS).trans h.blk
  inS := h.inS
  row := by
    refine ⟨h.row.1, ?_⟩
    rcases h.row.2 with h2 | ⟨g, cap, cur, hv, hg, hh, r⟩
    · exact Or.inl h2
    · exact Or.inr ⟨g, cap, cur, hv, hg, (hb g (Array.getElem?_eq_some_iff.1 hh).1 (h.rowS g (by rw [hv]; rfl))).trans hh, r⟩
  rowS := h.rowS
  map := h.map.same (hb mb h.map.lt h.mapS)
  mapS := h.mapS
  ent := fun i hi => by
    obtain ⟨v, h1, h2⟩ := h.ent i hi
    exact ⟨v, h1, h2.keep hb⟩
  byt := h.byt
  few := h.few
  ok := h.ok

theorem LibW.mono {W : World} {S S' : Nat → Prop} {lb : Nat} {es : List (List Int)} {m : Nat} {A : Option Addr} {c : Nat} {vs : List Value} {mb : Nat} {M : Int → Int → Option Int} (h : LibW W S lb es m A c vs mb M)
    (hs : ∀ k, k < W.heap.size → S k → S' k) : LibW W S' lb es m A c vs mb M where
  blk := h.blk
  inS := hs _ h.lt h.inS
  row := h.row
  rowS := fun g hg => hs g (h.row.lt g hg).2 (h.rowS g hg)
  map := h.map
  mapS := hs _ h.map.lt h.mapS
  ent := fun i hi => by
    obtain ⟨v, h1, h2⟩ := h.ent i hi
    exact ⟨v, h1, h2.mono hs⟩
  byt := h.byt
  few := h.few
  ok := h.ok

theorem LibW.below {W W' : World} {S : Nat → Prop} {lb : Nat} {es : List (List Int)} {m : Nat} {A : Option Addr} {c : Nat} {vs : List Value} {mb : Nat} {M : Int → Int → Option Int} (h : LibW W S lb es m A c vs mb M) (b : Below W.heap.size W W') : LibW W' S lb es m A c vs mb M :=
  h.keep b.size fun k hk _ => b.block k hk
theorem LibAt.keep {W W' : World} {S : Nat → Prop} {lb : Nat} {es : List (List Int)} (h : LibAt W S lb es) (hz : W.heap.size ≤ W'.heap.size) (hb : ∀ k, k < W.heap.size → S k → W'.heap[k]? = W.heap[k]?) : LibAt W' S lb es := by
  obtain ⟨A, c, vs, mb, M, h⟩ := h
  exact ⟨A, c, vs, mb, M, h.keep hz hb⟩
theorem LibAt.below {W W' : World} {S : Nat → Prop} {lb : Nat} {es : List (List Int)} (h : LibAt W S lb es) (b : Below W.heap.size W W') : LibAt W' S lb es := h.keep b.size fun k hk _ => b.block k hk
theorem LibAt.mono {W : World} {S S' : Nat → Prop} {lb : Nat} {es : List (List Int)} (h : LibAt W S lb es) (hs : ∀ k, k < W.heap.size → S k → S' k) : LibAt W S' lb es := by
  obtain ⟨A, c, vs, mb, M, h⟩ := h
  exact ⟨A, c, vs, mb, M, h.mono hs⟩
theorem LibAt.few {W : World} {S : Nat → Prop} {lb : Nat} {es : List (List Int)} (h : LibAt W S lb es) : es.length ≤ 4096 := by
  obtain ⟨A, c, vs, mb, M, h⟩ := h
  exact h.few

/-- The two cells of a library. -/
theorem LibW.cell0 {W : World} {S : Nat → Prop} {lb : Nat} {es : List (List Int)} {m : Nat} {A : Option Addr} {c : Nat} {vs : List Value} {mb : Nat} {M : Int → Int → Option Int} (h : LibW W S lb es m A c vs mb M) : W.cell? ⟨lb, 0, none⟩ = some (.slice A es.length c) := by
  simp [World.cell?, h.blk]
theorem LibW.cell1 {W : World} {S : Nat → Prop} {lb : Nat} {es : List (List Int)} {m : Nat} {A : Option Addr} {c : Nat} {vs : List Value} {mb : Nat} {M : Int → Int → Option Int} (h : LibW W S lb es m A c vs mb M) : W.cell? ⟨lb, 1, none⟩ = some (.map (some mb)) := by
  simp [World.cell?, h.blk]
theorem LibW.frozen {W : World} {S : Nat → Prop} {lb : Nat} {es : List (List Int)} {m : Nat} {A : Option Addr} {c : Nat} {vs : List Value} {mb : Nat} {M : Int → Int → Option Int} (h : LibW W S lb es m A c vs mb M) (i : Nat) : W.frozen? ⟨lb, i, none⟩ = false := by
  simp [World.frozen?, h.blk]

end Go.Proofs.Ytliconagelemdaa
