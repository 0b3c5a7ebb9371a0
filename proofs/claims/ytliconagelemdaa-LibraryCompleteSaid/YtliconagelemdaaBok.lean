/- Byte rows that are written over, beside a library that is not. -/
import Derived.Test.YtliconagelemdaaLaw2L
namespace Go.Proofs.Ytliconagelemdaa
open Go.RowKit Go.Shelf
set_option linter.unusedVariables false

def Btw (a b k : Nat) : Prop := a ≤ k ∧ k < b

/-- The slice holds bytes that may be written, in a block of S. -/
def Bytes8 (W : World) (S : Nat → Prop) (A : Option Addr) (n : Nat) : Prop :=
  0 < n → ∃ g, A = some ⟨g, 0, none⟩ ∧ S g ∧ ∀ k, k < n → ∃ z, W.cell? ⟨g, k, none⟩ = some (.int .u8 z) ∧ W.frozen? ⟨g, k, none⟩ = false

theorem Bytes8.set {W : World} {S : Nat → Prop} {A : Option Addr} {n : Nat} (h : Bytes8 W S A n) {p : Addr} {z0 : Int} (hp : W.cell? p = some (.int .u8 z0)) (z : Int) : Bytes8 (W.setCell p (.int .u8 z)) S A n := fun hn => by
  obtain ⟨g, hA, hS, hc⟩ := h hn
  refine ⟨g, hA, hS, fun k hk => ?_⟩
  obtain ⟨y, h1, h2⟩ := hc k hk
  rw [World.frozen?_setCell]
  by_cases he : p = ⟨g, k, none⟩
  · subst he
    exact ⟨z, World.cell?_setCell_same _ _ _ hp, h2⟩
  · exact ⟨y, (World.cell?_setCell_other _ _ _ _ he).trans h1, h2⟩
theorem Bytes8.keep {W W' : World} {S : Nat → Prop} {A : Option Addr} {n : Nat} (h : Bytes8 W S A n) (hb : ∀ k, k < W.heap.size → S k → W'.heap[k]? = W.heap[k]?) : Bytes8 W' S A n := fun hn => by
  obtain ⟨g, hA, hS, hc⟩ := h hn
  refine ⟨g, hA, hS, fun k hk => ?_⟩
  obtain ⟨y, h1, h2⟩ := hc k hk
  have hlt : g < W.heap.size := cell_lt h1
  exact ⟨y, (World.cell?_of_block (a := ⟨g, k, none⟩) (hb g hlt hS)).trans h1, (World.frozen?_of_block (a := ⟨g, k, none⟩) (hb g hlt hS)).trans h2⟩

/-- A slice of such slices. -/
def BOK (W : World) (S : Nat → Prop) (A : Option Addr) (N : Nat) : Prop :=
  ∀ j, j < N → ∃ gb A' n' c', A = some ⟨gb, 0, none⟩ ∧ S gb ∧ W.cell? ⟨gb, j, none⟩ = some (.slice A' n' c') ∧ n' ≤ 65536 ∧ n' ≤ c' ∧ c' ≤ maxLen ∧ Bytes8 W S A' n'

theorem slice_at_other {W : World} {p q : Addr} {A : Option Addr} {n c : Nat} {z0 : Int} (hq : W.cell? q = some (.slice A n c)) (hp : W.cell? p = some (.int .u8 z0)) (v : Value) : (W.setCell p v).cell? q = some (.slice A n c) :=
  (World.cell?_setCell_other _ _ _ _ (fun e => by rw [e, hq] at hp; cases hp)).trans hq

theorem BOK.set {W : World} {S : Nat → Prop} {A : Option Addr} {N : Nat} (h : BOK W S A N) {p : Addr} {z0 : Int} (hp : W.cell? p = some (.int .u8 z0)) (z : Int) : BOK (W.setCell p (.int .u8 z)) S A N := fun j hj => by
  obtain ⟨gb, A', n', c', h1, h2, h3, h4, h5, h6, h7⟩ := h j hj
  exact ⟨gb, A', n', c', h1, h2, slice_at_other h3 hp _, h4, h5, h6, h7.set hp z⟩
theorem BOK.keep {W W' : World} {S : Nat → Prop} {A : Option Addr} {N : Nat} (h : BOK W S A N) (hb : ∀ k, k < W.heap.size → S k → W'.heap[k]? = W.heap[k]?) : BOK W' S A N := fun j hj => by
  obtain ⟨gb, A', n', c', h1, h2, h3, h4, h5, h6, h7⟩ := h j hj
  exact ⟨gb, A', n', c', h1, h2, (World.cell?_of_block (a := ⟨gb, j, none⟩) (hb gb (cell_lt h3) h2)).trans h3, h4, h5, h6, h7.keep hb⟩

theorem own_bytes8 {W : World} {S : Nat → Prop} {base : Nat} {A : Option Addr} {n c : Nat} {zs : List Int} (h : W.ownsRow base 5 1 (.slice A n c) n (zs.map (Value.int .u8))) (hS : ∀ g, (Value.slice A n c).ownBlock = some g → S g) : Bytes8 W S A n := fun hn => by
  have hI := Ints.of_own h
  obtain ⟨g, cap, hv, hb, hlt⟩ := h.form hn
  have hA : A = some ⟨g, 0, none⟩ := by injection hv
  subst hA
  refine ⟨g, rfl, hS g rfl, fun k hk => ?_⟩
  obtain ⟨b, off, e, _, hc⟩ := hI.2 hn
  obtain ⟨rfl, rfl⟩ : g = b ∧ 0 = off := by injection e with e; injection e with h1 h2; exact ⟨h1, h2⟩
  have h1 := hc k hk
  rw [Nat.zero_add] at h1
  obtain ⟨cur, hcur⟩ := own_type h (g := g) rfl
  exact ⟨_, h1, by simp [World.frozen?, hcur]⟩

theorem EntsAt.bok {W : World} {S : Nat → Prop} {A : Option Addr} {c : Nat} {es : List (List Int)} (h : EntsAt W S A c es) (hb : ∀ e ∈ es, Byt e ∧ e.length ≤ 65536) : BOK W S A es.length := fun j hj => by
  obtain ⟨vs, h1, h2, h3⟩ := h
  obtain ⟨v, h5, h6⟩ := h3 j hj
  obtain ⟨g, hA, _, _, hc⟩ := row_cell h1 h5
  subst hA
  obtain ⟨A', c', hv⟩ := own_slice h6.1
  subst hv
  have hcap := own_cap h6.1
  refine ⟨g, A', _, c', rfl, h2 g rfl, hc, ?_, hcap.1, hcap.2, own_bytes8 h6.1 h6.2⟩
  rw [List.getElem?_eq_getElem hj]
  exact (hb _ (List.getElem_mem hj)).2

/-- What stands all along: the library, the entries wanted, the entries that are written over, the memory that was there. -/
structure Kept (w : World) (x y z : Nat) (lb : Nat) (es : List (List Int)) (Aw : Option Addr) (cw : Nat) (Ab : Option Addr) (N : Nat) (wr : World) : Prop where
  lib : LibAt wr (Btw x y) lb es
  want : EntsAt wr (Btw y z) Aw cw es
  old : BOK wr (Btw w.heap.size x) Ab N
  below : Below w.heap.size w wr
  size : z ≤ wr.heap.size

theorem Kept.step {w : World} {x y z : Nat} {lb : Nat} {es : List (List Int)} {Aw : Option Addr} {cw : Nat} {Ab : Option Addr} {N : Nat} {wr w' : World} (h : Kept w x y z lb es Aw cw Ab N wr) (b : Below wr.heap.size wr w') : Kept w x y z lb es Aw cw Ab N w' :=
  ⟨h.lib.below b, h.want.below b, h.old.keep fun k hk _ => b.block k hk, Below.step h.below b, Nat.le_trans h.size b.size⟩

theorem Kept.setOld {w : World} {x y z : Nat} {lb : Nat} {es : List (List Int)} {Aw : Option Addr} {cw : Nat} {Ab : Option Addr} {N : Nat} {wr : World} (h : Kept w x y z lb es Aw cw Ab N wr) (hxy : x ≤ y) {p : Addr} {z0 : Int} (hp : wr.cell? p = some (.int .u8 z0)) (hb : Btw w.heap.size x p.block) (v : Int) : Kept w x y z lb es Aw cw Ab N (wr.setCell p (.int .u8 v)) := by
  obtain ⟨h1, h2⟩ := hb
  refine ⟨h.lib.keep (by simp [World.setCell]) fun k _ hk => Below.heap_setCell _ _ _ _ ?_, h.want.keep fun k _ hk => Below.heap_setCell _ _ _ _ ?_, h.old.set hp v, h.below.setCell h1 _, by have := h.size; simpa [World.setCell] using this⟩
  · intro e; have := hk.1; omega
  · intro e; have := hk.1; omega

theorem Kept.setNew {w : World} {x y z : Nat} {lb : Nat} {es : List (List Int)} {Aw : Option Addr} {cw : Nat} {Ab : Option Addr} {N : Nat} {wr : World} (h : Kept w x y z lb es Aw cw Ab N wr) (hx : w.heap.size ≤ x) (hxy : x ≤ y) (hyz : y ≤ z) {p : Addr} (hb : z ≤ p.block) (v : Value) : Kept w x y z lb es Aw cw Ab N (wr.setCell p v) := by
  refine ⟨h.lib.keep (by simp [World.setCell]) fun k _ hk => Below.heap_setCell _ _ _ _ ?_, h.want.keep fun k _ hk => Below.heap_setCell _ _ _ _ ?_, h.old.keep fun k _ hk => Below.heap_setCell _ _ _ _ ?_, h.below.setCell (by omega) _, by have := h.size; simpa [World.setCell] using this⟩
  · intro e; have := hk.2; omega
  · intro e; have := hk.2; omega
  · intro e; have := hk.2; omega
theorem Kept.drew {w : World} {x y z : Nat} {lb : Nat} {es : List (List Int)} {Aw : Option Addr} {cw : Nat} {Ab : Option Addr} {N : Nat} {wr : World} (h : Kept w x y z lb es Aw cw Ab N wr) : Kept w x y z lb es Aw cw Ab N wr.drew :=
  h.step ⟨rfl, rfl, rfl, Nat.le_refl _, fun _ _ => rfl⟩

end Go.Proofs.Ytliconagelemdaa
