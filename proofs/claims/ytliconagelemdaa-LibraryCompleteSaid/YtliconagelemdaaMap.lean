/- The map of the library: from pairs of integers to hashes, told by a plain function; a look-up and a store. -/
import Derived.Maps.Keyed
import Derived.Maps.Own
import Derived.WideKeyPair
import Derived.DeepKeys4
import Derived.Test.YtliconagelemdaaGoRow
import Derived.Test.YtliconagelemdaaTree
namespace Go.Proofs.Ytliconagelemdaa
open Go.RowKit Go.Shelf
set_option linter.unusedVariables false

theorem laidOut : laidOutB Try.prog = true := by kernel_rfl

theorem pairLaw : Maps.Keyed Try.prog 76 := Maps.Keyed.of_law (deep_law_laid laidOut (m := 2) (by decide) (of_decide_eq_true (by kernel_rfl)) (by kernel_rfl) (by kernel_rfl))

theorem pairKey : WideMaps.ArrKey Try.prog 76 3 2 := by
  constructor <;> first | exact Try.underlying76 | kernel_rfl

/-- A key of the map. -/
def keyV (a b : Int) : Value := .agg #[.int .i64 a, .int .i64 b]

theorem wf_of_I {a : Int} (h : I a) : (Lit.int .i64 a).wf = true := by
  unfold I at h
  simp [Lit.wf, IntKind.min, IntKind.max, IntKind.signed, IntKind.bits]
  omega

theorem keyV_key {a b : Int} (ha : I a) (hb : I b) : ∃ l, keyOf Try.prog 76 (keyV a b) = some l :=
  ⟨_, WideMaps.keyOf_pair pairKey Try.underlying3 ⟨Try.prog.types.size - 1, by kernel_rfl⟩ (wf_of_I ha) (wf_of_I hb)⟩

/-- Block mb is a map from pairs to hashes: M says which. -/
def RootMap (W : World) (mb : Nat) (M : Int → Int → Option Int) : Prop :=
  ∃ es clock, W.heap[mb]? = some (.map es clock) ∧ (∀ e ∈ es.toList, ∃ a b v, I a ∧ I b ∧ e.key = keyV a b ∧ e.val = .int .u64 v ∧ M a b = some v) ∧
    (∀ a b v, M a b = some v → ∃ e ∈ es.toList, e.key = keyV a b)

theorem keyV_inj {a b a' b' : Int} (h : keyV a b = keyV a' b') : a = a' ∧ b = b' := by
  unfold keyV at h
  simp at h
  exact h

theorem RootMap.lt {W : World} {mb : Nat} {M : Int → Int → Option Int} (h : RootMap W mb M) : mb < W.heap.size := by
  obtain ⟨es, clock, hb, _⟩ := h
  exact (Array.getElem?_eq_some_iff.1 hb).1

theorem RootMap.same {W W' : World} {mb : Nat} {M : Int → Int → Option Int} (h : RootMap W mb M) (hb : W'.heap[mb]? = W.heap[mb]?) : RootMap W' mb M := by
  obtain ⟨es, clock, h1, h2⟩ := h
  exact ⟨es, clock, hb.trans h1, h2⟩

theorem RootMap.made (W : World) : RootMap (W.alloc (.map #[] 0)) W.heap.size (fun _ _ => none) :=
  ⟨#[], 0, (MapKept.heap_alloc W _).1, by simp, by simp⟩

theorem zero_u64 (W : World) : (zeroValue 40).run Try.prog W = .ok (.int .u64 0) W := by kernel_rfl

theorem RootMap.look {W : World} {mb : Nat} {M : Int → Int → Option Int} (h : RootMap W mb M) {a b : Int} (ha : I a) (hb : I b) :
    (∃ v, M a b = some v ∧ (Instr.lookup 61 (.map (some mb)) (keyV a b) true).run Try.prog W = .ok (.tuple #[.int .u64 v, .bool true]) W) ∨
    (M a b = none ∧ (Instr.lookup 61 (.map (some mb)) (keyV a b) true).run Try.prog W = .ok (.tuple #[.int .u64 0, .bool false]) W) := by
  obtain ⟨es, clock, hblk, hes, hM⟩ := h
  obtain ⟨kl, hkey⟩ := keyV_key ha hb
  have K := pairLaw
  have hkeys : ∀ e ∈ es.toList, ∃ l, keyOf Try.prog 76 e.key = some l := by
    intro e he
    obtain ⟨a', b', v, h1, h2, h3, _⟩ := hes e he
    rw [h3]
    exact keyV_key h1 h2
  rcases K.find W hkey es.toList hkeys with ⟨h1, h2⟩ | ⟨j, e0, h1, h2, h3⟩
  · refine .inr ⟨?_, by simp [Instr.lookup, run_underlying Try.underlying61, MapKept.run_getObj_map hblk, K.check W _ hkey, h1, Result.andThen]⟩
    cases hm : M a b with
    | none => rfl
    | some v =>
      obtain ⟨e, he, hk⟩ := hM a b v hm
      exact absurd hk (h2 e he)
  · have hm0 : e0 ∈ es.toList := List.mem_of_getElem? h2
    obtain ⟨a', b', v, _, _, hk, hv, hm⟩ := hes e0 hm0
    obtain ⟨rfl, rfl⟩ := keyV_inj (h3.symm.trans hk)
    exact .inl ⟨v, hm, by simp [Instr.lookup, run_underlying Try.underlying61, MapKept.run_getObj_map hblk, K.check W _ hkey, h1, Result.andThen, hv]⟩

/-- The function M, turned at one pair. -/
def setM (M : Int → Int → Option Int) (a b v : Int) : Int → Int → Option Int := fun x y => if x = a ∧ y = b then some v else M x y

theorem RootMap.store {W : World} {mb : Nat} {M : Int → Int → Option Int} (h : RootMap W mb M) {a b : Int} (ha : I a) (hb : I b) (hno : M a b = none) (v : Int) :
    ∃ W', (Instr.mapUpdate 61 (.map (some mb)) (keyV a b) (.int .u64 v)).run Try.prog W = .ok () W' ∧ RootMap W' mb (setM M a b v) ∧ W.grownBy W' (some mb) := by
  obtain ⟨es, clock, hblk, hes, hM⟩ := h
  obtain ⟨kl, hkey⟩ := keyV_key ha hb
  have K := pairLaw
  have hkeys : ∀ e ∈ es.toList, ∃ l, keyOf Try.prog 76 e.key = some l := by
    intro e he
    obtain ⟨a', b', v, h1, h2, h3, _⟩ := hes e he
    rw [h3]
    exact keyV_key h1 h2
  have hgr : ∀ o, W.grownBy { W with heap := W.heap.setIfInBounds mb o } (some mb) := fun o => ⟨rfl, rfl, rfl, by simp, fun i _ hi => by
    show (W.heap.setIfInBounds mb o)[i]? = W.heap[i]?
    rw [Array.getElem?_setIfInBounds, if_neg (fun e => hi (by rw [e]))]⟩
  have hlt : mb < W.heap.size := (Array.getElem?_eq_some_iff.1 hblk).1
  have hnew : ∀ o, (({ W with heap := W.heap.setIfInBounds mb o } : World)).heap[mb]? = some o := fun o => by
    show (W.heap.setIfInBounds mb o)[mb]? = some o
    rw [Array.getElem?_setIfInBounds, if_pos rfl, if_pos hlt]
  rcases K.find W hkey es.toList hkeys with ⟨h1, h2⟩ | ⟨j, e0, h1, h2, h3⟩
  · refine ⟨_, by simp [Instr.mapUpdate, run_underlying Try.underlying61, MapKept.run_getObj_map hblk, K.check W false hkey, h1, MapKept.run_setObj_map _ hblk, Result.andThen], ⟨es.push ⟨keyV a b, .int .u64 v, clock⟩, clock + 1, hnew _, ?_, ?_⟩, hgr _⟩
    · intro e he
      simp only [Array.toList_push, List.mem_append, List.mem_singleton] at he
      rcases he with he | rfl
      · obtain ⟨a', b', v', h4, h5, h6, h7, h8⟩ := hes e he
        refine ⟨a', b', v', h4, h5, h6, h7, ?_⟩
        unfold setM
        rw [if_neg (by rintro ⟨rfl, rfl⟩; exact h2 e he h6)]
        exact h8
      · exact ⟨a, b, v, ha, hb, rfl, rfl, by unfold setM; rw [if_pos ⟨rfl, rfl⟩]⟩
    · intro x y u hu
      unfold setM at hu
      by_cases hxy : x = a ∧ y = b
      · obtain ⟨rfl, rfl⟩ := hxy
        exact ⟨⟨keyV x y, .int .u64 v, clock⟩, by simp, rfl⟩
      · rw [if_neg hxy] at hu
        obtain ⟨e, he, hk⟩ := hM x y u hu
        exact ⟨e, by simp [he], hk⟩
  · have hm0 : e0 ∈ es.toList := List.mem_of_getElem? h2
    obtain ⟨a', b', v', _, _, hk, hv, hm⟩ := hes e0 hm0
    obtain ⟨rfl, rfl⟩ := keyV_inj (h3.symm.trans hk)
    rw [hno] at hm
    cases hm

end Go.Proofs.Ytliconagelemdaa
