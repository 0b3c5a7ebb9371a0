/- The contract of hash.Bytes: it returns bytesZ; nothing that lay has turned. -/
import Derived.Maps.AppendAt
import Derived.Test.YtliconagelemdaaSum
namespace Go.Proofs.Ytliconagelemdaa
open Go.RowKit Go.Shelf

attribute [local go_sem] Oper.semAt_some

theorem info_int : (Try.prog.info? 3).map (fun i => (i.zero, i.size, i.bytes)) = some (some (.int .i64 0), 1, 8) := by kernel_rfl

/-- Behind an append onto a row of the call's own: what is no cells lies as it lay, and so does what lay below. -/
theorem grown_keeps {W w1 : World} {n₀ : Nat} {e : TypeId} {size : Nat} {v : Value} {k : Nat} {xs : List Value} {tmp : Obj} (hrow : W.ownsRow n₀ e size v k xs) (hn₀ : n₀ ≤ W.heap.size) (hgrow : (W.alloc tmp).grownBy w1 v.ownBlock) : KeepsOthers W w1 ∧ Below n₀ W w1 := by
  refine ⟨(KeepsOthers.alloc W tmp).trans (KeepsOthers.of_grownBy hgrow fun j o ej hj => ?_), ((Below.refl n₀ W).alloc hn₀ tmp).grown hgrow (by simp; omega) fun j ej => ?_⟩
  · rcases (hrow.alloc tmp).2 with ⟨rfl, _⟩ | ⟨g, cap, cur, rfl, _, hgb, _⟩
    · simp [Value.ownBlock] at ej
    · obtain rfl : g = j := by simpa [Value.ownBlock] using ej
      rw [hgb] at hj; cases hj; rfl
  · rcases hrow.2 with ⟨rfl, _⟩ | ⟨g, cap, cur, rfl, hb, _, _⟩
    · simp [Value.ownBlock] at ej
    · obtain rfl : g = j := by simpa [Value.ownBlock] using ej
      exact hb

/-- A word as an element of a slice of ints. -/
def wordV (x : Int) : Value := .int .i64 (wrap64 x)
theorem wordV_map (l : List Int) : l.map wordV = (l.map wrap64).map (Value.int .i64) := by simp [wordV, Function.comp_def]

set_option maxRecDepth 100000 in
set_option maxHeartbeats 2000000 in
theorem bytes_any (s : ByteArray) (hs : s.size ≤ 1000000) (A : Option Addr) (len cap : Nat) (zs : List Int) (hlen : len ≤ 1000000) (hbyt : Byt zs) (w : World) (hI : Ints .u8 w w.heap.size A len zs) :
    Calls Try.prog 29 #[.string s, .slice A len cap] w fun e w' => e = .returned (.int .u64 (bytesZ (strZ s) zs)) ∧ Below w.heap.size w w' := by
  refine (callsIn_wide (n := 6)).1 ?_
  obtain ⟨i0, hi, hz0, hz1, hz2⟩ := info_parts info_int
  refine callsIn_of_wp_marks Try.func29 rfl trivial ?_ rfl
  simp only [Try.ntmps29, List.size_toArray, List.length_cons, List.length_nil, Nat.reduceAdd, Nat.reduceSub, Array.replicate_succ, Array.replicate_zero, List.push_toArray, List.append_toArray, List.nil_append, List.cons_append]
  gi_wp2_with (gi_at_make; refine wpListIn_make_own _ rfl _ _ 22 rfl w.heap.size 3 i0 (.int .i64 0) 1 Try.underlying22 hi hz0 hz1 .i64 .i64 ((len : Int) / 8 + 2) (len / 8 + 2) rfl rfl (by omega) (by rw [hz2]; omega) (by unfold maxLen; omega) (Nat.le_refl _) ?_; intro w1 hown1 hgrow1)
  refine ⟨trivial, ?_⟩
  have hB1 : Below w.heap.size w w1 := (Below.refl _ _).grown hgrow1 (Nat.le_refl _) (by simp)
  have hlt1 : w.heap.size < w1.heap.size := (hown1.lt w.heap.size rfl).2
  refine (wordsOf_in Fence.wide 5 trivial rfl _ _ _ _).mono ?_
  rintro e w' ⟨rfl, rfl⟩
  gi_wp2_with fail
  obtain ⟨v0, hv0⟩ : ∃ v0, Value.slice (some ⟨w.heap.size, 0, none⟩) 0 (len / 8 + 2) = v0 := ⟨_, rfl⟩
  have bL := (Boxed.new w1 22 v0).alloc (.cells #[.slice A len cap] 39)
  have bN := Boxed.new (w1.alloc (.cells #[v0] 22)) 39 (.slice A len cap)
  rw [World.size_alloc] at bN
  have hB2 : Below w.heap.size w ((w1.alloc (.cells #[v0] 22)).alloc (.cells #[.slice A len cap] 39)) := (hB1.alloc (by omega) _).alloc (by simp; omega) _
  have hown2 := (hown1.alloc (.cells #[v0] 22)).alloc (.cells #[.slice A len cap] 39)
  have hz3 : ((w1.alloc (.cells #[v0] 22)).alloc (.cells #[.slice A len cap] 39)).heap.size = w1.heap.size + 2 := by simp
  rw [hv0] at hown2 ⊢
  obtain ⟨W0, hW0⟩ : ∃ W0, (w1.alloc (.cells #[v0] 22)).alloc (.cells #[.slice A len cap] 39) = W0 := ⟨_, rfl⟩
  rw [hW0] at bL bN hB2 hown2 hz3 ⊢
  obtain ⟨Z1, hZ1⟩ : ∃ Z1, w1.heap.size = Z1 := ⟨_, rfl⟩
  rw [hZ1] at bL bN hlt1 hz3 ⊢
  clear hW0 hv0 hB1 hgrow1 hown1 hZ1
  refine wpIn_rangeFunc_ownG rfl (by decide) (gf := 54) (lb := #[.pointer (some ⟨Z1 + 1, 0, none⟩)]) rfl trivial (enters_of Try.func54 (by kernel_rfl) rfl)
    (words_stops Fence.wide 5 trivial rfl (by decide) (Z1 + 1) len cap A zs (by omega) hbyt (fun k => k = Z1 + 1 ∨ k < w.heap.size) (.inl rfl) (fun h0 b off e => by obtain ⟨b', off', e', hlt, _⟩ := hI.2 h0; rw [e] at e'; cases e'; exact .inr hlt) W0 bN.cell (by omega) ((hI.below hB2).more (by omega)))
    KeepB.trans (KeepB.put (by rw [hz3]; omega)) (Below.refl _ _) (fun _ => rfl)
    (fun pre W => (Boxed W (Z1 + 1) 39 (.slice A len cap) ∧ ∃ v, Boxed W Z1 22 v ∧ W.ownsRow w.heap.size 3 1 v pre.length (pre.map wordV) ∧ True) ∧ Below w.heap.size w W)
    (fun _ _ _ => False)
    (OwnFrom.and (OwnFrom.and (Own.from (boxed_own _ _ _) _) (Own.from (holdsRow_own w.heap.size Z1 22 3 1 (fun pre : List Int => pre.length) (fun pre : List Int => pre.map wordV) (fun _ _ => True)) _)) (ownFrom_below (Nat.le_refl _) (by rw [hz3]; omega)))
    (fun _ _ _ _ _ hs _ _ => hs)
    ⟨⟨bN, v0, bL, hown2, trivial⟩, hB2⟩
    (fun x => { tmps := #[.string s, .slice A len cap, undef, undef, .int .u64 0, .pointer (some ⟨Z1, 0, none⟩), .int .u64 x, .slice A len cap, .int .i64 (len : Int), .int .i64 ((len : Int) / 8), .int .i64 ((len : Int) / 8 + 2), v0, .slice A len cap, .func (.func 54) #[] #[.pointer (some ⟨Z1 + 1, 0, none⟩)], .int .u64 x, undef, undef, undef, undef, undef, undef, undef, undef, undef, undef, undef, undef], defers := [] }) ?assign ?body ?done ?stop
  case assign =>
    intro l x W K hK
    gi_wp2
    exact hK
  case body =>
    rintro l pre x W ⟨⟨hn, v, hv, hrow, _⟩, hB⟩ hpl
    have hc := hv.cell
    gi_wp2_with (gi_at_builtin; refine wpListIn_append_own _ rfl _ _ 22 rfl w.heap.size 3 i0 (.int .i64 0) 1 8 Try.underlying22 hi hz0 hz1 hz2 rfl (by decide) _ _ _ rfl (hrow.alloc _) ⟨W.heap.size, 0, none⟩ 1 1 [.int .i64 (wrap64 x)] rfl rfl (cell_one_new _ _ _) (by simp [Value.oneCell']) (by unfold maxLen; omega) (by omega) (by have := hB.size; simp; omega) ?_; intro v' w1 hown' hgrow _; obtain ⟨g', cap', rfl⟩ := ownsRow_succ hown'; obtain ⟨hv1, hv2, hr2, hk2, hb2⟩ := hv.appended (by decide) hrow hB.size (by omega) hown' hgrow; have hn1 := (hn.alloc _).kept hgrow (hn.not_row (by decide) hrow); have hc1 := hv1.cell; have hf1 := hv1.frozen)
    have hn2 : Boxed (w1.setCell ⟨Z1, 0, none⟩ (.slice (some ⟨g', 0, none⟩) (pre.length + 1) cap')) (Z1 + 1) 39 (.slice A len cap) := (Below.heap_setCell w1 ⟨Z1, 0, none⟩ _ _ (by show Z1 + 1 ≠ Z1; omega)).trans hn1
    refine ⟨hk2.from _, fun k hk => ?_, ⟨hn2, _, hv2, ?_, trivial⟩, hB.trans hb2⟩
    · rcases hk with rfl | hk
      · exact hn2.trans hn.symm
      · exact hb2.block k hk
    · rw [List.length_append, List.map_append]
      exact hr2
  case done =>
    rintro D ys W hD rfl ⟨⟨hn, v, hv, hrow, _⟩, hB⟩ hK
    have hc := hv.cell
    have hwl := wordsZ_length zs
    have hzl := hI.1
    have hle : (wordsZ zs).length ≤ len / 8 + 1 := by omega
    clear hwl hzl
    gi_wp2_with (gi_at_builtin; refine wpListIn_append_own _ rfl _ _ 22 rfl w.heap.size 3 i0 (.int .i64 0) 1 8 Try.underlying22 hi hz0 hz1 hz2 rfl (by decide) _ _ _ rfl (hrow.alloc _) ⟨W.heap.size, 0, none⟩ 1 1 [.int .i64 (len : Int)] rfl rfl (cell_one_new _ _ _) (by simp [Value.oneCell']) (by unfold maxLen; omega) (by omega) (by have := hB.size; simp; omega) ?_; intro v' w1 hown' hgrow _; obtain ⟨g', cap', rfl⟩ := ownsRow_succ hown')
    obtain ⟨hko, hb1⟩ := grown_keeps hrow hB.size hgrow
    have hI' : Ints .i64 w1 w1.heap.size (some ⟨g', 0, none⟩) ((wordsZ zs).length + 1) ((wordsZ zs).map wrap64 ++ [(len : Int)]) := Ints.of_own (base := w.heap.size) (e := 3) (c := cap') (by rw [List.map_append, ← wordV_map]; exact hown')
    refine ⟨trivial, ?_⟩
    refine (callsIn_wide.2 (sum_any s hs _ _ _ _ (by omega) _ hI')).mono ?_
    rintro e w2 ⟨rfl, hb2⟩
    gi_wp2
    have hK1 := hko.same D _ hK rfl
    have hK2 : w2.heap[D]? = some (.deferred (some [])) := (hb2.block D (Array.getElem?_eq_some_iff.1 hK1).1).trans hK1
    have hB3 : Below w.heap.size w w2 := (hB.trans hb1).trans (hb2.mono (Nat.le_trans hB.size hb1.size))
    refine ⟨by simp, .inl ⟨_, _, rfl, run_takeDeferred hK2, ?_⟩⟩
    refine ⟨_, results_tmp rfl _ _ _, ?_, hB3.trans (belowK_b (w := w) (Nat.le_refl _) w2 D _ _ (by omega) hK2 rfl rfl)⟩
    show Ending.returned (.int .u64 (sumZ (strZ s) ((wordsZ zs).map wrap64 ++ [(len : Int)]))) = _
    unfold bytesZ
    rw [hI.1]
  case stop =>
    rintro D c pre W _ _ h _
    exact h.elim
end Go.Proofs.Ytliconagelemdaa
