/- Names and tree. -/
import Derived.Test.YtliconagelemdaaEnts
namespace Go.Proofs.Ytliconagelemdaa
open Go.RowKit Go.Shelf
set_option linter.unusedVariables false

attribute [local go_sem ↓] Go.wp_at_zero Go.wp_at_succ

/-- The slice holds slices that hold the bytes es. -/
def RowsIn (W : World) (B : Nat) (A : Option Addr) (n : Nat) (es : List (List Int)) : Prop :=
  es.length = n ∧ (0 < n → ∃ b off, A = some ⟨b, off, none⟩ ∧ b < B ∧ ∀ j, j < n → ∃ A' n' c', W.cell? ⟨b, off + j, none⟩ = some (.slice A' n' c') ∧ n' ≤ c' ∧ c' ≤ maxLen ∧ Ints .u8 W B A' n' (es[j]?.getD []))

theorem RowsIn.below {W W' : World} {B : Nat} {A : Option Addr} {n : Nat} {es : List (List Int)} (h : RowsIn W B A n es) (hb : Below B W W') : RowsIn W' B A n es :=
  ⟨h.1, fun hn => by
    obtain ⟨b, off, e, hlt, hc⟩ := h.2 hn
    refine ⟨b, off, e, hlt, fun j hj => ?_⟩
    obtain ⟨A', n', c', h1, h2, h3, h4⟩ := hc j hj
    exact ⟨A', n', c', (hb.cell (p := ⟨b, off + j, none⟩) hlt).trans h1, h2, h3, h4.below hb⟩⟩
theorem RowsIn.more {W : World} {B B' : Nat} {A : Option Addr} {n : Nat} {es : List (List Int)} (h : RowsIn W B A n es) (hb : B ≤ B') : RowsIn W B' A n es :=
  ⟨h.1, fun hn => by
    obtain ⟨b, off, e, hlt, hc⟩ := h.2 hn
    refine ⟨b, off, e, by omega, fun j hj => ?_⟩
    obtain ⟨A', n', c', h1, h2, h3, h4⟩ := hc j hj
    exact ⟨A', n', c', h1, h2, h3, h4.more hb⟩⟩

theorem entry_ints {W : World} {S : Nat → Prop} {v : Value} {zs : List Int} (h : EntryAt W S v zs) : ∃ A' c', v = .slice A' zs.length c' ∧ zs.length ≤ c' ∧ c' ≤ maxLen ∧ Ints .u8 W W.heap.size A' zs.length zs := by
  obtain ⟨A', c', hv⟩ := own_slice h.1
  subst hv
  exact ⟨A', c', rfl, (own_cap h.1).1, (own_cap h.1).2, Ints.of_own h.1⟩

theorem row_cell {W : World} {base : Nat} {e : TypeId} {A : Option Addr} {n c : Nat} {vs : List Value} (h : W.ownsRow base e 1 (.slice A n c) n vs) {j : Nat} {v : Value} (hj : vs[j]? = some v) : ∃ g, A = some ⟨g, 0, none⟩ ∧ base ≤ g ∧ g < W.heap.size ∧ W.cell? ⟨g, j, none⟩ = some v := by
  have hn : j < n := by have := (List.getElem?_eq_some_iff.1 hj).1; have := h.1; omega
  obtain ⟨g, cap, hv, hb, hlt⟩ := h.form (by omega)
  have hA : A = some ⟨g, 0, none⟩ := by injection hv
  subst hA
  refine ⟨g, rfl, hb, hlt, ?_⟩
  have := h.cells (g := g) rfl j v hj
  by_cases h0 : j = 0
  · subst h0; simpa [Addr.add] using this
  · simpa [Addr.add, h0] using this

theorem EntsAt.rows {W : World} {S : Nat → Prop} {A : Option Addr} {c : Nat} {es : List (List Int)} (h : EntsAt W S A c es) : RowsIn W W.heap.size A es.length es := by
  obtain ⟨vs, h1, h2, h3⟩ := h
  refine ⟨rfl, fun hn => ?_⟩
  obtain ⟨v0, h4, _⟩ := h3 0 hn
  obtain ⟨g, rfl, _, hlt, _⟩ := row_cell h1 h4
  refine ⟨g, 0, rfl, hlt, fun j hj => ?_⟩
  obtain ⟨v, h5, h6⟩ := h3 j hj
  obtain ⟨g', e, _, _, hc⟩ := row_cell h1 h5
  obtain rfl : g = g' := by injection e with e; injection e
  obtain ⟨A', c', rfl, h7, h8, h9⟩ := entry_ints h6
  exact ⟨A', _, c', by rw [Nat.zero_add]; exact hc, h7, h8, h9⟩

set_option maxRecDepth 100000 in
set_option maxHeartbeats 2000000 in
theorem names_any (A : Option Addr) (n c : Nat) (es : List (List Int)) (w : World) (hn : n ≤ 10000) (hb : ∀ e ∈ es, Byt e ∧ e.length ≤ 65536) (hI : RowsIn w w.heap.size A n es) :
    Calls Try.prog 10 #[.slice A n c] w (RowPost (namesZ es) w) := by
  obtain ⟨i0, hi, hz0, hz1, hz2⟩ := info_parts info_u64
  go_enter Try.func10, Try.ntmps10
  go_wp2
  go_loopw [3, 4] (fun v i wr => ∃ k : Nat, k ≤ n ∧ i = .int .i64 (k : Int) ∧ wr.ownsRow w.heap.size 40 1 v k ((namesZ (es.take k)).map (Value.int .u64)) ∧ Below w.heap.size w wr)
    (fun _ i _ => n - (intOf i).toNat)
  case atStart => exact ⟨0, Nat.zero_le _, rfl, World.ownsRow_nil _ _ _ _, Below.refl _ _⟩
  case round =>
    obtain ⟨k, hk, rfl, hown, hB⟩ := hrel
    have hel := hI.1
    by_cases hlt : k < n
    · have hd : decide (k < n) = true := by simpa using hlt
      obtain ⟨b, off, rfl, hblt, hcs⟩ := hI.2 (by omega)
      obtain ⟨A', n', c', h1, h2, h3, h4⟩ := hcs k hlt
      obtain ⟨z, hz⟩ : ∃ z, es[k]?.getD [] = z := ⟨_, rfl⟩
      rw [hz] at h4
      have hcx : wr.cell? ⟨b, off + k, none⟩ = some (.slice A' n' c') := (hB.cell (p := ⟨b, off + k, none⟩) hblt).trans h1
      have hmem := hb z (by rw [← hz, List.getElem?_eq_getElem (by omega)]; exact List.getElem_mem _)
      have HT := Lib.hid (show namesZ (es.take (k + 1)) = namesZ (es.take k) ++ [nameZ z] from by
        rw [List.take_succ_eq_append_getElem (by omega), namesZ_snoc, ← hz, List.getElem?_eq_getElem (by omega)]
        rfl)
      have hz2w := hB.size
      have h4w := (h4.below hB).more hB.size
      have hlz := h4.1
      clear hcs hz hel h1 h4
      go_wp2_with fail
      refine (refName_any A' n' c' z (by omega) hmem.1 _ h4w).mono ?_
      rintro e w1 ⟨rfl, b1⟩
      obtain ⟨A2, c2, hv2⟩ := own_slice hown
      subst hv2
      have hOut := own_below (w := wr) hown b1
      have HB := Lib.hid (show Below w.heap.size w w1 from hB.trans (b1.mono hB.size))
      have hzw : w.heap.size ≤ w1.heap.size := HB.out.size
      clear hown hB h4w
      go_wp2_with (at_builtin; refine wpList_append_own _ rfl _ _ 25 rfl w.heap.size 40 i0 (.int .u64 0) 1 8 Try.underlying25 hi hz0 hz1 hz2 rfl (by decide) _ _ _ rfl (hOut.alloc _) ⟨w1.heap.size, 0, none⟩ 1 1 [.int .u64 (nameZ z)] rfl rfl (cell_one_new _ _ _) (by simp [Value.oneCell']) (by unfold maxLen; omega) (by omega) (by simp; omega) ?_; intro v' w3 hown' hgrow _)
      obtain ⟨_, hb1⟩ := grown_keeps hOut hzw hgrow
      go_roundw
      case rel => exact ⟨k + 1, by omega, by go_num, by rw [HT.out, List.map_append]; exact hown', HB.out.trans hb1⟩
      case measure => simp [intOf]; omega
    · have hd : decide (k < n) = false := by simpa using hlt
      have HT := Lib.hid (show namesZ (es.take k) = namesZ es ∧ (namesZ es).length = k from ⟨by rw [List.take_of_length_le (by omega)], by rw [namesZ_length]; omega⟩)
      clear hel
      go_wp2
      go_ret
      refine ⟨_, rfl, ?_, hB⟩
      rw [HT.out.2, ← HT.out.1]
      exact hown

set_option maxRecDepth 100000 in
set_option maxHeartbeats 2000000 in
theorem tree_any (A : Option Addr) (n c : Nat) (es : List (List Int)) (w : World) (hn : n ≤ 4000) (hb : ∀ e ∈ es, Byt e ∧ e.length ≤ 65536) (hI : RowsIn w w.heap.size A n es) :
    Calls Try.prog 11 #[.slice A n c] w fun e w' => ∃ lb, e = .returned (.pointer (some ⟨lb, 0, none⟩)) ∧ LibAt w' (fun k => w.heap.size ≤ k) lb es ∧ Below w.heap.size w w' := by
  go_enter Try.func11, Try.ntmps11
  go_wp2_with fail
  refine (new_any _).mono ?_
  rintro e w1 ⟨rfl, hL, b1⟩
  obtain ⟨lb, hlb⟩ : ∃ lb, w.heap.size + 1 = lb := ⟨_, rfl⟩
  rw [hlb] at hL ⊢
  clear hlb
  go_wp2_with fail
  go_loopw [4, 5, 6] (fun i _ _ wr => ∃ k : Nat, k ≤ n ∧ i = .int .i64 (k : Int) ∧ LibAt wr (fun k => w.heap.size ≤ k) lb (es.take k) ∧ Below w.heap.size w wr)
    (fun i _ _ _ => n - (intOf i).toNat)
  case atStart => exact ⟨0, Nat.zero_le _, rfl, hL, b1⟩
  case round =>
    clear hL
    obtain ⟨k, hk, rfl, hL, hB⟩ := hrel
    have hel := hI.1
    by_cases hlt : k < n
    · have hd : decide (k < n) = true := by simpa using hlt
      obtain ⟨b, off, rfl, hblt, hcs⟩ := hI.2 (by omega)
      obtain ⟨A', n', c', h1, h2, h3, h4⟩ := hcs k hlt
      obtain ⟨z, hz⟩ : ∃ z, es[k]?.getD [] = z := ⟨_, rfl⟩
      rw [hz] at h4
      have hcx : wr.cell? ⟨b, off + k, none⟩ = some (.slice A' n' c') := (hB.cell (p := ⟨b, off + k, none⟩) hblt).trans h1
      have hmem := hb z (by rw [← hz, List.getElem?_eq_getElem (by omega)]; exact List.getElem_mem _)
      have HT := Lib.hid (show es.take (k + 1) = es.take k ++ [z] from by
        rw [List.take_succ_eq_append_getElem (by omega), ← hz, List.getElem?_eq_getElem (by omega)]
        rfl)
      have hlk : (es.take k).length = k := by rw [List.length_take]; omega
      have h4w := (h4.below hB).more hB.size
      have hfar : 0 < n' → ∀ b off, A' = some ⟨b, off, none⟩ → ¬ w.heap.size ≤ b := fun h5 b' off' e => by
        obtain ⟨b2, off2, e2, h6, _⟩ := h4.2 h5
        rw [e] at e2
        injection e2 with e2
        injection e2 with e3
        omega
      have hlz := h4.1
      have HA := Lib.hid (Append_any (fun k => w.heap.size ≤ k) lb (es.take k) A' n' c' z wr hL (by omega) hmem.1 h4w hfar (by omega))
      rw [hlk] at HA
      clear hcs hz hel h1 h4 hlk hL h4w
      go_wp2_with fail
      refine HA.out.mono ?_
      rintro e w2 ⟨rfl, hL2, hC2⟩
      have hB2 : Below w.heap.size w w2 := hB.trans (hC2.toBelow hB.size (fun k hk => by omega))
      have hL3 : LibAt w2 (fun k => w.heap.size ≤ k) lb (es.take (k + 1)) := by
        rw [HT.out]
        refine hL2.mono fun i _ h => ?_
        rcases h with h | h
        · exact h
        · have := hB.size; omega
      have hkk : ((k : Int) != (k : Int)) = false := by simp
      clear HA hL2 HT
      go_wp2_with fail
      go_roundw
      case rel => exact ⟨k + 1, by omega, by go_num, hL3, hB2⟩
      case measure => simp [intOf]; omega
    · have hd : decide (k < n) = false := by simpa using hlt
      have HT := Lib.hid (show es.take k = es from by rw [List.take_of_length_le (by omega)])
      clear hel
      rw [HT.out] at hL
      go_wp2
      go_ret
      exact ⟨_, rfl, hL, hB⟩

end Go.Proofs.Ytliconagelemdaa
