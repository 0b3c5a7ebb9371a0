/- The walks of the small functions of the library and of its reference: half, leaf, join, Name, Leaf, Node, Clone, New, Len. -/
import Derived.Test.YtliconagelemdaaLib
namespace Go.Proofs.Ytliconagelemdaa
open Go.RowKit Go.Shelf
set_option linter.unusedVariables false

set_option maxRecDepth 100000 in
theorem half_any (n : Nat) (hn : n ≤ 1000000) (w : World) :
    Calls Try.prog 35 #[.int .i64 (n : Int)] w fun e w' => e = .returned (.int .i64 (halfN n : Int)) ∧ w = w' := by
  go_enter Try.func35, Try.ntmps35
  go_wp2
  go_loop [3] (fun x => ∃ f k : Nat, 1 ≤ k ∧ k ≤ 1000000 ∧ x = .int .i64 (k : Int) ∧ n ≤ 2 ^ f * k * 2 ∧ halfFrom f k n = halfN n) (fun x => n - (intOf x).toNat)
  case atStart => exact ⟨n, 1, by omega, by omega, rfl, by have := lt_two_pow n; omega, rfl⟩
  case round =>
    obtain ⟨f, k, hk1, hk2, rfl, hf, hh⟩ := hrel
    have HF := Lib.hid hf
    have HH := Lib.hid hh
    clear hf hh
    by_cases hlt : 2 * k < n
    · go_wp2
      go_round
      case rel =>
        cases f with
        | zero => have := HF.out; simp at this; omega
        | succ f => exact ⟨f, 2 * k, by omega, by omega, by go_num, by have := HF.out; rw [Nat.pow_succ] at this; rw [← Nat.mul_assoc]; exact this, by rw [← HH.out, halfFrom, if_pos hlt]⟩
      case measure => simp [intOf]; omega
    · go_wp2
      go_ret
      refine ⟨?_, rfl⟩
      show Ending.returned (.int .i64 (k : Int)) = _
      rw [← HH.out]
      cases f with
      | zero => rfl
      | succ f => rw [halfFrom, if_neg hlt]

set_option maxRecDepth 100000 in
theorem refHalf_any (n : Nat) (hn : n ≤ 1000000) (w : World) :
    Calls Try.prog 37 #[.int .i64 (n : Int)] w fun e w' => e = .returned (.int .i64 (halfN n : Int)) ∧ w = w' := by
  go_enter Try.func37, Try.ntmps37
  go_wp2
  go_loop [3] (fun x => ∃ f k : Nat, 1 ≤ k ∧ k ≤ 1000000 ∧ x = .int .i64 (k : Int) ∧ n ≤ 2 ^ f * k * 2 ∧ halfFrom f k n = halfN n) (fun x => n - (intOf x).toNat)
  case atStart => exact ⟨n, 1, by omega, by omega, rfl, by have := lt_two_pow n; omega, rfl⟩
  case round =>
    obtain ⟨f, k, hk1, hk2, rfl, hf, hh⟩ := hrel
    have HF := Lib.hid hf
    have HH := Lib.hid hh
    clear hf hh
    by_cases hlt : 2 * k < n
    · go_wp2
      go_round
      case rel =>
        cases f with
        | zero => have := HF.out; simp at this; omega
        | succ f => exact ⟨f, 2 * k, by omega, by omega, by go_num, by have := HF.out; rw [Nat.pow_succ] at this; rw [← Nat.mul_assoc]; exact this, by rw [← HH.out, halfFrom, if_pos hlt]⟩
      case measure => simp [intOf]; omega
    · go_wp2
      go_ret
      refine ⟨?_, rfl⟩
      show Ending.returned (.int .i64 (k : Int)) = _
      rw [← HH.out]
      cases f with
      | zero => rfl
      | succ f => rw [halfFrom, if_neg hlt]


theorem entryBytes_any (A : Option Addr) (len cap : Nat) (zs : List Int) (hlen : len ≤ 1000000) (hbyt : Byt zs) (w : World) (hI : Ints .u8 w w.heap.size A len zs) :
    Calls Try.prog 29 #[.string ⟨#[101, 110, 116, 114, 121]⟩, .slice A len cap] w fun e w' => e = .returned (.int .u64 (nameZ zs)) ∧ Below w.heap.size w w' :=
  bytes_any ⟨#[101, 110, 116, 114, 121]⟩ (by decide) A len cap zs hlen hbyt w hI
theorem leafSum_any (A : Option Addr) (cap : Nat) (h : Int) (w : World) (hI : Ints .i64 w w.heap.size A 1 [wrap64 h]) :
    Calls Try.prog 21 #[.string ⟨#[108, 101, 97, 102]⟩, .slice A 1 cap] w fun e w' => e = .returned (.int .u64 (leafZ h)) ∧ Below w.heap.size w w' :=
  sum_any ⟨#[108, 101, 97, 102]⟩ (by decide) A 1 cap [wrap64 h] (by decide) w hI
theorem nodeSum_any (A : Option Addr) (cap : Nat) (a b : Int) (w : World) (hI : Ints .i64 w w.heap.size A 2 [wrap64 a, wrap64 b]) :
    Calls Try.prog 21 #[.string ⟨#[110, 111, 100, 101]⟩, .slice A 2 cap] w fun e w' => e = .returned (.int .u64 (nodeZ a b)) ∧ Below w.heap.size w w' :=
  sum_any ⟨#[110, 111, 100, 101]⟩ (by decide) A 2 cap [wrap64 a, wrap64 b] (by decide) w hI
theorem noneSum_any (w : World) :
    Calls Try.prog 21 #[.string ⟨#[110, 111, 110, 101]⟩, .slice none 0 0] w fun e w' => e = .returned (.int .u64 noneZ) ∧ Below w.heap.size w w' :=
  sum_any ⟨#[110, 111, 110, 101]⟩ (by decide) none 0 0 [] (by decide) w (Ints.nil _ _ _ _)
theorem refEntryBytes_any (A : Option Addr) (len cap : Nat) (zs : List Int) (hlen : len ≤ 1000000) (hbyt : Byt zs) (w : World) (hI : Ints .u8 w w.heap.size A len zs) :
    Calls Try.prog 53 #[.string ⟨#[101, 110, 116, 114, 121]⟩, .slice A len cap] w fun e w' => e = .returned (.int .u64 (nameZ zs)) ∧ Below w.heap.size w w' :=
  refBytes_any ⟨#[101, 110, 116, 114, 121]⟩ (by decide) A len cap zs hlen hbyt w hI
theorem refLeafSum_any (A : Option Addr) (cap : Nat) (h : Int) (w : World) (hI : Ints .i64 w w.heap.size A 1 [wrap64 h]) :
    Calls Try.prog 42 #[.string ⟨#[108, 101, 97, 102]⟩, .slice A 1 cap] w fun e w' => e = .returned (.int .u64 (leafZ h)) ∧ Below w.heap.size w w' :=
  refSum_any ⟨#[108, 101, 97, 102]⟩ (by decide) A 1 cap [wrap64 h] (by decide) w hI
theorem refNodeSum_any (A : Option Addr) (cap : Nat) (a b : Int) (w : World) (hI : Ints .i64 w w.heap.size A 2 [wrap64 a, wrap64 b]) :
    Calls Try.prog 42 #[.string ⟨#[110, 111, 100, 101]⟩, .slice A 2 cap] w fun e w' => e = .returned (.int .u64 (nodeZ a b)) ∧ Below w.heap.size w w' :=
  refSum_any ⟨#[110, 111, 100, 101]⟩ (by decide) A 2 cap [wrap64 a, wrap64 b] (by decide) w hI
theorem refNoneSum_any (w : World) :
    Calls Try.prog 42 #[.string ⟨#[110, 111, 110, 101]⟩, .slice none 0 0] w fun e w' => e = .returned (.int .u64 noneZ) ∧ Below w.heap.size w w' :=
  refSum_any ⟨#[110, 111, 110, 101]⟩ (by decide) none 0 0 [] (by decide) w (Ints.nil _ _ _ _)

set_option maxRecDepth 100000 in
theorem leaf_any (A : Option Addr) (len cap : Nat) (zs : List Int) (hlen : len ≤ 1000000) (hbyt : Byt zs) (w : World) (hI : Ints .u8 w w.heap.size A len zs) :
    Calls Try.prog 46 #[.slice A len cap] w fun e w' => e = .returned (.int .u64 (leafZ (nameZ zs))) ∧ Below w.heap.size w w' := by
  go_enter Try.func46, Try.ntmps46
  go_wp2_with fail
  refine (entryBytes_any _ _ _ zs hlen hbyt _ hI).mono ?_
  rintro e w1 ⟨rfl, b1⟩
  go_wp2_with fail
  refine (leafSum_any _ _ (nameZ zs) _ (ints_new .i64 w1 [wrap64 (nameZ zs)] 3 |>.more (by simp))).mono ?_
  rintro e w2 ⟨rfl, b2⟩
  go_wp2
  go_ret
  exact ⟨rfl, (b1.alloc b1.size _).trans (b2.mono (by have := b1.size; simp; omega))⟩

set_option maxRecDepth 100000 in
theorem join_any (a b : Int) (w : World) :
    Calls Try.prog 47 #[.int .u64 a, .int .u64 b] w fun e w' => e = .returned (.int .u64 (nodeZ a b)) ∧ Below w.heap.size w w' := by
  go_enter Try.func47, Try.ntmps47
  go_wp2_with fail
  refine (nodeSum_any _ _ a b _ (ints_new .i64 w [wrap64 a, wrap64 b] 3 |>.more (by simp))).mono ?_
  rintro e w1 ⟨rfl, hb⟩
  go_wp2
  go_ret
  exact ⟨rfl, ((Below.refl _ w).alloc (Nat.le_refl _) _).trans (hb.mono (by simp))⟩

set_option maxRecDepth 100000 in
theorem refNode_any (a b : Int) (w : World) :
    Calls Try.prog 44 #[.int .u64 a, .int .u64 b] w fun e w' => e = .returned (.int .u64 (nodeZ a b)) ∧ Below w.heap.size w w' := by
  go_enter Try.func44, Try.ntmps44
  go_wp2_with fail
  refine (refNodeSum_any _ _ a b _ (ints_new .i64 w [wrap64 a, wrap64 b] 3 |>.more (by simp))).mono ?_
  rintro e w1 ⟨rfl, hb⟩
  go_wp2
  go_ret
  exact ⟨rfl, ((Below.refl _ w).alloc (Nat.le_refl _) _).trans (hb.mono (by simp))⟩

set_option maxRecDepth 100000 in
theorem refLeaf_any (a : Int) (w : World) :
    Calls Try.prog 43 #[.int .u64 a] w fun e w' => e = .returned (.int .u64 (leafZ a)) ∧ Below w.heap.size w w' := by
  go_enter Try.func43, Try.ntmps43
  go_wp2_with fail
  refine (refLeafSum_any _ _ a _ (ints_new .i64 w [wrap64 a] 3 |>.more (by simp))).mono ?_
  rintro e w1 ⟨rfl, hb⟩
  go_wp2
  go_ret
  exact ⟨rfl, ((Below.refl _ w).alloc (Nat.le_refl _) _).trans (hb.mono (by simp))⟩

theorem refName_any (A : Option Addr) (len cap : Nat) (zs : List Int) (hlen : len ≤ 1000000) (hbyt : Byt zs) (w : World) (hI : Ints .u8 w w.heap.size A len zs) :
    Calls Try.prog 32 #[.slice A len cap] w fun e w' => e = .returned (.int .u64 (nameZ zs)) ∧ Below w.heap.size w w' := by
  go_enter Try.func32, Try.ntmps32
  go_wp2_with fail
  refine (refEntryBytes_any _ _ _ zs hlen hbyt _ hI).mono ?_
  rintro e w1 ⟨rfl, b1⟩
  go_wp2
  go_ret
  exact ⟨rfl, b1⟩

/-- A copy of bytes is returned. -/
def ClonePost (n : Nat) (zs : List Int) (w : World) (e : Ending) (w' : World) : Prop :=
  ∃ v, e = .returned v ∧ w'.ownsRow w.heap.size 5 1 v n (zs.map (Value.int .u8)) ∧ Below w.heap.size w w'

set_option maxRecDepth 100000 in
theorem clone_any (A : Option Addr) (n c : Nat) (zs : List Int) (hn : n ≤ 1000000) (w : World) (hI : Ints .u8 w w.heap.size A n zs) :
    Calls Try.prog 45 #[.slice A n c] w (ClonePost n zs w) := by
  obtain ⟨i0, hi, hz0, hz1, hz2⟩ := info_parts info_u8
  have hne := fun wx => Lib.run_eql_slice_nil (P := Try.prog) wx 39 5 A n c 0 0 Try.underlying39
  cases A with
  | none =>
    have hn0 : n = 0 := by
      rcases Nat.eq_zero_or_pos n with h | h
      · exact h
      · obtain ⟨_, _, h', _⟩ := hI.2 h
        cases h'
    subst hn0
    have hz : zs = [] := List.eq_nil_of_length_eq_zero hI.1
    subst hz
    go_enter Try.func45, Try.ntmps45
    go_wp2
    go_ret
    exact ⟨_, rfl, World.ownsRow_nil _ _ _ _, Below.refl _ _⟩
  | some a =>
    go_enter Try.func45, Try.ntmps45
    go_wp2_with (at_builtin; refine wpList_append_ints _ rfl _ _ 39 rfl w.heap.size 5 i0 (.int .u8 0) 1 Try.underlying39 hi hz0 hz1 hz2 rfl (.slice (some ⟨w.heap.size, 0, none⟩) 0 0) 0 [] rfl (World.ownsRow_lit w #[] 0 (Nat.le_refl _) (by unfold maxLen; omega) rfl) .u8 w.heap.size (some a) n c zs rfl (hI.below ((Below.refl _ _).alloc (Nat.le_refl _) _)) (by unfold maxLen; omega) (by omega) (by simp) ?_; intro v' w1 hown' hgrow)
    go_ret
    exact ⟨_, rfl, by simpa using hown', ((Below.refl _ _).alloc (Nat.le_refl _) _).grown hgrow (by simp) (by simp [Value.ownBlock])⟩

set_option maxRecDepth 100000 in
theorem new_any (w : World) :
    Calls Try.prog 33 #[] w fun e w' => e = .returned (.pointer (some ⟨w.heap.size + 1, 0, none⟩)) ∧ LibAt w' (fun k => w.heap.size ≤ k) (w.heap.size + 1) [] ∧ Below w.heap.size w w' := by
  have hmm := @run_makeMap Try.prog
  go_enter Try.func33, Try.ntmps33
  go_wp2
  go_ret
  refine ⟨rfl, ⟨none, 0, [], w.heap.size, fun _ _ => none, ?_⟩, ((Below.refl _ w).alloc (Nat.le_refl _) _).alloc (by simp) _⟩
  have hz : (w.alloc (.map #[] 0)).heap.size = w.heap.size + 1 := by simp
  refine ⟨?_, by omega, World.ownsRow_nil _ _ _ _, by simp [Value.ownBlock], ?_, Nat.le_refl _, by simp, by simp, by simp, ⟨by simp, by simp⟩⟩
  · rw [← hz]
    exact World.alloc_heap_new _ _
  · exact (RootMap.made w).same (Below.heap_alloc _ _ _ (by simp))

set_option maxRecDepth 100000 in
theorem len_any (S : Nat → Prop) (lb : Nat) (es : List (List Int)) (w : World) (h : LibAt w S lb es) :
    Calls Try.prog 22 #[.pointer (some ⟨lb, 0, none⟩)] w fun e w' => e = .returned (.int .i64 (es.length : Int)) ∧ w = w' := by
  obtain ⟨A, c, vs, mb, M, h⟩ := h
  have hc := h.cell0
  go_enter Try.func22, Try.ntmps22
  go_wp2
  go_ret
  exact ⟨rfl, rfl⟩
end Go.Proofs.Ytliconagelemdaa
