/- The walk of Link. -/
import Derived.Test.YtliconagelemdaaWalkE
namespace Go.Proofs.Ytliconagelemdaa
open Go.RowKit Go.Shelf
set_option linter.unusedVariables false

attribute [local go_sem ↓] Go.wp_at_zero Go.wp_at_succ

/-- The closure of Link. -/
def linkFn (Bl Bp Bw : Nat) : Value := .func (.func 38) #[] #[.pointer (some ⟨Bp, 0, none⟩), .pointer (some ⟨Bl, 0, none⟩), .pointer (some ⟨Bw, 0, none⟩)]

set_option maxRecDepth 100000 in
set_option maxHeartbeats 8000000 in
theorem linkWalk_any (S : Nat → Prop) (lb : Nat) (es : List (List Int)) (w : World) (hL : LibAt w S lb es) (Bl Bp Bw : Nat) (hBp : w.heap.size ≤ Bp) : ∀ (n m start : Nat) (whole : Bool) (acc : List Int) (W : World), Collects w W Bl Bp Bw lb 67 (linkFn Bl Bp Bw) acc → 1 ≤ m → m ≤ n → start + n ≤ es.length → acc.length + n ≤ 10000 →
    Calls Try.prog 38 #[.int .i64 (m : Int), .int .i64 (start : Int), .int .i64 (n : Int), .bool whole, .pointer (some ⟨Bp, 0, none⟩), .pointer (some ⟨Bl, 0, none⟩), .pointer (some ⟨Bw, 0, none⟩)] W
      (WalkPost w Bl Bp Bw lb 67 (linkFn Bl Bp Bw) (acc ++ linkL (partZ es start n) m whole)) := by
  intro n
  induction n using Nat.strongRecOn with
  | ind n ih0 =>
  intro m start whole acc W hC hm1 hmn hle hacc
  have ih := Lib.hid ih0
  clear ih0
  have hfew := hL.few
  obtain ⟨i0, hi0, hz0, hz1, hz2⟩ := info_parts info_u64
  by_cases h1 : m = n
  · subst h1
    have hz : ((m : Int) == (m : Int)) = true := by simp
    have HP := Lib.hid (show linkL (partZ es start m) m whole = if whole then [] else [rootL (partZ es start m)] from by
      have := linkL_all (partZ es start m) whole
      rwa [partZ_length hle] at this)
    cases whole with
    | true =>
      have HC := Lib.hid hC
      clear hC
      go_enter Try.func38, Try.ntmps38
      go_wp2_with fail
      go_end0
      exact ⟨⟨_, rfl⟩, by rw [HP.out]; simp only [if_true, List.append_nil]; exact HC.out⟩
    | false =>
      obtain ⟨A, c, hK⟩ := hC
      go_enter Try.func38, Try.ntmps38
      have hcp := hK.bp.cell
      have hfp := hK.bp.frozen
      have hcl := hK.bl.cell
      have HL1 := Lib.hid (hL.below hK.below).drew
      have HK1 := Lib.hid hK
      have hle1 : start + (m) ≤ es.length := by omega
      clear hK
      go_wp2_with fail
      go_region_law (first
        | (refine step_append_lies _ (by rfl) _ _ _ (by rfl) w.heap.size 40 i0 _ 1 8 Try.underlying25 hi0 hz0 hz1 hz2 rfl (by decide) (.slice A acc.length c) acc.length (acc.map (Value.int .u64)) (by rfl) (HK2.out.row.alloc _) ⟨w2.heap.size, 0, none⟩ 1 1 [.int .u64 (rootL (partZ es (start) (m)))] (by rfl) (by rfl) (World.news_of_block (cs := #[.int .u64 (rootL (partZ es (start) (m)))]) (t := 40) (fr := (0, 0)) (heap_alloc_new w2 _)) (by simp [Value.oneCell']) (by decide) (by unfold maxLen; omega) (by omega) (by have := HK2.out.below.size; simp; omega) (w2.heap.size + 1) (by simp) ?_; intro gg cap w3 hown3 hgrow hat hglt; have hbp3 := (far_keep hgrow HK2.out.bp.lt (HK2.out.bp.not_row (by decide) HK2.out.row).symm).trans HK2.out.bp; have hcp3 := Boxed.cell hbp3; have hfp3 := Boxed.frozen hbp3)
        | (go_simp; go_at_call 36; refine (root_int S lb es (m) (start) _ _ rfl rfl _ (by exact HL1.out) hle1).mono ?_; rintro e w2 ⟨rfl, b2'⟩; have HK2 := Lib.hid (HK1.out.more (Below.undrew b2')); have hcp2 := HK2.out.bp.cell; have hlt2 := HK2.out.bp.lt))
      all_goals
        go_wp2_with fail
        go_end0
        refine ⟨⟨_, rfl⟩, ⟨some ⟨gg, 0, none⟩, cap, ?_⟩⟩
        rw [HP.out, if_neg (by decide)]
        exact HK2.out.push hBp (by decide) (by decide) hown3 hgrow
  · have hz : ((m : Int) == (n : Int)) = false := by simp; omega
    have hs := halfN_spec (n := n) (by omega)
    have HP := Lib.hid (partZ_length hle)
    have HC := Lib.hid hC
    have hcw := hC.choose_spec.choose_spec.bw.cell
    clear hC
    by_cases hik : m ≤ halfN n
    · have HPL := Lib.hid (linkL_left (l := partZ es start n) (m := m) whole hm1 (by rw [partZ_length hle]; omega) (by rw [partZ_length hle]; exact hik))
      go_enter Try.func38, Try.ntmps38
      go_wp2_with fail
      refine (half_any n (by omega) _).mono ?_
      rintro e w' ⟨rfl, rfl⟩
      obtain ⟨k, hk⟩ : ∃ k, halfN n = k := ⟨_, rfl⟩
      rw [hk] at hs hik ⊢
      have HK := Lib.hid hk
      clear hk
      unfold linkFn at hcw
      go_wp2_with fail
      refine (ih.out k (by omega) m start whole acc _ HC.out (by omega) (by omega) (by omega) (by omega)).mono ?_
      rintro e W1 ⟨⟨v0, rfl⟩, hC1⟩
      have hal : (acc ++ linkL (partZ es start k) m whole).length ≤ 10000 := by
        have := linkL_len (l := partZ es start k) whole hm1 (by rw [partZ_length (by omega)]; omega)
        rw [partZ_length (by omega)] at this
        rw [List.length_append]
        omega
      obtain ⟨acc1, hacc1⟩ : ∃ acc1, acc ++ linkL (partZ es start k) m whole = acc1 := ⟨_, rfl⟩
      rw [hacc1] at hC1 hal
      have HA := Lib.hid hacc1
      clear hacc1 hcw
      obtain ⟨A, c, hK⟩ := hC1
      have hcp := hK.bp.cell
      have hfp := hK.bp.frozen
      have hcl := hK.bl.cell
      have HL1 := Lib.hid (hL.below hK.below).drew
      have HS1 := Lib.hid (show ((start : Int) + (k : Int)) = ((start + k : Nat) : Int) from by omega)
      have HS2 := Lib.hid (show ((n : Int) - (k : Int)) = ((n - k : Nat) : Int) from by omega)
      have HK1 := Lib.hid hK
      have hle1 : start + k + (n - k) ≤ es.length := by omega
      have hw1 : IntKind.i64.wrap ((start : Int) + (k : Int)) = (start : Int) + (k : Int) := IntWalk.i64_in _ (by omega)
      have hw2 : IntKind.i64.wrap ((n : Int) - (k : Int)) = (n : Int) - (k : Int) := IntWalk.i64_in _ (by omega)
      clear hK
      go_wp2_with fail
      go_region_law (first
        | (refine step_append_lies _ (by rfl) _ _ _ (by rfl) w.heap.size 40 i0 _ 1 8 Try.underlying25 hi0 hz0 hz1 hz2 rfl (by decide) (.slice A acc1.length c) acc1.length (acc1.map (Value.int .u64)) (by rfl) (HK2.out.row.alloc _) ⟨w2.heap.size, 0, none⟩ 1 1 [.int .u64 (rootL (partZ es (start + k) (n - k)))] (by rfl) (by rfl) (World.news_of_block (cs := #[.int .u64 (rootL (partZ es (start + k) (n - k)))]) (t := 40) (fr := (0, 0)) (heap_alloc_new w2 _)) (by simp [Value.oneCell']) (by decide) (by unfold maxLen; omega) (by omega) (by have := HK2.out.below.size; simp; omega) (w2.heap.size + 1) (by simp) ?_; intro gg cap w3 hown3 hgrow hat hglt; have hbp3 := (far_keep hgrow HK2.out.bp.lt (HK2.out.bp.not_row (by decide) HK2.out.row).symm).trans HK2.out.bp; have hcp3 := Boxed.cell hbp3; have hfp3 := Boxed.frozen hbp3)
        | (go_simp; go_at_call 36; refine (root_int S lb es (n - k) (start + k) _ _ HS2.out HS1.out _ (by exact HL1.out) hle1).mono ?_; rintro e w2 ⟨rfl, b2'⟩; have HK2 := Lib.hid (HK1.out.more (Below.undrew b2')); have hcp2 := HK2.out.bp.cell; have hlt2 := HK2.out.bp.lt))
      all_goals
        go_wp2_with fail
        go_end0
        refine ⟨⟨_, rfl⟩, ⟨some ⟨gg, 0, none⟩, cap, ?_⟩⟩
        rw [HPL.out, HP.out, HK.out, partZ_take (by omega), partZ_drop, ← List.append_assoc, HA.out]
        exact HK2.out.push hBp (by decide) (by decide) hown3 hgrow
    · have HPL := Lib.hid (linkL_right (l := partZ es start n) (m := m) whole (by rw [partZ_length hle]; omega) (by rw [partZ_length hle]; exact hik))
      go_enter Try.func38, Try.ntmps38
      go_wp2_with fail
      refine (half_any n (by omega) _).mono ?_
      rintro e w' ⟨rfl, rfl⟩
      obtain ⟨k, hk⟩ : ∃ k, halfN n = k := ⟨_, rfl⟩
      rw [hk] at hs hik ⊢
      have HK := Lib.hid hk
      clear hk
      unfold linkFn at hcw
      go_wp2_with fail
      rw [show ((m : Int) - (k : Int)) = ((m - k : Nat) : Int) from by omega, show ((start : Int) + (k : Int)) = ((start + k : Nat) : Int) from by omega, show ((n : Int) - (k : Int)) = ((n - k : Nat) : Int) from by omega]
      refine (ih.out (n - k) (by omega) (m - k) (start + k) false acc _ HC.out (by omega) (by omega) (by omega) (by omega)).mono ?_
      rintro e W1 ⟨⟨v0, rfl⟩, hC1⟩
      have hal : (acc ++ linkL (partZ es (start + k) (n - k)) (m - k) false).length ≤ 10000 := by
        have := linkL_len (l := partZ es (start + k) (n - k)) (m := m - k) false (by omega) (by rw [partZ_length (by omega)]; omega)
        rw [partZ_length (by omega)] at this
        rw [List.length_append]
        omega
      obtain ⟨acc1, hacc1⟩ : ∃ acc1, acc ++ linkL (partZ es (start + k) (n - k)) (m - k) false = acc1 := ⟨_, rfl⟩
      rw [hacc1] at hC1 hal
      have HA := Lib.hid hacc1
      clear hacc1 hcw
      obtain ⟨A, c, hK⟩ := hC1
      have hcp := hK.bp.cell
      have hfp := hK.bp.frozen
      have hcl := hK.bl.cell
      have HL1 := Lib.hid (hL.below hK.below).drew
      have HK1 := Lib.hid hK
      have hle1 : start + (k) ≤ es.length := by omega
      clear hK
      go_wp2_with fail
      go_region_law (first
        | (refine step_append_lies _ (by rfl) _ _ _ (by rfl) w.heap.size 40 i0 _ 1 8 Try.underlying25 hi0 hz0 hz1 hz2 rfl (by decide) (.slice A acc1.length c) acc1.length (acc1.map (Value.int .u64)) (by rfl) (HK2.out.row.alloc _) ⟨w2.heap.size, 0, none⟩ 1 1 [.int .u64 (rootL (partZ es (start) (k)))] (by rfl) (by rfl) (World.news_of_block (cs := #[.int .u64 (rootL (partZ es (start) (k)))]) (t := 40) (fr := (0, 0)) (heap_alloc_new w2 _)) (by simp [Value.oneCell']) (by decide) (by unfold maxLen; omega) (by omega) (by have := HK2.out.below.size; simp; omega) (w2.heap.size + 1) (by simp) ?_; intro gg cap w3 hown3 hgrow hat hglt; have hbp3 := (far_keep hgrow HK2.out.bp.lt (HK2.out.bp.not_row (by decide) HK2.out.row).symm).trans HK2.out.bp; have hcp3 := Boxed.cell hbp3; have hfp3 := Boxed.frozen hbp3)
        | (go_simp; go_at_call 36; refine (root_int S lb es (k) (start) _ _ rfl rfl _ (by exact HL1.out) hle1).mono ?_; rintro e w2 ⟨rfl, b2'⟩; have HK2 := Lib.hid (HK1.out.more (Below.undrew b2')); have hcp2 := HK2.out.bp.cell; have hlt2 := HK2.out.bp.lt))
      all_goals
        go_wp2_with fail
        go_end0
        refine ⟨⟨_, rfl⟩, ⟨some ⟨gg, 0, none⟩, cap, ?_⟩⟩
        rw [HPL.out, HP.out, HK.out, partZ_take (by omega), partZ_drop, ← List.append_assoc, HA.out]
        exact HK2.out.push hBp (by decide) (by decide) hown3 hgrow

theorem linkWalk_int (S : Nat → Prop) (lb : Nat) (es : List (List Int)) (w : World) (hL : LibAt w S lb es) (Bl Bp Bw : Nat) (hBp : w.heap.size ≤ Bp) (n m start : Nat) (whole : Bool) (sI : Int) (hsI : sI = (start : Int)) (acc : List Int) (W : World) (hC : Collects w W Bl Bp Bw lb 67 (linkFn Bl Bp Bw) acc) (h1 : 1 ≤ m) (h2 : m ≤ n) (h3 : start + n ≤ es.length) (h4 : acc.length + n ≤ 10000) :
    Calls Try.prog 38 #[.int .i64 (m : Int), .int .i64 sI, .int .i64 (n : Int), .bool whole, .pointer (some ⟨Bp, 0, none⟩), .pointer (some ⟨Bl, 0, none⟩), .pointer (some ⟨Bw, 0, none⟩)] W
      (WalkPost w Bl Bp Bw lb 67 (linkFn Bl Bp Bw) (acc ++ linkL (partZ es start n) m whole)) := by
  subst hsI
  exact linkWalk_any S lb es w hL Bl Bp Bw hBp n m start whole acc W hC h1 h2 h3 h4

/-- The link, as Link and the reference's Link return it. -/
def linkZ (l : List Int) (m : Nat) : List Int := if m = 0 then [] else linkL l m true
theorem linkZ_self (l : List Int) : linkZ l l.length = [] := by
  unfold linkZ
  split
  · rfl
  · rw [linkL_all]; rfl

set_option maxRecDepth 100000 in
set_option maxHeartbeats 1000000 in
theorem Link_yes (S : Nat → Prop) (lb : Nat) (es : List (List Int)) (m n : Nat) (w : World) (hL : LibAt w S lb es) (hn : n ≤ es.length) (hm : m ≤ n) :
    Calls Try.prog 15 #[.pointer (some ⟨lb, 0, none⟩), .int .i64 (m : Int), .int .i64 (n : Int)] w (ListPost (linkZ (partZ es 0 n) m) 0 w) := by
  have hfew := hL.few
  obtain ⟨A0, c0, hc, hlt⟩ : ∃ A c, w.cell? ⟨lb, 0, none⟩ = some (.slice A es.length c) ∧ lb < w.heap.size := by
    obtain ⟨A0, c0, vs0, mb0, M0, h0⟩ := hL
    exact ⟨A0, c0, h0.cell0, h0.lt⟩
  have hd1 : decide ((m : Int) < 0) = false := by simp
  have hd2 : decide (n < m) = false := by simp; omega
  have hd3 : decide (es.length < n) = false := by simp; omega
  have hl0 : (partZ es 0 n).length = n := partZ_length (by omega)
  by_cases h0 : m = 0
  · have hz : ((m : Int) == 0) = true := by simp; omega
    have HF := Lib.hid (show linkZ (partZ es 0 n) m = [] from by unfold linkZ; rw [if_pos h0])
    clear hl0 h0
    go_enter Try.func15, Try.ntmps15
    go_wp2
    go_ret2
    rw [HF.out]
    exact ⟨none, 0, rfl, World.ownsRow_nil _ _ _ _, (Below.refl _ w).alloc (Nat.le_refl _) _⟩
  · have hz : ((m : Int) == 0) = false := by simp; omega
    by_cases h1 : m = n
    · have hz2 : ((m : Int) == (n : Int)) = true := by simp; omega
      have HF := Lib.hid (show linkZ (partZ es 0 n) m = [] from by have := linkZ_self (partZ es 0 n); rw [hl0, ← h1] at this; rw [← h1]; exact this)
      clear hl0 h0 h1
      go_enter Try.func15, Try.ntmps15
      go_wp2
      go_ret2
      rw [HF.out]
      exact ⟨none, 0, rfl, World.ownsRow_nil _ _ _ _, (Below.refl _ w).alloc (Nat.le_refl _) _⟩
    · have hz2 : ((m : Int) == (n : Int)) = false := by simp; omega
      have HF := Lib.hid (show linkZ (partZ es 0 n) m = linkL (partZ es 0 n) m true from by unfold linkZ; rw [if_neg h0])
      clear hl0
      go_enter Try.func15, Try.ntmps15
      go_wp2_with fail
      have hC := coll_new w lb 67 (linkFn w.heap.size (w.heap.size + 1) (w.heap.size + 1 + 1))
      refine (linkWalk_int S lb es w hL w.heap.size (w.heap.size + 1) (w.heap.size + 1 + 1) (by omega) n m 0 true 0 rfl [] _ hC (by omega) hm (by omega) (by simp; omega)).mono ?_
      rintro e W1 ⟨⟨v0, rfl⟩, A, c, hK⟩
      rw [List.nil_append] at hK
      have hcp := hK.bp.cell
      obtain ⟨l, hl⟩ : ∃ l, linkL (partZ es 0 n) m true = l := ⟨_, rfl⟩
      rw [hl] at hK hcp
      have HK := Lib.hid hK
      have HL := Lib.hid hl
      clear hK hl
      go_wp2_with fail
      go_ret2
      rw [HF.out, HL.out]
      exact ⟨A, c, rfl, HK.out.row, HK.out.below⟩

set_option maxRecDepth 100000 in
theorem Link_no (S : Nat → Prop) (lb : Nat) (es : List (List Int)) (m n : Int) (w : World) (hL : LibAt w S lb es) (hn : m < 0 ∨ n < m ∨ (es.length : Int) < n) :
    Calls Try.prog 15 #[.pointer (some ⟨lb, 0, none⟩), .int .i64 m, .int .i64 n] w (ListPost [] 5 w) := by
  obtain ⟨A0, c0, hc, hlt⟩ : ∃ A c, w.cell? ⟨lb, 0, none⟩ = some (.slice A es.length c) ∧ lb < w.heap.size := by
    obtain ⟨A0, c0, vs0, mb0, M0, h0⟩ := hL
    exact ⟨A0, c0, h0.cell0, h0.lt⟩
  have hfin : ∀ o : Obj, ListPost [] 5 w (.returned (.tuple #[.slice none 0 0, .int .i64 5])) (w.alloc o) := fun o => ⟨none, 0, rfl, World.ownsRow_nil _ _ _ _, (Below.refl _ w).alloc (Nat.le_refl _) _⟩
  have HF := Lib.hid hfin
  clear hfin
  by_cases h1 : m < 0
  · have hd1 : decide (m < 0) = true := by simpa using h1
    go_enter Try.func15, Try.ntmps15
    go_wp2
    go_ret2
    exact HF.out _
  · have hd1 : decide (m < 0) = false := by simpa using h1
    by_cases h2 : n < m
    · have hd2 : decide (n < m) = true := by simpa using h2
      go_enter Try.func15, Try.ntmps15
      go_wp2
      go_ret2
      exact HF.out _
    · have hd2 : decide (n < m) = false := by simpa using h2
      have hd3 : decide ((es.length : Int) < n) = true := by simp; omega
      go_enter Try.func15, Try.ntmps15
      go_wp2
      go_ret2
      exact HF.out _
end Go.Proofs.Ytliconagelemdaa
