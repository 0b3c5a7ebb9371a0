/- The reference's Root, Path and Link. -/
import Derived.Test.YtliconagelemdaaWalkF
namespace Go.Proofs.Ytliconagelemdaa
open Go.RowKit Go.Shelf
set_option linter.unusedVariables false

theorem Ints.drop {k : IntKind} {w : World} {B : Nat} {b off : Nat} {n : Nat} {zs : List Int} (h : Ints k w B (some ⟨b, off, none⟩) n zs) (m : Nat) (hm : m ≤ n) : Ints k w B (some ⟨b, off + m, none⟩) (n - m) (zs.drop m) := by
  refine ⟨by rw [List.length_drop, h.1], fun hn => ?_⟩
  obtain ⟨b', off', e, hlt, hc⟩ := h.2 (by omega)
  obtain ⟨rfl, rfl⟩ : b = b' ∧ off = off' := by injection e with e; injection e with h1 h2; exact ⟨h1, h2⟩
  refine ⟨b, off + m, rfl, hlt, fun j hj => ?_⟩
  rw [Nat.add_assoc, hc (m + j) (by omega), List.getElem?_drop]

set_option maxRecDepth 100000 in
set_option maxHeartbeats 2000000 in
theorem refRoot_any : ∀ (n c : Nat) (A : Option Addr) (zs : List Int) (w : World), n ≤ 10000 → n ≤ c → c ≤ maxLen → Ints .u64 w w.heap.size A n zs →
    Calls Try.prog 23 #[.slice A n c] w fun e w' => e = .returned (.int .u64 (rootL zs)) ∧ Below w.heap.size w w' := by
  intro n
  induction n using Nat.strongRecOn with
  | ind n ih0 =>
  intro c A zs w hn hnc hc hI
  unfold maxLen at hc
  have ih := Lib.hid ih0
  clear ih0
  by_cases h0 : n = 0
  · subst h0
    have hz0 : zs = [] := List.eq_nil_of_length_eq_zero hI.1
    subst hz0
    have hz : (((0 : Nat) : Int) == 0) = true := rfl
    go_enter Try.func23, Try.ntmps23
    go_wp2_with fail
    refine (refNoneSum_any _).mono ?_
    rintro e w1 ⟨rfl, b1⟩
    go_wp2
    go_ret
    exact ⟨rfl, b1⟩
  · have hz : ((n : Int) == 0) = false := by simp; omega
    by_cases h1 : n = 1
    · subst h1
      obtain ⟨b, off, rfl, hblt, hcs⟩ := hI.2 (by omega)
      obtain ⟨z, rfl⟩ : ∃ z, zs = [z] := List.length_eq_one_iff.1 hI.1
      have hc0 := hcs 0 (by omega)
      simp at hc0
      clear hcs
      go_enter Try.func23, Try.ntmps23
      go_wp2_with fail
      refine (refLeaf_any _ _).mono ?_
      rintro e w1 ⟨rfl, b1⟩
      go_wp2
      go_ret
      exact ⟨rfl, b1⟩
    · have hz1 : ((n : Int) == 1) = false := by simp; omega
      have hs := halfN_spec (n := n) (by omega)
      have hl := hI.1
      have HR := Lib.hid (rootL_node (l := zs) (by omega))
      have HL := Lib.hid hl
      clear hl
      obtain ⟨b, off, rfl, hblt, hcs⟩ := hI.2 (by omega)
      clear hcs
      go_enter Try.func23, Try.ntmps23
      go_wp2_with fail
      refine (refHalf_any n (by omega) _).mono ?_
      rintro e w' ⟨rfl, rfl⟩
      obtain ⟨k, hk⟩ : ∃ k, halfN n = k := ⟨_, rfl⟩
      rw [hk] at hs ⊢
      have HK := Lib.hid hk
      clear hk
      have hck : ¬ (c = k) := by omega
      have hkc : k ≤ c := by omega
      have hkn : k ≤ n := by omega
      have ih1 := ih.out k (by omega) c (some ⟨b, off, none⟩) (zs.take k) w.drew (by omega) (by omega) (by unfold maxLen; omega) (hI.take k k (by omega))
      have ih2 := fun w1 (b1 : Below w.heap.size w w1) => ih.out (n - k) (by omega) (c - k) (some ⟨b, off + k, none⟩) (zs.drop k) w1 (by omega) (by omega) (by unfold maxLen; omega) ((hI.below b1).drop k (by omega) |>.more b1.size)
      go_wp2_with fail
      go_region_law (first
        | (go_simp; go_at_call 44; refine (refNode_any _ _ _).mono ?_; rintro e w3 ⟨rfl, b3⟩)
        | (go_simp; go_at_call 23; (with_reducible refine ih1.mono ?_); rintro e w1 ⟨rfl, b1'⟩; have b1 := Below.undrew b1'; clear b1')
        | (go_simp; go_at_call 23; (with_reducible refine (ih2 _ b1).mono ?_); rintro e w2 ⟨rfl, b2⟩))
      all_goals
        go_wp2_with fail
        go_ret
        refine ⟨?_, (b1.trans (b2.mono b1.size)).trans (b3.mono (Nat.le_trans b1.size b2.size))⟩
        show Ending.returned (.int .u64 (nodeZ _ _)) = _
        rw [HR.out, HL.out, HK.out]

/-- A row of numbers is returned. -/
def RowPost (zs : List Int) (w : World) (e : Ending) (w' : World) : Prop :=
  ∃ v, e = .returned v ∧ w'.ownsRow w.heap.size 40 1 v zs.length (zs.map (Value.int .u64)) ∧ Below w.heap.size w w'

theorem row_push {w w1 w2 w3 : World} {A1 : Option Addr} {c1 gg cap : Nat} {ps zs : List Int} {r : Int} {t : TypeId} (b1 : Below w.heap.size w w1) (b2 : Below w1.heap.size w1 w2)
    (hown2 : w2.ownsRow w.heap.size 40 1 (.slice A1 ps.length c1) ps.length (ps.map (Value.int .u64)))
    (hown3 : w3.ownsRow w.heap.size 40 1 (.slice (some ⟨gg, 0, none⟩) (ps.length + 1) cap) (ps.length + 1) (ps.map (Value.int .u64) ++ [.int .u64 r]))
    (hgrow : (w2.alloc (.cells #[.int .u64 r] t)).grownBy w3 (Value.slice A1 ps.length c1).ownBlock) (hz : zs = ps ++ [r]) :
    RowPost zs w (.returned (.slice (some ⟨gg, 0, none⟩) (ps.length + 1) cap)) w3 := by
  subst hz
  have hz1 := b1.size
  have hz2 := b2.size
  obtain ⟨_, hb1⟩ := grown_keeps hown2 (by omega) hgrow
  refine ⟨_, rfl, by simpa using hown3, (b1.trans (b2.mono hz1)).trans hb1⟩

set_option maxRecDepth 100000 in
set_option maxHeartbeats 4000000 in
theorem refPath_any : ∀ (n c : Nat) (A : Option Addr) (zs : List Int) (i : Nat) (w : World), 1 ≤ n → n ≤ 10000 → n ≤ c → c ≤ maxLen → i < n → Ints .u64 w w.heap.size A n zs →
    Calls Try.prog 14 #[.slice A n c, .int .i64 (i : Int)] w (RowPost (pathL zs i) w) := by
  intro n
  induction n using Nat.strongRecOn with
  | ind n ih0 =>
  intro c A zs i w hn1 hn hnc hc hi hI
  unfold maxLen at hc
  have ih := Lib.hid ih0
  clear ih0
  obtain ⟨i0, hi0, hz0', hz1', hz2'⟩ := info_parts info_u64
  by_cases h1 : n = 1
  · subst h1
    have hz : (((1 : Nat) : Int) == 1) = true := rfl
    have HP := Lib.hid (pathL_one (l := zs) (by rw [hI.1]; exact Nat.le_refl _) i)
    go_enter Try.func14, Try.ntmps14
    go_wp2
    go_ret
    refine ⟨_, rfl, ?_, Below.refl _ _⟩
    rw [HP.out]
    exact World.ownsRow_nil _ _ _ _
  · have hz1 : ((n : Int) == 1) = false := by simp; omega
    have hs := halfN_spec (n := n) (by omega)
    have HL := Lib.hid hI.1
    obtain ⟨b, off, rfl, hblt, hcs⟩ := hI.2 (by omega)
    clear hcs
    by_cases hik : i < halfN n
    · have HP := Lib.hid (pathL_left (l := zs) (i := i) (by rw [hI.1]; omega) (by rw [hI.1]; exact hik))
      go_enter Try.func14, Try.ntmps14
      go_wp2_with fail
      refine (refHalf_any n (by omega) _).mono ?_
      rintro e w' ⟨rfl, rfl⟩
      obtain ⟨k, hk⟩ : ∃ k, halfN n = k := ⟨_, rfl⟩
      rw [hk] at hs hik ⊢
      have HK := Lib.hid hk
      clear hk
      have hck : ¬ (c = k) := by omega
      have hkc : k ≤ c := by omega
      have hkn : k ≤ n := by omega
      have ih1 := ih.out k (by omega) c (some ⟨b, off, none⟩) (zs.take k) i w.drew (by omega) (by omega) (by omega) (by unfold maxLen; omega) (by omega) (hI.take k k (by omega))
      have hlen := pathL_len (zs.take k) i
      obtain ⟨ps, hps⟩ : ∃ ps, pathL (zs.take k) i = ps := ⟨_, rfl⟩
      obtain ⟨rs, hrs⟩ : ∃ rs, (zs.drop k) = rs := ⟨_, rfl⟩
      rw [hps] at ih1 hlen
      have hlen2 : ps.length ≤ 20000 := by rw [List.length_take, HL.out] at hlen; omega
      have ih2 := fun w1 (b1 : Below w.heap.size w w1) => refRoot_any (n - k) (c - k) (some ⟨b, off + k, none⟩) rs w1 (by omega) (by omega) (by unfold maxLen; omega) (by rw [← hrs]; exact ((hI.below b1).drop k (by omega) |>.more b1.size))
      have HPS := Lib.hid hps
      have HRS := Lib.hid hrs
      clear hps hrs hlen
      go_wp2_with fail
      go_region_law (first
        | (go_simp; go_at_call 14; (with_reducible refine ih1.mono ?_); rintro e w1 ⟨v1, rfl, hown1, b1'⟩; have b1 := Below.undrew b1'; clear b1'; obtain ⟨A1, c1, hv⟩ := own_slice hown1; subst hv)
        | (go_simp; go_at_call 23; (with_reducible refine (ih2 _ b1).mono ?_); rintro e w2 ⟨rfl, b2⟩; have hown2 : w2.ownsRow w.heap.size 40 1 (.slice A1 ps.length c1) ps.length (ps.map (Value.int .u64)) := own_below hown1 b2)
        | (refine step_append_lies _ (by rfl) _ _ _ (by rfl) w.heap.size 40 i0 _ 1 8 Try.underlying25 hi0 hz0' hz1' hz2' rfl (by decide) (.slice A1 ps.length c1) ps.length (ps.map (Value.int .u64)) (by rfl) (hown2.alloc _) ⟨w2.heap.size, 0, none⟩ 1 1 [.int .u64 (rootL rs)] (by rfl) (by rfl) (World.news_of_block (cs := #[.int .u64 (rootL rs)]) (t := 40) (fr := (0, 0)) (heap_alloc_new w2 _)) (by simp [Value.oneCell']) (by decide) (by unfold maxLen; omega) (by omega) (by have := b1.size; have := b2.size; simp; omega) (w2.heap.size + 1) (by simp) ?_; intro gg cap w3 hown3 hgrow hat hglt))
      all_goals
        go_wp2_with fail
        go_ret
        exact row_push b1 b2 hown2 hown3 hgrow (by rw [HP.out, HL.out, HK.out, HPS.out, HRS.out])
    · have HP := Lib.hid (pathL_right (l := zs) (i := i) (by rw [hI.1]; omega) (by rw [hI.1]; exact hik))
      go_enter Try.func14, Try.ntmps14
      go_wp2_with fail
      refine (refHalf_any n (by omega) _).mono ?_
      rintro e w' ⟨rfl, rfl⟩
      obtain ⟨k, hk⟩ : ∃ k, halfN n = k := ⟨_, rfl⟩
      rw [hk] at hs hik ⊢
      have HK := Lib.hid hk
      clear hk
      have hck : ¬ (c = k) := by omega
      have hkc : k ≤ c := by omega
      have hkn : k ≤ n := by omega
      have hsub : IntKind.i64.wrap ((i : Int) - (k : Int)) = ((i - k : Nat) : Int) := by rw [IntWalk.i64_in _ (by omega)]; omega
      have ih1 := ih.out (n - k) (by omega) (c - k) (some ⟨b, off + k, none⟩) (zs.drop k) (i - k) w.drew (by omega) (by omega) (by omega) (by unfold maxLen; omega) (by omega) (hI.drop k (by omega))
      have hlen := pathL_len (zs.drop k) (i - k)
      obtain ⟨ps, hps⟩ : ∃ ps, pathL (zs.drop k) (i - k) = ps := ⟨_, rfl⟩
      obtain ⟨rs, hrs⟩ : ∃ rs, (zs.take k) = rs := ⟨_, rfl⟩
      rw [hps] at ih1 hlen
      have hlen2 : ps.length ≤ 20000 := by rw [List.length_drop, HL.out] at hlen; omega
      have ih2 := fun w1 (b1 : Below w.heap.size w w1) => refRoot_any k c (some ⟨b, off, none⟩) rs w1 (by omega) (by omega) (by unfold maxLen; omega) (by rw [← hrs]; exact ((hI.below b1).take k k (by omega) |>.more b1.size))
      have HPS := Lib.hid hps
      have HRS := Lib.hid hrs
      clear hps hrs hlen
      go_wp2_with fail
      go_region_law (first
        | (go_simp; go_at_call 14; (with_reducible refine ih1.mono ?_); rintro e w1 ⟨v1, rfl, hown1, b1'⟩; have b1 := Below.undrew b1'; clear b1'; obtain ⟨A1, c1, hv⟩ := own_slice hown1; subst hv)
        | (go_simp; go_at_call 23; (with_reducible refine (ih2 _ b1).mono ?_); rintro e w2 ⟨rfl, b2⟩; have hown2 : w2.ownsRow w.heap.size 40 1 (.slice A1 ps.length c1) ps.length (ps.map (Value.int .u64)) := own_below hown1 b2)
        | (refine step_append_lies _ (by rfl) _ _ _ (by rfl) w.heap.size 40 i0 _ 1 8 Try.underlying25 hi0 hz0' hz1' hz2' rfl (by decide) (.slice A1 ps.length c1) ps.length (ps.map (Value.int .u64)) (by rfl) (hown2.alloc _) ⟨w2.heap.size, 0, none⟩ 1 1 [.int .u64 (rootL rs)] (by rfl) (by rfl) (World.news_of_block (cs := #[.int .u64 (rootL rs)]) (t := 40) (fr := (0, 0)) (heap_alloc_new w2 _)) (by simp [Value.oneCell']) (by decide) (by unfold maxLen; omega) (by omega) (by have := b1.size; have := b2.size; simp; omega) (w2.heap.size + 1) (by simp) ?_; intro gg cap w3 hown3 hgrow hat hglt))
      all_goals
        go_wp2_with fail
        go_ret
        exact row_push b1 b2 hown2 hown3 hgrow (by rw [HP.out, HL.out, HK.out, HPS.out, HRS.out])

end Go.Proofs.Ytliconagelemdaa
