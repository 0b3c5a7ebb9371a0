/- The reference's Link. -/
import Derived.Test.YtliconagelemdaaRootR
namespace Go.Proofs.Ytliconagelemdaa
open Go.RowKit Go.Shelf
set_option linter.unusedVariables false

set_option maxRecDepth 100000 in
set_option maxHeartbeats 4000000 in
theorem refLinkIn_any : ∀ (n c : Nat) (A : Option Addr) (zs : List Int) (m : Nat) (whole : Bool) (w : World), 1 ≤ m → m ≤ n → n ≤ 10000 → n ≤ c → c ≤ maxLen → Ints .u64 w w.heap.size A n zs →
    Calls Try.prog 39 #[.slice A n c, .int .i64 (m : Int), .bool whole] w (RowPost (linkL zs m whole) w) := by
  intro n
  induction n using Nat.strongRecOn with
  | ind n ih0 =>
  intro c A zs m whole w hm1 hmn hn hnc hc hI
  unfold maxLen at hc
  have ih := Lib.hid ih0
  clear ih0
  obtain ⟨i0, hi0, hz0', hz1', hz2'⟩ := info_parts info_u64
  by_cases h1 : m = n
  · subst h1
    have hz : ((m : Int) == (m : Int)) = true := by simp
    have HP := Lib.hid (show linkL zs m whole = if whole then [] else [rootL zs] from by
      have := linkL_all zs whole
      rwa [hI.1] at this)
    cases whole with
    | true =>
      go_enter Try.func39, Try.ntmps39
      go_wp2
      go_ret
      refine ⟨_, rfl, ?_, Below.refl _ _⟩
      rw [HP.out]
      exact World.ownsRow_nil _ _ _ _
    | false =>
      go_enter Try.func39, Try.ntmps39
      go_wp2_with fail
      refine (refRoot_any m c A zs _ (by omega) (by omega) (by unfold maxLen; omega) hI).mono ?_
      rintro e w1 ⟨rfl, b1⟩
      go_wp2_with fail
      go_ret
      refine ⟨_, rfl, ?_, b1.alloc b1.size _⟩
      rw [HP.out]
      exact World.ownsRow_lit w1 #[.int .u64 (rootL zs)] 1 b1.size (by unfold maxLen; omega) rfl
  · have hz1 : ((m : Int) == (n : Int)) = false := by simp; omega
    have hs := halfN_spec (n := n) (by omega)
    have HL := Lib.hid hI.1
    obtain ⟨b, off, rfl, hblt, hcs⟩ := hI.2 (by omega)
    clear hcs
    by_cases hik : m ≤ halfN n
    · have HP := Lib.hid (linkL_left (l := zs) (m := m) whole hm1 (by rw [hI.1]; omega) (by rw [hI.1]; exact hik))
      go_enter Try.func39, Try.ntmps39
      go_wp2_with fail
      refine (refHalf_any n (by omega) _).mono ?_
      rintro e w' ⟨rfl, rfl⟩
      obtain ⟨k, hk⟩ : ∃ k, halfN n = k := ⟨_, rfl⟩
      rw [hk] at hs hik ⊢
      have HK := Lib.hid hk
      clear hk
      have hck : ¬ (c = k) := by omega
      have hkc : k ≤ c := by omega
      have hkn : k ≤ n := by omega
      have ih1 := ih.out k (by omega) c (some ⟨b, off, none⟩) (zs.take k) m whole w.drew (by omega) (by omega) (by omega) (by omega) (by unfold maxLen; omega) (hI.take k k (by omega))
      have hlen := linkL_len (l := zs.take k) whole hm1 (by rw [List.length_take, HL.out]; omega)
      obtain ⟨ps, hps⟩ : ∃ ps, linkL (zs.take k) m whole = ps := ⟨_, rfl⟩
      obtain ⟨rs, hrs⟩ : ∃ rs, (zs.drop k) = rs := ⟨_, rfl⟩
      rw [hps] at ih1 hlen
      have hlen2 : ps.length ≤ 20000 := by rw [List.length_take, HL.out] at hlen; omega
      have ih2 := fun w1 (b1 : Below w.heap.size w w1) => refRoot_any (n - k) (c - k) (some ⟨b, off + k, none⟩) rs w1 (by omega) (by omega) (by unfold maxLen; omega) (by rw [← hrs]; exact ((hI.below b1).drop k (by omega) |>.more b1.size))
      have HPS := Lib.hid hps
      have HRS := Lib.hid hrs
      clear hps hrs hlen
      go_wp2_with fail
      go_region_law (first
        | (go_simp; go_at_call 39; (with_reducible refine ih1.mono ?_); rintro e w1 ⟨v1, rfl, hown1, b1'⟩; have b1 := Below.undrew b1'; clear b1'; obtain ⟨A1, c1, hv⟩ := own_slice hown1; subst hv)
        | (go_simp; go_at_call 23; (with_reducible refine (ih2 _ b1).mono ?_); rintro e w2 ⟨rfl, b2⟩; have hown2 : w2.ownsRow w.heap.size 40 1 (.slice A1 ps.length c1) ps.length (ps.map (Value.int .u64)) := own_below hown1 b2)
        | (refine step_append_lies _ (by rfl) _ _ _ (by rfl) w.heap.size 40 i0 _ 1 8 Try.underlying25 hi0 hz0' hz1' hz2' rfl (by decide) (.slice A1 ps.length c1) ps.length (ps.map (Value.int .u64)) (by rfl) (hown2.alloc _) ⟨w2.heap.size, 0, none⟩ 1 1 [.int .u64 (rootL rs)] (by rfl) (by rfl) (World.news_of_block (cs := #[.int .u64 (rootL rs)]) (t := 40) (fr := (0, 0)) (heap_alloc_new w2 _)) (by simp [Value.oneCell']) (by decide) (by unfold maxLen; omega) (by omega) (by have := b1.size; have := b2.size; simp; omega) (w2.heap.size + 1) (by simp) ?_; intro gg cap w3 hown3 hgrow hat hglt))
      all_goals
        go_wp2_with fail
        go_ret
        exact row_push b1 b2 hown2 hown3 hgrow (by rw [HP.out, HL.out, HK.out, HPS.out, HRS.out])
    · have HP := Lib.hid (linkL_right (l := zs) (m := m) whole (by rw [hI.1]; omega) (by rw [hI.1]; exact hik))
      go_enter Try.func39, Try.ntmps39
      go_wp2_with fail
      refine (refHalf_any n (by omega) _).mono ?_
      rintro e w' ⟨rfl, rfl⟩
      obtain ⟨k, hk⟩ : ∃ k, halfN n = k := ⟨_, rfl⟩
      rw [hk] at hs hik ⊢
      have HK := Lib.hid hk
      clear hk
      have hck : ¬ (c = k) := by omega
      have hkc : k ≤ c := by omega
      have hkn : k ≤ n := by omega
      have hsub : IntKind.i64.wrap ((m : Int) - (k : Int)) = ((m - k : Nat) : Int) := by rw [IntWalk.i64_in _ (by omega)]; omega
      have ih1 := ih.out (n - k) (by omega) (c - k) (some ⟨b, off + k, none⟩) (zs.drop k) (m - k) false w.drew (by omega) (by omega) (by omega) (by omega) (by unfold maxLen; omega) (hI.drop k (by omega))
      have hlen := linkL_len (l := zs.drop k) (m := m - k) false (by omega) (by rw [List.length_drop, HL.out]; omega)
      obtain ⟨ps, hps⟩ : ∃ ps, linkL (zs.drop k) (m - k) false = ps := ⟨_, rfl⟩
      obtain ⟨rs, hrs⟩ : ∃ rs, (zs.take k) = rs := ⟨_, rfl⟩
      rw [hps] at ih1 hlen
      have hlen2 : ps.length ≤ 20000 := by rw [List.length_drop, HL.out] at hlen; omega
      have ih2 := fun w1 (b1 : Below w.heap.size w w1) => refRoot_any k c (some ⟨b, off, none⟩) rs w1 (by omega) (by omega) (by unfold maxLen; omega) (by rw [← hrs]; exact ((hI.below b1).take k k (by omega) |>.more b1.size))
      have HPS := Lib.hid hps
      have HRS := Lib.hid hrs
      clear hps hrs hlen
      go_wp2_with fail
      go_region_law (first
        | (go_simp; go_at_call 39; (with_reducible refine ih1.mono ?_); rintro e w1 ⟨v1, rfl, hown1, b1'⟩; have b1 := Below.undrew b1'; clear b1'; obtain ⟨A1, c1, hv⟩ := own_slice hown1; subst hv)
        | (go_simp; go_at_call 23; (with_reducible refine (ih2 _ b1).mono ?_); rintro e w2 ⟨rfl, b2⟩; have hown2 : w2.ownsRow w.heap.size 40 1 (.slice A1 ps.length c1) ps.length (ps.map (Value.int .u64)) := own_below hown1 b2)
        | (refine step_append_lies _ (by rfl) _ _ _ (by rfl) w.heap.size 40 i0 _ 1 8 Try.underlying25 hi0 hz0' hz1' hz2' rfl (by decide) (.slice A1 ps.length c1) ps.length (ps.map (Value.int .u64)) (by rfl) (hown2.alloc _) ⟨w2.heap.size, 0, none⟩ 1 1 [.int .u64 (rootL rs)] (by rfl) (by rfl) (World.news_of_block (cs := #[.int .u64 (rootL rs)]) (t := 40) (fr := (0, 0)) (heap_alloc_new w2 _)) (by simp [Value.oneCell']) (by decide) (by unfold maxLen; omega) (by omega) (by have := b1.size; have := b2.size; simp; omega) (w2.heap.size + 1) (by simp) ?_; intro gg cap w3 hown3 hgrow hat hglt))
      all_goals
        go_wp2_with fail
        go_ret
        exact row_push b1 b2 hown2 hown3 hgrow (by rw [HP.out, HL.out, HK.out, HPS.out, HRS.out])

/-- What Link of the first m of all names gives. -/
def linkR (zs : List Int) (m : Nat) : List Int := if m = 0 then [] else linkL zs m true

set_option maxRecDepth 100000 in
theorem refLink_any (n c : Nat) (A : Option Addr) (zs : List Int) (m : Nat) (w : World) (hmn : m ≤ n) (hn : n ≤ 10000) (hnc : n ≤ c) (hc : c ≤ maxLen) (hI : Ints .u64 w w.heap.size A n zs) :
    Calls Try.prog 16 #[.slice A n c, .int .i64 (m : Int)] w (RowPost (linkR zs m) w) := by
  by_cases h0 : m = 0
  · subst h0
    have hz : (((0 : Nat) : Int) == 0) = true := rfl
    go_enter Try.func16, Try.ntmps16
    go_wp2
    go_ret
    exact ⟨_, rfl, World.ownsRow_nil _ _ _ _, Below.refl _ _⟩
  · have hz : ((m : Int) == 0) = false := by simp; omega
    have HR := Lib.hid (show linkR zs m = linkL zs m true from if_neg h0)
    go_enter Try.func16, Try.ntmps16
    go_wp2_with fail
    refine (refLinkIn_any n c A zs m true _ (by omega) hmn hn hnc hc hI).mono ?_
    rintro e w1 ⟨v, rfl, hown, b1⟩
    go_wp2
    go_ret
    refine ⟨_, rfl, ?_, b1⟩
    rw [HR.out]
    exact hown

end Go.Proofs.Ytliconagelemdaa
