/- The walk of Path. -/
import Derived.Test.YtliconagelemdaaWalkC
namespace Go.Proofs.Ytliconagelemdaa
open Go.RowKit Go.Shelf
set_option linter.unusedVariables false

attribute [local go_sem ↓] Go.wp_at_zero Go.wp_at_succ

/-- A list of hashes is being collected in the box Bp; two further boxes hold the library and the closure. -/
structure Coll (w W : World) (Bl Bp Bw lb : Nat) (tw : TypeId) (fv : Value) (acc : List Int) (A : Option Addr) (c : Nat) : Prop where
  below : Below w.heap.size w W
  bl : Boxed W Bl 27 (.pointer (some ⟨lb, 0, none⟩))
  bw : Boxed W Bw tw fv
  bp : Boxed W Bp 25 (.slice A acc.length c)
  row : W.ownsRow w.heap.size 40 1 (.slice A acc.length c) acc.length (acc.map (Value.int .u64))

def Collects (w W : World) (Bl Bp Bw lb : Nat) (tw : TypeId) (fv : Value) (acc : List Int) : Prop := ∃ A c, Coll w W Bl Bp Bw lb tw fv acc A c

theorem boxed_below {W W' : World} {B : Nat} {t : TypeId} {v : Value} (h : Boxed W B t v) (b : Below W.heap.size W W') : Boxed W' B t v := (b.block B h.lt).trans h

theorem Coll.more {w W W' : World} {Bl Bp Bw lb : Nat} {tw : TypeId} {fv : Value} {acc : List Int} {A : Option Addr} {c : Nat} (h : Coll w W Bl Bp Bw lb tw fv acc A c) (b : Below W.heap.size W W') : Coll w W' Bl Bp Bw lb tw fv acc A c :=
  ⟨h.below.trans (b.mono h.below.size), boxed_below h.bl b, boxed_below h.bw b, boxed_below h.bp b, own_below h.row b⟩

theorem boxed_type {W : World} {B B' : Nat} {t t' : TypeId} {v v' : Value} (h : Boxed W B t v) (h' : Boxed W B' t' v') (hne : t ≠ t') : B ≠ B' := by
  rintro rfl
  have := h.symm.trans h'
  simp at this
  exact hne this.2

/-- Behind 'path = append(path, r)'. -/
theorem Coll.push {w W w3 : World} {Bl Bp Bw lb : Nat} {tw : TypeId} {fv : Value} {acc : List Int} {A : Option Addr} {c : Nat} {r : Int} {gg cap : Nat} (h : Coll w W Bl Bp Bw lb tw fv acc A c) (hB : w.heap.size ≤ Bp) (htw1 : tw ≠ 25) (htw2 : tw ≠ 40)
    (hown3 : w3.ownsRow w.heap.size 40 1 (.slice (some ⟨gg, 0, none⟩) (acc.length + 1) cap) (acc.length + 1) (acc.map (Value.int .u64) ++ [.int .u64 r]))
    (hgrow : (W.alloc (.cells #[.int .u64 r] 40)).grownBy w3 (Value.slice A acc.length c).ownBlock) :
    Coll w (w3.setCell ⟨Bp, 0, none⟩ (.slice (some ⟨gg, 0, none⟩) (acc.length + 1) cap)) Bl Bp Bw lb tw fv (acc ++ [r]) (some ⟨gg, 0, none⟩) cap := by
  have hlen : (acc ++ [r]).length = acc.length + 1 := by simp
  have box3 : ∀ {B : Nat} {t : TypeId} {v : Value}, Boxed W B t v → t ≠ 40 → Boxed w3 B t v := fun hb ht => (far_keep hgrow hb.lt (hb.not_row ht h.row).symm).trans hb
  have bp3 : Boxed w3 Bp 25 (.slice A acc.length c) := box3 h.bp (by decide)
  have oth : ∀ {B : Nat} {t : TypeId} {v : Value}, Boxed w3 B t v → t ≠ 25 → Boxed (w3.setCell ⟨Bp, 0, none⟩ (.slice (some ⟨gg, 0, none⟩) (acc.length + 1) cap)) B t v := fun {B t v} hb ht => (Below.heap_setCell w3 ⟨Bp, 0, none⟩ _ B (boxed_type hb bp3 ht)).trans hb
  refine ⟨?_, oth (box3 h.bl (by decide)) (by decide), oth (box3 h.bw htw2) htw1, ?_, ?_⟩
  · exact ((h.below.alloc h.below.size _).grown hgrow (by have := h.below.size; simp; omega) (fun k hk => (h.row.lt k hk).1)).setCell (p := ⟨Bp, 0, none⟩) hB _
  · rw [hlen]; exact bp3.set _
  · rw [hlen, List.map_append]
    exact own_same hown3 fun g hg => Below.heap_setCell w3 ⟨Bp, 0, none⟩ _ g (fun e => by
      obtain ⟨cur, hcur⟩ := own_type hown3 hg
      have e' : g = Bp := e
      rw [e'] at hcur
      have := hcur.symm.trans bp3
      simp at this)

/-- The closure of Path. -/
def pathFn (Bl Bp Bw : Nat) : Value := .func (.func 34) #[] #[.pointer (some ⟨Bw, 0, none⟩), .pointer (some ⟨Bp, 0, none⟩), .pointer (some ⟨Bl, 0, none⟩)]

/-- The closure returns, and what it has collected. -/
def WalkPost (w : World) (Bl Bp Bw lb : Nat) (tw : TypeId) (fv : Value) (acc : List Int) (e : Ending) (W' : World) : Prop := (∃ v, e = .returned v) ∧ Collects w W' Bl Bp Bw lb tw fv acc

set_option maxRecDepth 100000 in
set_option maxHeartbeats 4000000 in
theorem pathWalk_any (S : Nat → Prop) (lb : Nat) (es : List (List Int)) (w : World) (hL : LibAt w S lb es) (Bl Bp Bw : Nat) (hBp : w.heap.size ≤ Bp) : ∀ (n i start : Nat) (acc : List Int) (W : World), Collects w W Bl Bp Bw lb 64 (pathFn Bl Bp Bw) acc → 1 ≤ n → i < n → start + n ≤ es.length → acc.length + n ≤ 10000 →
    Calls Try.prog 34 #[.int .i64 (i : Int), .int .i64 (start : Int), .int .i64 (n : Int), .pointer (some ⟨Bw, 0, none⟩), .pointer (some ⟨Bp, 0, none⟩), .pointer (some ⟨Bl, 0, none⟩)] W
      (WalkPost w Bl Bp Bw lb 64 (pathFn Bl Bp Bw) (acc ++ pathL (partZ es start n) i)) := by
  intro n
  induction n using Nat.strongRecOn with
  | ind n ih0 =>
  intro i start acc W hC hn1 hi hle hacc
  have ih := Lib.hid ih0
  clear ih0
  have hfew := hL.few
  obtain ⟨i0, hi0, hz0, hz1, hz2⟩ := info_parts info_u64
  by_cases h1 : n = 1
  · have hz : ((n : Int) == 1) = true := by simp; omega
    have HP := Lib.hid (pathL_one (l := partZ es start n) (by rw [partZ_length hle]; omega) i)
    have HC := Lib.hid hC
    clear hC
    go_enter Try.func34, Try.ntmps34
    go_wp2_with fail
    go_end0
    exact ⟨⟨_, rfl⟩, by rw [HP.out, List.append_nil]; exact HC.out⟩
  · have hz : ((n : Int) == 1) = false := by simp; omega
    have hs := halfN_spec (n := n) (by omega)
    have HP := Lib.hid (partZ_length hle)
    have HC := Lib.hid hC
    have hcw := hC.choose_spec.choose_spec.bw.cell
    clear hC
    by_cases hik : i < halfN n
    · have HPL := Lib.hid (pathL_left (l := partZ es start n) (i := i) (by rw [partZ_length hle]; omega) (by rw [partZ_length hle]; exact hik))
      go_enter Try.func34, Try.ntmps34
      go_wp2_with fail
      refine (half_any n (by omega) _).mono ?_
      rintro e w' ⟨rfl, rfl⟩
      obtain ⟨k, hk⟩ : ∃ k, halfN n = k := ⟨_, rfl⟩
      rw [hk] at hs hik ⊢
      have HK := Lib.hid hk
      clear hk
      unfold pathFn at hcw
      go_wp2_with fail
      refine (ih.out k (by omega) i start acc _ HC.out (by omega) (by omega) (by omega) (by omega)).mono ?_
      rintro e W1 ⟨⟨v0, rfl⟩, hC1⟩
      have hal : (acc ++ pathL (partZ es start k) i).length ≤ 10000 := by have := pathL_len (partZ es start k) i; rw [partZ_length (by omega)] at this; rw [List.length_append]; omega
      obtain ⟨acc1, hacc1⟩ : ∃ acc1, acc ++ pathL (partZ es start k) i = acc1 := ⟨_, rfl⟩
      rw [hacc1] at hC1 hal
      have HA := Lib.hid hacc1
      clear hacc1 hcw
      obtain ⟨A, c, hK⟩ := hC1
      have hcp := hK.bp.cell
      have hfp := hK.bp.frozen
      have hcl := hK.bl.cell
      have HL1 := Lib.hid (hL.below hK.below).drew
      have HS1 := Lib.hid (show ((start : Int) + (k : Int)) = ((start + k : Nat) : Int) from by omega)
      have HS2 := Lib.hid (show ((n : Int) - (k : Int)) = ((n - k : Nat) : Int) from by omega)
      have HK1 := Lib.hid hK
      have hle1 : start + k + (n - k) ≤ es.length := by omega
      have hw1 : IntKind.i64.wrap ((start : Int) + (k : Int)) = (start : Int) + (k : Int) := IntWalk.i64_in _ (by omega)
      have hw2 : IntKind.i64.wrap ((n : Int) - (k : Int)) = (n : Int) - (k : Int) := IntWalk.i64_in _ (by omega)
      clear hK
      go_wp2_with fail
      go_region_law (first
        | (refine step_append_lies _ (by rfl) _ _ _ (by rfl) w.heap.size 40 i0 _ 1 8 Try.underlying25 hi0 hz0 hz1 hz2 rfl (by decide) (.slice A acc1.length c) acc1.length (acc1.map (Value.int .u64)) (by rfl) (HK2.out.row.alloc _) ⟨w2.heap.size, 0, none⟩ 1 1 [.int .u64 (rootL (partZ es (start + k) (n - k)))] (by rfl) (by rfl) (World.news_of_block (cs := #[.int .u64 (rootL (partZ es (start + k) (n - k)))]) (t := 40) (fr := (0, 0)) (heap_alloc_new w2 _)) (by simp [Value.oneCell']) (by decide) (by unfold maxLen; omega) (by omega) (by have := HK2.out.below.size; simp; omega) (w2.heap.size + 1) (by simp) ?_; intro gg cap w3 hown3 hgrow hat hglt; have hbp3 := (far_keep hgrow HK2.out.bp.lt (HK2.out.bp.not_row (by decide) HK2.out.row).symm).trans HK2.out.bp; have hcp3 := Boxed.cell hbp3; have hfp3 := Boxed.frozen hbp3)
        | (go_simp; go_at_call 36; refine (root_int S lb es (n - k) (start + k) _ _ HS2.out HS1.out _ (by exact HL1.out) hle1).mono ?_; rintro e w2 ⟨rfl, b2'⟩; have HK2 := Lib.hid (HK1.out.more (Below.undrew b2')); have hcp2 := HK2.out.bp.cell; have hlt2 := HK2.out.bp.lt))
      all_goals
        go_wp2_with fail
        go_end0
        refine ⟨⟨_, rfl⟩, ⟨some ⟨gg, 0, none⟩, cap, ?_⟩⟩
        rw [HPL.out, HP.out, HK.out, partZ_take (by omega), partZ_drop, ← List.append_assoc, HA.out]
        exact HK2.out.push hBp (by decide) (by decide) hown3 hgrow
    · have HPL := Lib.hid (pathL_right (l := partZ es start n) (i := i) (by rw [partZ_length hle]; omega) (by rw [partZ_length hle]; exact hik))
      go_enter Try.func34, Try.ntmps34
      go_wp2_with fail
      refine (half_any n (by omega) _).mono ?_
      rintro e w' ⟨rfl, rfl⟩
      obtain ⟨k, hk⟩ : ∃ k, halfN n = k := ⟨_, rfl⟩
      rw [hk] at hs hik ⊢
      have HK := Lib.hid hk
      clear hk
      unfold pathFn at hcw
      go_wp2_with fail
      rw [show ((i : Int) - (k : Int)) = ((i - k : Nat) : Int) from by omega, show ((start : Int) + (k : Int)) = ((start + k : Nat) : Int) from by omega, show ((n : Int) - (k : Int)) = ((n - k : Nat) : Int) from by omega]
      refine (ih.out (n - k) (by omega) (i - k) (start + k) acc _ HC.out (by omega) (by omega) (by omega) (by omega)).mono ?_
      rintro e W1 ⟨⟨v0, rfl⟩, hC1⟩
      have hal : (acc ++ pathL (partZ es (start + k) (n - k)) (i - k)).length ≤ 10000 := by have := pathL_len (partZ es (start + k) (n - k)) (i - k); rw [partZ_length (by omega)] at this; rw [List.length_append]; omega
      obtain ⟨acc1, hacc1⟩ : ∃ acc1, acc ++ pathL (partZ es (start + k) (n - k)) (i - k) = acc1 := ⟨_, rfl⟩
      rw [hacc1] at hC1 hal
      have HA := Lib.hid hacc1
      clear hacc1 hcw
      obtain ⟨A, c, hK⟩ := hC1
      have hcp := hK.bp.cell
      have hfp := hK.bp.frozen
      have hcl := hK.bl.cell
      have HL1 := Lib.hid (hL.below hK.below).drew
      have HK1 := Lib.hid hK
      have hle1 : start + (k) ≤ es.length := by omega
      clear hK
      go_wp2_with fail
      go_region_law (first
        | (refine step_append_lies _ (by rfl) _ _ _ (by rfl) w.heap.size 40 i0 _ 1 8 Try.underlying25 hi0 hz0 hz1 hz2 rfl (by decide) (.slice A acc1.length c) acc1.length (acc1.map (Value.int .u64)) (by rfl) (HK2.out.row.alloc _) ⟨w2.heap.size, 0, none⟩ 1 1 [.int .u64 (rootL (partZ es (start) (k)))] (by rfl) (by rfl) (World.news_of_block (cs := #[.int .u64 (rootL (partZ es (start) (k)))]) (t := 40) (fr := (0, 0)) (heap_alloc_new w2 _)) (by simp [Value.oneCell']) (by decide) (by unfold maxLen; omega) (by omega) (by have := HK2.out.below.size; simp; omega) (w2.heap.size + 1) (by simp) ?_; intro gg cap w3 hown3 hgrow hat hglt; have hbp3 := (far_keep hgrow HK2.out.bp.lt (HK2.out.bp.not_row (by decide) HK2.out.row).symm).trans HK2.out.bp; have hcp3 := Boxed.cell hbp3; have hfp3 := Boxed.frozen hbp3)
        | (go_simp; go_at_call 36; refine (root_int S lb es k start _ _ rfl rfl _ (by exact HL1.out) hle1).mono ?_; rintro e w2 ⟨rfl, b2'⟩; have HK2 := Lib.hid (HK1.out.more (Below.undrew b2')); have hcp2 := HK2.out.bp.cell; have hlt2 := HK2.out.bp.lt))
      all_goals
        go_wp2_with fail
        go_end0
        refine ⟨⟨_, rfl⟩, ⟨some ⟨gg, 0, none⟩, cap, ?_⟩⟩
        rw [HPL.out, HP.out, HK.out, partZ_take (by omega), partZ_drop, ← List.append_assoc, HA.out]
        exact HK2.out.push hBp (by decide) (by decide) hown3 hgrow
end Go.Proofs.Ytliconagelemdaa
