/- Slices of byte slices: Entries, Names, tree. -/
import Derived.Test.YtliconagelemdaaWire
namespace Go.Proofs.Ytliconagelemdaa
open Go.RowKit Go.Shelf
set_option linter.unusedVariables false

attribute [local go_sem ↓] Go.wp_at_zero Go.wp_at_succ

/-- The entries of a row vs, in memory of S. -/
def EntsIn (W : World) (S : Nat → Prop) (vs : List Value) (es : List (List Int)) : Prop := ∀ i, i < es.length → ∃ v, vs[i]? = some v ∧ EntryAt W S v (es[i]?.getD [])

/-- A slice of byte slices of the call's own, in memory of S. -/
def EntsAt (W : World) (S : Nat → Prop) (A : Option Addr) (c : Nat) (es : List (List Int)) : Prop :=
  ∃ vs, W.ownsRow 0 39 1 (.slice A es.length c) es.length vs ∧ (∀ g, (Value.slice A es.length c).ownBlock = some g → S g) ∧ EntsIn W S vs es

theorem EntsAt.keep {W W' : World} {S : Nat → Prop} {A : Option Addr} {c : Nat} {es : List (List Int)} (h : EntsAt W S A c es) (hb : ∀ k, k < W.heap.size → S k → W'.heap[k]? = W.heap[k]?) : EntsAt W' S A c es := by
  obtain ⟨vs, h1, h2, h3⟩ := h
  refine ⟨vs, own_same h1 fun g hg => hb g (h1.lt g hg).2 (h2 g hg), h2, fun i hi => ?_⟩
  obtain ⟨v, h4, h5⟩ := h3 i hi
  exact ⟨v, h4, h5.keep hb⟩
theorem EntsAt.below {W W' : World} {S : Nat → Prop} {A : Option Addr} {c : Nat} {es : List (List Int)} (h : EntsAt W S A c es) (b : Below W.heap.size W W') : EntsAt W' S A c es := h.keep fun k hk _ => b.block k hk
theorem EntsAt.mono {W : World} {S S' : Nat → Prop} {A : Option Addr} {c : Nat} {es : List (List Int)} (h : EntsAt W S A c es) (hs : ∀ k, k < W.heap.size → S k → S' k) : EntsAt W S' A c es := by
  obtain ⟨vs, h1, h2, h3⟩ := h
  refine ⟨vs, h1, fun g hg => hs g (h1.lt g hg).2 (h2 g hg), fun i hi => ?_⟩
  obtain ⟨v, h4, h5⟩ := h3 i hi
  exact ⟨v, h4, h5.mono hs⟩

/-- A shorter part of an owned row. -/
theorem own_cut {w : World} {base : Nat} {e : TypeId} {n c g : Nat} {xs : List Value} (h : w.ownsRow base e 1 (.slice (some ⟨g, 0, none⟩) n c) n xs) {m : Nat} (hm : m ≤ n) : w.ownsRow base e 1 (.slice (some ⟨g, 0, none⟩) m c) m (xs.take m) := by
  have hl := h.1
  rcases h.2 with ⟨hv, _⟩ | ⟨g', cap, cur, hv, hg, hh, h1, h2, h3, h4⟩
  · cases hv
  · injection hv with ha hn hc
    injection ha with ha
    injection ha with hg'
    subst hg' hc
    refine ⟨by rw [List.length_take]; omega, .inr ⟨g, c, cur, rfl, hg, hh, by omega, h2, h3, ?_⟩⟩
    rw [← h4, List.take_take]
    congr 1
    omega

/-- Behind an append of one entry. -/
theorem ents_push {w1 w3 : World} {S : Nat → Prop} {base n : Nat} {v u : Value} {vs : List Value} {es : List (List Int)} {z : List Int} (hown : w1.ownsRow base 39 1 v n vs) (hn : n = es.length) (hent : EntsIn w1 S vs es) (hu : EntryAt w1 S u z) {o : Obj}
    (hgrow : (w1.alloc o).grownBy w3 v.ownBlock) : EntsIn w3 S (vs ++ [u]) (es ++ [z]) := by
  have hl : vs.length = es.length := by have := hown.1; omega
  have hkeep : ∀ {x : Value} {zs : List Int}, EntryAt w1 S x zs → EntryAt w3 S x zs := by
    intro x zs hx
    refine ⟨own_same hx.1 fun g hg => ?_, hx.2⟩
    refine far_keep hgrow (hx.1.lt g hg).2 fun e => ?_
    obtain ⟨cur, h1⟩ := own_type hx.1 hg
    obtain ⟨cur', h2⟩ := own_type hown e
    rw [h1] at h2
    injection h2 with h2
    injection h2 with _ ht
    revert ht
    decide
  intro i hi
  rw [List.length_append] at hi
  simp at hi
  by_cases hi' : i < es.length
  · obtain ⟨x, h1, h2⟩ := hent i hi'
    refine ⟨x, by rw [List.getElem?_append_left (by omega)]; exact h1, ?_⟩
    rw [List.getElem?_append_left hi']
    exact hkeep h2
  · obtain rfl : i = es.length := by omega
    refine ⟨u, by rw [List.getElem?_append_right (by omega), hl]; simp, ?_⟩
    rw [List.getElem?_append_right (Nat.le_refl _)]
    simpa using hkeep hu

/-- The entry that is made of a number, and the entries of a list. -/
def entZ (z : Int) : List Int := (intZ z).take ((intZ z).length - (arZ z 2).toNat)
def entsZ (zs : List Int) (m : Nat) : List (List Int) := (zs.take m).map entZ

theorem arZ_two {z : Int} (h : I z) : 0 ≤ arZ z 2 ∧ arZ z 2 < 2 := by
  unfold arZ
  split <;> omega
theorem entZ_length {z : Int} (h : I z) : (entZ z).length = (intZ z).length - (arZ z 2).toNat := by
  unfold entZ
  rw [List.length_take]
  omega
theorem entZ_small {z : Int} (h : I z) : Byt (entZ z) ∧ (entZ z).length ≤ 10 := ⟨(intZ_byt h).take _, by rw [entZ_length h]; have := intZ_len z; omega⟩

/-- New entries are returned. -/
def EntsPost (es : List (List Int)) (w : World) (e : Ending) (w' : World) : Prop :=
  ∃ A c, e = .returned (.slice A es.length c) ∧ EntsAt w' (fun k => w.heap.size ≤ k) A c es ∧ Below w.heap.size w w'

set_option maxRecDepth 100000 in
set_option maxHeartbeats 4000000 in
theorem entries_any (A : Option Addr) (len cap : Nat) (zs : List Int) (most : Nat) (w : World) (hlen : len ≤ maxLen) (hmost : most ≤ 1000) (hw : ∀ z ∈ zs, I z) (hI : Ints .i64 w w.heap.size A len zs) :
    Calls Try.prog 9 #[.slice A len cap, .int .i64 (most : Int)] w (EntsPost (entsZ zs most) w) := by
  obtain ⟨i0, hi, hz0, hz1, hz2⟩ := info_parts info_bytes
  unfold maxLen at hlen
  go_enter Try.func9, Try.ntmps9
  go_wp2
  go_loopw [5, 6] (fun v i wr => ∃ k : Nat, ∃ vs, k ≤ len ∧ k ≤ most ∧ i = .int .i64 (k : Int) ∧ wr.ownsRow w.heap.size 39 1 v k vs ∧ EntsIn wr (fun k => w.heap.size ≤ k) vs (entsZ zs k) ∧ Below w.heap.size w wr)
    (fun _ i _ => len - (intOf i).toNat)
  case atStart => exact ⟨0, [], Nat.zero_le _, Nat.zero_le _, rfl, World.ownsRow_nil _ _ _ _, fun i hi => by simp [entsZ] at hi, Below.refl _ _⟩
  case round =>
    obtain ⟨k, vs, hk1, hk2, rfl, hown, hent, hB⟩ := hrel
    have hzl := hI.1
    by_cases hlt : k < len
    · have hd : decide (k < len) = true := by simpa using hlt
      by_cases hlt2 : k < most
      · have hd2 : decide (k < most) = true := by simpa using hlt2
        obtain ⟨b, off, rfl, hblt, hcs⟩ := hI.2 (by omega)
        obtain ⟨z, hz⟩ : ∃ z, zs[k]?.getD 0 = z := ⟨_, rfl⟩
        have hcx : wr.cell? ⟨b, off + k, none⟩ = some (.int .i64 z) := (hB.cell (p := ⟨b, off + k, none⟩) hblt).trans (by rw [hcs k hlt, hz])
        have hzI : I z := hw z (by rw [← hz, List.getElem?_eq_getElem (by omega)]; exact List.getElem_mem _)
        have HT := Lib.hid (show entsZ zs (k + 1) = entsZ zs k ++ [entZ z] from by unfold entsZ; rw [take_snoc_get zs k (by omega), hz]; simp)
        clear hcs hz hzl
        go_wp2_with fail
        refine (int_any z hzI _).mono ?_
        rintro e w1 ⟨v1, rfl, hown1, b1⟩
        obtain ⟨hl1, hl2⟩ := intZ_len z
        obtain ⟨g, c1, rfl, hg1, hg2⟩ := hown1.form (by omega)
        obtain ⟨hc1, hc2⟩ := own_cap hown1
        unfold maxLen at hc2
        obtain ⟨ha1, ha2⟩ := arZ_two hzI
        obtain ⟨a, ha⟩ : ∃ a : Nat, arZ z 2 = (a : Int) := ⟨(arZ z 2).toNat, by omega⟩
        have hE1 : EntryAt w1 (fun k => w.heap.size ≤ k) (.slice (some ⟨g, 0, none⟩) ((intZ z).length - a) c1) (entZ z) := by
          have hz1 := hB.size
          refine ⟨?_, fun g' hg' => ?_⟩
          · rw [entZ_length hzI, ha]
            unfold entZ
            rw [ha, List.map_take]
            exact own_base (own_cut hown1 (by simp)) (Nat.zero_le _)
          · have : g = g' := by simpa [Value.ownBlock] using hg'
            omega
        have HAr := Lib.hid ha
        rw [ha] at ha1 ha2
        obtain ⟨nb, hnb⟩ : ∃ nb, (intZ z).length = nb := ⟨_, rfl⟩
        rw [hnb] at hl1 hl2 hc1 hE1 ⊢
        have hOut := own_below (w := wr) hown b1
        have hEnt : EntsIn w1 (fun k => w.heap.size ≤ k) vs (entsZ zs k) := fun i hi => by
          obtain ⟨v, h1, h2⟩ := hent i hi
          exact ⟨v, h1, h2.keep fun k hk _ => b1.block k hk⟩
        have HB := Lib.hid (show Below w.heap.size w w1 from hB.trans (b1.mono hB.size))
        have hcx1 : w1.cell? ⟨b, off + k, none⟩ = some (.int .i64 z) := (b1.cell (p := ⟨b, off + k, none⟩) (by have := hB.size; simp; omega)).trans hcx
        have hzw : w.heap.size ≤ w1.heap.size := HB.out.size
        have hw1 : IntKind.i64.wrap ((nb : Int) - (a : Int)) = ((nb - a : Nat) : Int) := by rw [IntWalk.i64_in _ (by omega)]; omega
        have hcut : nb - a ≤ c1 := by omega
        clear hown1 hnb hcx hown hent hB
        obtain ⟨A2, c2, hv2⟩ := own_slice hOut
        subst hv2
        have HEL := Lib.hid (show k = (entsZ zs k).length from by have := hI.1; unfold entsZ; rw [List.length_map, List.length_take]; omega)
        go_wp2_with (first
          | (go_at_call 18; refine (around_any z 2 (by omega) (by omega) hzI _).mono ?_; rintro e w' ⟨rfl, rfl⟩; rw [HAr.out])
          | (at_builtin; refine wpList_append_own _ rfl _ _ 23 rfl w.heap.size 39 i0 _ 1 24 Try.underlying23 hi hz0 hz1 hz2 rfl (by decide) _ _ _ rfl (hOut.alloc _) ⟨w1.heap.size, 0, none⟩ 1 1 [.slice (some ⟨g, 0, none⟩) (nb - a) c1] rfl rfl (cell_one_new _ _ _) (by simp [Value.oneCell']) (by unfold maxLen; omega) (by omega) (by simp; omega) ?_; intro v' w3 hown' hgrow _))
        have hE3 := ents_push hOut HEL.out hEnt hE1 hgrow
        obtain ⟨_, hb1⟩ := grown_keeps hOut hzw hgrow
        go_roundw
        case rel => exact ⟨k + 1, _, by omega, by omega, by go_num, hown', by rw [HT.out]; exact hE3, HB.out.trans hb1⟩
        case measure => simp [intOf]; omega
      · have hd2 : decide (k < most) = false := by simpa using hlt2
        obtain rfl : k = most := by omega
        have HEL := Lib.hid (show (entsZ zs k).length = k from by unfold entsZ; rw [List.length_map, List.length_take]; omega)
        clear hzl
        obtain ⟨A2, c2, hv2⟩ := own_slice hown
        subst hv2
        go_wp2
        go_ret
        refine ⟨A2, c2, by rw [HEL.out]; rfl, ⟨vs, by rw [HEL.out]; exact own_base hown (Nat.zero_le _), fun g hg => (hown.lt g (by rw [HEL.out] at hg; exact hg)).1, hent⟩, hB⟩
    · have hd : decide (k < len) = false := by simpa using hlt
      obtain rfl : k = len := by omega
      have HEE := Lib.hid (show entsZ zs k = entsZ zs most from by unfold entsZ; rw [List.take_of_length_le (by omega), List.take_of_length_le (by omega)])
      have HEL := Lib.hid (show (entsZ zs k).length = k from by unfold entsZ; rw [List.length_map, List.length_take]; omega)
      clear hzl
      obtain ⟨A2, c2, hv2⟩ := own_slice hown
      subst hv2
      go_wp2
      go_ret
      rw [← HEE.out]
      refine ⟨A2, c2, by rw [HEL.out]; rfl, ⟨vs, by rw [HEL.out]; exact own_base hown (Nat.zero_le _), fun g hg => (hown.lt g (by rw [HEL.out] at hg; exact hg)).1, hent⟩, hB⟩

end Go.Proofs.Ytliconagelemdaa
