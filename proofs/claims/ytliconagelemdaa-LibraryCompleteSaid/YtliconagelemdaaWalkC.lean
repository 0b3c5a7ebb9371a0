/- The walk of Append. -/
import Derived.Deep.RegionLaw
import Derived.Deep.RegionHeld3
import Derived.Deep.AppendLies
import Derived.Deep.DeepCutAuto
import Derived.Deep.DrawnRows
import Derived.Test.YtliconagelemdaaWalkB
namespace Go.Proofs.Ytliconagelemdaa
open Go.RowKit Go.Shelf
set_option linter.unusedVariables false

attribute [local go_sem ↓] Go.wp_at_zero Go.wp_at_succ

theorem info_bytes : (Try.prog.info? 39).map (fun i => (i.zero, i.size, i.bytes)) = some (some (.slice none 0 0), 1, 24) := by kernel_rfl

theorem Below.undrew {w w1 : World} (h : Below w.drew.heap.size w.drew w1) : Below w.heap.size w w1 := ⟨h.os, h.tape, h.output, h.size, h.block⟩

theorem far_keep {w1 w3 : World} {o : Obj} {row : Option Nat} {lb : Nat} (hg : (w1.alloc o).grownBy w3 row) (hlt : lb < w1.heap.size) (hne : row ≠ some lb) : w3.heap[lb]? = w1.heap[lb]? :=
  (hg.block lb (by simp; omega) (Ne.symm hne)).trans (Below.heap_alloc w1 o lb hlt)
theorem two_cells {W : World} {lb : Nat} {x y : Value} {t : TypeId} (h : W.heap[lb]? = some (.cells #[x, y] t (0, 0))) : W.cell? ⟨lb, 0, none⟩ = some x ∧ W.cell? ⟨lb, 1, none⟩ = some y ∧ W.frozen? ⟨lb, 0, none⟩ = false := by
  simp [World.cell?, World.frozen?, h]

theorem namesZ_snoc (es : List (List Int)) (z : List Int) : namesZ (es ++ [z]) = namesZ es ++ [nameZ z] := by simp [namesZ]

theorem partZ_snoc {es : List (List Int)} (z : List Int) {s n : Nat} (h : s + n ≤ es.length) : partZ (es ++ [z]) s n = partZ es s n := by
  unfold partZ
  rw [namesZ_snoc, List.drop_append_of_le_length (by rw [namesZ_length]; omega), List.take_append_of_le_length (by rw [List.length_drop, namesZ_length]; omega)]

/-- Behind 'l.entries = append(l.entries, slices.Clone(b))'. -/
theorem lib_more {w w1 w3 : World} {S : Nat → Prop} {lb : Nat} {es : List (List Int)} {A A2 : Option Addr} {c c2 n' : Nat} {vs : List Value} {mb : Nat} {M : Int → Int → Option Int} {zs : List Int} {gg cap : Nat}
    (h : LibW w S lb es es.length A c vs mb M) (hlen : es.length < 4096) (hb : Byt zs) (hzl : zs.length = n') (hn : n' ≤ 65536)
    (b1 : Below w.heap.size w w1) (hown1 : w1.ownsRow w.heap.size 5 1 (.slice A2 n' c2) n' (zs.map (Value.int .u8)))
    (hown3 : w3.ownsRow 0 39 1 (.slice (some ⟨gg, 0, none⟩) (es.length + 1) cap) (es.length + 1) (vs ++ [.slice A2 n' c2]))
    (hgrow : (w1.alloc (.cells #[.slice A2 n' c2] 39)).grownBy w3 (Value.slice A es.length c).ownBlock)
    (hat : (Value.slice A es.length c).ownBlock = some gg ∨ gg = w1.heap.size + 1) :
    LibW (w3.setCell ⟨lb, 0, none⟩ (.slice (some ⟨gg, 0, none⟩) (es.length + 1) cap)) (fun k => S k ∨ w.heap.size ≤ k) lb (es ++ [zs]) es.length (some ⟨gg, 0, none⟩) cap (vs ++ [.slice A2 n' c2]) mb M ∧
    Chg S w (w3.setCell ⟨lb, 0, none⟩ (.slice (some ⟨gg, 0, none⟩) (es.length + 1) cap)) := by
  have hz1 := b1.size
  have hlt := h.lt
  have hwl : (es ++ [zs]).length = es.length + 1 := by simp
  -- blocks of the library other than lb and the row lie as they lay
  have hrowne : ∀ g, (Value.slice A es.length c).ownBlock = some g → ∃ cur, w.heap[g]? = some (.cells cur 39 (0, 0)) := fun g hg => own_type h.row hg
  have hkeep : ∀ k, k < w.heap.size → k ≠ lb → (Value.slice A es.length c).ownBlock ≠ some k → (w3.setCell ⟨lb, 0, none⟩ (.slice (some ⟨gg, 0, none⟩) (es.length + 1) cap)).heap[k]? = w.heap[k]? := fun k hk h1 h2 => by
    rw [Below.heap_setCell w3 ⟨lb, 0, none⟩ _ k h1, far_keep hgrow (by omega) h2, b1.block k hk]
  have hlbrow : (Value.slice A es.length c).ownBlock ≠ some lb := fun e => by
    obtain ⟨cur, hc⟩ := hrowne lb e
    rw [h.blk] at hc
    injection hc with hc
    injection hc with _ ht
    revert ht
    decide
  have hmbne : mb ≠ lb := fun e => by
    obtain ⟨es', ck, hm, _⟩ := h.map
    rw [e, h.blk] at hm
    cases hm
  have hmbrow : (Value.slice A es.length c).ownBlock ≠ some mb := fun e => by
    obtain ⟨cur, hc⟩ := hrowne mb e
    obtain ⟨es', ck, hm, _⟩ := h.map
    rw [hm] at hc
    cases hc
  have hggne : gg ≠ lb := by
    rcases hat with e | e
    · exact fun e' => hlbrow (by rw [e, e'])
    · omega
  have hch : Chg S w (w3.setCell ⟨lb, 0, none⟩ (.slice (some ⟨gg, 0, none⟩) (es.length + 1) cap)) :=
    ((((Chg.refl S w).below b1).alloc _).grown hgrow (fun k hk => .inl (h.rowS k hk))).setCell (p := ⟨lb, 0, none⟩) (.inl h.inS) _
  refine ⟨⟨?_, .inl h.inS, ?_, ?_, h.map.same (hkeep mb h.map.lt hmbne hmbrow), .inl h.mapS, ?_, ?_, by rw [hwl]; omega, ⟨h.ok.leaf, ?_⟩⟩, hch⟩
  · rw [hwl]
    have hb3 : w3.heap[lb]? = some (.cells #[.slice A es.length c, .map (some mb)] 63 (0, 0)) := by
      rw [far_keep hgrow (by omega) hlbrow, b1.block lb hlt, h.blk]
    exact heap_setCell_same w3 lb 0 _ _ _ hb3
  · rw [hwl]
    exact own_same hown3 fun g hg => Below.heap_setCell w3 ⟨lb, 0, none⟩ _ g (by
      have : gg = g := by simpa [Value.ownBlock] using hg
      show g ≠ lb
      omega)
  · rw [hwl]
    intro g hg
    have : gg = g := by simpa [Value.ownBlock] using hg
    subst this
    rcases hat with e | e
    · exact .inl (h.rowS _ e)
    · exact .inr (by omega)
  · intro i hi
    rw [hwl] at hi
    have hvl : vs.length = es.length := by have := h.row.1; omega
    by_cases hi' : i < es.length
    · obtain ⟨v, h1, h2⟩ := h.ent i hi'
      refine ⟨v, by rw [List.getElem?_append_left (by omega)]; exact h1, ?_⟩
      rw [List.getElem?_append_left hi']
      refine ⟨own_same h2.1 fun g hg => ?_, fun g hg => .inl (h2.2 g hg)⟩
      obtain ⟨cur, hcur⟩ := own_type h2.1 hg
      refine hkeep g (h2.1.lt g hg).2 (fun e => ?_) (fun e => ?_)
      · rw [e, h.blk] at hcur
        injection hcur with hcur
        injection hcur with _ ht
        revert ht
        decide
      · obtain ⟨cur', hc'⟩ := hrowne g e
        rw [hc'] at hcur
        injection hcur with hcur
        injection hcur with _ ht
        revert ht
        decide
    · have : i = es.length := by omega
      subst this
      refine ⟨.slice A2 n' c2, by rw [List.getElem?_append_right (by omega), hvl]; simp, ?_⟩
      rw [List.getElem?_append_right (Nat.le_refl _)]
      simp only [Nat.sub_self, List.getElem?_cons_zero, Option.getD_some]
      have hlt2 := hown1.lt
      refine ⟨?_, fun g hg => .inr (hlt2 g hg).1⟩
      rw [hzl]
      refine own_base (own_same hown1 fun g hg => ?_) (Nat.zero_le _)
      obtain ⟨hg1, hg2⟩ := hlt2 g hg
      rw [Below.heap_setCell w3 ⟨lb, 0, none⟩ _ g (by show g ≠ lb; omega), far_keep hgrow hg2 (fun e => by
        have := (h.row.lt g e).2
        omega)]
  · intro e he
    rcases List.mem_append.1 he with h1 | h1
    · exact h.byt e h1
    · have := List.mem_singleton.1 h1
      subst this
      exact ⟨hb, by omega⟩
  · intro a b v hm
    obtain ⟨s, n, e1, e2, e3, e4, e5⟩ := h.ok.right a b v hm
    refine ⟨s, n, e1, e2, e3, by rw [hwl]; omega, ?_⟩
    rw [e5]
    exact congrArg rootL (partZ_snoc zs e4).symm

/-- Behind a store of a right root into the map. -/
theorem lib_store {wc w5 W2 : World} {S : Nat → Prop} {lb : Nat} {es : List (List Int)} {m m' : Nat} {A : Option Addr} {c : Nat} {vs : List Value} {mb : Nat} {M : Int → Int → Option Int} {s n : Nat}
    (h : LibW wc S lb es m A c vs mb M) (b5 : Below wc.heap.size wc w5) (h1 : 1 ≤ n) (h2 : s + n ≤ es.length) (hR : RootMap W2 mb (setM M s n (rootL (partZ es s n)))) (hg : w5.grownBy W2 (some mb))
    (hleaf : ∀ i : Nat, i < m' → setM M s n (rootL (partZ es s n)) i 1 ≠ none) : LibW W2 S lb es m' A c vs mb (setM M s n (rootL (partZ es s n))) ∧ Chg S wc W2 := by
  have hmap : ∀ k cur t, wc.heap[k]? = some (.cells cur t (0, 0)) → k ≠ mb := fun k cur t hk e => by
    obtain ⟨es', ck, hm, _⟩ := h.map
    rw [e, hm] at hk
    cases hk
  have hkeep : ∀ k, k < wc.heap.size → k ≠ mb → W2.heap[k]? = wc.heap[k]? := fun k hk hne => by
    rw [hg.block k (Nat.lt_of_lt_of_le hk b5.size) (fun e => hne (by cases e; rfl)), b5.block k hk]
  refine ⟨⟨(hkeep lb h.lt (hmap _ _ _ h.blk)).trans h.blk, h.inS, ?_, h.rowS, hR, h.mapS, ?_, h.byt, h.few, ⟨hleaf, ?_⟩⟩, ((Chg.refl S wc).below b5).grown hg (fun k hk => by cases hk; exact .inl h.mapS)⟩
  · exact own_same h.row fun g hg' => by
      obtain ⟨cur, hcur⟩ := own_type h.row hg'
      exact hkeep g (h.row.lt g hg').2 (hmap _ _ _ hcur)
  · intro i hi
    obtain ⟨v, h3, h4⟩ := h.ent i hi
    refine ⟨v, h3, own_same h4.1 fun g hg' => ?_, h4.2⟩
    obtain ⟨cur, hcur⟩ := own_type h4.1 hg'
    exact hkeep g (h4.1.lt g hg').2 (hmap _ _ _ hcur)
  · intro a b v hv
    unfold setM at hv
    by_cases hab : a = (s : Int) ∧ b = (n : Int)
    · rw [if_pos hab] at hv
      cases hv
      exact ⟨s, n, hab.1, hab.2, h1, h2, rfl⟩
    · rw [if_neg hab] at hv
      exact h.ok.right a b v hv

theorem setM_same (M : Int → Int → Option Int) (a b v : Int) : setM M a b v a b = some v := by unfold setM; rw [if_pos ⟨rfl, rfl⟩]
theorem setM_keep {M : Int → Int → Option Int} {a b v x y : Int} (h : M x y ≠ none) : setM M a b v x y ≠ none := by
  unfold setM
  split
  · simp
  · exact h
theorem setM_some {M : Int → Int → Option Int} {a b v x y u : Int} (h : setM M a b v x y = some u) : (x = a ∧ y = b) ∨ M x y = some u := by
  unfold setM at h
  by_cases hab : x = a ∧ y = b
  · exact .inl hab
  · rw [if_neg hab] at h; exact .inr h

theorem partZ_last (es : List (List Int)) (z : List Int) : partZ (es ++ [z]) es.length 1 = [nameZ z] := by
  unfold partZ
  rw [namesZ_snoc, List.drop_append_of_le_length (by rw [namesZ_length]; exact Nat.le_refl _), List.drop_of_length_le (by rw [namesZ_length]; exact Nat.le_refl _)]
  rfl

set_option maxRecDepth 100000 in
theorem Append_long (S : Nat → Prop) (lb : Nat) (es : List (List Int)) (A : Option Addr) (n c : Nat) (w : World) (hL : LibAt w S lb es) (hn : 65536 < n) (hn2 : n ≤ maxLen) :
    Calls Try.prog 24 #[.pointer (some ⟨lb, 0, none⟩), .slice A n c] w fun e w' => e = .returned (.tuple #[.int .i64 0, .int .i64 4]) ∧ w = w' := by
  unfold maxLen at hn2
  have hd : decide ((65536 : Int) < (n : Int)) = true := by simp; omega
  go_enter Try.func24, Try.ntmps24
  go_wp2
  go_ret2
  exact ⟨rfl, rfl⟩

theorem Chg.widen {S : Nat → Prop} {w wc W : World} (h : Chg S w wc) (k : Chg (fun k => S k ∨ w.heap.size ≤ k) wc W) : Chg S w W :=
  ⟨k.os.trans h.os, k.tape.trans h.tape, k.output.trans h.output, Nat.le_trans h.size k.size, fun i hi hn => (k.block i (Nat.lt_of_lt_of_le hi h.size) (by rintro (h1 | h1); exact hn h1; omega)).trans (h.block i hi hn)⟩

/-- The head of the loop over the sizes: all roots of fewer than 2 q entries that end with the last one are in the map. -/
def AppLoop (S : Nat → Prop) (w : World) (lb : Nat) (es : List (List Int)) (zs : List Int) (A : Option Addr) (c : Nat) (vs : List Value) (mb N q : Nat) (wr : World) : Prop :=
  ∃ M, LibW wr (fun k => S k ∨ w.heap.size ≤ k) lb (es ++ [zs]) (N + 1) A c vs mb M ∧ Chg S w wr ∧ ∀ a b v, M a b = some v → a + b ≤ (N : Int) ∨ (a + b = (N : Int) + 1 ∧ b ≤ (q : Int))

theorem LibAt.drew {w : World} {S : Nat → Prop} {lb : Nat} {es : List (List Int)} (h : LibAt w S lb es) : LibAt w.drew S lb es := h.keep (W' := w.drew) (Nat.le_refl _) fun _ _ _ => rfl

theorem root_int (S : Nat → Prop) (lb : Nat) (es : List (List Int)) (n start : Nat) (nI sI : Int) (h1 : nI = (n : Int)) (h2 : sI = (start : Int)) (w : World) (hL : LibAt w S lb es) (hle : start + n ≤ es.length) :
    Calls Try.prog 36 #[.pointer (some ⟨lb, 0, none⟩), .int .i64 sI, .int .i64 nI] w fun e w' => e = .returned (.int .u64 (rootL (partZ es start n))) ∧ Below w.heap.size w w' := by
  subst h1 h2
  exact root_any S lb es n start w hL hle

/-- Behind the entries' append, ahead of the map's store. -/
def AppMid (S : Nat → Prop) (w : World) (lb : Nat) (es : List (List Int)) (zs : List Int) (mb : Nat) (M : Int → Int → Option Int) (wx : World) : Prop :=
  ∃ A c vs, LibW wx (fun k => S k ∨ w.heap.size ≤ k) lb (es ++ [zs]) es.length A c vs mb M ∧ Chg S w wx ∧ ∀ a b v, M a b = some v → a + b ≤ (es.length : Int)

set_option maxRecDepth 100000 in
set_option maxHeartbeats 4000000 in
theorem Append_any (S : Nat → Prop) (lb : Nat) (es : List (List Int)) (A' : Option Addr) (n' c' : Nat) (zs : List Int) (w : World) (hL : LibAt w S lb es) (hn : n' ≤ 65536) (hb : Byt zs) (hI : Ints .u8 w w.heap.size A' n' zs) (hbS : 0 < n' → ∀ b off, A' = some ⟨b, off, none⟩ → ¬ S b) (hlen : es.length < 4096) :
    Calls Try.prog 24 #[.pointer (some ⟨lb, 0, none⟩), .slice A' n' c'] w fun e w' => e = .returned (.tuple #[.int .i64 (es.length : Int), .int .i64 0]) ∧ LibAt w' (fun k => S k ∨ w.heap.size ≤ k) lb (es ++ [zs]) ∧ Chg S w w' := by
  obtain ⟨A, c, vs, mb, M, h⟩ := hL
  obtain ⟨i0, hi, hz0, hz1, hz2⟩ := info_parts info_bytes
  have hfew := h.few
  have hc := h.cell0
  have hlt := h.lt
  have hf := h.frozen 0
  have hd : decide ((65536 : Int) < (n' : Int)) = false := by simp; omega
  have hd2 : decide ((4096 : Int) ≤ (es.length : Int)) = false := by simp; omega
  obtain ⟨N, hN⟩ : ∃ N, es.length = N := ⟨_, rfl⟩
  have hrow := h.row
  have hblk := h.blk
  rw [hN] at hlen hfew hc hd2 hrow hblk ⊢
  have HN := Lib.hid hN
  clear hN
  have hne : ∀ {W : World}, W.ownsRow 0 39 1 (.slice A N c) N vs → W.heap[lb]? = some (.cells #[.slice A N c, .map (some mb)] 63 (0, 0)) → (Value.slice A N c).ownBlock ≠ some lb := by
    intro W h1 h2
    rcases h1.2 with ⟨hv, _⟩ | ⟨g', cap, cur, hv, _, hh, _⟩
    · rw [hv]; simp [Value.ownBlock]
    · rw [hv]
      intro he
      have : g' = lb := by simpa [Value.ownBlock] using he
      subst this
      rw [hh] at h2
      injection h2 with h2
      injection h2 with _ ht
      revert ht
      decide
  have Hne := Lib.hid (hne hrow hblk)
  clear hne
  go_enter Try.func24, Try.ntmps24
  go_upto_region 4 with fail
  go_cut [] (fun wx => AppMid S w lb es zs mb M wx)
  case first =>
   go_region_law (first
    | (refine step_append_lies _ (by rfl) _ _ _ (by rfl) 0 39 i0 _ 1 24 Try.underlying23 hi hz0 hz1 hz2 rfl (by decide) (.slice A N c) N vs (by rfl) (hrow1.alloc _) ⟨w1.heap.size, 0, none⟩ 1 1 [.slice A2 n' c2] (by rfl) (by rfl) (World.news_of_block (cs := #[.slice A2 n' c2]) (t := 39) (fr := (0, 0)) (heap_alloc_new w1 _)) (by simp [Value.oneCell']) (by decide) (by unfold maxLen; omega) (by omega) (by omega) (w1.heap.size + 1) (by simp) ?_; intro gg cap w3 hown3 hgrow hat hglt; obtain ⟨hc3, _, hf3⟩ := two_cells ((far_keep hgrow (by omega) Hne.out).trans hblk1))
    | (go_simp; go_at_call 45; refine (clone_any A' n' c' zs (by omega) _ (by exact hI)).mono ?_; rintro e w1 ⟨v, rfl, hown1, b1'⟩; have b1 := Below.undrew b1'; clear b1'; obtain ⟨A2, c2, hv⟩ := own_slice hown1; subst hv; have hz1' : w.heap.size ≤ w1.heap.size := b1.size; have hlt1 : lb < w1.heap.size := Nat.lt_of_lt_of_le hlt b1.size; have hblk1 : w1.heap[lb]? = some (.cells #[.slice A N c, .map (some mb)] 63 (0, 0)) := (b1.block lb hlt).trans hblk; have hc1 := (two_cells hblk1).1; have hrow1 : w1.ownsRow 0 39 1 (.slice A N c) N vs := own_below (w := w) hrow b1))
   all_goals
    go_wp2_with fail
    go_meet
    have hE := HN.out
    subst hE
    exact ⟨_, _, _, (lib_more h hlen hb hI.1 hn b1 hown1 hown3 hgrow hat).1, (lib_more h hlen hb hI.1 hn b1 hown1 hown3 hgrow hat).2, fun a b v hm => by obtain ⟨s', n'', rfl, rfl, _, hle, _⟩ := h.ok.right a b v hm; omega⟩
  case rest =>
    obtain ⟨A3, c3, vs3, hm, hch, hM⟩ := hcut
    have hE := HN.out
    have HM := Lib.hid hM
    have HC := Lib.hid hch
    have Hm := Lib.hid hm
    have hcl := hm.cell1
    have hltc := hm.lt
    have hmbne : mb ≠ lb := fun e => by
      obtain ⟨es', ck, hmm, _⟩ := hm.map
      rw [e, hm.blk] at hmm
      cases hmm
    have hIc : Ints .u8 wc wc.heap.size A' n' zs := by
      refine ⟨hI.1, fun h0 => ?_⟩
      obtain ⟨b, off, e, hlt', hcell⟩ := hI.2 h0
      exact ⟨b, off, e, Nat.lt_of_lt_of_le hlt' hch.size, fun j hj => (World.cell?_of_block (a := ⟨b, off + j, none⟩) (hch.block b hlt' (hbS h0 b off e))).trans (hcell j hj)⟩
    have hno : M (N : Int) 1 = none := by
      cases hx : M (N : Int) 1 with
      | none => rfl
      | some v => have := hM _ _ _ hx; omega
    have HNO := Lib.hid hno
    clear hM hch hm hE hno
    go_wp2_with fail
    go_region_held3 (fun w' => w'.cell? ⟨lb, 1, none⟩ = some (.map (some mb)))
      (first | exact hcl | exact hcl5 | exact hclW)
      (first
        | (go_at_call 46; refine (leaf_any A' n' c' zs (by omega) hb _ (by exact hIc)).mono ?_; rintro e w5 ⟨rfl, b5'⟩; have b5 := Below.undrew b5'; clear b5'; have hcl5 : w5.cell? ⟨lb, 1, none⟩ = some (.map (some mb)) := (b5.cell (p := ⟨lb, 1, none⟩) hltc).trans hcl; obtain ⟨W2, hrun, hR2, hg2⟩ := (Hm.out.map.same (b5.block mb Hm.out.map.lt)).store (I_nat (n := N) (by omega)) (by unfold I; omega) HNO.out (leafZ (nameZ zs)); unfold keyV at hrun; have hclW : W2.cell? ⟨lb, 1, none⟩ = some (.map (some mb)) := hg2.cell hcl5 (by simp; exact hmbne.symm)))
    have hE := HN.out
    have hL6 : LibW W2 (fun k => S k ∨ w.heap.size ≤ k) lb (es ++ [zs]) (N + 1) A3 c3 vs3 mb (setM M (N : Int) 1 (leafZ (nameZ zs))) ∧ Chg (fun k => S k ∨ w.heap.size ≤ k) wc W2 := by
      subst hE
      have hv : leafZ (nameZ zs) = rootL (partZ (es ++ [zs]) es.length 1) := by rw [partZ_last]; rfl
      rw [hv] at hR2 ⊢
      refine lib_store (s := es.length) (n := 1) Hm.out b5 (Nat.le_refl _) (by simp) hR2 hg2 fun i hi => ?_
      by_cases h1 : i < es.length
      · exact setM_keep (Hm.out.ok.leaf i h1)
      · have : i = es.length := by omega
        subst this
        have := setM_same M (es.length : Int) 1 (rootL (partZ (es ++ [zs]) es.length 1))
        intro e
        rw [show ((1 : Nat) : Int) = 1 from rfl, this] at e
        cases e
    have hLL : AppLoop S w lb es zs A3 c3 vs3 mb N 1 W2 := ⟨_, hL6.1, HC.out.widen hL6.2, fun a b v hv => by
      rcases setM_some hv with ⟨rfl, rfl⟩ | h1
      · exact .inr ⟨by omega, by omega⟩
      · exact .inl (by have := HM.out a b v h1; omega)⟩
    clear hE hL6 hclW hg2 hR2 hrun hcl5 b5 hIc hcl hltc
    go_wp2_with fail
    go_loopw [7] (fun x wr => ∃ q : Nat, Pow q ∧ 1 ≤ q ∧ q ≤ N + 1 ∧ x = .int .i64 (2 * (q : Int)) ∧ AppLoop S w lb es zs A3 c3 vs3 mb N q wr) (fun x _ => 10000 - (intOf x).toNat)
    case atStart => exact ⟨1, Pow.one, Nat.le_refl _, by omega, rfl, hLL⟩
    case round =>
      obtain ⟨q, hq, hq1, hqN, rfl, hA⟩ := hrel
      have hE := HN.out
      by_cases hdv : (N + 1) % (2 * q) = 0
      · have hle : 2 * q ≤ N + 1 := Nat.le_of_dvd (by omega) (Nat.dvd_of_mod_eq_zero hdv)
        have hd3 : ((((N : Int) + 1) % (2 * (q : Int))) == 0) = true := by
          simp only [beq_iff_eq]
          have := congrArg (Int.ofNat) hdv
          simpa using this
        obtain ⟨Mr, hLr, hCr, hMr⟩ := hA
        have hcl := hLr.cell1
        have hltr := hLr.lt
        have HL := Lib.hid hLr
        have HCr := Lib.hid hCr
        have HMr := Lib.hid hMr
        obtain ⟨st, hst⟩ : ∃ st : Nat, N + 1 = st + 2 * q := ⟨N + 1 - 2 * q, by omega⟩
        have hst2 : (N : Int) + 1 - 2 * (q : Int) = (st : Int) := by omega
        clear hLr hCr hMr hE
        go_wp2_with fail
        have hw1 : IntKind.i64.wrap (q : Int) = (q : Int) := IntWalk.i64_in _ (by omega)
        have hw2 : IntKind.i64.wrap ((st : Int) + (q : Int)) = (st : Int) + (q : Int) := IntWalk.i64_in _ (by omega)
        have HS := Lib.hid (show (st : Int) + (q : Int) = ((st + q : Nat) : Int) from by omega)
        have hel : (es ++ [zs]).length = N + 1 := by rw [List.length_append, HN.out]; rfl
        have HV := Lib.hid (show nodeZ (rootL (partZ (es ++ [zs]) st q)) (rootL (partZ (es ++ [zs]) (st + q) q)) = rootL (partZ (es ++ [zs]) st (2 * q)) from by
          have hl : (partZ (es ++ [zs]) st (2 * q)).length = 2 * q := partZ_length (by omega)
          rw [rootL_node (l := partZ (es ++ [zs]) st (2 * q)) (by omega), hl, halfN_two hq, partZ_take (by omega), partZ_drop, show 2 * q - q = q from by omega])
        have HNO2 := Lib.hid (show Mr (st : Int) (2 * (q : Int)) = none from by
          cases hx : Mr (st : Int) (2 * (q : Int)) with
          | none => rfl
          | some v => rcases HMr.out _ _ _ hx with h1 | h1 <;> omega)
        have HLat : Hid (LibAt wr (fun k => S k ∨ w.heap.size ≤ k) lb (es ++ [zs])) := ⟨A3, c3, vs3, mb, Mr, by rw [hel]; exact HL.out⟩
        have h1st : st + q ≤ (es ++ [zs]).length := by omega
        have h2st : st + q + q ≤ (es ++ [zs]).length := by omega
        have hI1 : I (st : Int) := I_nat (by omega)
        have hI2 : I (2 * (q : Int)) := by unfold I; omega
        have HI1 := Lib.hid hI1
        have HI2 := Lib.hid hI2
        clear hel hI1 hI2 hst2
        go_region_held3 (fun w' => w'.cell? ⟨lb, 1, none⟩ = some (.map (some mb)))
          (first | exact hcl | exact hcl6 | exact hcl7 | exact hcl8 | exact hclW)
          (first
            | (go_at_call 36; (with_reducible refine (root_int (fun k => S k ∨ w.heap.size ≤ k) lb (es ++ [zs]) q st (q : Int) (st : Int) rfl rfl _ (by exact HLat.out.drew) h1st).mono ?_); rintro e w6 ⟨rfl, b6'⟩; have b6 := Below.undrew b6'; clear b6'; have hcl6 : w6.cell? ⟨lb, 1, none⟩ = some (.map (some mb)) := (b6.cell (p := ⟨lb, 1, none⟩) hltr).trans hcl)
            | (go_at_call 36; (with_reducible refine (root_int (fun k => S k ∨ w.heap.size ≤ k) lb (es ++ [zs]) q (st + q) (q : Int) ((st : Int) + (q : Int)) rfl HS.out _ (by exact HLat.out.below b6) h2st).mono ?_); rintro e w7 ⟨rfl, b7'⟩; have b7 := b6.trans (b7'.mono b6.size); clear b7'; have hcl7 : w7.cell? ⟨lb, 1, none⟩ = some (.map (some mb)) := (b7.cell (p := ⟨lb, 1, none⟩) hltr).trans hcl)
            | (go_at_call 47; refine (join_any _ _ _).mono ?_; rintro e w8 ⟨rfl, b8'⟩; have b8 := b7.trans (b8'.mono b7.size); clear b8'; have hcl8 : w8.cell? ⟨lb, 1, none⟩ = some (.map (some mb)) := (b8.cell (p := ⟨lb, 1, none⟩) hltr).trans hcl; obtain ⟨W2, hrun, hR2, hg2⟩ := (HL.out.map.same (b8.block mb HL.out.map.lt)).store HI1.out HI2.out HNO2.out (nodeZ (rootL (partZ (es ++ [zs]) st q)) (rootL (partZ (es ++ [zs]) (st + q) q))); unfold keyV at hrun; have hclW : W2.cell? ⟨lb, 1, none⟩ = some (.map (some mb)) := hg2.cell hcl8 (by simp; exact hmbne.symm)))
        have hL9 : LibW W2 (fun k => S k ∨ w.heap.size ≤ k) lb (es ++ [zs]) (N + 1) A3 c3 vs3 mb (setM Mr (st : Int) ((2 * q : Nat) : Int) (rootL (partZ (es ++ [zs]) st (2 * q)))) ∧ Chg (fun k => S k ∨ w.heap.size ≤ k) wr W2 := by
          rw [HV.out, show (2 * (q : Int)) = ((2 * q : Nat) : Int) from by omega] at hR2
          exact lib_store HL.out b8 (by omega) (by omega) hR2 hg2 fun i hi => setM_keep (HL.out.ok.leaf i hi)
        have hA9 : AppLoop S w lb es zs A3 c3 vs3 mb N (2 * q) W2 := ⟨_, hL9.1, HCr.out.widen hL9.2, fun a b v hv => by
          rcases setM_some hv with ⟨rfl, rfl⟩ | h1
          · exact .inr ⟨by omega, by omega⟩
          · rcases HMr.out a b v h1 with h2 | h2
            · exact .inl h2
            · exact .inr ⟨h2.1, by omega⟩⟩
        clear hL9 hclW hg2 hR2 hrun hcl8 hcl7 hcl6 b8 b7 b6 hw1 hw2
        go_wp2_with fail
        exact ⟨⟨2 * q, hq.two, by omega, by omega, by go_num, hA9⟩, by simp [intOf]; omega⟩
      · have hd3 : ((((N : Int) + 1) % (2 * (q : Int))) == 0) = false := by
          simp only [beq_eq_false_iff_ne, ne_eq]
          intro e
          apply hdv
          have : (((N + 1) % (2 * q) : Nat) : Int) = 0 := by simpa using e
          omega
        have HA := Lib.hid hA
        clear hA hdv
        go_wp2_with fail
        go_ret2
        obtain ⟨Mr, hLr, hCr, _⟩ := HA.out
        exact ⟨rfl, ⟨A3, c3, vs3, mb, Mr, by rw [List.length_append, hE]; exact hLr⟩, hCr⟩
end Go.Proofs.Ytliconagelemdaa
