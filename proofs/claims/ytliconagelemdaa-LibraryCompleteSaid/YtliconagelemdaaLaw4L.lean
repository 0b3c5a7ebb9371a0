/- The walk of the law LibraryJoined. -/
import Derived.Test.YtliconagelemdaaJoin
namespace Go.Proofs.Ytliconagelemdaa
open Go.RowKit Go.Shelf
set_option linter.unusedVariables false

attribute [local go_sem ↓] Go.wp_at_zero Go.wp_at_succ

theorem ents_one {W : World} {S : Nat → Prop} {vs : List Value} {es : List (List Int)} (h : EntsIn W S vs es) (hl : vs.length = es.length) : ∀ u ∈ vs, u.oneCell' = true := fun u hu => by
  obtain ⟨j, hj, rfl⟩ := List.mem_iff_getElem.1 hu
  obtain ⟨v, h1, h2⟩ := h j (by omega)
  rw [List.getElem?_eq_getElem hj] at h1
  injection h1 with h1
  rw [h1]
  obtain ⟨A, c, rfl⟩ := own_slice h2.1
  rfl
theorem ents_append {W : World} {S : Nat → Prop} {us vs : List Value} {es fs : List (List Int)} (h : EntsIn W S us es) (k : EntsIn W S vs fs) (hl : us.length = es.length) : EntsIn W S (us ++ vs) (es ++ fs) := fun i hi => by
  rw [List.length_append] at hi
  by_cases hi' : i < es.length
  · obtain ⟨v, h1, h2⟩ := h i hi'
    exact ⟨v, by rw [List.getElem?_append_left (by omega)]; exact h1, by rw [List.getElem?_append_left hi']; exact h2⟩
  · obtain ⟨v, h1, h2⟩ := k (i - es.length) (by omega)
    exact ⟨v, by rw [List.getElem?_append_right (by omega), hl]; exact h1, by rw [List.getElem?_append_right (by omega)]; exact h2⟩
theorem EntsIn.keep {W W' : World} {S : Nat → Prop} {vs : List Value} {es : List (List Int)} (h : EntsIn W S vs es) (hb : ∀ k, k < W.heap.size → S k → W'.heap[k]? = W.heap[k]?) : EntsIn W' S vs es := fun i hi => by
  obtain ⟨v, h1, h2⟩ := h i hi
  exact ⟨v, h1, h2.keep hb⟩

theorem own_far {W w7 : World} {o : Obj} {base : Nat} {e : TypeId} {n : Nat} {v : Value} {xs : List Value} {row : Option Nat} (h : W.ownsRow base e 1 v n xs) (hg : (W.alloc o).grownBy w7 row) (hr : ∀ g, row = some g → W.heap.size ≤ g) : w7.ownsRow base e 1 v n xs :=
  own_same h fun g hg' => (hg.block g (by have := (h.lt g hg').2; simp; omega) (fun e => by have := hr g e.symm; have := (h.lt g hg').2; omega)).trans (Below.heap_alloc W o g (h.lt g hg').2)

/-- Three libraries stand. -/
def Three (w : World) (SA : Nat → Prop) (lA : Nat) (es : List (List Int)) (SB : Nat → Prop) (lB : Nat) (fs : List (List Int)) (SC : Nat → Prop) (lC : Nat) (gs : List (List Int)) (W : World) : Prop :=
  LibAt W SA lA es ∧ LibAt W SB lB fs ∧ LibAt W SC lC gs ∧ Below w.heap.size w W
theorem Three.step {w : World} {SA : Nat → Prop} {lA : Nat} {es : List (List Int)} {SB : Nat → Prop} {lB : Nat} {fs : List (List Int)} {SC : Nat → Prop} {lC : Nat} {gs : List (List Int)} {W W' : World} (h : Three w SA lA es SB lB fs SC lC gs W) (b : Below W.heap.size W W') : Three w SA lA es SB lB fs SC lC gs W' :=
  ⟨h.1.below b, h.2.1.below b, h.2.2.1.below b, Below.step h.2.2.2 b⟩

theorem Pow.all (r : Nat) : Pow (2 ^ r) := ⟨r, rfl⟩

set_option maxRecDepth 100000 in
set_option maxHeartbeats 20000000 in
theorem libraryJoined_law (a0 : Option Addr) (len0 cap0 : Nat) (z0 : List Int) (a1 : Option Addr) (len1 cap1 : Nat) (z1 : List Int) (a2 : Int) (a3 : Int) (w : World) (w0 : GoRow .i64 w a0 len0 cap0 z0) (w1 : GoRow .i64 w a1 len1 cap1 z1) (w2 : (Lit.int .i64 a2).wf = true) (w3 : (Lit.int .i64 a3).wf = true) :
    Calls Try.prog 4 #[.slice a0 len0 cap0, .slice a1 len1 cap1, .int .i64 a2, .int .i64 a3] w fun e w' => e = .returned (.bool true) ∧ Below w.heap.size w w' := by
  obtain ⟨hI0, hlc0, hcap0, hwf0⟩ := w0.ints
  obtain ⟨hI1, hlc1, hcap1, hwf1⟩ := w1.ints
  have hz0I : ∀ z ∈ z0.take len0, I z := fun z hz => I_of_wf (hwf0 z hz)
  have hz1I : ∀ z ∈ z1.take len1, I z := fun z hz => I_of_wf (hwf1 z hz)
  have hlen1 : len1 ≤ maxLen := Nat.le_trans hlc1 hcap1
  have ha2 := I_of_wf w2
  have ha3 := I_of_wf w3
  clear w0 w1 w2 w3 hwf0 hwf1
  have HP := Lib.hid (fun W (b : Below w.heap.size w W) i => pick_any a0 len0 cap0 (z0.take len0) i 256 W (by omega) (by omega) hz0I ((hI0.below b).more b.size))
  have HE := Lib.hid (fun W (b : Below w.heap.size w W) n (hn : n ≤ 1000) => And.intro (entries_any a1 len1 cap1 (z1.take len1) n W hlen1 hn hz1I ((hI1.below b).more b.size)) (And.intro (entsZ_byt hz1I n) (entsZ_length (z1.take len1) n)))
  clear hI0 hI1 hz0I hz1I
  obtain ⟨hr0, hr5⟩ := arZ_lt a2 (m := 5) (by omega)
  have HR := Lib.hid (around_any a2 5 (by omega) (by omega) ha2)
  obtain ⟨r, hr⟩ : ∃ r : Nat, arZ a2 5 = (r : Int) := ⟨(arZ a2 5).toNat, by omega⟩
  rw [hr] at HR hr0 hr5
  clear hr
  go_enter Try.func4, Try.ntmps4
  go_wp2_with fail
  refine (HR.out _).mono ?_
  rintro e w' ⟨rfl, rfl⟩
  obtain ⟨n, hpow, hn1, hn16, hw⟩ : ∃ n : Nat, Pow n ∧ 1 ≤ n ∧ n ≤ 16 ∧ wrap64 (2 ^ r) = (n : Int) := by
    refine ⟨2 ^ r, Pow.all r, ?_⟩
    have hr6 : r < 5 := by omega
    match r, hr6 with
    | 0, _ => exact ⟨by decide, by decide, by rw [IntWalk.wrap64_in _ (by decide)]; rfl⟩
    | 1, _ => exact ⟨by decide, by decide, by rw [IntWalk.wrap64_in _ (by decide)]; rfl⟩
    | 2, _ => exact ⟨by decide, by decide, by rw [IntWalk.wrap64_in _ (by decide)]; rfl⟩
    | 3, _ => exact ⟨by decide, by decide, by rw [IntWalk.wrap64_in _ (by decide)]; rfl⟩
    | 4, _ => exact ⟨by decide, by decide, by rw [IntWalk.wrap64_in _ (by decide)]; rfl⟩
  go_wp2_with fail
  rw [hw]
  clear hw HR hr0 hr5
  obtain ⟨i0, hi, hz0, hz1, hz2⟩ := info_parts info_bytes
  go_loopw [10, 11] (fun v i wr => ∃ (k : Nat) (vs : List Value) (es : List (List Int)), k ≤ n ∧ i = .int .i64 (k : Int) ∧ es.length = k ∧ wr.ownsRow w.heap.size 39 1 v k vs ∧ EntsIn wr (fun k => w.heap.size ≤ k) vs es ∧ (∀ e ∈ es, Byt e ∧ e.length ≤ 65536) ∧ Below w.heap.size w wr)
    (fun _ i _ => n - (intOf i).toNat)
  case atStart => exact ⟨0, [], [], Nat.zero_le _, rfl, rfl, World.ownsRow_nil _ _ _ _, fun i hi => by simp at hi, by simp, Below.refl _ _⟩
  case round =>
    obtain ⟨k, vs, es, hk, rfl, hel, hown, hent, hby, hB⟩ := hrel
    have HX := Lib.hid (And.intro hel (And.intro hown (And.intro hent hby)))
    clear hel hent hby hown
    by_cases hlt : k < n
    · have hd : decide (k < n) = true := by simpa using hlt
      go_wp2_with fail
      refine (HP.out _ hB k).mono ?_
      rintro e w' ⟨⟨p, rfl, hp0, hp1⟩, rfl⟩
      have hzw := hB.size
      obtain ⟨A5, c5, hv5⟩ := own_slice HX.out.2.1
      subst hv5
      have hO1 : (wr.alloc (.cells #[.int .u8 (k : Int), .int .u8 p] 5)).ownsRow w.heap.size 39 1 (.slice A5 k c5) k vs := HX.out.2.1.alloc _
      have hu : EntryAt (wr.alloc (.cells #[.int .u8 (k : Int), .int .u8 p] 5)) (fun k => w.heap.size ≤ k) (.slice (some ⟨wr.heap.size, 0, none⟩) 2 2) [(k : Int), p] := by
        refine ⟨own_base (World.ownsRow_lit wr #[.int .u8 (k : Int), .int .u8 p] 2 hzw (by unfold maxLen; omega) rfl) (Nat.zero_le _), fun g hg => ?_⟩
        have : wr.heap.size = g := by simpa [Value.ownBlock] using hg
        omega
      have hent1 : EntsIn (wr.alloc (.cells #[.int .u8 (k : Int), .int .u8 p] 5)) (fun k => w.heap.size ≤ k) vs es := fun i hi => by
        obtain ⟨v, h1, h2⟩ := HX.out.2.2.1 i hi
        exact ⟨v, h1, h2.keep fun g hg _ => Below.heap_alloc _ _ _ hg⟩
      have HU := Lib.hid (And.intro hu (And.intro hent1 hB))
      clear hu hent1 hB
      go_wp2_with (at_builtin; refine wpList_append_own _ rfl _ _ 23 rfl w.heap.size 39 i0 _ 1 24 Try.underlying23 hi hz0 hz1 hz2 rfl (by decide) _ _ _ rfl (hO1.alloc _) ⟨wr.heap.size + 1, 0, none⟩ 1 1 [.slice (some ⟨wr.heap.size, 0, none⟩) 2 2] rfl rfl (by simpa using cell_one_new (wr.alloc (.cells #[.int .u8 (k : Int), .int .u8 p] 5)) (.slice (some ⟨wr.heap.size, 0, none⟩) 2 2) 39) (by simp [Value.oneCell']) (by unfold maxLen; omega) (by omega) (by simp; omega) ?_; intro v' w3 hown' hgrow _)
      have hE3 := ents_push hO1 HX.out.1.symm HU.out.2.1 HU.out.1 hgrow
      obtain ⟨_, hb1⟩ := grown_keeps hO1 (by simp; omega) hgrow
      have hby3 : ∀ e ∈ es ++ [[(k : Int), p]], Byt e ∧ e.length ≤ 65536 := fun e he => by
        rcases List.mem_append.1 he with h1 | h1
        · exact HX.out.2.2.2 e h1
        · have := List.mem_singleton.1 h1
          subst this
          refine ⟨fun z hz => ?_, by simp⟩
          simp at hz
          omega
      have hB3 := (HU.out.2.2.alloc hzw (.cells #[.int .u8 (k : Int), .int .u8 p] 5)).trans hb1
      have hel3 : (es ++ [[(k : Int), p]]).length = k + 1 := by rw [List.length_append, HX.out.1]; rfl
      go_roundw
      case rel => exact ⟨k + 1, _, _, by omega, by go_num, hel3, hown', hE3, hby3, hB3⟩
      case measure => simp [intOf]; omega
    · have hd : decide (k < n) = false := by simpa using hlt
      obtain rfl : k = n := by omega
      obtain ⟨hel, hown, hent, hby⟩ := HX.out
      obtain ⟨Ax, cx, hvx⟩ := own_slice hown
      subst hvx
      have hEx : EntsAt wr (fun k => w.heap.size ≤ k) Ax cx es := ⟨vs, by rw [hel]; exact own_base hown (Nat.zero_le _), fun g hg => (hown.lt g (by rw [hel] at hg; exact hg)).1, hent⟩
      have HBX := Lib.hid hby
      have HEL := Lib.hid hel
      have hB0 := hB.size
      obtain ⟨hcY, hbY, hlY⟩ := HE.out wr hB k (by omega)
      obtain ⟨fs, hfs⟩ : ∃ fs, entsZ (z1.take len1) k = fs := ⟨_, rfl⟩
      rw [hfs] at hcY hbY hlY
      have HCY := Lib.hid hcY
      have HBY := Lib.hid hbY
      obtain ⟨M, hM⟩ : ∃ M, fs.length = M := ⟨_, rfl⟩
      rw [hM] at hlY
      have HM := Lib.hid hM
      clear hcY hbY hM hfs hel hown hent hby HX
      go_wp2_with fail
      refine HCY.out.mono ?_
      rintro e w4 ⟨Ay, cy, rfl, hEy, b4⟩
      rw [HM.out]
      by_cases hM0 : M = 0
      · have hz : ((M : Int) == 0) = true := by simp; omega
        go_wp2_with fail
        refine (lives_any _).mono ?_
        rintro e w5 ⟨rfl, b5⟩
        go_wp2_with fail
        go_ret
        exact ⟨rfl, Below.step (Below.step hB b4) b5⟩
      · have hz : ((M : Int) == 0) = false := by simp; omega
        have hEx4 := hEx.below b4
        have B4 := Below.step hB b4
        clear hEx hB b4 HCY HE HP
        have hEy4 := hEy.mono (S' := fun k => w.heap.size ≤ k) (fun g _ hg => Nat.le_trans hB0 hg)
        have hRx := hEx4.rows
        rw [HEL.out] at hRx
        clear hEy
        go_wp2_with fail
        refine (tree_any Ax k cx es _ (by omega) HBX.out hRx).mono ?_
        rintro e w5 ⟨lA, rfl, hLA5, b5⟩
        have hEx5 := hEx4.below b5
        have hEy5 := hEy4.below b5
        have B5 := Below.step B4 b5
        have hRy := hEy5.rows
        rw [HM.out] at hRy
        obtain ⟨SA, hSA⟩ : ∃ S : Nat → Prop, (fun k => w4.heap.size ≤ k) = S := ⟨_, rfl⟩
        rw [hSA] at hLA5
        clear hSA hEx4 hEy4 B4 b5 hRx
        go_wp2_with fail
        refine (tree_any Ay M cy fs _ (by omega) HBY.out hRy).mono ?_
        rintro e w6 ⟨lB, rfl, hLB6, b6⟩
        have hEx6 := hEx5.below b6
        have hEy6 := hEy5.below b6
        have hLA6 := hLA5.below b6
        have B6 := Below.step B5 b6
        obtain ⟨SB, hSB⟩ : ∃ S : Nat → Prop, (fun k => w5.heap.size ≤ k) = S := ⟨_, rfl⟩
        rw [hSB] at hLB6
        clear hSB hEx5 hEy5 B5 b6 hRy hLA5
        obtain ⟨vx, hxo, hxS, hxe⟩ := hEx6
        obtain ⟨vy, hyo, hyS, hye⟩ := hEy6
        rw [HEL.out] at hxo hxS
        rw [HM.out] at hyo hyS
        have hvx : vx.length = es.length := by have := hxo.1; rw [HEL.out]; omega
        have hvy : vy.length = fs.length := by have := hyo.1; rw [HM.out]; omega
        obtain ⟨gx, cx', hvx1, _, hgx⟩ := hxo.form (by omega)
        obtain ⟨gy, cy', hvy1, _, hgy⟩ := hyo.form (by omega)
        obtain ⟨rfl, rfl⟩ : Ax = some ⟨gx, 0, none⟩ ∧ cx = cx' := by injection hvx1 with h1 _ h2; exact ⟨h1, h2⟩
        obtain ⟨rfl, rfl⟩ : Ay = some ⟨gy, 0, none⟩ ∧ cy = cy' := by injection hvy1 with h1 _ h2; exact ⟨h1, h2⟩
        have hox := ents_one hxe hvx
        have hoy := ents_one hye hvy
        have hxl := hxo.1
        have hyl := hyo.1
        have HXX := Lib.hid (And.intro hvx (And.intro hxe hye))
        clear hvx1 hvy1 hxe hye hvx hvy
        have hlit := World.ownsRow_lit (e := 39) (size := 1) w6 #[] 0 (Nat.le_refl _) (by unfold maxLen; omega) rfl
        have hx7 := hxo.alloc (.cells #[] 39)
        go_wp2_with (at_builtin; first
          | (refine wpList_append_own _ rfl _ _ 23 rfl w6.heap.size 39 i0 _ 1 24 Try.underlying23 hi hz0 hz1 hz2 rfl (by decide) (.slice (some ⟨w6.heap.size, 0, none⟩) 0 0) 0 [] rfl hlit ⟨gx, 0, none⟩ k cx vx rfl hxl (fun j u hj => hx7.cells (g := gx) rfl j u hj) hox (by unfold maxLen; omega) (by omega) (by simp) ?_; intro v7 w7 hown7 hgrow7 _; simp only [Nat.zero_add] at hown7; obtain ⟨A7, c7, hv7⟩ := own_slice hown7; subst hv7; have hy7 := own_far hyo hgrow7 (fun g hg => Nat.le_of_eq (by simpa [Value.ownBlock] using hg)))
          | (refine wpList_append_own _ rfl _ _ 23 rfl w6.heap.size 39 i0 _ 1 24 Try.underlying23 hi hz0 hz1 hz2 rfl (by decide) (.slice A7 k c7) k _ rfl hown7 ⟨gy, 0, none⟩ M cy vy rfl hyl (fun j u hj => hy7.cells (g := gy) rfl j u hj) hoy (by unfold maxLen; omega) (by omega) (by have := hgrow7.size; simp at this; omega) ?_; intro v8 w8 hown8 hgrow8 _))
        obtain ⟨A8, c8, hv8⟩ := own_slice hown8
        subst hv8
        have b8 : Below w6.heap.size w6 w8 := (((Below.refl _ w6).alloc (Nat.le_refl _) _).grown hgrow7 (by simp) (fun g hg => Nat.le_of_eq (by simpa [Value.ownBlock] using hg))).grown hgrow8 (by have := hgrow7.size; simp at this; omega) (fun g hg => (hown7.lt g hg).1)
        have hE8 : EntsAt w8 (fun k => w.heap.size ≤ k) A8 c8 (es ++ fs) := by
          have hl : (es ++ fs).length = k + M := by rw [List.length_append, HEL.out, HM.out]
          refine ⟨vx ++ vy, ?_, ?_, ents_append (HXX.out.2.1.keep fun g hg _ => b8.block g hg) (HXX.out.2.2.keep fun g hg _ => b8.block g hg) HXX.out.1⟩
          · rw [hl]
            exact own_base hown8 (Nat.zero_le _)
          · rw [hl]
            exact fun g hg => Nat.le_trans B6.size (hown8.lt g hg).1
        have hR8 := hE8.rows
        rw [List.length_append, HEL.out, HM.out] at hR8
        have hby8 : ∀ e ∈ es ++ fs, Byt e ∧ e.length ≤ 65536 := fun e he => by
          rcases List.mem_append.1 he with h1 | h1
          · exact HBX.out e h1
          · exact HBY.out e h1
        have hLA8 := hLA6.below b8
        have hLB8 := hLB6.below b8
        have B8 := Below.step B6 b8
        clear hE8 hlit hx7 hy7 hown7 hgrow7 hown8 hgrow8 hxo hyo hxS hyS hox hoy hxl hyl HXX hLA6 hLB6 B6 b8
        refine (tree_any A8 (k + M) c8 (es ++ fs) _ (by omega) hby8 hR8).mono ?_
        rintro e w9 ⟨lC, rfl, hLC9, b9⟩
        have hLA9 := hLA8.below b9
        have hLB9 := hLB8.below b9
        have B9 := Below.step B8 b9
        obtain ⟨SC, hSC⟩ : ∃ S : Nat → Prop, (fun k => w8.heap.size ≤ k) = S := ⟨_, rfl⟩
        rw [hSC] at hLC9
        clear hSC hLA8 hLB8 B8 b9 hR8 hby8
        -- what the four lists and three roots are
        have hlx : (namesZ es).length = k := by rw [namesZ_length, HEL.out]
        have hly : (namesZ fs).length = M := by rw [namesZ_length, HM.out]
        have hpx : partZ es 0 k = namesZ es := by have := partZ_all es; rwa [HEL.out] at this
        have hpy : partZ fs 0 M = namesZ fs := by have := partZ_all fs; rwa [HM.out] at this
        have hpc : partZ (es ++ fs) 0 (k + M) = namesZ es ++ namesZ fs := by have := partZ_all (es ++ fs); rwa [List.length_append, HEL.out, HM.out, namesZ_append] at this
        have hlc : (es ++ fs).length = k + M := by rw [List.length_append, HEL.out, HM.out]
        obtain ⟨a, ha⟩ : ∃ a, namesZ es = a := ⟨_, rfl⟩
        obtain ⟨b, hb⟩ : ∃ b, namesZ fs = b := ⟨_, rfl⟩
        rw [ha] at hlx hpx hpc
        rw [hb] at hly hpy hpc
        have R1 := fun W (h : LibAt W SA lA es) => Root_yes SA lA es k W h (by rw [HEL.out]; omega)
        have R2 := fun W (h : LibAt W SB lB fs) => Root_yes SB lB fs M W h (by rw [HM.out]; omega)
        have R3 := fun W (h : LibAt W SC lC (es ++ fs)) => Root_yes SC lC (es ++ fs) (k + M) W h (by rw [hlc]; omega)
        obtain ⟨hi0, hik⟩ := arZ_lt a3 (m := (k : Int)) (by omega)
        obtain ⟨hj0, hjM⟩ := arZ_lt a3 (m := (M : Int)) (by omega)
        have RA := around_any a3 (k : Int) (by omega) (by omega) ha3
        have RB := around_any a3 (M : Int) (by omega) (by omega) ha3
        obtain ⟨i, hii⟩ : ∃ i : Nat, arZ a3 (k : Int) = (i : Int) := ⟨(arZ a3 (k : Int)).toNat, by omega⟩
        obtain ⟨j, hjj⟩ : ∃ j : Nat, arZ a3 (M : Int) = (j : Int) := ⟨(arZ a3 (M : Int)).toNat, by omega⟩
        rw [hii] at RA hi0 hik
        rw [hjj] at RB hj0 hjM
        have P1 := fun W (h : LibAt W SA lA es) => Path_yes SA lA es i k W h (by rw [HEL.out]; omega) (by omega)
        have P2 := fun W (h : LibAt W SB lB fs) => Path_yes SB lB fs j M W h (by rw [HM.out]; omega) (by omega)
        have P3 := fun W (h : LibAt W SC lC (es ++ fs)) => Path_yes SC lC (es ++ fs) i (k + M) W h (by rw [hlc]; omega) (by omega)
        have P4 := fun W (h : LibAt W SC lC (es ++ fs)) => Path_yes SC lC (es ++ fs) (k + j) (k + M) W h (by rw [hlc]; omega) (by omega)
        have hpow' : Pow a.length := by rw [hlx]; exact hpow
        rw [hpx] at R1 P1
        rw [hpy] at R2 P2
        rw [hpc] at R3 P3 P4
        rw [join_root hpow' (by omega) (by omega)] at R3
        rw [join_path_left hpow' (by omega) (by omega) (by omega)] at P3
        have hjr := join_path_right hpow' (b := b) (by omega) (by omega) j
        rw [hlx] at hjr
        rw [hjr] at P4
        have hls := pathL_len a i
        have hlt' := pathL_len b j
        rw [hlx] at hls
        rw [hly] at hlt'
        obtain ⟨s, hs⟩ : ∃ s, pathL a i = s := ⟨_, rfl⟩
        obtain ⟨t, ht⟩ : ∃ t, pathL b j = t := ⟨_, rfl⟩
        obtain ⟨P, hP⟩ : ∃ P, rootL a = P := ⟨_, rfl⟩
        obtain ⟨Q, hQ⟩ : ∃ Q, rootL b = Q := ⟨_, rfl⟩
        rw [hP] at R1 P4
        rw [hQ] at R2 P3
        rw [hP, hQ] at R3
        rw [hs] at P1 P3 hls
        rw [ht] at P2 P4 hlt'
        obtain ⟨R, hR⟩ : ∃ R, nodeZ P Q = R := ⟨_, rfl⟩
        have RN := fun A cap W (h : Ints .i64 W W.heap.size A 2 [wrap64 P, wrap64 Q]) => nodeSum_any A cap P Q W h
        rw [hR] at R3 RN
        have HQ := Lib.hid (And.intro R1 (And.intro R2 (And.intro R3 (And.intro RA (And.intro RB (And.intro P1 (And.intro P2 (And.intro P3 (And.intro P4 RN)))))))))
        clear R1 R2 R3 RA RB P1 P2 P3 P4 RN hR hs ht hP hQ hpow' hjr hpx hpy hpc hlx hly hlc ha hb hii hjj
        have hu9 : Three w SA lA es SB lB fs SC lC (es ++ fs) w9 := ⟨hLA9, hLB9, hLC9, B9⟩
        clear hLA9 hLB9 hLC9 B9
        go_wp2_with fail
        refine (HQ.out.1 _ hu9.1).mono ?_
        rintro e v1 ⟨rfl, bv1⟩
        have hv1 := hu9.step bv1
        clear hu9 bv1
        go_wp2_with fail
        refine (HQ.out.2.1 _ hv1.2.1).mono ?_
        rintro e v2 ⟨rfl, bv2⟩
        have hv2 := hv1.step bv2
        clear hv1 bv2
        go_wp2_with fail
        rw [show (k : Int) + (M : Int) = ((k + M : Nat) : Int) from by omega]
        refine (HQ.out.2.2.1 _ hv2.2.2.1).mono ?_
        rintro e v3 ⟨rfl, bv3⟩
        have hv3 := hv2.step bv3
        clear hv2 bv3
        go_wp2_with fail
        refine (HQ.out.2.2.2.1 _).mono ?_
        rintro e w' ⟨rfl, rfl⟩
        go_wp2_with fail
        refine (HQ.out.2.2.2.2.1 _).mono ?_
        rintro e w' ⟨rfl, rfl⟩
        go_wp2_with fail
        refine (HQ.out.2.2.2.2.2.1 _ hv3.1).mono ?_
        rintro e p1 ⟨Ap1, cp1, rfl, hownp1, bp1⟩
        have hp1 := hv3.step bp1
        have hIp1 := Ints.of_own hownp1
        clear hv3 bp1 hownp1
        go_wp2_with fail
        refine (HQ.out.2.2.2.2.2.2.1 _ hp1.2.1).mono ?_
        rintro e p2 ⟨Ap2, cp2, rfl, hownp2, bp2⟩
        have hp2 := hp1.step bp2
        have hIp2 := Ints.of_own hownp2
        have hIp1' := (hIp1.below bp2).more bp2.size
        clear hIp1
        have hIp1 := hIp1'
        clear hIp1'
        clear hp1 bp2 hownp2
        go_wp2_with fail
        rw [show (k : Int) + (M : Int) = ((k + M : Nat) : Int) from by omega]
        refine (HQ.out.2.2.2.2.2.2.2.1 _ hp2.2.2.1).mono ?_
        rintro e p3 ⟨Ap3, cp3, rfl, hownp3, bp3⟩
        have hp3 := hp2.step bp3
        have hIp3 := Ints.of_own hownp3
        have hIp1' := (hIp1.below bp3).more bp3.size
        clear hIp1
        have hIp1 := hIp1'
        clear hIp1'
        have hIp2' := (hIp2.below bp3).more bp3.size
        clear hIp2
        have hIp2 := hIp2'
        clear hIp2'
        clear hp2 bp3 hownp3
        go_wp2_with fail
        rw [show (k : Int) + (M : Int) = ((k + M : Nat) : Int) from by omega, show (k : Int) + (j : Int) = ((k + j : Nat) : Int) from by omega]
        refine (HQ.out.2.2.2.2.2.2.2.2.1 _ hp3.2.2.1).mono ?_
        rintro e p4 ⟨Ap4, cp4, rfl, hownp4, bp4⟩
        have hp4 := hp3.step bp4
        have hIp4 := Ints.of_own hownp4
        have hIp1' := (hIp1.below bp4).more bp4.size
        clear hIp1
        have hIp1 := hIp1'
        clear hIp1'
        have hIp2' := (hIp2.below bp4).more bp4.size
        clear hIp2
        have hIp2 := hIp2'
        clear hIp2'
        have hIp3' := (hIp3.below bp4).more bp4.size
        clear hIp3
        have hIp3 := hIp3'
        clear hIp3'
        clear hp3 bp4 hownp4
        go_wp2_with fail
        refine (HQ.out.2.2.2.2.2.2.2.2.2 _ _ _ (ints_new .i64 p4 [wrap64 P, wrap64 Q] 3 |>.more (by simp))).mono ?_
        rintro e q1 ⟨rfl, bq'⟩
        have bq := Below.made bq'
        have hq1 := hp4.step bq
        have hX1 := (hIp1.below bq).more bq.size
        have hX2 := (hIp2.below bq).more bq.size
        have hX3 := (hIp3.below bq).more bq.size
        have hX4 := (hIp4.below bq).more bq.size
        clear hp4 hIp1 hIp2 hIp3 hIp4 bq bq' HQ
        obtain ⟨e0, he, hy0, hy1, hy2⟩ := info_parts info_u64
        have hX3' : Ints .u64 q1 q1.heap.size Ap3 (s.length + 1) (s ++ [Q]) := by simpa using hX3
        have hX4' : Ints .u64 q1 q1.heap.size Ap4 (t.length + 1) (t ++ [P]) := by simpa using hX4
        clear hX3 hX4
        have hRR : (R == R) = true := by simp
        have hlitx := World.ownsRow_lit (e := 40) (size := 1) q1 #[] 0 (Nat.le_refl _) (by unfold maxLen; omega) rfl
        have hsrcx := hX1.below ((Below.refl _ q1).alloc (Nat.le_refl _) (.cells #[] 40))
        go_wp2_with (at_builtin; first
          | (refine wpList_append_ints_w _ (by rfl) _ _ 25 rfl q1.heap.size 40 e0 (.int .u64 0) 8 Try.underlying25 he hy0 hy1 hy2 rfl (.slice (some ⟨q1.heap.size, 0, none⟩) 0 0) 0 [] rfl hlitx .u64 q1.heap.size _ _ _ s rfl hsrcx (by unfold maxLen; omega) (by omega) (by simp) ?_; intro vxa wxa hownxa hgrowxa; simp only [Nat.zero_add] at hownxa; obtain ⟨Axa, cxa, hvxa⟩ := own_slice hownxa; subst hvxa; have hsxa : q1.heap.size ≤ wxa.heap.size := Nat.le_trans (by simp) hgrowxa.size)
          | (refine wpList_append_ints_w _ (by rfl) _ _ 25 rfl q1.heap.size 40 e0 (.int .u64 0) 8 Try.underlying25 he hy0 hy1 hy2 rfl (.slice Axa s.length cxa) s.length _ rfl (hownxa.alloc _) .u64 (wxa.heap.size + 1) _ 1 1 [Q] rfl (ints_new .u64 wxa [Q] 40) (by unfold maxLen; omega) (by omega) (by simp; omega) ?_; intro vxb wxb hownxb hgrowxb))
        obtain ⟨Axb, cxb, hvxb⟩ := own_slice hownxb
        subst hvxb
        have bx : Below q1.heap.size q1 wxb := ((((Below.refl _ q1).alloc (Nat.le_refl _) _).grown hgrowxa (by simp) (fun g hg => Nat.le_of_eq (by simpa [Value.ownBlock] using hg))).alloc hsxa _).grown hgrowxb (by simp; omega) (fun g hg => (hownxa.lt g hg).1)
        have hYx : Ints .u64 wxb wxb.heap.size Axb (s.length + 1) (s ++ [Q]) := Ints.of_own (base := q1.heap.size) (e := 40) (c := cxb) (by rw [List.map_append]; exact hownxb)
        refine (sameU64_any _ _ _ _ _ _ (s ++ [Q]) (s ++ [Q]) (by omega) (by omega) _ ((hX3'.below bx).more bx.size) hYx).mono ?_
        rintro e q2 ⟨rfl, bx'⟩
        rw [sameB_true rfl]
        have hq2 := hq1.step (Below.step bx bx')
        have hX22 := (hX2.below (Below.step bx bx')).more (Below.step bx bx').size
        have hX42 := (hX4'.below (Below.step bx bx')).more (Below.step bx bx').size
        clear hlitx hsrcx hownxa hgrowxa hownxb hgrowxb hYx bx bx' hq1 hsxa hX2 hX4' hX1 hX3'
        have hlitu := World.ownsRow_lit (e := 40) (size := 1) q2 #[] 0 (Nat.le_refl _) (by unfold maxLen; omega) rfl
        have hsrcu := hX22.below ((Below.refl _ q2).alloc (Nat.le_refl _) (.cells #[] 40))
        go_wp2_with (at_builtin; first
          | (refine wpList_append_ints_w _ (by rfl) _ _ 25 rfl q2.heap.size 40 e0 (.int .u64 0) 8 Try.underlying25 he hy0 hy1 hy2 rfl (.slice (some ⟨q2.heap.size, 0, none⟩) 0 0) 0 [] rfl hlitu .u64 q2.heap.size _ _ _ t rfl hsrcu (by unfold maxLen; omega) (by omega) (by simp) ?_; intro vua wua hownua hgrowua; simp only [Nat.zero_add] at hownua; obtain ⟨Aua, cua, hvua⟩ := own_slice hownua; subst hvua; have hsua : q2.heap.size ≤ wua.heap.size := Nat.le_trans (by simp) hgrowua.size)
          | (refine wpList_append_ints_w _ (by rfl) _ _ 25 rfl q2.heap.size 40 e0 (.int .u64 0) 8 Try.underlying25 he hy0 hy1 hy2 rfl (.slice Aua t.length cua) t.length _ rfl (hownua.alloc _) .u64 (wua.heap.size + 1) _ 1 1 [P] rfl (ints_new .u64 wua [P] 40) (by unfold maxLen; omega) (by omega) (by simp; omega) ?_; intro vub wub hownub hgrowub))
        obtain ⟨Aub, cub, hvub⟩ := own_slice hownub
        subst hvub
        have bu : Below q2.heap.size q2 wub := ((((Below.refl _ q2).alloc (Nat.le_refl _) _).grown hgrowua (by simp) (fun g hg => Nat.le_of_eq (by simpa [Value.ownBlock] using hg))).alloc hsua _).grown hgrowub (by simp; omega) (fun g hg => (hownua.lt g hg).1)
        have hYu : Ints .u64 wub wub.heap.size Aub (t.length + 1) (t ++ [P]) := Ints.of_own (base := q2.heap.size) (e := 40) (c := cub) (by rw [List.map_append]; exact hownub)
        refine (sameU64_any _ _ _ _ _ _ (t ++ [P]) (t ++ [P]) (by omega) (by omega) _ ((hX42.below bu).more bu.size) hYu).mono ?_
        rintro e q3 ⟨rfl, bu'⟩
        rw [sameB_true rfl]
        have hq3 := hq2.step (Below.step bu bu')
        clear hlitu hsrcu hownua hgrowua hownub hgrowub hYu bu bu' hq2 hsua  hX22 hX42
        go_wp2_with fail
        refine (lives_any _).mono ?_
        rintro e q4 ⟨rfl, b4⟩
        go_wp2_with fail
        go_ret
        exact ⟨rfl, (hq3.step b4).2.2.2⟩

end Go.Proofs.Ytliconagelemdaa
