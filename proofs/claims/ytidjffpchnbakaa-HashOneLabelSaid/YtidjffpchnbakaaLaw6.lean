/- The walk of the law HashOneWord. -/
import Derived.Deep.RegionHeld3
import Derived.Test.YtidjffpchnbakaaLaw5
namespace Go.Proofs.Ytidjffpchnbakaa
open Go.RowKit Go.Shelf
set_option linter.unusedVariables false

theorem held_next {U W W' : World} {p : Addr} {v : Value} (hp : p.block < U.heap.size) (h : W.cell? p = some v ∧ Below U.heap.size U W) (b : Below W.heap.size W W') : W'.cell? p = some v ∧ Below U.heap.size U W' :=
  ⟨(b.cell (p := p) (Nat.lt_of_lt_of_le hp h.2.size)).trans h.1, h.2.trans (b.mono h.2.size)⟩

theorem held_ints {U W : World} {p : Addr} {v : Value} {k : IntKind} {A : Option Addr} {n : Nat} {xs : List Int} (h : W.cell? p = some v ∧ Below U.heap.size U W) (hX : Ints k U U.heap.size A n xs) : Ints k W W.heap.size A n xs :=
  (hX.below h.2).more h.2.size

set_option maxRecDepth 100000 in
set_option maxHeartbeats 4000000 in
theorem hashOneWord_law (a0 : ByteArray) (a1 : Option Addr) (len1 cap1 : Nat) (z1 : List Int) (a2 : Int) (a3 : Int) (w : World) (w0 : a0.size ≤ maxLen) (w1 : GoRow .i64 w a1 len1 cap1 z1) (w2 : (Lit.int .i64 a2).wf = true) (w3 : (Lit.int .i64 a3).wf = true) :
    Calls Try.prog 5 #[.string a0, .slice a1 len1 cap1, .int .i64 a2, .int .i64 a3] w fun e w' => e = .returned (.bool true) ∧ Below w.heap.size w w' := by
  obtain ⟨hI, hlc, hcap, hwf⟩ := w1.ints
  obtain ⟨i0, hi, hz0, hz1, hz2⟩ := info_parts info_int
  have hby : ∀ z ∈ (z1.take len1).take (9 : Int).toNat, I z := fun z hz => I_of_wf (hwf z (List.mem_of_mem_take hz))
  have hl : ((z1.take len1).take (9 : Int).toNat).length ≤ 9 := List.length_take_le _ _
  have h2 := bounds_i64 w2
  have h3 := I_of_wf w3
  clear hwf w1 w2 w3
  go_enter Try.func5, Try.ntmps5
  go_wp2_with fail
  refine (short_int _ _ (by decide) (by decide) w0 _).mono ?_
  rintro e w' ⟨s, rfl, hs, rfl⟩
  have hs1 : s.size ≤ 1000000 := Nat.le_trans hs (by decide)
  clear hs w0
  go_wp2_with fail
  refine (ints_int _ _ _ _ _ (by decide) (by decide) hlc hcap _ hI).mono ?_
  rintro e u1 ⟨v, rfl, hown, B1⟩
  obtain ⟨A, c, hv⟩ := own_slice hown
  subst hv
  clear hI hlc hcap
  obtain ⟨zs, hzs⟩ : ∃ zs, (z1.take len1).take (9 : Int).toNat = zs := ⟨_, rfl⟩
  rw [hzs] at hown hl hby ⊢
  clear hzs
  have HB := Lib.hid hby
  clear hby
  go_wp2_with (at_builtin; refine wpList_append_own _ rfl _ _ 22 rfl w.heap.size 3 i0 (.int .i64 0) 1 8 Try.underlying22 hi hz0 hz1 hz2 rfl (by decide) _ _ _ rfl (hown.alloc _) ⟨u1.heap.size, 0, none⟩ 1 1 [.int .i64 7] rfl rfl (cell_one_new _ _ _) (by simp [Value.oneCell']) (by unfold maxLen; omega) (by omega) (by have := B1.size; simp; omega) ?_; intro v' u2 hown' hgrow _; obtain ⟨g2, cap2, rfl⟩ := ownsRow_succ hown')
  obtain ⟨_, hb2⟩ := grown_keeps hown B1.size hgrow
  have B2 := B1.trans hb2
  have hX2 : Ints .i64 u2 u2.heap.size (some ⟨g2, 0, none⟩) (zs.length + 1) (zs ++ [7]) := Ints.of_own (base := w.heap.size) (e := 3) (c := cap2) (by rw [List.map_append]; exact hown')
  have hc2 := own_cap hown'
  clear hown hown' hgrow hb2 B1
  have hbx : ∀ j : Nat, I ((zs ++ [7])[j]?.getD 0) := by
    intro j
    by_cases hj : j < (zs ++ [(7 : Int)]).length
    · rw [List.getElem?_eq_getElem hj, Option.getD_some]
      rcases List.mem_append.1 (List.getElem_mem hj) with h1 | h1
      · exact HB.out _ h1
      · have h7 := List.mem_singleton.1 h1
        rw [h7]; unfold I; omega
    · rw [List.getElem?_eq_none (by omega)]
      unfold I; simp
  have hxl : (zs ++ [(7 : Int)]).length = zs.length + 1 := by simp
  obtain ⟨xs, hxs⟩ : ∃ xs, zs ++ [(7 : Int)] = xs := ⟨_, rfl⟩
  obtain ⟨n, hn⟩ : ∃ n, zs.length + 1 = n := ⟨_, rfl⟩
  rw [hxs] at hX2 hbx hxl
  rw [hn] at hX2 hc2 hxl ⊢
  have hn10 : n ≤ 10 := by omega
  have hn1 : 1 ≤ n := by omega
  have HB2 := Lib.hid hbx
  clear hn hxs hl hbx HB
  refine (ints_int _ _ _ _ _ (by decide) (by decide) hc2.1 hc2.2 _ hX2).mono ?_
  rintro e u3 ⟨v, rfl, hown, b3⟩
  rw [List.take_of_length_le (i := (10 : Int).toNat) (l := xs) (by rw [hxl]; exact hn10)] at hown
  rw [hxl] at hown
  obtain ⟨g, c3, hv, hg, _⟩ := hown.form (by omega)
  subst hv
  have B3 := B2.trans (b3.mono B2.size)
  have hX3 := hX2.below b3
  have h23 := b3.size
  have h02 := B2.size
  clear b3 B2 hX2
  go_wp2_with fail
  refine (around_any _ _ (by omega) (by omega) h2 _).mono ?_
  rintro e w' ⟨rfl, rfl⟩
  obtain ⟨hk0, hk1⟩ := arZ_lt a2 (m := (n : Int)) (by omega)
  obtain ⟨k, hk⟩ := Int.eq_ofNat_of_zero_le hk0
  rw [hk] at hk1 ⊢
  clear hk hk0
  have hk2 : k < n := by omega
  obtain ⟨q0, hck⟩ : ∃ q, u3.cell? ⟨g, k, none⟩ = some (.int .i64 q) := ⟨_, by
    rw [hown.cellAt k (by omega), List.getElem?_map, List.getElem?_eq_getElem (by omega)]; rfl⟩
  have hfk := hown.frozenAt k
  have hYo := (hown.stored k (.int .i64 a3)).1
  rw [map_set_int] at hYo
  have hB4 : Below u2.heap.size u3 (u3.setCell ⟨g, k, none⟩ (.int .i64 a3)) := (Below.refl _ _).setCell (p := ⟨g, k, none⟩) hg _
  have hN := sumZ_set (strZ s) xs k a3 (by omega) (HB2.out k) h3
  go_wp2_with fail
  clear hck hfk hown
  obtain ⟨ys, hys⟩ : ∃ ys, xs.set k a3 = ys := ⟨_, rfl⟩
  obtain ⟨U, hU⟩ : ∃ U, u3.setCell ⟨g, k, none⟩ (.int .i64 a3) = U := ⟨_, rfl⟩
  rw [hys] at hN
  rw [hys, hU] at hYo
  rw [hU] at hB4 ⊢
  clear hys hU
  have B4 : Below w.heap.size w U := B3.trans (hB4.mono h02)
  have hXU := (hX3.below hB4).more (show u2.heap.size ≤ U.heap.size from Nat.le_trans h23 hB4.size)
  have hYU := Ints.of_own hYo
  obtain ⟨b, off, hbo, hblt, hcs⟩ := hXU.2 (by omega)
  obtain ⟨rfl, rfl⟩ : g2 = b ∧ 0 = off := by simpa using hbo
  have hc := hcs k hk2
  rw [Nat.zero_add] at hc
  obtain ⟨q, hq⟩ : ∃ q, xs[k]?.getD 0 = q := ⟨_, rfl⟩
  rw [hq] at hN hc
  clear hq hbo hcs hYo hB4 hX3 B3 h02 h23 HB2 hxl h2 h3
  have hk0' : (0 : Int) ≤ (k : Int) := Int.natCast_nonneg _
  go_region_held3 (fun w' => w'.cell? ⟨g2, k, none⟩ = some (.int .i64 q) ∧ Below U.heap.size U w')
    (first
      | exact ⟨hc, (Below.refl _ _).drew⟩
      | exact held_next hblt (by assumption) (by assumption))
    (first
      | (go_at_call 13; (with_reducible refine (sum_any s hs1 (some ⟨g2, 0, none⟩) n cap2 xs (by omega) _ (by exact held_ints (by assumption) hXU)).mono ?_); rintro e w' ⟨rfl, b⟩)
      | (go_at_call 13; (with_reducible refine (sum_any s hs1 (some ⟨g, 0, none⟩) n c3 ys (by omega) _ (by exact held_ints (by assumption) hYU)).mono ?_); rintro e w' ⟨rfl, b⟩)
      | (go_at_call 15; refine (lives_any _).mono ?_; rintro e w' ⟨rfl, b⟩))
  rename_i hH
  have B5 := B4.trans (hH.2.mono B4.size)
  go_wp2
  go_ret
  exact ⟨rfl, B5⟩
end Go.Proofs.Ytidjffpchnbakaa
