/- The walk of the law HashOneLabel. -/
import Derived.Laws.IdiomStrings
import Derived.Test.YtidjffpchnbakaaLaw6
namespace Go.Proofs.Ytidjffpchnbakaa
open Go.RowKit Go.Shelf
set_option linter.unusedVariables false

/-- The string of a list of bytes. -/
def ofZ (zs : List Int) : ByteArray := ⟨(zs.map fun z => UInt8.ofNat z.toNat).toArray⟩

theorem strZ_ofZ {zs : List Int} (h : Byt zs) : strZ (ofZ zs) = zs := by
  unfold strZ ofZ
  simp only [List.map_map]
  conv => rhs; rw [← List.map_id zs]
  apply List.map_congr_left
  intro z hz
  have := h z hz
  simp only [Function.comp, UInt8.toNat_ofNat', id]
  omega

theorem ofZ_size (zs : List Int) : (ofZ zs).size = zs.length := by
  show (zs.map fun z => UInt8.ofNat z.toNat).toArray.size = _
  simp

theorem run_string_of {P : Program} (W : World) (src dst e : TypeId) (hs : P.underlying src = some (.slice e)) (he : P.underlying e = some (.int .u8)) (hd : P.underlying dst = some .string)
    (g n c : Nat) (zs : List Int) (hb : Byt zs) (B : Nat) (hI : Ints .u8 W B (some ⟨g, 0, none⟩) n zs) : (convert src dst (.slice (some ⟨g, 0, none⟩) n c)).run P W = .ok (.string (ofZ zs)) W := by
  have hl : n = (zs.map fun z => UInt8.ofNat z.toNat).length := by rw [List.length_map, hI.1]
  rw [hl]
  refine run_convert_bytes_back W src dst e _ c _ hs he hd fun j hj => ?_
  have hj' : j < n := by omega
  obtain ⟨b, off, hbo, _, hc⟩ := hI.2 (by omega)
  obtain ⟨rfl, rfl⟩ : g = b ∧ 0 = off := by simpa using hbo
  have h1 := hc j hj'
  have hjz : j < zs.length := by rw [hI.1]; exact hj'
  rw [Nat.zero_add, List.getElem?_eq_getElem hjz, Option.getD_some] at h1
  have h2 : (((zs.map fun z => UInt8.ofNat z.toNat)[j]).toNat : Int) = zs[j] := by
    have := hb _ (List.getElem_mem hjz)
    rw [List.getElem_map, UInt8.toNat_ofNat']
    omega
  rw [h2]
  by_cases h0 : j = 0
  · subst h0; simpa [Addr.add] using h1
  · simpa [Addr.add, h0] using h1

theorem xor8_eq {q b : Int} (hq : 0 ≤ q ∧ q < 256) (hb : 0 ≤ b ∧ b < 256) : bits .xor .u8 q b = q ↔ b = 0 := by
  have hw : ∀ x : BitVec 8, IntKind.u8.wrap (x.toNat : Int) = (x.toNat : Int) := by
    intro x
    have : IntKind.u8.wrap (x.toNat : Int) = (x.toNat : Int) % 256 := by simp [IntKind.wrap, IntKind.bits, IntKind.signed]
    have := x.isLt
    omega
  have hx : bits .xor .u8 q b = ((BitVec.ofInt 8 q ^^^ BitVec.ofInt 8 b).toNat : Int) := hw _
  have tq : ((BitVec.ofInt 8 q).toNat : Int) = q := by
    rw [BitVec.toNat_ofInt]
    show ((q % 256).toNat : Int) = q
    omega
  have tb : ((BitVec.ofInt 8 b).toNat : Int) = b := by
    rw [BitVec.toNat_ofInt]
    show ((b % 256).toNat : Int) = b
    omega
  rw [hx]
  constructor
  · intro h
    have h1 : BitVec.ofInt 8 q ^^^ BitVec.ofInt 8 b = BitVec.ofInt 8 q := BitVec.eq_of_toNat_eq (by omega)
    have h2 : BitVec.ofInt 8 b = 0#8 := by
      rw [← BitVec.zero_xor (x := BitVec.ofInt 8 b), ← BitVec.xor_self (x := BitVec.ofInt 8 q), BitVec.xor_assoc, h1, BitVec.xor_self]
    rw [h2] at tb
    simpa using tb.symm
  · intro h
    subst h
    rw [show BitVec.ofInt 8 0 = 0#8 from rfl, BitVec.xor_zero]
    exact tq

theorem same_set {xs : List Int} (hb : Byt xs) {k : Nat} (hk : k < xs.length) {b : Int} (h : 0 ≤ b ∧ b < 256) : sameB xs (xs.set k (bits .xor .u8 (xs[k]?.getD 0) b)) = (b == 0) := by
  have hx := xor8_eq (hb.get k) h
  by_cases h0 : b = 0
  · rw [sameB_true]
    · simp [h0]
    · rw [hx.2 h0, set_at xs k _ hk]
      exact split_at xs k hk
  · rw [sameB_false]
    · simp [h0]
    · intro e
      apply h0
      apply hx.1
      have := congrArg (fun l : List Int => l[k]?.getD 0) e
      simp only [List.getElem?_set_self hk, Option.getD_some] at this
      exact this.symm

theorem held_three {U W : World} {p q : World → Prop} (hp : ∀ W, Below U.heap.size U W → p W) (hq : ∀ W, Below U.heap.size U W → q W) (h : Below U.heap.size U W) : p W ∧ q W ∧ Below U.heap.size U W := ⟨hp W h, hq W h, h⟩
theorem held_go {U W W' : World} {p q : Prop} (h : p ∧ q ∧ Below U.heap.size U W) (b : Below W.heap.size W W') : Below U.heap.size U W' := h.2.2.trans (b.mono h.2.2.size)
theorem held_ints3 {U W : World} {p q : Prop} {k : IntKind} {A : Option Addr} {n : Nat} {xs : List Int} (h : p ∧ q ∧ Below U.heap.size U W) (hX : Ints k U U.heap.size A n xs) : Ints k W W.heap.size A n xs :=
  (hX.below h.2.2).more h.2.2.size

set_option maxRecDepth 100000 in
set_option maxHeartbeats 4000000 in
theorem hashOneLabel_law (a0 : ByteArray) (a1 : Option Addr) (len1 cap1 : Nat) (z1 : List Int) (a2 : Int) (a3 : Int) (w : World) (w0 : a0.size ≤ maxLen) (w1 : GoRow .i64 w a1 len1 cap1 z1) (w2 : (Lit.int .i64 a2).wf = true) (w3 : (Lit.int .u8 a3).wf = true) :
    Calls Try.prog 7 #[.string a0, .slice a1 len1 cap1, .int .i64 a2, .int .u8 a3] w fun e w' => e = .returned (.bool true) ∧ Below w.heap.size w w' := by
  obtain ⟨hI, hlc, hcap, hwf⟩ := w1.ints
  have hl : ((z1.take len1).take (6 : Int).toNat).length ≤ 1000000 := Nat.le_trans (List.length_take_le _ _) (by decide)
  have h2 := bounds_i64 w2
  have h3 := bounds_u8 w3
  clear hwf w1 w2 w3
  go_enter Try.func7, Try.ntmps7
  go_wp2_with fail
  refine (ints_int _ _ _ _ _ (by decide) (by decide) hlc hcap _ hI).mono ?_
  rintro e u1 ⟨v, rfl, hown, B1⟩
  obtain ⟨A, c, hv⟩ := own_slice hown
  subst hv
  have hZ1 := Ints.of_own hown
  clear hI hlc hcap hown
  obtain ⟨zs, hzs⟩ : ∃ zs, (z1.take len1).take (6 : Int).toNat = zs := ⟨_, rfl⟩
  rw [hzs] at hZ1 hl ⊢
  clear hzs
  go_wp2_with fail
  refine (short_int _ _ (by decide) (by decide) w0 _).mono ?_
  rintro e w' ⟨s, rfl, hs, rfl⟩
  have hconv := fun wx => Lib.run_convert_string_bytes (P := Try.prog) wx 9 30 5 (s ++ ⟨#[120]⟩) Try.underlying9 Try.underlying30 Try.underlying5
  have hts : (s ++ (⟨#[120]⟩ : ByteArray)).size = s.size + 1 := ByteArray.size_append
  have hs29 : s.size ≤ 29 := hs
  have hIt := bytesWorld_ints u1 5 (s ++ ⟨#[120]⟩)
  have hBt := bytesWorld_below (w := u1) (w' := u1) 5 (s ++ ⟨#[120]⟩) (Below.refl u1.heap.size u1) (Nat.le_refl _)
  have hzt := Lib.bytesWorld_size u1 5 (s ++ ⟨#[120]⟩)
  have hgc := grownCap_ge u1 (s ++ (⟨#[120]⟩ : ByteArray)).size 0 5
  have hgm := grownCap_le_maxLen u1 (s ++ (⟨#[120]⟩ : ByteArray)).size 0 5 (by rw [hts]; unfold maxLen; omega)
  have hbx := strZ_byt (s ++ (⟨#[120]⟩ : ByteArray))
  have hxl := strZ_length (s ++ (⟨#[120]⟩ : ByteArray))
  rw [hts] at hIt hgc hgm hxl
  clear hs w0
  have HH := Lib.hid (And.intro hts (And.intro hIt (And.intro hBt (And.intro hzt (And.intro hgc (And.intro hgm (And.intro hbx hxl)))))))
  clear hts hIt hBt hzt hgc hgm hbx hxl
  go_wp2_with fail
  clear hconv
  obtain ⟨hts, hIt, hBt, hzt, hgc, hgm, hbx, hxl⟩ := HH.out
  clear HH hts
  obtain ⟨cap2, hcap2⟩ : ∃ c, grownCap u1 (s.size + 1) 0 5 = c := ⟨_, rfl⟩
  obtain ⟨u2, hu2⟩ : ∃ u, Lib.bytesWorld u1 5 (s ++ ⟨#[120]⟩) = u := ⟨_, rfl⟩
  obtain ⟨xs, hxs⟩ : ∃ x, strZ (s ++ ⟨#[120]⟩) = x := ⟨_, rfl⟩
  obtain ⟨T, hT⟩ : ∃ T, s ++ (⟨#[120]⟩ : ByteArray) = T := ⟨_, rfl⟩
  rw [hcap2] at hgc hgm ⊢
  rw [hu2] at hIt hBt hzt ⊢
  rw [hxs] at hIt hbx hxl
  rw [hT]
  obtain ⟨n, hn⟩ : ∃ n, s.size + 1 = n := ⟨_, rfl⟩
  obtain ⟨g2, hg2⟩ : ∃ n, u1.heap.size = n := ⟨_, rfl⟩
  rw [hn] at hIt hgc hxl ⊢
  have hX2 := hIt.more (show u1.heap.size + 1 ≤ u2.heap.size from by omega)
  have hZ2 := (hZ1.below hBt).more hBt.size
  have B2 := B1.trans (hBt.mono B1.size)
  rw [hg2] at hX2 ⊢
  have hn30 : n ≤ 30 := by omega
  have hn1 : 1 ≤ n := by omega
  clear hcap2 hu2 hxs hT hn hg2 hIt hBt hzt hZ1 B1 hs29
  refine (few_int _ _ _ _ _ (by decide) (by decide) hgc hgm _ hX2).mono ?_
  rintro e u3 ⟨v, rfl, hown, b3⟩
  rw [List.take_of_length_le (i := (30 : Int).toNat) (l := xs) (by rw [hxl]; exact hn30)] at hown
  rw [hxl] at hown
  obtain ⟨g, c3, hv, hg, _⟩ := hown.form (by omega)
  subst hv
  have B3 := B2.trans (b3.mono B2.size)
  have hX3 := hX2.below b3
  have hZ3 := hZ2.below b3
  have h23 := b3.size
  have h02 := B2.size
  clear b3 B2 hX2 hZ2 hgc hgm
  go_wp2_with fail
  refine (around_any _ _ (by omega) (by omega) h2 _).mono ?_
  rintro e w' ⟨rfl, rfl⟩
  obtain ⟨hk0, hk1⟩ := arZ_lt a2 (m := (n : Int)) (by omega)
  obtain ⟨k, hk⟩ := Int.eq_ofNat_of_zero_le hk0
  rw [hk] at hk1 ⊢
  clear hk hk0
  have hk2 : k < n := by omega
  have hck : u3.cell? ⟨g, k, none⟩ = some (.int .u8 (xs[k]?.getD 0)) := by
    rw [hown.cellAt k (by omega), List.getElem?_map, List.getElem?_eq_getElem (by omega)]; rfl
  have hN2 := same_set hbx (k := k) (by omega) (b := a3) (by omega)
  obtain ⟨q, hq⟩ : ∃ q, xs[k]?.getD 0 = q := ⟨_, rfl⟩
  rw [hq] at hck hN2
  clear hq
  have hfk := hown.frozenAt k
  have hYo := (hown.stored k (.int .u8 (bits .xor .u8 q a3))).1
  rw [map_set_int] at hYo
  have hB4 : Below u2.heap.size u3 (u3.setCell ⟨g, k, none⟩ (.int .u8 (bits .xor .u8 q a3))) := (Below.refl _ _).setCell (p := ⟨g, k, none⟩) hg _
  have hnear := near_one hbx (k := k) (by omega) (xor8_byte q a3)
  have hN := hnear.label zs
  rw [hN2] at hN
  have HN := Lib.hid hN
  clear hN hN2
  go_wp2_with fail
  clear hck hfk hown
  obtain ⟨ys, hys⟩ : ∃ ys, xs.set k (bits .xor .u8 q a3) = ys := ⟨_, rfl⟩
  obtain ⟨U, hU⟩ : ∃ U, u3.setCell ⟨g, k, none⟩ (.int .u8 (bits .xor .u8 q a3)) = U := ⟨_, rfl⟩
  have hN := HN.out
  rw [hys] at hN hnear
  rw [hys, hU] at hYo
  rw [hU] at hB4 ⊢
  clear hys hU HN
  have B4 : Below w.heap.size w U := B3.trans (hB4.mono h02)
  have hle : u2.heap.size ≤ U.heap.size := Nat.le_trans h23 hB4.size
  have hXU := (hX3.below hB4).more hle
  have hZU := (hZ3.below hB4).more hle
  have hYU := Ints.of_own hYo
  have hbz := hnear.bz
  have hyl : ys.length = n := by rw [← hnear.len, hxl]
  have hsx : (ofZ xs).size ≤ 1000000 := by rw [ofZ_size]; omega
  have hsy : (ofZ ys).size ≤ 1000000 := by rw [ofZ_size]; omega
  rw [← strZ_ofZ hbx, ← strZ_ofZ hbz] at hN
  have kx : ∀ W, Below U.heap.size U W → (convert 30 9 (.slice (some ⟨g2, 0, none⟩) n cap2)).run Try.prog W = .ok (.string (ofZ xs)) W :=
    fun W hW => run_string_of W _ _ 5 Try.underlying30 Try.underlying5 Try.underlying9 g2 n cap2 xs hbx _ (hXU.below hW)
  have ky : ∀ W, Below U.heap.size U W → (convert 30 9 (.slice (some ⟨g, 0, none⟩) n c3)).run Try.prog W = .ok (.string (ofZ ys)) W :=
    fun W hW => run_string_of W _ _ 5 Try.underlying30 Try.underlying5 Try.underlying9 g n c3 ys hbz _ (hYU.below hW)
  obtain ⟨sx, hsxe⟩ : ∃ sx, ofZ xs = sx := ⟨_, rfl⟩
  obtain ⟨sy, hsye⟩ : ∃ sy, ofZ ys = sy := ⟨_, rfl⟩
  rw [hsxe] at hN hsx kx
  rw [hsye] at hN hsy ky
  have KX := Lib.hid kx
  have KY := Lib.hid ky
  clear hsxe hsye hnear hYo hB4 hX3 hZ3 B3 h02 h23 hxl h2 h3 hXU hYU hbx hbz hyl hle kx ky
  go_region_held3 (fun w' => (convert 30 9 (.slice (some ⟨g2, 0, none⟩) n cap2)).run Try.prog w' = .ok (.string sx) w' ∧ (convert 30 9 (.slice (some ⟨g, 0, none⟩) n c3)).run Try.prog w' = .ok (.string sy) w' ∧ Below U.heap.size U w')
    (first
      | exact held_three KX.out KY.out (Below.refl _ _).drew
      | exact held_three KX.out KY.out (held_go (by assumption) (by assumption)))
    (first
      | (go_at_call 13; (with_reducible refine (sum_any sx hsx A zs.length c zs hl _ (by exact held_ints3 (by assumption) hZU)).mono ?_); rintro e w' ⟨rfl, b⟩)
      | (go_at_call 13; (with_reducible refine (sum_any sy hsy A zs.length c zs hl _ (by exact held_ints3 (by assumption) hZU)).mono ?_); rintro e w' ⟨rfl, b⟩)
      | (go_at_call 15; refine (lives_any _).mono ?_; rintro e w' ⟨rfl, b⟩))
  rename_i hH
  have B5 := B4.trans (hH.2.2.mono B4.size)
  go_wp2
  go_ret
  exact ⟨rfl, B5⟩
end Go.Proofs.Ytidjffpchnbakaa
