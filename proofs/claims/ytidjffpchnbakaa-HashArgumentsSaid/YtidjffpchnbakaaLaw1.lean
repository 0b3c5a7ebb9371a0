/- The walks of the laws HashSum, HashBytes and HashPairs. -/
import Derived.OpenShut
import Derived.Test.YtidjffpchnbakaaLives
namespace Go.Proofs.Ytidjffpchnbakaa
open Go.RowKit Go.Shelf
set_option linter.unusedVariables false

/-- A slice of integers that came in, as the row's frame tells of it. -/
def GoRow (k : IntKind) (w : World) (a : Option Addr) (len cap : Nat) (zs : List Int) : Prop :=
  (a = none ∧ len = 0 ∧ cap = 0 ∧ zs = []) ∨
  ∃ x, a = some x ∧ len ≤ cap ∧ cap ≤ maxLen ∧ zs.length = cap ∧ (∀ i, i < zs.length → w.cell? (x.add i) = some (.int k (zs.getD i 0))) ∧ ∀ n ∈ zs, (Lit.int k n).wf = true

theorem cell_lt {w : World} {a : Addr} {v : Value} (h : w.cell? a = some v) : a.block < w.heap.size := by
  rcases Nat.lt_or_ge a.block w.heap.size with h1 | h1
  · exact h1
  · unfold World.cell? at h
    rw [Array.getElem?_eq_none h1] at h
    split at h <;> simp_all

theorem GoRow.ints {k : IntKind} {w : World} {a : Option Addr} {len cap : Nat} {zs : List Int} (h : GoRow k w a len cap zs) :
    Ints k w w.heap.size a len (zs.take len) ∧ len ≤ cap ∧ cap ≤ maxLen ∧ ∀ z ∈ zs.take len, (Lit.int k z).wf = true := by
  rcases h with ⟨rfl, rfl, rfl, rfl⟩ | ⟨⟨b, off, spot⟩, rfl, hl, hm, hz, hc, hw⟩
  · exact ⟨Ints.nil _ _ _ _, Nat.le_refl _, by unfold maxLen; omega, by simp⟩
  · refine ⟨⟨by rw [List.length_take]; omega, fun hn => ?_⟩, hl, hm, fun z hz => hw z (List.mem_of_mem_take hz)⟩
    have hc0 := hc 0 (by omega)
    have hs : spot = none := by simpa [Addr.add] using World.cell?_spot hc0
    subst hs
    refine ⟨b, off, rfl, ?_, fun j hj => ?_⟩
    · have := cell_lt hc0
      simpa [Addr.add] using this
    · have h1 := hc j (by omega)
      rw [List.getElem?_take_of_lt hj, ← List.getD_eq_getElem?_getD]
      by_cases h0 : j = 0
      · subst h0; simpa [Addr.add] using h1
      · simpa [Addr.add, h0] using h1

theorem short_int (s : ByteArray) (m : Int) (h0 : 0 ≤ m) (hm : m ≤ 1000) (hs : s.size ≤ maxLen) (w : World) :
    Calls Try.prog 11 #[.string s, .int .i64 m] w (ShortPost m.toNat w) := by
  obtain ⟨n, rfl⟩ := Int.eq_ofNat_of_zero_le h0
  exact short_any s n (by omega) hs w

theorem ints_int (A : Option Addr) (len cap : Nat) (m : Int) (zs : List Int) (h0 : 0 ≤ m) (hm : m ≤ 1000) (hlc : len ≤ cap) (hcap : cap ≤ maxLen) (w : World) (hI : Ints .i64 w w.heap.size A len zs) :
    Calls Try.prog 12 #[.slice A len cap, .int .i64 m] w fun e w' => ∃ v, e = .returned v ∧ w'.ownsRow w.heap.size 3 1 v (zs.take m.toNat).length ((zs.take m.toNat).map (Value.int .i64)) ∧ Below w.heap.size w w' := by
  obtain ⟨n, rfl⟩ := Int.eq_ofNat_of_zero_le h0
  exact ints_any A len cap n zs (by omega) hlc hcap w hI

theorem few_int (A : Option Addr) (len cap : Nat) (m : Int) (zs : List Int) (h0 : 0 ≤ m) (hm : m ≤ 1000) (hlc : len ≤ cap) (hcap : cap ≤ maxLen) (w : World) (hI : Ints .u8 w w.heap.size A len zs) :
    Calls Try.prog 16 #[.slice A len cap, .int .i64 m] w fun e w' => ∃ v, e = .returned v ∧ w'.ownsRow w.heap.size 5 1 v (zs.take m.toNat).length ((zs.take m.toNat).map (Value.int .u8)) ∧ Below w.heap.size w w' := by
  obtain ⟨n, rfl⟩ := Int.eq_ofNat_of_zero_le h0
  exact few_any A len cap n zs (by omega) hlc hcap w hI

set_option maxRecDepth 100000 in
set_option maxHeartbeats 1000000 in
theorem hashSum_law (a0 : ByteArray) (a1 : Option Addr) (len1 cap1 : Nat) (z1 : List Int) (w : World) (w0 : a0.size ≤ maxLen) (w1 : GoRow .i64 w a1 len1 cap1 z1) :
    Calls Try.prog 3 #[.string a0, .slice a1 len1 cap1] w fun e w' => e = .returned (.bool true) ∧ Below w.heap.size w w' := by
  obtain ⟨hI, hlc, hcap, _⟩ := w1.ints
  go_enter Try.func3, Try.ntmps3
  go_wp2_with fail
  refine (short_int _ _ (by decide) (by decide) w0 _).mono ?_
  rintro e w' ⟨s, rfl, hs, rfl⟩
  have hs1 : s.size ≤ 1000000 := Nat.le_trans hs (by decide)
  go_wp2_with fail
  refine (ints_int _ _ _ _ _ (by decide) (by decide) hlc hcap _ hI).mono ?_
  rintro e u1 ⟨v, rfl, hown, B1⟩
  obtain ⟨A, c, hv⟩ := own_slice hown
  subst hv
  have hW := Ints.of_own hown
  have hl : ((z1.take len1).take (12 : Int).toNat).length ≤ 1000000 := Nat.le_trans (List.length_take_le _ _) (by decide)
  obtain ⟨zs, hzs⟩ : ∃ zs, (z1.take len1).take (12 : Int).toNat = zs := ⟨_, rfl⟩
  rw [hzs] at hW hl ⊢
  clear hzs hown hs
  go_wp2_with fail
  refine (sum_any s hs1 _ _ _ zs hl _ hW).mono ?_
  rintro e u2 ⟨rfl, b2⟩
  have B2 := B1.trans (b2.mono B1.size)
  have hW2 := (hW.below b2).more b2.size
  go_wp2_with fail
  refine (refSum_any s hs1 _ _ _ zs hl _ hW2).mono ?_
  rintro e u3 ⟨rfl, b3⟩
  have B3 := B2.trans (b3.mono B2.size)
  clear B1 B2 b2 b3 hW hW2
  go_wp2_with fail
  refine (sum_any s hs1 _ _ _ [] (by decide) _ (Ints.nil _ _ _ _)).mono ?_
  rintro e u4 ⟨rfl, b4⟩
  have B4 := B3.trans (b4.mono B3.size)
  go_wp2_with fail
  refine (refSum_any s hs1 _ _ _ [] (by decide) _ (Ints.nil _ _ _ _)).mono ?_
  rintro e u5 ⟨rfl, b5⟩
  have B5 := B4.trans (b5.mono B4.size)
  go_wp2_with fail
  refine (lives_any _).mono ?_
  rintro e u6 ⟨rfl, b6⟩
  have B6 := B5.trans (b6.mono B5.size)
  go_wp2_with fail
  go_ret
  exact ⟨rfl, B6⟩
end Go.Proofs.Ytidjffpchnbakaa
