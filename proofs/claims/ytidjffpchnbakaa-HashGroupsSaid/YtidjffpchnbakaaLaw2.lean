/- The walks of the laws HashBytes, HashPairs and HashArguments. -/
import Derived.Test.YtidjffpchnbakaaPlain2
import Derived.Test.YtidjffpchnbakaaLaw1
namespace Go.Proofs.Ytidjffpchnbakaa
open Go.RowKit Go.Shelf
set_option linter.unusedVariables false

theorem U_of_wf {a : Int} (h : (Lit.int .u64 a).wf = true) : U a := by
  have := bounds_u64 h
  unfold U
  omega
theorem I_of_wf {a : Int} (h : (Lit.int .i64 a).wf = true) : I a := by
  have := bounds_i64 h
  unfold I
  omega
theorem Byt_of_wf {zs : List Int} (h : ∀ z ∈ zs, (Lit.int .u8 z).wf = true) : Byt zs := by
  intro z hz
  have := bounds_u8 (h z hz)
  omega

set_option maxRecDepth 100000 in
set_option maxHeartbeats 1000000 in
theorem hashBytes_law (a0 : ByteArray) (a1 : Option Addr) (len1 cap1 : Nat) (z1 : List Int) (a2 : Int) (a3 : Int) (w : World) (w0 : a0.size ≤ maxLen) (w1 : GoRow .u8 w a1 len1 cap1 z1) (w2 : (Lit.int .u64 a2).wf = true) (w3 : (Lit.int .u64 a3).wf = true) :
    Calls Try.prog 4 #[.string a0, .slice a1 len1 cap1, .int .u64 a2, .int .u64 a3] w fun e w' => e = .returned (.bool true) ∧ Below w.heap.size w w' := by
  obtain ⟨hI, hlc, hcap, hwf⟩ := w1.ints
  have hby := (Byt_of_wf hwf).take (60 : Int).toNat
  clear w2 w3 hwf
  go_enter Try.func4, Try.ntmps4
  go_wp2_with fail
  refine (short_int _ _ (by decide) (by decide) w0 _).mono ?_
  rintro e w' ⟨s, rfl, hs, rfl⟩
  have hs1 : s.size ≤ 1000000 := Nat.le_trans hs (by decide)
  go_wp2_with fail
  refine (few_int _ _ _ _ _ (by decide) (by decide) hlc hcap _ hI).mono ?_
  rintro e u1 ⟨v, rfl, hown, B1⟩
  obtain ⟨A, c, hv⟩ := own_slice hown
  subst hv
  have hW := Ints.of_own hown
  have hl : ((z1.take len1).take (60 : Int).toNat).length ≤ 1000000 := Nat.le_trans (List.length_take_le _ _) (by decide)
  obtain ⟨zs, hzs⟩ : ∃ zs, (z1.take len1).take (60 : Int).toNat = zs := ⟨_, rfl⟩
  rw [hzs] at hW hl hby ⊢
  clear hzs hown hs
  go_wp2_with fail
  refine (bytes_any s hs1 _ _ _ zs hl hby _ hW).mono ?_
  rintro e u2 ⟨rfl, b2⟩
  have B2 := B1.trans (b2.mono B1.size)
  have hW2 := (hW.below b2).more b2.size
  go_wp2_with fail
  refine (refBytes_any s hs1 _ _ _ zs hl hby _ hW2).mono ?_
  rintro e u3 ⟨rfl, b3⟩
  have B3 := B2.trans (b3.mono B2.size)
  clear B1 B2 b2 b3 hW hW2
  go_wp2_with fail
  refine (pair_any _ _ _).mono ?_
  rintro e u4 ⟨rfl, b4⟩
  have B4 := B3.trans (b4.mono B3.size)
  go_wp2_with fail
  refine (refPair_any _ _ _).mono ?_
  rintro e u5 ⟨rfl, b5⟩
  have B5 := B4.trans (b5.mono B4.size)
  go_wp2_with fail
  refine (lives_any _).mono ?_
  rintro e u6 ⟨rfl, b6⟩
  have B6 := B5.trans (b6.mono B5.size)
  go_wp2_with fail
  go_ret
  exact ⟨rfl, B6⟩

theorem pairSum_any (A : Option Addr) (len cap : Nat) (zs : List Int) (hlen : len ≤ 1000000) (w : World) (hI : Ints .i64 w w.heap.size A len zs) :
    Calls Try.prog 13 #[.string ⟨#[112, 97, 105, 114]⟩, .slice A len cap] w fun e w' => e = .returned (.int .u64 (sumZ [112, 97, 105, 114] zs)) ∧ Below w.heap.size w w' :=
  sum_any _ (by decide) A len cap zs hlen w hI

set_option maxRecDepth 100000 in
set_option maxHeartbeats 1000000 in
theorem hashPairs_law (a0 : Int) (a1 : Int) (a2 : Int) (w0 : (Lit.int .u64 a0).wf = true) (w1 : (Lit.int .u64 a1).wf = true) (w2 : (Lit.int .u64 a2).wf = true) (w : World) :
    Calls Try.prog 9 #[.int .u64 a0, .int .u64 a1, .int .u64 a2] w fun e w' => e = .returned (.bool true) ∧ Below w.heap.size w w' := by
  have h1 := pair_left (c := a2) (U_of_wf w0) (U_of_wf w1)
  have h2 := pair_right (c := a2) (U_of_wf w0) (U_of_wf w1)
  clear w0 w1 w2
  go_enter Try.func9, Try.ntmps9
  go_wp2_with fail
  refine (pair_any _ _ _).mono ?_
  rintro e u1 ⟨rfl, B1⟩
  go_wp2_with fail
  refine (pair_any _ _ _).mono ?_
  rintro e u2 ⟨rfl, b2⟩
  have B2 := B1.trans (b2.mono B1.size)
  go_wp2_with fail
  refine (pair_any _ _ _).mono ?_
  rintro e u3 ⟨rfl, b3⟩
  have B3 := B2.trans (b3.mono B2.size)
  go_wp2_with fail
  refine (pair_any _ _ _).mono ?_
  rintro e u4 ⟨rfl, b4⟩
  have B4 := B3.trans (b4.mono B3.size)
  go_wp2_with fail
  refine (pair_any _ _ _).mono ?_
  rintro e u5 ⟨rfl, b5⟩
  have B5 := B4.trans (b5.mono B4.size)
  go_wp2_with fail
  refine (pairSum_any _ _ _ [wrap64 a0, wrap64 a1] (by simp) _ (ints_new .i64 u5 [wrap64 a0, wrap64 a1] 3 |>.more (by simp))).mono ?_
  rintro e u6 ⟨rfl, b6⟩
  have B6 : Below w.heap.size w u6 := (B5.alloc B5.size _).trans (b6.mono (by have := B5.size; simp; omega))
  go_wp2_with fail
  refine (lives_any _).mono ?_
  rintro e u7 ⟨rfl, b7⟩
  have B7 := B6.trans (b7.mono B6.size)
  go_wp2_with fail
  go_ret
  exact ⟨rfl, B7⟩
end Go.Proofs.Ytidjffpchnbakaa
