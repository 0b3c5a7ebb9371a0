/- The walk of CheckLink. -/
import Derived.BigQuiet
import Derived.Test.YtliconagelemdaaLivesL
import Derived.Test.YtliconagelemdaaWalkG
namespace Go.Proofs.Ytliconagelemdaa
open Go.RowKit Go.Shelf
set_option linter.unusedVariables false

attribute [local go_sem ↓] Go.wp_at_zero Go.wp_at_succ

/-- The closure of CheckLink. -/
def chainFn (Bx Bw Bn : Nat) : Value := .func (.func 50) #[] #[.pointer (some ⟨Bx, 0, none⟩), .pointer (some ⟨Bn, 0, none⟩), .pointer (some ⟨Bw, 0, none⟩)]

theorem delF_le : ∀ (f m n p : Nat) (whole : Bool), 1 ≤ m → m ≤ n → n ≤ 2 ^ p → delF f m n whole ≤ p + 1
  | 0, _, _, _, _, _, _, _ => Nat.zero_le _
  | f + 1, m, n, p, whole, h1, h2, h => by
    rw [delF]
    by_cases h3 : m = n
    · rw [if_pos h3]; cases whole <;> simp
    · have hs := halfN_spec (n := n) (by omega)
      rw [if_neg h3]
      cases p with
      | zero => simp at h; omega
      | succ p =>
        have hh := halfN_le (n := n) (by omega) h
        by_cases h4 : m ≤ halfN n
        · rw [if_pos h4]; exact Nat.succ_le_succ (delF_le f _ _ p _ h1 h4 hh)
        · rw [if_neg h4]; exact Nat.succ_le_succ (delF_le f _ _ p _ (by omega) (by omega) (by omega))

theorem linkc_taken (m n : Nat) (whole : Bool) (v : Int) (p : List Int) (t : Nat) (h1 : 1 ≤ m) (h2 : m ≤ n) : (linkc m n whole v p t).2.2 ≤ t + n + 1 := by
  unfold linkc
  rw [linkcF_taken]
  have := delF_le n m n n whole h1 h2 (Nat.le_of_lt (lt_two_pow n))
  omega

theorem Chk.drew {w W : World} {Bx Bw Bn B0 B1 : Nat} {tx tw : TypeId} {vx fw vn vp : Value} {t : Nat} (h : Chk w W Bx Bw Bn B0 B1 tx tw vx fw vn vp t) : Chk w W.drew Bx Bw Bn B0 B1 tx tw vx fw vn vp t :=
  h.more ⟨rfl, rfl, rfl, Nat.le_refl _, fun _ _ => rfl⟩

set_option maxRecDepth 100000 in
set_option maxHeartbeats 4000000 in
theorem chainWalk_any (w : World) (Bx Bw Bn B0 B1 : Nat) (v0 : Int) (Ap : Option Addr) (np cp : Nat) (p : List Int) (hnp : np ≤ 1000000) (hIp : Ints .u64 w w.heap.size Ap np p) (hB : w.heap.size ≤ B1) :
    ∀ (n m t : Nat) (whole : Bool) (W : World), Chk w W Bx Bw Bn B0 B1 40 80 (.int .u64 v0) (chainFn Bx Bw Bn) (takeFn B0 B1) (.slice Ap np cp) t → 1 ≤ m → m ≤ n → t + n ≤ 100000 →
    Calls Try.prog 50 #[.int .i64 (m : Int), .int .i64 (n : Int), .bool whole, .pointer (some ⟨Bx, 0, none⟩), .pointer (some ⟨Bn, 0, none⟩), .pointer (some ⟨Bw, 0, none⟩)] W
      fun e W' => ∃ x y t', linkc m n whole v0 p t = (x, y, t') ∧ e = .returned (.tuple #[.int .u64 x, .int .u64 y]) ∧ Chk w W' Bx Bw Bn B0 B1 40 80 (.int .u64 v0) (chainFn Bx Bw Bn) (takeFn B0 B1) (.slice Ap np cp) t' := by
  intro n
  induction n using Nat.strongRecOn with
  | ind n ih0 =>
  intro m t whole W hC hm1 hmn ht
  have ih := Lib.hid ih0
  clear ih0
  have HIp := Lib.hid hIp
  clear hIp
  by_cases h1 : m = n
  · subst h1
    have hz : ((m : Int) == (m : Int)) = true := by simp
    have HA := Lib.hid (linkc_all (n := m) whole v0 p t hm1)
    have hcx := hC.bx.cell
    have HC := Lib.hid hC
    have hcn := hC.bn.cell
    unfold takeFn at hcn
    clear hC
    cases whole with
    | true =>
      go_enter Try.func50, Try.ntmps50
      go_wp2_with fail
      go_region
      all_goals
        go_wp2_with fail
        go_ret2
        exact ⟨_, _, t, by rw [HA.out]; rfl, rfl, HC.out.drew⟩
    | false =>
      go_enter Try.func50, Try.ntmps50
      go_wp2_with fail
      refine (take_any w Bx Bw Bn B0 B1 _ _ _ _ _ Ap cp p np hnp HIp.out hB (by decide) (by decide) t (by omega) _ HC.out).mono ?_
      rintro e W2 ⟨rfl, hC2⟩
      have HC2 := Lib.hid hC2
      clear hC2 hcn hcx
      go_wp2_with fail
      go_ret2
      exact ⟨_, _, t + 1, by rw [HA.out]; rfl, rfl, HC2.out⟩
  · have hz : ((m : Int) == (n : Int)) = false := by simp; omega
    have hs := halfN_spec (n := n) (by omega)
    have HC := Lib.hid hC
    have hcw := hC.bw.cell
    clear hC
    by_cases hik : m ≤ halfN n
    · have HL := Lib.hid (linkc_left whole v0 p t (m := m) (n := n) hm1 (by omega) hik)
      go_enter Try.func50, Try.ntmps50
      go_wp2_with fail
      refine (half_any n (by omega) _).mono ?_
      rintro e w' ⟨rfl, rfl⟩
      obtain ⟨k, hk⟩ : ∃ k, halfN n = k := ⟨_, rfl⟩
      rw [hk] at hs hik HL ⊢
      clear hk
      unfold chainFn at hcw
      go_wp2_with fail
      refine (ih.out k (by omega) m t whole _ HC.out hm1 hik (by omega)).mono ?_
      rintro e W1 ⟨x, y, t1, hx, rfl, hC1⟩
      have ht1 : t1 ≤ t + k + 1 := by
        have h2 := linkc_taken m k whole v0 p t hm1 hik
        rw [hx] at h2
        exact h2
      have HX := Lib.hid hx
      have HC1 := Lib.hid hC1
      have hcn := hC1.bn.cell
      unfold takeFn at hcn
      clear hx hC1 hcw
      go_wp2_with fail
      refine (take_any w Bx Bw Bn B0 B1 _ _ _ _ _ Ap cp p np hnp HIp.out hB (by decide) (by decide) t1 (by omega) _ HC1.out).mono ?_
      rintro e W2 ⟨rfl, hC2⟩
      have HC2 := Lib.hid hC2
      clear hC2 hcn
      go_wp2_with fail
      refine (join_any _ _ _).mono ?_
      rintro e W3 ⟨rfl, b3⟩
      go_wp2_with fail
      go_ret2
      exact ⟨_, _, t1 + 1, by rw [HL.out, HX.out], rfl, HC2.out.more b3⟩
    · have HL := Lib.hid (linkc_right whole v0 p t (m := m) (n := n) (by omega) hik)
      go_enter Try.func50, Try.ntmps50
      go_wp2_with fail
      refine (half_any n (by omega) _).mono ?_
      rintro e w' ⟨rfl, rfl⟩
      obtain ⟨k, hk⟩ : ∃ k, halfN n = k := ⟨_, rfl⟩
      rw [hk] at hs hik HL ⊢
      clear hk
      unfold chainFn at hcw
      go_wp2_with fail
      rw [show ((m : Int) - (k : Int)) = ((m - k : Nat) : Int) from by omega, show ((n : Int) - (k : Int)) = ((n - k : Nat) : Int) from by omega]
      refine (ih.out (n - k) (by omega) (m - k) t false _ HC.out (by omega) (by omega) (by omega)).mono ?_
      rintro e W1 ⟨x, y, t1, hx, rfl, hC1⟩
      have ht1 : t1 ≤ t + (n - k) + 1 := by
        have h2 := linkc_taken (m - k) (n - k) false v0 p t (by omega) (by omega)
        rw [hx] at h2
        exact h2
      have HX := Lib.hid hx
      have HC1 := Lib.hid hC1
      have hcn := hC1.bn.cell
      unfold takeFn at hcn
      clear hx hC1 hcw
      go_wp2_with fail
      refine (take_any w Bx Bw Bn B0 B1 _ _ _ _ _ Ap cp p np hnp HIp.out hB (by decide) (by decide) t1 (by omega) _ HC1.out).mono ?_
      rintro e W2 ⟨rfl, hC2⟩
      have HC2 := Lib.hid hC2
      clear hC2 hcn
      go_wp2_with fail
      refine (join_any _ _ _).mono ?_
      rintro e W3 ⟨rfl, b3⟩
      go_wp2_with fail
      refine (join_any _ _ _).mono ?_
      rintro e W4 ⟨rfl, b4⟩
      go_wp2_with fail
      go_ret2
      exact ⟨_, _, t1 + 1, by rw [HL.out, HX.out], rfl, (HC2.out.more b3).more b4⟩

set_option maxRecDepth 100000 in
set_option maxHeartbeats 4000000 in
theorem CheckLink_less (v0 vt : Int) (a b : Nat) (Ap : Option Addr) (np cp : Nat) (p : List Int) (w : World) (hb : b ≤ 4096) (ha : 1 ≤ a) (hab : a < b) (hnp : np ≤ 1000000) (hIp : Ints .u64 w w.heap.size Ap np p) :
    Calls Try.prog 28 #[.int .u64 v0, .int .u64 vt, .int .i64 (a : Int), .int .i64 (b : Int), .slice Ap np cp] w fun e w' => e = .returned (.int .i64 (codeZ (checkLinkZ v0 vt a b p))) ∧ Below w.heap.size w w' := by
  have hd1 : decide ((a : Int) < 0) = false := by simp
  have hd2 : decide (b < a) = false := by simp; omega
  have hd3 : decide ((4096 : Int) < (b : Int)) = false := by simp; omega
  have hd4 : ((a : Int) == 0) = false := by simp; omega
  have hd5 : ((a : Int) == (b : Int)) = false := by simp; omega
  have hpl := hIp.1
  have HI := Lib.hid (And.intro hIp hpl)
  clear hIp hpl
  go_enter Try.func28, Try.ntmps28
  go_wp2_with fail
  refine (taker_any Ap np cp _).mono ?_
  rintro e w1 ⟨rfl, rfl⟩
  have HC := Lib.hid (chk_new w 40 80 (.int .u64 v0) (.slice Ap np cp) chainFn)
  unfold takeFn doneFn
  go_wp2_with fail
  refine (chainWalk_any w w.heap.size (w.heap.size + 1 + 1 + 1 + 1) (w.heap.size + 1 + 1 + 1) (w.heap.size + 1) (w.heap.size + 1 + 1) v0 Ap np cp p hnp HI.out.1 (by omega) b a 0 true _ HC.out (by omega) (by omega) (by omega)).mono ?_
  rintro e W1 ⟨x, y, t1, hx, rfl, hC1⟩
  have hcx := hC1.bx.cell
  have HC1 := Lib.hid hC1
  have HX := Lib.hid hx
  have HF := Lib.hid (show checkLinkZ v0 vt a b p = decide (x = v0 ∧ y = vt ∧ t1 = np) from by
    unfold checkLinkZ
    rw [if_neg (by omega), hx, ← HI.out.2])
  clear hC1 hx HC hd1 hd2 hd3 hd4 hd5
  by_cases hr : x = v0
  · have hne : (x != v0) = false := by simp [hr]
    have HR := Lib.hid hr
    clear hr
    by_cases hy : y = vt
    · have hny : (y != vt) = false := by simp [hy]
      have HY := Lib.hid hy
      clear hy
      go_wp2_with fail
      refine (done_any w w.heap.size (w.heap.size + 1 + 1 + 1 + 1) (w.heap.size + 1 + 1 + 1) (w.heap.size + 1) (w.heap.size + 1 + 1) _ _ _ _ _ Ap np cp t1 _ HC1.out).mono ?_
      rintro e W2 ⟨rfl, rfl⟩
      by_cases ht : t1 = np
      · have hd : ((t1 : Int) == (np : Int)) = true := by simp; omega
        rw [hd]
        go_wp2_with fail
        go_ret
        refine ⟨?_, HC1.out.below⟩
        rw [HF.out, codeZ_true (decide_eq_true ⟨HR.out, HY.out, ht⟩)]
        rfl
      · have hd : ((t1 : Int) == (np : Int)) = false := by simp; omega
        rw [hd]
        go_wp2_with fail
        go_ret
        refine ⟨?_, HC1.out.below⟩
        rw [HF.out, codeZ_false (decide_eq_false fun e => ht e.2.2)]
        rfl
    · have hny : (y != vt) = true := by simpa using hy
      have HY := Lib.hid hy
      clear hy
      go_wp2_with fail
      go_ret
      refine ⟨?_, HC1.out.below⟩
      rw [HF.out, codeZ_false (decide_eq_false fun e => HY.out e.2.1)]
      rfl
  · have hne : (x != v0) = true := by simpa using hr
    have HR := Lib.hid hr
    clear hr
    go_wp2_with fail
    go_ret
    refine ⟨?_, HC1.out.below⟩
    rw [HF.out, codeZ_false (decide_eq_false fun e => HR.out e.1)]
    rfl

set_option maxRecDepth 100000 in
set_option maxHeartbeats 4000000 in
theorem CheckLink_same (v0 vt : Int) (a : Nat) (Ap : Option Addr) (cp : Nat) (w : World) (hb : a ≤ 4096) (ha : 1 ≤ a) :
    Calls Try.prog 28 #[.int .u64 v0, .int .u64 vt, .int .i64 (a : Int), .int .i64 (a : Int), .slice Ap 0 cp] w fun e w' => e = .returned (.int .i64 (codeZ (checkLinkZ v0 vt a a []))) ∧ Below w.heap.size w w' := by
  have hd1 : decide ((a : Int) < 0) = false := by simp
  have hd2 : decide (a < a) = false := by simp
  have hd3 : decide ((4096 : Int) < (a : Int)) = false := by simp; omega
  have hd4 : ((a : Int) == 0) = false := by simp; omega
  have hd5 : ((a : Int) == (a : Int)) = true := by simp
  have hd6 : decide ((0 : Int) < (a : Int)) = true := by simp; omega
  have hd7 : (0 : Int) < (a : Int) := by omega
  have hd8 : decide (0 < a) = true := by simp; omega
  have hcx := (Boxed.new w 40 (.int .u64 v0)).cell
  have HF := Lib.hid (show checkLinkZ v0 vt a a [] = decide (v0 = vt) from by
    unfold checkLinkZ
    rw [if_pos rfl]
    simp)
  by_cases h : v0 = vt
  · have hne : (v0 != vt) = false := by simp [h]
    have HH := Lib.hid h
    clear h
    go_enter Try.func28, Try.ntmps28
    go_wp2_with fail
    go_quiet (fail)
    go_wp2_with fail
    go_ret
    refine ⟨?_, ?_⟩
    · rw [HF.out, codeZ_true (decide_eq_true HH.out)]
      rfl
    · exact ((Below.refl _ w).alloc (Nat.le_refl _) _).trans ⟨rfl, rfl, rfl, Nat.le_refl _, fun _ _ => rfl⟩
  · have hne : (v0 != vt) = true := by simpa using h
    have HH := Lib.hid h
    clear h
    go_enter Try.func28, Try.ntmps28
    go_wp2_with fail
    go_quiet (fail)
    go_wp2_with fail
    go_ret
    refine ⟨?_, ?_⟩
    · rw [HF.out, codeZ_false (decide_eq_false HH.out)]
      rfl
    · exact ((Below.refl _ w).alloc (Nat.le_refl _) _).trans ⟨rfl, rfl, rfl, Nat.le_refl _, fun _ _ => rfl⟩

end Go.Proofs.Ytliconagelemdaa
