/- The walks of taker and Check. -/
import Derived.Test.YtliconagelemdaaWalkF
import Derived.Test.YtliconagelemdaaClimb
namespace Go.Proofs.Ytliconagelemdaa
open Go.RowKit Go.Shelf
set_option linter.unusedVariables false

attribute [local go_sem ↓] Go.wp_at_zero Go.wp_at_succ

/-- What stands in the boxes of Check and CheckLink: Bx what the walk reads, Bw its closure, Bn the taking function, B0 the list, B1 how many were taken. -/
structure Chk (w W : World) (Bx Bw Bn B0 B1 : Nat) (tx tw : TypeId) (vx fw vn vp : Value) (t : Nat) : Prop where
  below : Below w.heap.size w W
  bx : Boxed W Bx tx vx
  bw : Boxed W Bw tw fw
  bn : Boxed W Bn 77 vn
  b0 : Boxed W B0 25 vp
  b1 : Boxed W B1 3 (.int .i64 (t : Int))

theorem Chk.more {w W W' : World} {Bx Bw Bn B0 B1 : Nat} {tx tw : TypeId} {vx fw vn vp : Value} {t : Nat} (h : Chk w W Bx Bw Bn B0 B1 tx tw vx fw vn vp t) (b : Below W.heap.size W W') : Chk w W' Bx Bw Bn B0 B1 tx tw vx fw vn vp t :=
  ⟨h.below.trans (b.mono h.below.size), boxed_below h.bx b, boxed_below h.bw b, boxed_below h.bn b, boxed_below h.b0 b, boxed_below h.b1 b⟩

theorem Chk.took {w W : World} {Bx Bw Bn B0 B1 : Nat} {tx tw : TypeId} {vx fw vn vp : Value} {t : Nat} (h : Chk w W Bx Bw Bn B0 B1 tx tw vx fw vn vp t) (hB : w.heap.size ≤ B1) (hx : tx ≠ 3) (hw : tw ≠ 3) : Chk w (W.setCell ⟨B1, 0, none⟩ (.int .i64 ((t + 1 : Nat) : Int))) Bx Bw Bn B0 B1 tx tw vx fw vn vp (t + 1) := by
  have oth : ∀ {B : Nat} {t' : TypeId} {v : Value}, Boxed W B t' v → t' ≠ 3 → Boxed (W.setCell ⟨B1, 0, none⟩ (.int .i64 ((t + 1 : Nat) : Int))) B t' v := fun {B t' v} hb ht => (Below.heap_setCell W ⟨B1, 0, none⟩ _ B (boxed_type hb h.b1 ht)).trans hb
  exact ⟨h.below.setCell (p := ⟨B1, 0, none⟩) hB _, oth h.bx hx, oth h.bw hw, oth h.bn (by decide), oth h.b0 (by decide), h.b1.set _⟩

/-- The two functions that taker returns. -/
def takeFn (B0 B1 : Nat) : Value := .func (.func 57) #[] #[.pointer (some ⟨B1, 0, none⟩), .pointer (some ⟨B0, 0, none⟩)]
def doneFn (B0 B1 : Nat) : Value := .func (.func 58) #[] #[.pointer (some ⟨B1, 0, none⟩), .pointer (some ⟨B0, 0, none⟩)]

set_option maxRecDepth 100000 in
theorem taker_any (A : Option Addr) (n c : Nat) (w : World) :
    Calls Try.prog 48 #[.slice A n c] w fun e w' => e = .returned (.tuple #[takeFn w.heap.size (w.heap.size + 1), doneFn w.heap.size (w.heap.size + 1)]) ∧ (w.alloc (.cells #[.slice A n c] 25)).alloc (.cells #[.int .i64 0] 3) = w' := by
  go_enter Try.func48, Try.ntmps48
  go_wp2
  go_ret2
  exact ⟨rfl, rfl⟩

set_option maxRecDepth 100000 in
theorem take_any (w : World) (Bx Bw Bn B0 B1 : Nat) (tx tw : TypeId) (vx fw vn : Value) (A : Option Addr) (c : Nat) (p : List Int) (n : Nat) (hn : n ≤ 1000000) (hI : Ints .u64 w w.heap.size A n p) (hB : w.heap.size ≤ B1) (hx : tx ≠ 3) (hw : tw ≠ 3) (t : Nat) (ht : t ≤ 1000000) (W : World) (hC : Chk w W Bx Bw Bn B0 B1 tx tw vx fw vn (.slice A n c) t) :
    Calls Try.prog 57 #[.pointer (some ⟨B1, 0, none⟩), .pointer (some ⟨B0, 0, none⟩)] W fun e W' => e = .returned (.int .u64 (elt p t)) ∧ Chk w W' Bx Bw Bn B0 B1 tx tw vx fw vn (.slice A n c) (t + 1) := by
  have hT := hC.took hB hx hw
  have h1 := hC.b1.cell
  have hf1 := hC.b1.frozen
  have h0 := hC.b0.cell
  have h0' := hT.b0.cell
  have h1' := hT.b1.cell
  have e1 : ((t + 1 : Nat) : Int) = (t : Int) + 1 := by omega
  rw [e1] at h0' h1'
  have HT := Lib.hid hT
  have hlen := hI.1
  by_cases hlt : t < n
  · have hd : decide ((n : Int) < (t : Int) + 1) = false := by simp; omega
    obtain ⟨b, off, hA, hb, hcells⟩ := hI.2 (by omega)
    subst hA
    have hc := hcells t hlt
    have hcW : (W.setCell ⟨B1, 0, none⟩ (.int .i64 ((t : Int) + 1))).cell? ⟨b, off + t, none⟩ = some (.int .u64 (elt p t)) := by
      rw [← e1]
      exact (hT.below.cell (p := ⟨b, off + t, none⟩) hb).trans hc
    obtain ⟨x, hxx⟩ : ∃ x, elt p t = x := ⟨_, rfl⟩
    rw [hxx] at hcW ⊢
    clear hxx hc hcells hT hC hlen e1 hI
    go_enter Try.func57, Try.ntmps57
    go_wp2
    go_ret
    exact ⟨rfl, HT.out⟩
  · have hd : decide ((n : Int) < (t : Int) + 1) = true := by simp; omega
    have hz : elt p t = 0 := by
      unfold elt
      rw [List.getElem?_eq_none (by omega)]
      rfl
    rw [hz]
    clear hz hT hC hlen e1 hI
    go_enter Try.func57, Try.ntmps57
    go_wp2
    go_ret
    exact ⟨rfl, HT.out⟩

set_option maxRecDepth 100000 in
theorem done_any (w : World) (Bx Bw Bn B0 B1 : Nat) (tx tw : TypeId) (vx fw vn : Value) (A : Option Addr) (n c : Nat) (t : Nat) (W : World) (hC : Chk w W Bx Bw Bn B0 B1 tx tw vx fw vn (.slice A n c) t) :
    Calls Try.prog 58 #[.pointer (some ⟨B1, 0, none⟩), .pointer (some ⟨B0, 0, none⟩)] W fun e W' => e = .returned (.bool ((t : Int) == (n : Int))) ∧ W = W' := by
  have h1 := hC.b1.cell
  have h0 := hC.b0.cell
  clear hC
  go_enter Try.func58, Try.ntmps58
  go_wp2
  go_ret
  exact ⟨rfl, rfl⟩

/-- The closure of Check. -/
def checkFn (Bx Bw Bn : Nat) : Value := .func (.func 49) #[] #[.pointer (some ⟨Bx, 0, none⟩), .pointer (some ⟨Bw, 0, none⟩), .pointer (some ⟨Bn, 0, none⟩)]

theorem depF_small (f n i : Nat) : depF f n i ≤ n := depF_le f n i n (Nat.le_of_lt (lt_two_pow n))

set_option maxRecDepth 100000 in
set_option maxHeartbeats 4000000 in
theorem checkWalk_any (w : World) (Bx Bw Bn B0 B1 : Nat) (Ab : Option Addr) (nb cb : Nat) (zs : List Int) (hnb : nb ≤ 1000000) (hbyt : Byt zs) (hIb : Ints .u8 w w.heap.size Ab nb zs) (Ap : Option Addr) (np cp : Nat) (p : List Int) (hnp : np ≤ 1000000) (hIp : Ints .u64 w w.heap.size Ap np p) (hB : w.heap.size ≤ B1) :
    ∀ (n i t : Nat) (W : World), Chk w W Bx Bw Bn B0 B1 39 66 (.slice Ab nb cb) (checkFn Bx Bw Bn) (takeFn B0 B1) (.slice Ap np cp) t → 1 ≤ n → i < n → t + n ≤ 100000 →
    Calls Try.prog 49 #[.int .i64 (i : Int), .int .i64 (n : Int), .pointer (some ⟨Bx, 0, none⟩), .pointer (some ⟨Bw, 0, none⟩), .pointer (some ⟨Bn, 0, none⟩)] W
      fun e W' => ∃ x t', climb n i (leafZ (nameZ zs)) p t = (x, t') ∧ e = .returned (.int .u64 x) ∧ Chk w W' Bx Bw Bn B0 B1 39 66 (.slice Ab nb cb) (checkFn Bx Bw Bn) (takeFn B0 B1) (.slice Ap np cp) t' := by
  intro n
  induction n using Nat.strongRecOn with
  | ind n ih0 =>
  intro i t W hC hn1 hi ht
  have ih := Lib.hid ih0
  clear ih0
  have HIp := Lib.hid hIp
  clear hIp
  by_cases h1 : n = 1
  · have hz : ((n : Int) == 1) = true := by simp; omega
    have hcx := hC.bx.cell
    have HC := Lib.hid hC
    have HI := Lib.hid ((hIb.below hC.below).more hC.below.size)
    clear hC hIb
    go_enter Try.func49, Try.ntmps49
    go_wp2_with fail
    refine (leaf_any Ab nb cb zs hnb hbyt _ HI.out).mono ?_
    rintro e W1 ⟨rfl, b1⟩
    go_wp2_with fail
    go_ret
    exact ⟨_, t, by rw [h1, climb_one], rfl, HC.out.more b1⟩
  · have hz : ((n : Int) == 1) = false := by simp; omega
    have hs := halfN_spec (n := n) (by omega)
    have HC := Lib.hid hC
    have hcw := hC.bw.cell
    clear hC
    by_cases hik : i < halfN n
    · have HL := Lib.hid (climb_left (leafZ (nameZ zs)) p t (n := n) (i := i) (by omega) hik)
      go_enter Try.func49, Try.ntmps49
      go_wp2_with fail
      refine (half_any n (by omega) _).mono ?_
      rintro e w' ⟨rfl, rfl⟩
      obtain ⟨k, hk⟩ : ∃ k, halfN n = k := ⟨_, rfl⟩
      rw [hk] at hs hik HL ⊢
      clear hk
      unfold checkFn at hcw
      go_wp2_with fail
      refine (ih.out k (by omega) i t _ HC.out (by omega) (by omega) (by omega)).mono ?_
      rintro e W1 ⟨x, t1, hx, rfl, hC1⟩
      have ht1 : t1 ≤ t + k := by
        have h2 := climb_taken k i (leafZ (nameZ zs)) p t
        rw [hx] at h2
        have h3 := depF_small k k i
        simp only at h2
        omega
      have HX := Lib.hid hx
      have HC1 := Lib.hid hC1
      have hcn := hC1.bn.cell
      unfold takeFn at hcn
      clear hx hC1 hcw
      go_wp2_with fail
      refine (take_any w Bx Bw Bn B0 B1 _ _ _ _ _ Ap cp p np hnp HIp.out hB (by decide) (by decide) t1 (by omega) _ HC1.out).mono ?_
      rintro e W2 ⟨rfl, hC2⟩
      have HC2 := Lib.hid hC2
      clear hC2 hcn
      go_wp2_with fail
      refine (join_any _ _ _).mono ?_
      rintro e W3 ⟨rfl, b3⟩
      go_wp2_with fail
      go_ret
      exact ⟨_, t1 + 1, by rw [HL.out, HX.out], rfl, HC2.out.more b3⟩
    · have HL := Lib.hid (climb_right (leafZ (nameZ zs)) p t (n := n) (i := i) (by omega) hik)
      go_enter Try.func49, Try.ntmps49
      go_wp2_with fail
      refine (half_any n (by omega) _).mono ?_
      rintro e w' ⟨rfl, rfl⟩
      obtain ⟨k, hk⟩ : ∃ k, halfN n = k := ⟨_, rfl⟩
      rw [hk] at hs hik HL ⊢
      clear hk
      unfold checkFn at hcw
      go_wp2_with fail
      rw [show ((i : Int) - (k : Int)) = ((i - k : Nat) : Int) from by omega, show ((n : Int) - (k : Int)) = ((n - k : Nat) : Int) from by omega]
      refine (ih.out (n - k) (by omega) (i - k) t _ HC.out (by omega) (by omega) (by omega)).mono ?_
      rintro e W1 ⟨x, t1, hx, rfl, hC1⟩
      have ht1 : t1 ≤ t + (n - k) := by
        have h2 := climb_taken (n - k) (i - k) (leafZ (nameZ zs)) p t
        rw [hx] at h2
        have h3 := depF_small (n - k) (n - k) (i - k)
        simp only at h2
        omega
      have HX := Lib.hid hx
      have HC1 := Lib.hid hC1
      have hcn := hC1.bn.cell
      unfold takeFn at hcn
      clear hx hC1 hcw
      go_wp2_with fail
      refine (take_any w Bx Bw Bn B0 B1 _ _ _ _ _ Ap cp p np hnp HIp.out hB (by decide) (by decide) t1 (by omega) _ HC1.out).mono ?_
      rintro e W2 ⟨rfl, hC2⟩
      have HC2 := Lib.hid hC2
      clear hC2 hcn
      go_wp2_with fail
      refine (join_any _ _ _).mono ?_
      rintro e W3 ⟨rfl, b3⟩
      go_wp2_with fail
      go_ret
      exact ⟨_, t1 + 1, by rw [HL.out, HX.out], rfl, HC2.out.more b3⟩

/-- OK, or ErrProof. -/
def codeZ (b : Bool) : Int := if b then 0 else 16
theorem codeZ_true {b : Bool} (h : b = true) : codeZ b = 0 := by rw [h]; rfl
theorem codeZ_false {b : Bool} (h : b = false) : codeZ b = 16 := by rw [h]; rfl

/-- The boxes of Check and CheckLink, as they are laid. -/
theorem chk_new (w : World) (tx tw : TypeId) (vx vp : Value) (f : Nat → Nat → Nat → Value) :
    Chk w (((((w.alloc (.cells #[vx] tx)).alloc (.cells #[vp] 25)).alloc (.cells #[.int .i64 0] 3)).alloc (.cells #[takeFn (w.heap.size + 1) (w.heap.size + 1 + 1)] 77)).alloc (.cells #[f w.heap.size (w.heap.size + 1 + 1 + 1 + 1) (w.heap.size + 1 + 1 + 1)] tw))
      w.heap.size (w.heap.size + 1 + 1 + 1 + 1) (w.heap.size + 1 + 1 + 1) (w.heap.size + 1) (w.heap.size + 1 + 1) tx tw vx (f w.heap.size (w.heap.size + 1 + 1 + 1 + 1) (w.heap.size + 1 + 1 + 1)) (takeFn (w.heap.size + 1) (w.heap.size + 1 + 1)) vp 0 := by
  obtain ⟨fv, hf⟩ : ∃ fv, f w.heap.size (w.heap.size + 1 + 1 + 1 + 1) (w.heap.size + 1 + 1 + 1) = fv := ⟨_, rfl⟩
  obtain ⟨tv, htv⟩ : ∃ tv, takeFn (w.heap.size + 1) (w.heap.size + 1 + 1) = tv := ⟨_, rfl⟩
  rw [hf, htv]
  obtain ⟨w1, h1⟩ : ∃ w1, w.alloc (.cells #[vx] tx) = w1 := ⟨_, rfl⟩
  obtain ⟨w2, h2⟩ : ∃ w2, w1.alloc (.cells #[vp] 25) = w2 := ⟨_, rfl⟩
  obtain ⟨w3, h3⟩ : ∃ w3, w2.alloc (.cells #[.int .i64 0] 3) = w3 := ⟨_, rfl⟩
  obtain ⟨w4, h4⟩ : ∃ w4, w3.alloc (.cells #[tv] 77) = w4 := ⟨_, rfl⟩
  have s1 : w1.heap.size = w.heap.size + 1 := by rw [← h1]; simp
  have s2 : w2.heap.size = w.heap.size + 1 + 1 := by rw [← h2]; simp; omega
  have s3 : w3.heap.size = w.heap.size + 1 + 1 + 1 := by rw [← h3]; simp; omega
  have s4 : w4.heap.size = w.heap.size + 1 + 1 + 1 + 1 := by rw [← h4]; simp; omega
  have c1 : Boxed w1 w.heap.size tx vx := by rw [← h1]; exact Boxed.new w _ _
  have c2 : Boxed w2 (w.heap.size + 1) 25 vp := by rw [← h2, ← s1]; exact Boxed.new w1 _ _
  have c3 : Boxed w3 (w.heap.size + 1 + 1) 3 (.int .i64 0) := by rw [← h3, ← s2]; exact Boxed.new w2 _ _
  have c4 : Boxed w4 (w.heap.size + 1 + 1 + 1) 77 tv := by rw [← h4, ← s3]; exact Boxed.new w3 _ _
  have c5 : Boxed (w4.alloc (.cells #[fv] tw)) (w.heap.size + 1 + 1 + 1 + 1) tw fv := by rw [← s4]; exact Boxed.new w4 _ _
  have b1 : Below w.heap.size w w1 := by rw [← h1]; exact (Below.refl _ w).alloc (Nat.le_refl _) _
  have b2 : Below w.heap.size w w2 := by rw [← h2]; exact b1.alloc b1.size _
  have b3 : Below w.heap.size w w3 := by rw [← h3]; exact b2.alloc b2.size _
  have b4 : Below w.heap.size w w4 := by rw [← h4]; exact b3.alloc b3.size _
  rw [h1, h2, h3, h4]
  refine ⟨b4.alloc b4.size _, ?_, c5, c4.alloc _, ?_, ?_⟩
  · refine Boxed.alloc ?_ _
    rw [← h4, ← h3, ← h2]
    exact ((c1.alloc _).alloc _).alloc _
  · refine Boxed.alloc ?_ _
    rw [← h4, ← h3]
    exact (c2.alloc _).alloc _
  · refine Boxed.alloc ?_ _
    rw [← h4]
    exact c3.alloc _

set_option maxRecDepth 100000 in
set_option maxHeartbeats 4000000 in
theorem Check_any (root : Int) (i n : Nat) (Ab : Option Addr) (nb cb : Nat) (zs : List Int) (Ap : Option Addr) (np cp : Nat) (p : List Int) (w : World) (hn : n ≤ 4096) (hi : i < n) (hnb : nb ≤ 1000000) (hbyt : Byt zs) (hIb : Ints .u8 w w.heap.size Ab nb zs) (hnp : np ≤ 1000000) (hIp : Ints .u64 w w.heap.size Ap np p) :
    Calls Try.prog 27 #[.int .u64 root, .int .i64 (i : Int), .int .i64 (n : Int), .slice Ab nb cb, .slice Ap np cp] w fun e w' => e = .returned (.int .i64 (codeZ (checkZ root n i (leafZ (nameZ zs)) p))) ∧ Below w.heap.size w w' := by
  have hd1 : decide ((n : Int) < 1) = false := by simp; omega
  have hd2 : decide ((4096 : Int) < (n : Int)) = false := by simp; omega
  have hd3 : decide ((i : Int) < 0) = false := by simp
  have hd4 : decide (n ≤ i) = false := by simp; omega
  have hpl := hIp.1
  have HI := Lib.hid (And.intro hIb (And.intro hIp hpl))
  clear hIb hIp hpl
  go_enter Try.func27, Try.ntmps27
  go_wp2_with fail
  refine (taker_any Ap np cp _).mono ?_
  rintro e w1 ⟨rfl, rfl⟩
  have HC := Lib.hid (chk_new w 39 66 (.slice Ab nb cb) (.slice Ap np cp) checkFn)
  unfold takeFn doneFn
  go_wp2_with fail
  refine (checkWalk_any w w.heap.size (w.heap.size + 1 + 1 + 1 + 1) (w.heap.size + 1 + 1 + 1) (w.heap.size + 1) (w.heap.size + 1 + 1) Ab nb cb zs hnb hbyt HI.out.1 Ap np cp p hnp HI.out.2.1 (by omega) n i 0 _ HC.out (by omega) hi (by omega)).mono ?_
  rintro e W1 ⟨x, t1, hx, rfl, hC1⟩
  have HC1 := Lib.hid hC1
  have HX := Lib.hid hx
  clear hC1 hx HC hd1 hd2 hd3 hd4
  by_cases hr : x = root
  · have hne : (x != root) = false := by simp [hr]
    have HR := Lib.hid hr
    clear hr
    go_wp2_with fail
    refine (done_any w w.heap.size (w.heap.size + 1 + 1 + 1 + 1) (w.heap.size + 1 + 1 + 1) (w.heap.size + 1) (w.heap.size + 1 + 1) _ _ _ _ _ Ap np cp t1 _ HC1.out).mono ?_
    rintro e W2 ⟨rfl, rfl⟩
    by_cases ht : t1 = np
    · have hd : ((t1 : Int) == (np : Int)) = true := by simp; omega
      rw [hd]
      go_wp2_with fail
      go_ret
      refine ⟨?_, HC1.out.below⟩
      unfold checkZ
      rw [HX.out, codeZ_true (decide_eq_true ⟨HR.out, by rw [HI.out.2.2]; exact ht⟩)]
      rfl
    · have hd : ((t1 : Int) == (np : Int)) = false := by simp; omega
      rw [hd]
      go_wp2_with fail
      go_ret
      refine ⟨?_, HC1.out.below⟩
      unfold checkZ
      rw [HX.out, codeZ_false (decide_eq_false fun e => ht (by rw [← HI.out.2.2]; exact e.2))]
      rfl
  · have hne : (x != root) = true := by simpa using hr
    have HR := Lib.hid hr
    clear hr
    go_wp2_with fail
    go_ret
    refine ⟨?_, HC1.out.below⟩
    unfold checkZ
    rw [HX.out, codeZ_false (decide_eq_false fun e => HR.out e.1)]
    rfl
end Go.Proofs.Ytliconagelemdaa
