/- The walks of root, Root and Get. -/
import Derived.Test.YtliconagelemdaaWalkA
namespace Go.Proofs.Ytliconagelemdaa
open Go.RowKit Go.Shelf
set_option linter.unusedVariables false

theorem I_nat {n : Nat} (h : n ≤ 1000000) : I (n : Int) := by unfold I; omega

/-- The names of n entries from s on. -/
def partZ (es : List (List Int)) (s n : Nat) : List Int := ((namesZ es).drop s).take n
theorem partZ_length {es : List (List Int)} {s n : Nat} (h : s + n ≤ es.length) : (partZ es s n).length = n := by
  unfold partZ
  rw [List.length_take, List.length_drop, namesZ_length]
  omega
theorem partZ_take {es : List (List Int)} {s n k : Nat} (hk : k ≤ n) : (partZ es s n).take k = partZ es s k := by
  unfold partZ
  rw [List.take_take]
  congr 1
  omega
theorem partZ_drop {es : List (List Int)} {s n k : Nat} : (partZ es s n).drop k = partZ es (s + k) (n - k) := by
  unfold partZ
  rw [List.drop_take, List.drop_drop]

set_option maxRecDepth 100000 in
set_option maxHeartbeats 1000000 in
theorem root_any (S : Nat → Prop) (lb : Nat) (es : List (List Int)) : ∀ (n start : Nat) (w : World), LibAt w S lb es → start + n ≤ es.length →
    Calls Try.prog 36 #[.pointer (some ⟨lb, 0, none⟩), .int .i64 (start : Int), .int .i64 (n : Int)] w fun e w' => e = .returned (.int .u64 (rootL (partZ es start n))) ∧ Below w.heap.size w w' := by
  intro n
  induction n using Nat.strongRecOn with
  | ind n ih0 =>
  intro start w hL hle
  have ih := Lib.hid ih0
  clear ih0
  obtain ⟨A, c, vs, mb, M, h⟩ := hL
  have hfew := h.few
  by_cases h0 : n = 0
  · subst h0
    have hz : (((0 : Nat) : Int) == 0) = true := rfl
    go_enter Try.func36, Try.ntmps36
    go_wp2_with fail
    refine (noneSum_any _).mono ?_
    rintro e w1 ⟨rfl, b1⟩
    go_wp2
    go_ret
    exact ⟨rfl, b1⟩
  · have hz : ((n : Int) == 0) = false := by simp; omega
    have hc := h.cell1
    rcases h.map.look (I_nat (n := start) (by omega)) (I_nat (n := n) (by omega)) with ⟨v, hm, hrun⟩ | ⟨hm, hrun⟩
    · unfold keyV at hrun
      have hv : v = rootL (partZ es start n) := by
        obtain ⟨s', n', e1, e2, _, _, e3⟩ := h.ok.right _ _ _ hm
        obtain rfl : start = s' := by omega
        obtain rfl : n = n' := by omega
        exact e3
      have HV := Lib.hid hv
      clear hv hm
      go_enter Try.func36, Try.ntmps36
      go_wp2_with fail
      go_ret
      exact ⟨by rw [← HV.out]; rfl, Below.refl _ _⟩
    · unfold keyV at hrun
      have h2 : 2 ≤ n := by
        rcases Nat.lt_or_ge n 2 with h3 | h3
        · have : n = 1 := by omega
          subst this
          exact absurd hm (h.ok.leaf start (by omega))
        · exact h3
      have hs := halfN_spec h2
      have HR := Lib.hid (rootL_node (l := partZ es start n) (by rw [partZ_length hle]; exact h2))
      have HP := Lib.hid (partZ_length hle)
      clear hm
      go_enter Try.func36, Try.ntmps36
      go_wp2_with fail
      refine (half_any n (by omega) _).mono ?_
      rintro e w' ⟨rfl, rfl⟩
      clear hrun
      obtain ⟨k, hk⟩ : ∃ k, halfN n = k := ⟨_, rfl⟩
      rw [hk] at hs ⊢
      have HK := Lib.hid hk
      clear hk
      go_wp2_with fail
      refine (ih.out k (by omega) start _ ⟨A, c, vs, mb, M, h⟩ (by omega)).mono ?_
      rintro e w1 ⟨rfl, b1⟩
      go_wp2_with fail
      rw [show ((start : Int) + (k : Int)) = ((start + k : Nat) : Int) from by omega, show ((n : Int) - (k : Int)) = ((n - k : Nat) : Int) from by omega]
      refine (ih.out (n - k) (by omega) (start + k) _ (LibAt.below ⟨A, c, vs, mb, M, h⟩ b1) (by omega)).mono ?_
      rintro e w2 ⟨rfl, b2⟩
      go_wp2_with fail
      refine (join_any _ _ _).mono ?_
      rintro e w3 ⟨rfl, b3⟩
      go_wp2_with fail
      go_ret
      refine ⟨?_, (b1.trans (b2.mono b1.size)).trans (b3.mono (Nat.le_trans b1.size b2.size))⟩
      show Ending.returned (.int .u64 (nodeZ _ _)) = _
      rw [HR.out, HP.out, HK.out, partZ_take (by omega), partZ_drop]

set_option maxRecDepth 100000 in
theorem Root_yes (S : Nat → Prop) (lb : Nat) (es : List (List Int)) (n : Nat) (w : World) (hL : LibAt w S lb es) (hn : n ≤ es.length) :
    Calls Try.prog 20 #[.pointer (some ⟨lb, 0, none⟩), .int .i64 (n : Int)] w fun e w' => e = .returned (.tuple #[.int .u64 (rootL (partZ es 0 n)), .int .i64 0]) ∧ Below w.heap.size w w' := by
  obtain ⟨A, c, vs, mb, M, h⟩ := hL
  have hfew := h.few
  have hc := h.cell0
  have hd : decide ((n : Int) < 0) = false := by simp
  have hd2 : decide ((es.length : Int) < (n : Int)) = false := by simp; omega
  go_enter Try.func20, Try.ntmps20
  go_wp2_with fail
  rw [show (0 : Int) = ((0 : Nat) : Int) from rfl]
  refine (root_any S lb es n 0 _ ⟨A, c, vs, mb, M, h⟩ (by omega)).mono ?_
  rintro e w1 ⟨rfl, b1⟩
  go_wp2
  go_ret2
  exact ⟨rfl, b1⟩

set_option maxRecDepth 100000 in
theorem Root_no (S : Nat → Prop) (lb : Nat) (es : List (List Int)) (n : Int) (w : World) (hL : LibAt w S lb es) (hn : n < 0 ∨ (es.length : Int) < n) :
    Calls Try.prog 20 #[.pointer (some ⟨lb, 0, none⟩), .int .i64 n] w fun e w' => e = .returned (.tuple #[.int .u64 0, .int .i64 5]) ∧ w = w' := by
  obtain ⟨A, c, vs, mb, M, h⟩ := hL
  have hc := h.cell0
  by_cases h0 : n < 0
  · have hd : decide (n < 0) = true := by simpa using h0
    go_enter Try.func20, Try.ntmps20
    go_wp2
    go_ret2
    exact ⟨rfl, rfl⟩
  · have hd : decide (n < 0) = false := by simpa using h0
    have hd2 : decide ((es.length : Int) < n) = true := by simp; omega
    go_enter Try.func20, Try.ntmps20
    go_wp2
    go_ret2
    exact ⟨rfl, rfl⟩

/-- A copy of an entry is returned, and OK. -/
def GetPost (zs : List Int) (w : World) (e : Ending) (w' : World) : Prop :=
  ∃ v, e = .returned (.tuple #[v, .int .i64 0]) ∧ w'.ownsRow w.heap.size 5 1 v zs.length (zs.map (Value.int .u8)) ∧ Below w.heap.size w w'

set_option maxRecDepth 100000 in
theorem Get_yes (S : Nat → Prop) (lb : Nat) (es : List (List Int)) (n : Nat) (w : World) (hL : LibAt w S lb es) (hn : n < es.length) :
    Calls Try.prog 25 #[.pointer (some ⟨lb, 0, none⟩), .int .i64 (n : Int)] w (GetPost (es[n]?.getD []) w) := by
  obtain ⟨A, c, vs, mb, M, h⟩ := hL
  have hfew := h.few
  have hc := h.cell0
  have hd : decide ((n : Int) < 0) = false := by simp
  have hd2 : decide ((es.length : Int) ≤ (n : Int)) = false := by simp; omega
  obtain ⟨v, hv, hev, _⟩ := h.ent n hn
  obtain ⟨A', c', rfl⟩ := own_slice hev
  have hI := Ints.of_own hev
  obtain ⟨g, cap, hv2, _, _⟩ := h.row.form (by omega)
  injection hv2 with hA hl hcap
  subst hA
  have hrow := h.row.cellAt n (by omega)
  rw [hv] at hrow
  have hz : (es[n]?.getD []).length ≤ 65536 := by
    rw [List.getElem?_eq_getElem hn]; exact (h.byt _ (List.getElem_mem hn)).2
  obtain ⟨zs, hzs⟩ : ∃ zs, es[n]?.getD [] = zs := ⟨_, rfl⟩
  rw [hzs] at hI hz hrow ⊢
  clear hzs hv hev
  go_enter Try.func25, Try.ntmps25
  go_wp2_with fail
  refine (clone_any A' zs.length c' zs (by omega) _ hI).mono ?_
  rintro e w1 ⟨v, rfl, hown, b1⟩
  obtain ⟨A2, c2, hv⟩ := own_slice hown
  subst hv
  go_wp2
  go_ret2
  exact ⟨_, rfl, hown, b1⟩

set_option maxRecDepth 100000 in
theorem Get_no (S : Nat → Prop) (lb : Nat) (es : List (List Int)) (n : Int) (w : World) (hL : LibAt w S lb es) (hn : n < 0 ∨ (es.length : Int) ≤ n) :
    Calls Try.prog 25 #[.pointer (some ⟨lb, 0, none⟩), .int .i64 n] w fun e w' => e = .returned (.tuple #[.slice none 0 0, .int .i64 7]) ∧ w = w' := by
  obtain ⟨A, c, vs, mb, M, h⟩ := hL
  have hc := h.cell0
  by_cases h0 : n < 0
  · have hd : decide (n < 0) = true := by simpa using h0
    go_enter Try.func25, Try.ntmps25
    go_wp2
    go_ret2
    exact ⟨rfl, rfl⟩
  · have hd : decide (n < 0) = false := by simpa using h0
    have hd2 : decide ((es.length : Int) ≤ n) = true := by simp; omega
    go_enter Try.func25, Try.ntmps25
    go_wp2
    go_ret2
    exact ⟨rfl, rfl⟩
end Go.Proofs.Ytliconagelemdaa
