/- The walk of the law LibraryRoots. -/
import Derived.Test.YtliconagelemdaaLivesL
namespace Go.Proofs.Ytliconagelemdaa
open Go.RowKit Go.Shelf
set_option linter.unusedVariables false

attribute [local go_sem ↓] Go.wp_at_zero Go.wp_at_succ

theorem I_of_wf {z : Int} (h : (Lit.int .i64 z).wf = true) : I z := by
  have := bounds_i64 h
  unfold I
  omega

theorem entsZ_length (zs : List Int) (m : Nat) : (entsZ zs m).length ≤ m := by
  unfold entsZ
  rw [List.length_map]
  exact List.length_take_le _ _
theorem entsZ_byt {zs : List Int} (h : ∀ z ∈ zs, I z) (m : Nat) : ∀ e ∈ entsZ zs m, Byt e ∧ e.length ≤ 65536 := by
  intro e he
  unfold entsZ at he
  obtain ⟨z, hz, rfl⟩ := List.mem_map.1 he
  have := entZ_small (h z (List.mem_of_mem_take hz))
  exact ⟨this.1, by omega⟩

theorem partZ_first (es : List (List Int)) (n : Nat) : partZ es 0 n = (namesZ es).take n := rfl

set_option maxRecDepth 100000 in
set_option maxHeartbeats 4000000 in
theorem libraryRoots_law (a0 : Option Addr) (len0 cap0 : Nat) (z0 : List Int) (a1 : Int) (w : World) (w0 : GoRow .i64 w a0 len0 cap0 z0) (w1 : (Lit.int .i64 a1).wf = true) :
    Calls Try.prog 5 #[.slice a0 len0 cap0, .int .i64 a1] w fun e w' => e = .returned (.bool true) ∧ Below w.heap.size w w' := by
  obtain ⟨hI, hlc, hcap, hwf⟩ := w0.ints
  have hzI : ∀ z ∈ z0.take len0, I z := fun z hz => I_of_wf (hwf z hz)
  have hlen : len0 ≤ maxLen := Nat.le_trans hlc hcap
  have ha1 := I_of_wf w1
  unfold I at ha1
  clear hwf w1 w0
  have hby := entsZ_byt hzI 40
  have hl := entsZ_length (z0.take len0) 40
  have HE := Lib.hid (entries_any a0 len0 cap0 (z0.take len0) 40 w hlen (by omega) hzI hI)
  obtain ⟨es, hes⟩ : ∃ es, entsZ (z0.take len0) 40 = es := ⟨_, rfl⟩
  rw [hes] at hby hl HE
  clear hes hzI hI
  have hnl := namesZ_length es
  obtain ⟨N, hN⟩ : ∃ N, es.length = N := ⟨_, rfl⟩
  rw [hN] at hnl hl
  have HBY := Lib.hid hby
  have HNL := Lib.hid hnl
  have HN := Lib.hid hN
  clear hby hnl hN
  go_enter Try.func5, Try.ntmps5
  go_wp2_with fail
  refine HE.out.mono ?_
  rintro e w2 ⟨A2, c2, rfl, hE2, b2⟩
  have hR2 := hE2.rows
  rw [HN.out] at hR2 ⊢
  clear HE hE2
  go_wp2_with fail
  refine (names_any A2 N c2 es _ (by omega) HBY.out hR2).mono ?_
  rintro e w3 ⟨v3, rfl, hown3, b3⟩
  rw [HNL.out] at hown3
  obtain ⟨A3, c3, hv⟩ := own_slice hown3
  subst hv
  obtain ⟨hc3a, hc3b⟩ := own_cap hown3
  have hI3 := Ints.of_own hown3
  have hR3 := (hR2.below b3).more b3.size
  have B3 := Below.step b2 b3
  clear hown3 b2 b3 hR2
  go_wp2_with fail
  refine (tree_any A2 N c2 es _ (by omega) HBY.out hR3).mono ?_
  rintro e w4 ⟨lb, rfl, hL4, b4⟩
  have hI4 := (hI3.below b4).more b4.size
  have B4 := Below.step B3 b4
  obtain ⟨S, hS⟩ : ∃ S : Nat → Prop, (fun k => w3.heap.size ≤ k) = S := ⟨_, rfl⟩
  rw [hS] at hL4
  clear hS hI3 B3 b4 hR3
  go_wp2_with fail
  refine (len_any S lb es _ hL4).mono ?_
  rintro e w5 ⟨rfl, rfl⟩
  rw [HN.out]
  have hNN : ((N : Int) != (N : Int)) = false := by simp
  go_wp2_with fail
  clear hNN
  go_loopw [8] (fun i wr => ∃ k : Nat, k ≤ N + 1 ∧ i = .int .i64 (k : Int) ∧ LibAt wr S lb es ∧ Ints .u64 wr wr.heap.size A3 N (namesZ es) ∧ Below w.heap.size w wr)
    (fun i _ => N + 1 - (intOf i).toNat)
  case atStart => exact ⟨0, Nat.zero_le _, rfl, hL4, hI4, B4⟩
  case round =>
    clear hL4 hI4 B4
    obtain ⟨k, hk, rfl, hL, hX, hB⟩ := hrel
    by_cases hlt : k ≤ N
    · have hd : decide (k ≤ N) = true := by simpa using hlt
      go_wp2_with fail
      refine (Root_yes S lb es k _ hL (by rw [HN.out]; exact hlt)).mono ?_
      rintro e w6 ⟨rfl, b6⟩
      rw [partZ_first]
      have hL6 := hL.below b6
      have hX6 := (hX.below b6).more b6.size
      have B6 := Below.step hB b6
      have hkc : k ≤ c3 := by omega
      obtain ⟨r, hr⟩ : ∃ r, rootL ((namesZ es).take k) = r := ⟨_, rfl⟩
      have HRR := Lib.hid (refRoot_any k c3 A3 ((namesZ es).take k) w6 (by omega) hkc hc3b (hX6.take k k (by omega)))
      rw [hr] at HRR
      rw [hr]
      clear hr hL hX hB b6
      go_wp2_with fail
      refine HRR.out.mono ?_
      rintro e w7 ⟨rfl, b7⟩
      have hrr : (r != r) = false := by simp
      have hL7 := hL6.below b7
      have hX7 := (hX6.below b7).more b7.size
      have B7 := Below.step B6 b7
      clear HRR hL6 hX6 B6 b7
      go_wp2_with fail
      go_roundw
      case rel => exact ⟨k + 1, by omega, by go_num, hL7, hX7, B7⟩
      case measure => simp [intOf]; omega
    · have hd : decide (k ≤ N) = false := by simpa using hlt
      by_cases hsz : 0 ≤ a1 ∧ a1 ≤ (N : Int)
      · obtain ⟨m, rfl⟩ : ∃ m : Nat, a1 = (m : Int) := ⟨a1.toNat, by omega⟩
        have hmN : m ≤ N := by omega
        have hd1 : decide (m ≤ N) = true := by simpa using hmN
        have hd0 : decide ((0 : Int) ≤ (m : Int)) = true := by simp
        go_wp2_with fail
        refine (Root_yes S lb es m _ hL (by rw [HN.out]; exact hmN)).mono ?_
        rintro e w6 ⟨rfl, b6⟩
        have hL6 := hL.below b6
        have B6 := Below.step hB b6
        go_wp2_with fail
        refine (Root_no S lb es (-1) _ hL6 (by omega)).mono ?_
        rintro e w7 ⟨rfl, rfl⟩
        go_wp2_with fail
        refine (Root_no S lb es ((N : Int) + 1) _ hL6 (by rw [HN.out]; omega)).mono ?_
        rintro e w7 ⟨rfl, rfl⟩
        go_wp2_with fail
        refine (lives_any _).mono ?_
        rintro e w8 ⟨rfl, b8⟩
        go_wp2_with fail
        go_ret
        exact ⟨rfl, Below.step B6 b8⟩
      · have hno : a1 < 0 ∨ (N : Int) < a1 := by omega
        go_wp2_with fail
        refine (Root_no S lb es a1 _ hL (by rw [HN.out]; exact hno)).mono ?_
        rintro e w7 ⟨rfl, rfl⟩
        by_cases h0 : 0 ≤ a1
        · have hd0 : decide (0 ≤ a1) = true := by simpa using h0
          have hd1 : decide (a1 ≤ (N : Int)) = false := by simp; omega
          go_wp2_with fail
          refine (Root_no S lb es (-1) _ hL (by omega)).mono ?_
          rintro e w7 ⟨rfl, rfl⟩
          go_wp2_with fail
          refine (Root_no S lb es ((N : Int) + 1) _ hL (by rw [HN.out]; omega)).mono ?_
          rintro e w7 ⟨rfl, rfl⟩
          go_wp2_with fail
          refine (lives_any _).mono ?_
          rintro e w8 ⟨rfl, b8⟩
          go_wp2_with fail
          go_ret
          exact ⟨rfl, Below.step hB b8⟩
        · have hd0 : decide (0 ≤ a1) = false := by simpa using h0
          go_wp2_with fail
          refine (Root_no S lb es (-1) _ hL (by omega)).mono ?_
          rintro e w7 ⟨rfl, rfl⟩
          go_wp2_with fail
          refine (Root_no S lb es ((N : Int) + 1) _ hL (by rw [HN.out]; omega)).mono ?_
          rintro e w7 ⟨rfl, rfl⟩
          go_wp2_with fail
          refine (lives_any _).mono ?_
          rintro e w8 ⟨rfl, b8⟩
          go_wp2_with fail
          go_ret
          exact ⟨rfl, Below.step hB b8⟩

end Go.Proofs.Ytliconagelemdaa
