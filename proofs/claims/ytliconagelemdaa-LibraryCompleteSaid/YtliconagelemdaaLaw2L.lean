/- The walk of the law LibraryProofs. -/
import Derived.Test.YtliconagelemdaaLaw1L
namespace Go.Proofs.Ytliconagelemdaa
open Go.RowKit Go.Shelf
set_option linter.unusedVariables false

attribute [local go_sem ↓] Go.wp_at_zero Go.wp_at_succ

/-- What stands all along: the library, the names, the memory that was there. -/
def Stands (w : World) (S : Nat → Prop) (lb : Nat) (es : List (List Int)) (A : Option Addr) (N : Nat) (wr : World) : Prop :=
  LibAt wr S lb es ∧ Ints .u64 wr wr.heap.size A N (namesZ es) ∧ Below w.heap.size w wr
theorem Stands.step {w : World} {S : Nat → Prop} {lb : Nat} {es : List (List Int)} {A : Option Addr} {N : Nat} {wr w' : World} (h : Stands w S lb es A N wr) (b : Below wr.heap.size wr w') : Stands w S lb es A N w' :=
  ⟨h.1.below b, (h.2.1.below b).more b.size, Below.step h.2.2 b⟩

set_option maxRecDepth 100000 in
set_option maxHeartbeats 20000000 in
theorem libraryProofs_law (a0 : Option Addr) (len0 cap0 : Nat) (z0 : List Int) (a1 : Int) (a2 : Int) (w : World) (w0 : GoRow .i64 w a0 len0 cap0 z0) (w1 : (Lit.int .i64 a1).wf = true) (w2 : (Lit.int .i64 a2).wf = true) :
    Calls Try.prog 3 #[.slice a0 len0 cap0, .int .i64 a1, .int .i64 a2] w fun e w' => e = .returned (.bool true) ∧ Below w.heap.size w w' := by
  obtain ⟨hI, hlc, hcap, hwf⟩ := w0.ints
  have hzI : ∀ z ∈ z0.take len0, I z := fun z hz => I_of_wf (hwf z hz)
  have hlen : len0 ≤ maxLen := Nat.le_trans hlc hcap
  have ha1 := I_of_wf w1
  have ha2 := I_of_wf w2
  unfold I at ha1 ha2
  clear hwf w1 w2 w0
  have hby := entsZ_byt hzI 24
  have hl := entsZ_length (z0.take len0) 24
  have HE := Lib.hid (entries_any a0 len0 cap0 (z0.take len0) 24 w hlen (by omega) hzI hI)
  obtain ⟨es, hes⟩ : ∃ es, entsZ (z0.take len0) 24 = es := ⟨_, rfl⟩
  rw [hes] at hby hl HE
  clear hes hzI hI
  have hnl := namesZ_length es
  obtain ⟨N, hN⟩ : ∃ N, es.length = N := ⟨_, rfl⟩
  rw [hN] at hnl hl
  have HBY := Lib.hid hby
  have HNL := Lib.hid hnl
  have HN := Lib.hid hN
  clear hby hnl hN
  go_enter Try.func3, Try.ntmps3
  go_wp2_with fail
  refine HE.out.mono ?_
  rintro e w2 ⟨A2, c2, rfl, hE2, b2⟩
  have hR2 := hE2.rows
  rw [HN.out] at hR2 ⊢
  clear HE hE2
  go_wp2_with fail
  refine (names_any A2 N c2 es _ (by omega) HBY.out hR2).mono ?_
  rintro e w3 ⟨v3, rfl, hown3, b3⟩
  rw [HNL.out] at hown3
  obtain ⟨A3, c3, hv⟩ := own_slice hown3
  subst hv
  obtain ⟨hc3a, hc3b⟩ := own_cap hown3
  have hI3 := Ints.of_own hown3
  have hR3 := (hR2.below b3).more b3.size
  have B3 := Below.step b2 b3
  clear hown3 b2 b3 hR2
  go_wp2_with fail
  refine (tree_any A2 N c2 es _ (by omega) HBY.out hR3).mono ?_
  rintro e w4 ⟨lb, rfl, hL4, b4⟩
  have hI4 := (hI3.below b4).more b4.size
  have B4 := Below.step B3 b4
  obtain ⟨S, hS⟩ : ∃ S : Nat → Prop, (fun k => w3.heap.size ≤ k) = S := ⟨_, rfl⟩
  rw [hS] at hL4
  have hV4 : Stands w S lb es A3 N w4 := ⟨hL4, hI4, B4⟩
  clear hS hI3 B3 b4 hR3 hL4 hI4 B4
  go_wp2_with fail
  go_loopw [10] (fun x wr => ∃ n : Int, -1 ≤ n ∧ n ≤ (N : Int) + 2 ∧ x = .int .i64 n ∧ Stands w S lb es A3 N wr)
    (fun x _ => ((N : Int) + 2 - intOf x).toNat)
  case atStart => exact ⟨-1, by omega, by omega, rfl, hV4⟩
  case round =>
    clear hV4
    obtain ⟨n, hn1, hn2, rfl, hV⟩ := hrel
    by_cases hlt : n ≤ (N : Int) + 1
    · have hd : decide (n ≤ (N : Int) + 1) = true := by simpa using hlt
      go_wp2_with fail
      go_loopw [11] (fun x wr => ∃ i : Int, -1 ≤ i ∧ i ≤ n + 1 ∧ x = .int .i64 i ∧ Stands w S lb es A3 N wr)
        (fun x _ => (n + 1 - intOf x).toNat)
      case atStart => exact ⟨-1, by omega, by omega, rfl, hV⟩
      case round =>
        clear hV hd
        obtain ⟨i, hi1, hi2, rfl, hV⟩ := hrel
        by_cases hin : i ≤ n
        · skip
          by_cases hg0 : 1 ≤ n ∧ n ≤ (N : Int) ∧ 0 ≤ i ∧ i < n
          · obtain ⟨n', rfl⟩ : ∃ n' : Nat, n = (n' : Int) := ⟨n.toNat, by omega⟩
            obtain ⟨i', rfl⟩ : ∃ i' : Nat, i = (i' : Int) := ⟨i.toNat, by omega⟩
            have hnc : n' ≤ c3 := by omega
            have hd0 : decide (i' ≤ n') = true := by simp; omega
            have hd1 : decide ((1 : Int) ≤ (n' : Int)) = true := by simp; omega
            have hd2 : decide (n' ≤ N) = true := by simp; omega
            have hd3 : decide ((0 : Int) ≤ (i' : Int)) = true := by simp
            have hd4 : decide (i' < n') = true := by simp; omega
            go_wp2_with fail
            refine (Path_yes S lb es i' n' _ hV.1 (by rw [HN.out]; omega) (by omega)).mono ?_
            rintro e w6 ⟨A6, c6, rfl, hown6, b6⟩
            rw [partZ_first] at hown6 ⊢
            have hV6 := hV.step b6
            have HRR := Lib.hid (refPath_any n' c3 A3 ((namesZ es).take n') i' w6 (by omega) (by omega) (by omega) hc3b (by omega) (hV6.2.1.take n' n' (by omega)))
            have hpl := pathL_len ((namesZ es).take n') i'
            obtain ⟨l, hl⟩ : ∃ l, pathL ((namesZ es).take n') i' = l := ⟨_, rfl⟩
            rw [hl] at hown6 HRR hpl ⊢
            have hll : l.length ≤ 1000000 := by have := List.length_take_le n' (namesZ es); omega
            have hI6 := Ints.of_own hown6
            clear hl hpl hV b6 hown6
            go_wp2_with fail
            refine HRR.out.mono ?_
            rintro e w7 ⟨v7, rfl, hown7, b7⟩
            obtain ⟨A7, c7, hv⟩ := own_slice hown7
            subst hv
            have hV7 := hV6.step b7
            have hI7 := Ints.of_own hown7
            have hI67 := (hI6.below b7).more b7.size
            clear HRR hV6 b7 hown7 hI6
            go_wp2_with fail
            refine (sameU64_any _ _ _ _ _ _ l l hll hll _ hI67 hI7).mono ?_
            rintro e w8 ⟨rfl, b8⟩
            rw [sameB_true rfl]
            have hV8 := hV7.step b8
            clear hV7 hI67 hI7 b8
            go_wp2_with fail
            refine (Link_yes S lb es i' n' _ hV8.1 (by rw [HN.out]; omega) (by omega)).mono ?_
            rintro e v6 ⟨A16, c16, rfl, hown6, b6⟩
            rw [partZ_first] at hown6 ⊢
            have hV6 := hV8.step b6
            have HRR := Lib.hid (refLink_any n' c3 A3 ((namesZ es).take n') i' v6 (by omega) (by omega) (by omega) hc3b (hV6.2.1.take n' n' (by omega)))
            have hpl : (linkZ ((namesZ es).take n') i').length ≤ 1000000 := by
              have h1 := List.length_take_le n' (namesZ es)
              have h2 : ((namesZ es).take n').length = n' := by rw [List.length_take, HNL.out]; omega
              unfold linkZ
              split
              · simp
              · have := linkL_len (l := (namesZ es).take n') (m := i') true (by omega) (by omega)
                omega
            rw [show linkR ((namesZ es).take n') i' = linkZ ((namesZ es).take n') i' from rfl] at HRR
            obtain ⟨l', hl'⟩ : ∃ l, linkZ ((namesZ es).take n') i' = l := ⟨_, rfl⟩
            rw [hl'] at hown6 HRR hpl ⊢
            have hI6 := Ints.of_own hown6
            clear hl' hV8 b6 hown6
            go_wp2_with fail
            refine HRR.out.mono ?_
            rintro e v7 ⟨v7', rfl, hown7, b7⟩
            obtain ⟨A17, c17, hv⟩ := own_slice hown7
            subst hv
            have hV7 := hV6.step b7
            have hI7 := Ints.of_own hown7
            have hI67 := (hI6.below b7).more b7.size
            clear HRR hV6 b7 hown7 hI6
            go_wp2_with fail
            refine (sameU64_any _ _ _ _ _ _ l' l' hpl hpl _ hI67 hI7).mono ?_
            rintro e v8 ⟨rfl, b8⟩
            rw [sameB_true rfl]
            have hV9 := hV7.step b8
            clear hV7 hI67 hI7 b8
            go_wp2_with fail
            go_roundw
            case rel => exact ⟨(i' : Int) + 1, by omega, by omega, by go_num, hV9⟩
            case measure => simp [intOf]; omega
          · skip
            by_cases hg1 : 1 ≤ n ∧ n ≤ (N : Int) ∧ i = n
            · obtain ⟨hg10, hg11, hg12⟩ := hg1
              have hg4 : n ≤ i := by omega
              clear hg12
              obtain ⟨n', rfl⟩ : ∃ n' : Nat, n = (n' : Int) := ⟨n.toNat, by omega⟩
              obtain ⟨i', rfl⟩ : ∃ i' : Nat, i = (i' : Int) := ⟨i.toNat, by omega⟩
              have hnc : n' ≤ c3 := by omega
              have hd0 : decide (i' ≤ n') = true := by simp; omega
              have hd1 : decide ((1 : Int) ≤ (n' : Int)) = true := by simp; omega
              have hd2 : decide (n' ≤ N) = true := by simp; omega
              have hd3 : decide ((0 : Int) ≤ (i' : Int)) = true := by simp
              have hd4 : decide (i' < n') = false := by simp; omega
              go_wp2_with fail
              refine (Path_no S lb es _ _ _ hV.1 (by rw [HN.out]; omega)).mono ?_
              rintro e w8 ⟨A6, c6, rfl, hown6, b6⟩
              have hV8 := hV.step b6
              clear hV b6 hown6
              go_wp2_with fail
              refine (Link_yes S lb es i' n' _ hV8.1 (by rw [HN.out]; omega) (by omega)).mono ?_
              rintro e v6 ⟨A16, c16, rfl, hown6, b6⟩
              rw [partZ_first] at hown6 ⊢
              have hV6 := hV8.step b6
              have HRR := Lib.hid (refLink_any n' c3 A3 ((namesZ es).take n') i' v6 (by omega) (by omega) (by omega) hc3b (hV6.2.1.take n' n' (by omega)))
              have hpl : (linkZ ((namesZ es).take n') i').length ≤ 1000000 := by
                have h1 := List.length_take_le n' (namesZ es)
                have h2 : ((namesZ es).take n').length = n' := by rw [List.length_take, HNL.out]; omega
                unfold linkZ
                split
                · simp
                · have := linkL_len (l := (namesZ es).take n') (m := i') true (by omega) (by omega)
                  omega
              rw [show linkR ((namesZ es).take n') i' = linkZ ((namesZ es).take n') i' from rfl] at HRR
              obtain ⟨l', hl'⟩ : ∃ l, linkZ ((namesZ es).take n') i' = l := ⟨_, rfl⟩
              rw [hl'] at hown6 HRR hpl ⊢
              have hI6 := Ints.of_own hown6
              clear hl' hV8 b6 hown6
              go_wp2_with fail
              refine HRR.out.mono ?_
              rintro e v7 ⟨v7', rfl, hown7, b7⟩
              obtain ⟨A17, c17, hv⟩ := own_slice hown7
              subst hv
              have hV7 := hV6.step b7
              have hI7 := Ints.of_own hown7
              have hI67 := (hI6.below b7).more b7.size
              clear HRR hV6 b7 hown7 hI6
              go_wp2_with fail
              refine (sameU64_any _ _ _ _ _ _ l' l' hpl hpl _ hI67 hI7).mono ?_
              rintro e v8 ⟨rfl, b8⟩
              rw [sameB_true rfl]
              have hV9 := hV7.step b8
              clear hV7 hI67 hI7 b8
              go_wp2_with fail
              go_roundw
              case rel => exact ⟨(i' : Int) + 1, by omega, by omega, by go_num, hV9⟩
              case measure => simp [intOf]; omega
            · skip
              by_cases hg2 : n < 1 ∧ 0 ≤ i
              · obtain ⟨n', rfl⟩ : ∃ n' : Nat, n = (n' : Int) := ⟨n.toNat, by omega⟩
                obtain ⟨i', rfl⟩ : ∃ i' : Nat, i = (i' : Int) := ⟨i.toNat, by omega⟩
                have hnc : n' ≤ c3 := by omega
                have hd0 : decide (i' ≤ n') = true := by simp; omega
                have hd1 : decide ((1 : Int) ≤ (n' : Int)) = false := by simp; omega
                have hd2 : decide (n' ≤ N) = true := by simp; omega
                have hd3 : decide ((0 : Int) ≤ (i' : Int)) = true := by simp
                go_wp2_with fail
                refine (Path_no S lb es _ _ _ hV.1 (by rw [HN.out]; omega)).mono ?_
                rintro e w8 ⟨A6, c6, rfl, hown6, b6⟩
                have hV8 := hV.step b6
                clear hV b6 hown6
                go_wp2_with fail
                refine (Link_yes S lb es i' n' _ hV8.1 (by rw [HN.out]; omega) (by omega)).mono ?_
                rintro e v6 ⟨A16, c16, rfl, hown6, b6⟩
                rw [partZ_first] at hown6 ⊢
                have hV6 := hV8.step b6
                have HRR := Lib.hid (refLink_any n' c3 A3 ((namesZ es).take n') i' v6 (by omega) (by omega) (by omega) hc3b (hV6.2.1.take n' n' (by omega)))
                have hpl : (linkZ ((namesZ es).take n') i').length ≤ 1000000 := by
                  have h1 := List.length_take_le n' (namesZ es)
                  have h2 : ((namesZ es).take n').length = n' := by rw [List.length_take, HNL.out]; omega
                  unfold linkZ
                  split
                  · simp
                  · have := linkL_len (l := (namesZ es).take n') (m := i') true (by omega) (by omega)
                    omega
                rw [show linkR ((namesZ es).take n') i' = linkZ ((namesZ es).take n') i' from rfl] at HRR
                obtain ⟨l', hl'⟩ : ∃ l, linkZ ((namesZ es).take n') i' = l := ⟨_, rfl⟩
                rw [hl'] at hown6 HRR hpl ⊢
                have hI6 := Ints.of_own hown6
                clear hl' hV8 b6 hown6
                go_wp2_with fail
                refine HRR.out.mono ?_
                rintro e v7 ⟨v7', rfl, hown7, b7⟩
                obtain ⟨A17, c17, hv⟩ := own_slice hown7
                subst hv
                have hV7 := hV6.step b7
                have hI7 := Ints.of_own hown7
                have hI67 := (hI6.below b7).more b7.size
                clear HRR hV6 b7 hown7 hI6
                go_wp2_with fail
                refine (sameU64_any _ _ _ _ _ _ l' l' hpl hpl _ hI67 hI7).mono ?_
                rintro e v8 ⟨rfl, b8⟩
                rw [sameB_true rfl]
                have hV9 := hV7.step b8
                clear hV7 hI67 hI7 b8
                go_wp2_with fail
                go_roundw
                case rel => exact ⟨(i' : Int) + 1, by omega, by omega, by go_num, hV9⟩
                case measure => simp [intOf]; omega
              · skip
                by_cases hg3 : n < 1 ∧ i < 0
                · have hd0 : decide (i ≤ n) = true := by simp; omega
                  have hd1 : decide (1 ≤ n) = false := by simp; omega
                  have hd2 : decide (n ≤ (N : Int)) = true := by simp; omega
                  have hd3 : decide (0 ≤ i) = false := by simp; omega
                  go_wp2_with fail
                  refine (Path_no S lb es _ _ _ hV.1 (by rw [HN.out]; omega)).mono ?_
                  rintro e w8 ⟨A6, c6, rfl, hown6, b6⟩
                  have hV8 := hV.step b6
                  clear hV b6 hown6
                  go_wp2_with fail
                  refine (Link_no S lb es _ _ _ hV8.1 (by rw [HN.out]; omega)).mono ?_
                  rintro e v8 ⟨A16, c16, rfl, hown6, b6⟩
                  have hV9 := hV8.step b6
                  clear hV8 b6 hown6
                  go_wp2_with fail
                  go_roundw
                  case rel => exact ⟨i + 1, by omega, by omega, by go_num, hV9⟩
                  case measure => simp [intOf]; omega
                · skip
                  by_cases hg4 : (N : Int) < n
                  · have hd0 : decide (i ≤ n) = true := by simp; omega
                    have hd1 : decide (1 ≤ n) = true := by simp; omega
                    have hd2 : decide (n ≤ (N : Int)) = false := by simp; omega
                    go_wp2_with fail
                    refine (Path_no S lb es _ _ _ hV.1 (by rw [HN.out]; omega)).mono ?_
                    rintro e w8 ⟨A6, c6, rfl, hown6, b6⟩
                    have hV8 := hV.step b6
                    clear hV b6 hown6
                    go_wp2_with fail
                    refine (Link_no S lb es _ _ _ hV8.1 (by rw [HN.out]; omega)).mono ?_
                    rintro e v8 ⟨A16, c16, rfl, hown6, b6⟩
                    have hV9 := hV8.step b6
                    clear hV8 b6 hown6
                    go_wp2_with fail
                    go_roundw
                    case rel => exact ⟨i + 1, by omega, by omega, by go_num, hV9⟩
                    case measure => simp [intOf]; omega
                  · skip
                    have hd0 : decide (i ≤ n) = true := by simp; omega
                    have hd1 : decide (1 ≤ n) = true := by simp; omega
                    have hd2 : decide (n ≤ (N : Int)) = true := by simp; omega
                    have hd3 : decide (0 ≤ i) = false := by simp; omega
                    go_wp2_with fail
                    refine (Path_no S lb es _ _ _ hV.1 (by rw [HN.out]; omega)).mono ?_
                    rintro e w8 ⟨A6, c6, rfl, hown6, b6⟩
                    have hV8 := hV.step b6
                    clear hV b6 hown6
                    go_wp2_with fail
                    refine (Link_no S lb es _ _ _ hV8.1 (by rw [HN.out]; omega)).mono ?_
                    rintro e v8 ⟨A16, c16, rfl, hown6, b6⟩
                    have hV9 := hV8.step b6
                    clear hV8 b6 hown6
                    go_wp2_with fail
                    go_roundw
                    case rel => exact ⟨i + 1, by omega, by omega, by go_num, hV9⟩
                    case measure => simp [intOf]; omega
        · have hd : decide (i ≤ n) = false := by simpa using hin
          go_wp2_with fail
          go_roundw
          case rel => exact ⟨n + 1, by omega, by omega, by go_num, hV⟩
          case measure => simp [intOf]; omega
    · have hd : decide (n ≤ (N : Int) + 1) = false := by simpa using hlt
      by_cases hg : 0 ≤ a1 ∧ a1 ≤ a2 ∧ a2 ≤ (N : Int)
      · by_cases hg2 : a1 < a2
        · obtain ⟨n', rfl⟩ : ∃ n' : Nat, a2 = (n' : Int) := ⟨a2.toNat, by omega⟩
          obtain ⟨i', rfl⟩ : ∃ i' : Nat, a1 = (i' : Int) := ⟨a1.toNat, by omega⟩
          go_wp2_with fail
          refine (Path_yes S lb es i' n' _ hV.1 (by rw [HN.out]; omega) (by omega)).mono ?_
          rintro e w6 ⟨A6, c6, rfl, hown6, b6⟩
          have hV6 := hV.step b6
          clear hV b6 hown6
          go_wp2_with fail
          refine (Link_yes S lb es i' n' _ hV6.1 (by rw [HN.out]; omega) (by omega)).mono ?_
          rintro e w7 ⟨A7, c7, rfl, hown7, b7⟩
          have hV7 := hV6.step b7
          clear hV6 b7 hown7
          go_wp2_with fail
          refine (lives_any _).mono ?_
          rintro e w8 ⟨rfl, b8⟩
          go_wp2_with fail
          go_ret
          exact ⟨rfl, (hV7.step b8).2.2⟩
        · obtain ⟨n', rfl⟩ : ∃ n' : Nat, a2 = (n' : Int) := ⟨a2.toNat, by omega⟩
          obtain ⟨i', rfl⟩ : ∃ i' : Nat, a1 = (i' : Int) := ⟨a1.toNat, by omega⟩
          go_wp2_with fail
          refine (Path_no S lb es _ _ _ hV.1 (by rw [HN.out]; omega)).mono ?_
          rintro e w6 ⟨A6, c6, rfl, hown6, b6⟩
          have hV6 := hV.step b6
          clear hV b6 hown6
          go_wp2_with fail
          refine (Link_yes S lb es i' n' _ hV6.1 (by rw [HN.out]; omega) (by omega)).mono ?_
          rintro e w7 ⟨A7, c7, rfl, hown7, b7⟩
          have hV7 := hV6.step b7
          clear hV6 b7 hown7
          go_wp2_with fail
          refine (lives_any _).mono ?_
          rintro e w8 ⟨rfl, b8⟩
          go_wp2_with fail
          go_ret
          exact ⟨rfl, (hV7.step b8).2.2⟩
      · go_wp2_with fail
        refine (Path_no S lb es _ _ _ hV.1 (by rw [HN.out]; omega)).mono ?_
        rintro e w6 ⟨A6, c6, rfl, hown6, b6⟩
        have hV6 := hV.step b6
        clear hV b6 hown6
        go_wp2_with fail
        refine (Link_no S lb es _ _ _ hV6.1 (by rw [HN.out]; omega)).mono ?_
        rintro e w7 ⟨A7, c7, rfl, hown7, b7⟩
        have hV7 := hV6.step b7
        clear hV6 b7 hown7
        go_wp2_with fail
        refine (lives_any _).mono ?_
        rintro e w8 ⟨rfl, b8⟩
        go_wp2_with fail
        go_ret
        exact ⟨rfl, (hV7.step b8).2.2⟩

end Go.Proofs.Ytliconagelemdaa
