/- The reference's Words, Sum, Bytes and Pair, and hash.Pair: what they compute is what hash computes. -/
import Derived.LoopTactic
import Derived.Lib.MinMax
import Derived.Test.YtliconagelemdaaBytes
namespace Go.Proofs.Ytliconagelemdaa
open Go.RowKit Go.Shelf

theorem info_u64 : (Try.prog.info? 40).map (fun i => (i.zero, i.size, i.bytes)) = some (some (.int .u64 0), 1, 8) := by kernel_rfl

set_option maxRecDepth 100000 in
set_option maxHeartbeats 2000000 in
theorem refWords_any (A : Option Addr) (len cap : Nat) (zs : List Int) (hlen : len ≤ 1000000) (hbyt : Byt zs) (w : World) (hI : Ints .u8 w w.heap.size A len zs) :
    Calls Try.prog 55 #[.slice A len cap] w fun e w' => ∃ v, e = .returned v ∧ w'.ownsRow w.heap.size 40 1 v (wordsZ zs).length ((wordsZ zs).map (Value.int .u64)) ∧ Below w.heap.size w w' := by
  obtain ⟨i0, hi, hz0, hz1, hz2⟩ := info_parts info_u64
  go_enter Try.func55, Try.ntmps55
  go_wp2
  go_loopw [3, 4] (fun v i wr => ∃ k : Nat, k ≤ (len + 7) / 8 ∧ i = .int .i64 (8 * (k : Int)) ∧ wr.ownsRow w.heap.size 40 1 v k ((wordsTo zs k).map (Value.int .u64)) ∧ Below w.heap.size w wr)
    (fun _ i _ => len + 8 - (intOf i).toNat)
  case atStart => exact ⟨0, Nat.zero_le _, rfl, World.ownsRow_nil _ _ _ _, Below.refl _ _⟩
  case round =>
    obtain ⟨j, hj, rfl, hown, hB⟩ := hrel
    by_cases hlt : 8 * j < len
    · have hd : decide (8 * (j : Int) < (len : Int)) = true := by simp; omega
      go_wp2
      obtain ⟨cnt, hcnt⟩ : ∃ cnt, (chunk zs j).length = cnt := ⟨_, rfl⟩
      have hmin : min (8 * (j : Int) + 8) (len : Int) = 8 * (j : Int) + (cnt : Int) := by rw [chunk_length, hI.1] at hcnt; omega
      have hc1 : 1 ≤ cnt := by rw [chunk_length, hI.1] at hcnt; omega
      have hc2 : 8 * j + cnt ≤ len := by rw [chunk_length, hI.1] at hcnt; omega
      rw [hmin]
      clear hmin
      have HC := Lib.hid hcnt
      clear hcnt
      go_loop [5, 6] (fun x k => ∃ m : Nat, m ≤ cnt ∧ k = .int .i64 (8 * (j : Int) + (m : Int) - 1) ∧ x = .int .u64 (leZ ((chunk zs j).drop m)))
        (fun _ k => (intOf k + 1).toNat - 8 * j)
      case atStart => exact ⟨cnt, Nat.le_refl _, rfl, by rw [List.drop_of_length_le (by rw [HC.out]; exact Nat.le_refl _)]; rfl⟩
      case round =>
        obtain ⟨m, hm, rfl, rfl⟩ := hrel
        cases m with
        | zero =>
          have HS := Lib.hid (wordsTo_succ zs j)
          rw [show 8 * (j : Int) + ((0 : Nat) : Int) - 1 = 8 * (j : Int) - 1 from by omega, List.drop_zero]
          go_wp2_with (at_builtin; refine wpList_append_own _ rfl _ _ 25 rfl w.heap.size 40 i0 (.int .u64 0) 1 8 Try.underlying25 hi hz0 hz1 hz2 rfl (by decide) _ _ _ rfl (hown.alloc _) ⟨wr.heap.size, 0, none⟩ 1 1 [.int .u64 (leZ (chunk zs j))] rfl rfl (cell_one_new _ _ _) (by simp [Value.oneCell']) (by unfold maxLen; omega) (by omega) (by have := hB.size; simp; omega) ?_; intro v' w1 hown' hgrow _)
          obtain ⟨_, hb1⟩ := grown_keeps hown hB.size hgrow
          go_roundw
          case rel => exact ⟨j + 1, by omega, by go_num, by rw [HS.out, List.map_append]; exact hown', hB.trans hb1⟩
          case measure => simp [intOf]; omega
        | succ m =>
          obtain ⟨b, off, rfl, hblt, hcs⟩ := hI.2 (by omega)
          have hcx : wr.cell? ⟨b, off + (8 * j + m), none⟩ = some (.int .u8 (zs[8 * j + m]?.getD 0)) := (hB.cell (p := ⟨b, off + (8 * j + m), none⟩) hblt).trans (hcs _ (by omega))
          have HS := Lib.hid (chunk_drop zs j m (by rw [HC.out]; omega))
          have HU := Lib.hid (chunk_U hbyt j m)
          have hby := hbyt.get (8 * j + m)
          clear hcs
          rw [show 8 * (j : Int) + ((m + 1 : Nat) : Int) - 1 = 8 * (j : Int) + (m : Int) from by omega]
          go_wp2
          go_round
          case rel => 
            refine ⟨m, by omega, by go_num, ?_⟩
            rw [horner (by rw [← HS.out]; exact HU.out), ← HS.out]
          case measure => simp [intOf]; omega
    · have hd : decide (8 * (j : Int) < (len : Int)) = false := by simp; omega
      have hjj : j = (zs.length + 7) / 8 := by have := hI.1; omega
      have HJ := Lib.hid (show wordsTo zs j = wordsZ zs ∧ j = (wordsZ zs).length from by rw [hjj, wordsZ_length]; exact ⟨rfl, rfl⟩)
      clear hjj
      go_wp2
      go_ret
      exact ⟨_, rfl, by rw [← HJ.out.1, wordsTo_length]; exact hown, hB⟩

theorem take_snoc_get (zs : List Int) (k : Nat) (h : k < zs.length) : zs.take (k + 1) = zs.take k ++ [zs[k]?.getD 0] := by
  rw [List.take_succ_eq_append_getElem h, List.getElem?_eq_getElem h]
  rfl

set_option maxRecDepth 100000 in
set_option maxHeartbeats 2000000 in
theorem refSum_any (s : ByteArray) (hs : s.size ≤ 1000000) (A : Option Addr) (len cap : Nat) (zs : List Int) (hlen : len ≤ 1000000) (w : World) (hI : Ints .i64 w w.heap.size A len zs) :
    Calls Try.prog 42 #[.string s, .slice A len cap] w fun e w' => e = .returned (.int .u64 (sumZ (strZ s) zs)) ∧ Below w.heap.size w w' := by
  have hconv := fun wx => Lib.run_convert_string_bytes (P := Try.prog) wx 9 39 5 s Try.underlying9 Try.underlying39 Try.underlying5
  have HL := Lib.hid (strZ_length s)
  go_enter Try.func42, Try.ntmps42
  go_wp2_with fail
  clear hconv
  have hB0 : Below w.heap.size w (Lib.bytesWorld w 5 s) := bytesWorld_below _ _ (Below.refl _ _) (Nat.le_refl _)
  refine (refWords_any _ _ _ (strZ s) hs (strZ_byt s) _ ((bytesWorld_ints w 5 s).more (by rw [Lib.bytesWorld_size]; exact Nat.le_refl _))).mono ?_
  rintro e w2 ⟨v, rfl, hown, hb⟩
  have hB : Below w.heap.size w w2 := hB0.trans (hb.mono hB0.size)
  obtain ⟨A1, c1, hv⟩ := own_slice hown
  subst hv
  have hW := Ints.of_own hown
  have hwl := wordsZ_length (strZ s)
  have hwl2 : (wordsZ (strZ s)).length ≤ 1000000 := by rw [HL.out] at hwl; omega
  clear hown hb hB0 hwl
  obtain ⟨ws, hws⟩ : ∃ ws, wordsZ (strZ s) = ws := ⟨_, rfl⟩
  rw [hws] at hW hwl2 ⊢
  have HW := Lib.hid hws
  clear hws
  go_wp2_with fail
  go_loop [5, 7] (fun x i => ∃ k : Nat, k ≤ ws.length ∧ i = .int .i64 (k : Int) ∧ x = .int .u64 (runZ 0 (ws.take k))) (fun _ i => ws.length - (intOf i).toNat)
  case atStart => exact ⟨0, Nat.zero_le _, rfl, rfl⟩
  case round =>
    obtain ⟨k, hk, rfl, rfl⟩ := hrel
    by_cases hlt : k < ws.length
    · have hd : decide (k < ws.length) = true := by simp; omega
      obtain ⟨b, off, rfl, hblt, hcs⟩ := hW.2 (by omega)
      have hcx := hcs k hlt
      have HT := Lib.hid (take_snoc_get ws k hlt)
      clear hcs
      go_wp2_with (go_at_call 56; refine (refMix_any _ _ _).mono ?_; rintro e w' ⟨rfl, rfl⟩)
      go_round
      case rel => exact ⟨k + 1, by omega, by go_num, by rw [HT.out, runZ_snoc, List.getElem?_eq_getElem hlt]; rfl⟩
      case measure => simp [intOf]; omega
    · have hd : decide (k < ws.length) = false := by simp; omega
      have HT := Lib.hid (show runZ 0 (ws.take k) = runZ 0 ws from by rw [List.take_of_length_le (by omega)])
      rw [HT.out]
      clear HT
      go_wp2_with (go_at_call 56; refine (refMix_any _ _ _).mono ?_; rintro e w' ⟨rfl, rfl⟩)
      obtain ⟨s2, hs2⟩ : ∃ s2, mixZ (mixZ (runZ 0 ws) (s.size : Int)) (len : Int) = s2 := ⟨_, rfl⟩
      rw [hs2]
      have HS2 := Lib.hid hs2
      clear hs2
      go_loop [5, 8] (fun x i => ∃ k : Nat, k ≤ len ∧ i = .int .i64 (k : Int) ∧ x = .int .u64 (runZ s2 ((zs.map IntKind.u64.wrap).take k))) (fun _ i => len - (intOf i).toNat)
      case atStart => exact ⟨0, Nat.zero_le _, rfl, rfl⟩
      case round =>
        obtain ⟨k, hk, rfl, rfl⟩ := hrel
        by_cases hlt : k < len
        · obtain ⟨b, off, rfl, hblt, hcs⟩ := hI.2 (by omega)
          have hcx : w2.cell? ⟨b, off + k, none⟩ = some (.int .i64 (zs[k]?.getD 0)) := (hB.cell (p := ⟨b, off + k, none⟩) hblt).trans (hcs k hlt)
          have HT := Lib.hid (take_wrap_snoc zs k (by have := hI.1; omega))
          clear hcs
          go_wp2_with (go_at_call 56; refine (refMix_any _ _ _).mono ?_; rintro e w' ⟨rfl, rfl⟩)
          go_round
          case rel => exact ⟨k + 1, by omega, by go_num, by rw [HT.out, runZ_snoc]⟩
          case measure => simp [intOf]; omega
        · have HT := Lib.hid (show (zs.map IntKind.u64.wrap).take k = zs.map IntKind.u64.wrap from by rw [List.take_of_length_le (by have := hI.1; simp; omega)])
          go_wp2_with (go_at_call 56; refine (refMix_any _ _ _).mono ?_; rintro e w' ⟨rfl, rfl⟩)
          go_ret
          refine ⟨?_, hB⟩
          show Ending.returned (.int .u64 (mixZ (runZ s2 ((zs.map IntKind.u64.wrap).take k)) 0)) = _
          rw [HT.out, ← HS2.out, ← HW.out]
          unfold sumZ
          rw [HL.out, hI.1]
end Go.Proofs.Ytliconagelemdaa
