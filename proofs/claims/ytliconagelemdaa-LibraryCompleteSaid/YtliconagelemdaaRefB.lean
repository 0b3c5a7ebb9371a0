/- The reference's Bytes: what it computes is what hash.Bytes computes. -/
import Derived.Test.YtliconagelemdaaRef
namespace Go.Proofs.Ytliconagelemdaa
open Go.RowKit Go.Shelf

theorem ints_new (k : IntKind) (w : World) (zs : List Int) (t : TypeId) : Ints k (w.alloc (.cells (zs.map (Value.int k)).toArray t)) (w.heap.size + 1) (some ⟨w.heap.size, 0, none⟩) zs.length zs := by
  refine ⟨rfl, fun _ => ⟨w.heap.size, 0, rfl, by omega, fun j hj => ?_⟩⟩
  have h : (w.alloc (.cells (zs.map (Value.int k)).toArray t)).heap[w.heap.size]? = some (.cells (zs.map (Value.int k)).toArray t) := World.alloc_heap_new w _
  unfold World.cell?
  simp only [Nat.zero_add]
  rw [h]
  simp [List.getElem?_eq_getElem hj]

set_option maxRecDepth 100000 in
set_option maxHeartbeats 2000000 in
theorem refBytes_any (s : ByteArray) (hs : s.size ≤ 1000000) (A : Option Addr) (len cap : Nat) (zs : List Int) (hlen : len ≤ 1000000) (hbyt : Byt zs) (w : World) (hI : Ints .u8 w w.heap.size A len zs) :
    Calls Try.prog 53 #[.string s, .slice A len cap] w fun e w' => e = .returned (.int .u64 (bytesZ (strZ s) zs)) ∧ Below w.heap.size w w' := by
  obtain ⟨i0, hi, hz0, hz1, hz2⟩ := info_parts info_int
  go_enter Try.func53, Try.ntmps53
  go_wp2_with fail
  refine (refWords_any _ _ _ zs hlen hbyt _ hI).mono ?_
  rintro e w2 ⟨v, rfl, hown, hB⟩
  obtain ⟨A1, c1, hv⟩ := own_slice hown
  subst hv
  have hW := Ints.of_own hown
  have hwl := wordsZ_length zs
  have hwl2 : (wordsZ zs).length ≤ 200000 := by have := hI.1; omega
  clear hown hwl
  obtain ⟨ws, hws⟩ : ∃ ws, wordsZ zs = ws := ⟨_, rfl⟩
  rw [hws] at hW hwl2 ⊢
  have HW := Lib.hid hws
  clear hws
  go_wp2_with fail
  go_loopw [6, 7] (fun v i wr => ∃ k : Nat, k ≤ ws.length ∧ i = .int .i64 (k : Int) ∧ wr.ownsRow w2.heap.size 3 1 v k ((ws.map wordV).take k) ∧ Below w2.heap.size w2 wr) (fun _ i _ => ws.length - (intOf i).toNat)
  case atStart => exact ⟨0, Nat.zero_le _, rfl, World.ownsRow_nil _ _ _ _, Below.refl _ _⟩
  case round =>
    obtain ⟨k, hk, rfl, hown, hB2⟩ := hrel
    by_cases hlt : k < ws.length
    · have hd : decide (k < ws.length) = true := by simp; omega
      obtain ⟨b, off, rfl, hblt, hcs⟩ := hW.2 (by omega)
      have hcx : wr.cell? ⟨b, off + k, none⟩ = some (.int .u64 ws[k]) := (hB2.cell (p := ⟨b, off + k, none⟩) hblt).trans ((hcs k hlt).trans (by rw [List.getElem?_eq_getElem hlt]; rfl))
      have HT := Lib.hid (show (ws.map wordV).take (k + 1) = (ws.map wordV).take k ++ [.int .i64 (wrap64 ws[k])] from by rw [List.take_succ_eq_append_getElem (by simpa using hlt), List.getElem_map]; rfl)
      clear hcs
      go_wp2_with (at_builtin; refine wpList_append_own _ rfl _ _ 22 rfl w2.heap.size 3 i0 (.int .i64 0) 1 8 Try.underlying22 hi hz0 hz1 hz2 rfl (by decide) _ _ _ rfl (hown.alloc _) ⟨wr.heap.size, 0, none⟩ 1 1 [.int .i64 (wrap64 ws[k])] rfl rfl (cell_one_new _ _ _) (by simp [Value.oneCell']) (by unfold maxLen; omega) (by omega) (by have := hB2.size; simp; omega) ?_; intro v' w1 hown' hgrow _)
      obtain ⟨_, hb1⟩ := grown_keeps hown hB2.size hgrow
      go_roundw
      case rel => exact ⟨k + 1, by omega, by go_num, by rw [HT.out]; exact hown', hB2.trans hb1⟩
      case measure => simp [intOf]; omega
    · have hd : decide (k < ws.length) = false := by simp; omega
      obtain rfl : k = ws.length := by omega
      rw [List.take_of_length_le (by simp)] at hown
      go_wp2_with (at_builtin; refine wpList_append_own _ rfl _ _ 22 rfl w2.heap.size 3 i0 (.int .i64 0) 1 8 Try.underlying22 hi hz0 hz1 hz2 rfl (by decide) _ _ _ rfl (hown.alloc _) ⟨wr.heap.size, 0, none⟩ 1 1 [.int .i64 (len : Int)] rfl rfl (cell_one_new _ _ _) (by simp [Value.oneCell']) (by unfold maxLen; omega) (by omega) (by have := hB2.size; simp; omega) ?_; intro v' w1 hown' hgrow _; obtain ⟨g', cap', rfl⟩ := ownsRow_succ hown')
      obtain ⟨_, hb1⟩ := grown_keeps hown hB2.size hgrow
      have hI' : Ints .i64 w1 w1.heap.size (some ⟨g', 0, none⟩) (ws.length + 1) (ws.map wrap64 ++ [(len : Int)]) := Ints.of_own (base := w2.heap.size) (e := 3) (c := cap') (by rw [List.map_append, ← wordV_map]; exact hown')
      refine (refSum_any s hs _ _ _ _ (by omega) _ hI').mono ?_
      rintro e w3 ⟨rfl, hb3⟩
      go_wp2
      go_ret
      refine ⟨?_, (hB.trans ((hB2.trans hb1).mono hB.size)).trans (hb3.mono (Nat.le_trans hB.size (hB2.trans hb1).size))⟩
      show Ending.returned (.int .u64 (sumZ (strZ s) (ws.map wrap64 ++ [(len : Int)]))) = _
      unfold bytesZ
      rw [HW.out, hI.1]

end Go.Proofs.Ytliconagelemdaa
