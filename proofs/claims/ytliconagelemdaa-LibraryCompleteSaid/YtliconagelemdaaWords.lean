/- The iterator hash.wordsOf: it yields the little-endian words of a byte slice, for every loop body that keeps the slice's block and the captured box. -/
import Derived.RangeFuncNested
import Derived.RangeFuncBound
import Derived.RangeFuncCalls
import Derived.RangeFuncLeaves
import Derived.RangeFuncBox
import Derived.Shelf.Abstract
import Derived.Shelf.RegionOpen
import Derived.WalkKit
import Derived.OwnWalkIn
import Derived.TacticsInMore
import Derived.LoopNIn
import Derived.LoopIn
import Derived.Lib.Hide
import Derived.Outline
import Derived.Test.YtliconagelemdaaMem
import Derived.Test.YtliconagelemdaaMix
namespace Go.Proofs.Ytliconagelemdaa
open Go.RowKit Go.Shelf

attribute [local go_sem] Oper.semAt_some

/-- The blocks of bs lie as they lay. -/
def KeepB (bs : Nat → Prop) (W W' : World) : Prop := ∀ k, bs k → W'.heap[k]? = W.heap[k]?
theorem KeepB.refl (bs : Nat → Prop) (W : World) : KeepB bs W W := fun _ _ => rfl
theorem KeepB.trans {bs : Nat → Prop} {A B C : World} (h : KeepB bs A B) (k : KeepB bs B C) : KeepB bs A C := fun i hi => (k i hi).trans (h i hi)
theorem KeepB.cell {bs : Nat → Prop} {A B : World} (h : KeepB bs A B) {p : Addr} (hp : bs p.block) : B.cell? p = A.cell? p := World.cell?_of_block (h p.block hp)
theorem KeepB.put {bs : Nat → Prop} {w : World} (hn : ∀ k, bs k → k < w.heap.size) (W : World) (l : Nat) (o o' : Obj) (hl : w.heap.size ≤ l) (_ : W.heap[l]? = some o) (_ : o.isCells = false) (_ : o.isWalk = false) : KeepB bs W (W.putObj l o') :=
  fun k hk => World.putObj_heap_other (fun e => by have := hn k hk; omega)

set_option maxRecDepth 100000 in
set_option maxHeartbeats 2000000 in
theorem words1_in (F : Fence) (n : Nat) (h28 : F.fn 54) (hro : F.round = none) (hn : 1 ≤ n) (l Bs len cap : Nat) (A : Option Addr) (zs : List Int) (hreach : len ≤ 140737488351232) (hbyt : Byt zs) (bs : Nat → Prop) (hbs : bs Bs) (hba : 0 < len → ∀ b off, A = some ⟨b, off, none⟩ → bs b) (J Jx : List Int → World → Prop)
    (hY : ∀ pre x W, J pre W → pre.length < (len + 7) / 8 → YieldAt F (n - 1) Try.prog l #[.int .u64 x] W fun e W' =>
      (e = .returned (.bool true) ∧ J (pre ++ [x]) W' ∧ KeepB bs W W') ∨ (e = .returned (.bool false) ∧ Jx (pre ++ [x]) W'))
    (W : World) (hBs : W.cell? ⟨Bs, 0, none⟩ = some (.slice A len cap)) (B : Nat) (hI : Ints .u8 W B A len zs) (h0 : J [] W) :
    CallsIn F n Try.prog 54 #[.func (.yield l) #[] #[], .pointer (some ⟨Bs, 0, none⟩)] W fun e W' => (∃ v, e = .returned v) ∧
      ((∃ ys, ys = wordsZ zs ∧ J ys W') ∨ (∃ pre, (∃ k, pre = wordsTo zs k) ∧ Jx pre W')) := by
  refine callsIn_of_wp Try.func54 rfl h28 ?_ hro
  simp only [Try.ntmps54, List.size_toArray, List.length_cons, List.length_nil, Nat.reduceAdd, Nat.reduceSub, Array.replicate_succ, Array.replicate_zero, List.push_toArray, List.append_toArray, List.nil_append, List.cons_append]
  gi_wp2
  gi_loopw [3] (fun i wr => ∃ k : Nat, k ≤ (len + 7) / 8 ∧ i = .int .i64 (8 * (k : Int)) ∧ J (wordsTo zs k) wr ∧ KeepB bs W wr)
    (fun i _ => len + 8 - (intOf i).toNat)
  case atStart => exact ⟨0, Nat.zero_le _, rfl, h0, KeepB.refl _ _⟩
  case round =>
    obtain ⟨j, hj, rfl, hJs, hnx⟩ := hrel
    have hBx : wr.cell? ⟨Bs, 0, none⟩ = some (.slice A len cap) := (hnx.cell (p := ⟨Bs, 0, none⟩) hbs).trans hBs
    by_cases hlt : 8 * j < len
    · have hd : decide (8 * (j : Int) < (len : Int)) = true := by simp; omega
      gi_wp2
      gi_loop [4, 5] (fun x k => ∃ m : Nat, m ≤ 8 ∧ 8 * j + m ≤ len ∧ k = .int .i64 (m : Int) ∧ x = .int .u64 (leZ ((zs.drop (8 * j)).take m)))
        (fun _ k => 8 - (intOf k).toNat)
      case atStart => exact ⟨0, by omega, by omega, rfl, rfl⟩
      case round =>
        obtain ⟨m, hm8, hml, rfl, rfl⟩ := hrel
        by_cases hin : m < 8 ∧ 8 * j + m < len
        · obtain ⟨hin1, hin2⟩ := hin
          obtain ⟨b, off, rfl, _, hc⟩ := hI.2 (by omega)
          have hcx : wr.cell? ⟨b, off + (8 * j + m), none⟩ = some (.int .u8 (zs[8 * j + m]?.getD 0)) := (hnx.cell (p := ⟨b, off + (8 * j + m), none⟩) (hba (by omega) b off rfl)).trans (hc _ hin2)
          have hby := hbyt.get (8 * j + m)
          have HS := Lib.hid (or_byte _ _ m hin1 (show 0 ≤ leZ ((zs.drop (8 * j)).take m) ∧ leZ ((zs.drop (8 * j)).take m) < 256 ^ m from by
            have h1 := leZ_lt ((hbyt.drop (8 * j)).take m)
            rwa [show ((zs.drop (8 * j)).take m).length = m from by have := hI.1; simp; omega] at h1) hby)
          have HT := Lib.hid (take_drop_snoc zs (8 * j) m (by have := hI.1; omega))
          have HL := Lib.hid (show ((zs.drop (8 * j)).take m).length = m from by have := hI.1; simp; omega)
          clear hc hY hJs
          gi_wp2
          go_round
          case rel =>
            refine ⟨m + 1, by omega, by omega, by go_num, ?_⟩
            rw [HS.out, HT.out, leZ_snoc, HL.out]
          case measure => simp [intOf]; omega
        · have HW := Lib.hid (show (zs.drop (8 * j)).take m = (zs.drop (8 * j)).take 8 from by
            have hl := hI.1
            by_cases h8 : m = 8
            · rw [h8]
            · rw [List.take_of_length_le (by simp; omega), List.take_of_length_le (by simp; omega)])
          have HJ := Lib.hid (show wordsTo zs (j + 1) = wordsTo zs j ++ [leZ ((zs.drop (8 * j)).take m)] from by rw [wordsTo_succ, HW.out]; rfl)
          clear HW
          have hin' : ¬ ((m : Int) < 8) ∨ ((m : Int) < 8 ∧ ¬ (8 * (j : Int) + (m : Int) < (len : Int))) := by omega
          clear hin
          obtain ⟨fn, tmps, assign, body, hy, hR⟩ := hY _ (leZ ((zs.drop (8 * j)).take m)) wr hJs (by rw [wordsTo_length]; omega)
          rcases hin' with h9 | ⟨h8, h9⟩
          all_goals
            gi_wp2
            refine hR.mono ?_
            rintro e W3 (⟨rfl, hJ3, hk3⟩ | ⟨rfl, hJx3⟩)
            · gi_wp2
              go_roundw
              case rel => exact ⟨j + 1, by omega, by go_num, by rw [HJ.out]; exact hJ3, hnx.trans hk3⟩
              case measure => simp [intOf]; omega
            · gi_wp2
              refine bodyPost_ret (results_none rfl _ _ _) rfl ?_
              exact ⟨⟨_, rfl⟩, .inr ⟨_, ⟨j + 1, HJ.out.symm⟩, hJx3⟩⟩
    · have hd : decide (8 * (j : Int) < (len : Int)) = false := by simp; omega
      have hjj : j = (zs.length + 7) / 8 := by have := hI.1; omega
      have HJ := Lib.hid (show wordsTo zs j = wordsZ zs from by rw [hjj]; rfl)
      clear hjj
      gi_wp2
      go_end0
      exact ⟨⟨_, rfl⟩, .inl ⟨_, rfl, by rw [← HJ.out]; exact hJs⟩⟩

set_option maxHeartbeats 1000000 in
/-- hash.wordsOf: the slice is boxed; the function value captures the box. -/
theorem wordsOf_in (F : Fence) (n : Nat) (h25 : F.fn 40) (hro : F.round = none) (A : Option Addr) (len cap : Nat) (w : World) :
    CallsIn F n Try.prog 40 #[.slice A len cap] w fun e w' => e = .returned (.func (.func 54) #[] #[.pointer (some ⟨w.heap.size, 0, none⟩)]) ∧ w' = w.alloc (.cells #[.slice A len cap] 39) := by
  refine callsIn_of_wp Try.func40 rfl h25 ?_ hro
  simp only [Try.ntmps40, List.size_toArray, List.length_cons, List.length_nil, Nat.reduceAdd, Nat.reduceSub, Array.replicate_succ, Array.replicate_zero, List.push_toArray, List.append_toArray, List.nil_append, List.cons_append]
  gi_wp2
  go_ret
  exact ⟨rfl, rfl⟩

/-- The iterator's contract. -/
theorem words_stops (F : Fence) (n : Nat) (h28 : F.fn 54) (hro : F.round = none) (hn : 1 ≤ n) (Bs len cap : Nat) (A : Option Addr) (zs : List Int) (hreach : len ≤ 140737488351232) (hbyt : Byt zs) (bs : Nat → Prop) (hbs : bs Bs) (hba : 0 < len → ∀ b off, A = some ⟨b, off, none⟩ → bs b)
    (w : World) (hBs : w.cell? ⟨Bs, 0, none⟩ = some (.slice A len cap)) (hBlt : Bs < w.heap.size) (hI : Ints .u8 w w.heap.size A len zs) :
    SeqStopsK F n Try.prog 54 #[.pointer (some ⟨Bs, 0, none⟩)] (fun x : Int => #[Value.int .u64 x]) (KeepB bs) (fun ys => ys = wordsZ zs) (fun pre => ∃ k, pre = wordsTo zs k) ((len + 7) / 8) w := fun l J Jx W hW _ _ hY h0 =>
  words1_in F n h28 hro hn l Bs len cap A zs hreach hbyt bs hbs hba J Jx hY W ((hW.cell (p := ⟨Bs, 0, none⟩) hBlt).trans hBs) _ (hI.below hW) h0

end Go.Proofs.Ytliconagelemdaa
