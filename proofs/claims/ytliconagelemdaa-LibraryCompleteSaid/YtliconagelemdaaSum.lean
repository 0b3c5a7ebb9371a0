/- The contract of hash.Sum: for every label and every list of integers (within a bound on their lengths) it returns sumZ; nothing that lay has turned. -/
import Derived.Lib.ConvBytes
import Derived.Test.YtliconagelemdaaWords
namespace Go.Proofs.Ytliconagelemdaa
open Go.RowKit Go.Shelf

attribute [local go_sem] Oper.semAt_some

theorem bytesWorld_below {B : Nat} {w w' : World} (e : TypeId) (s : ByteArray) (h : Below B w w') (hB : B ≤ w'.heap.size) : Below B w (Lib.bytesWorld w' e s) :=
  h.trans ⟨rfl, rfl, rfl, by rw [Lib.bytesWorld_size]; omega, fun k hk => Lib.bytesWorld_at_old w' e s k (by omega)⟩

theorem strZ_get (s : ByteArray) (j : Nat) (hj : j < s.size) : ((s.data.toList.getD j 0).toNat : Int) = (strZ s)[j]?.getD 0 := by
  have : j < s.data.toList.length := by simpa using hj
  simp only [strZ, List.getD_eq_getElem?_getD, List.getElem?_map, List.getElem?_eq_getElem this, Option.map_some, Option.getD_some]

theorem bytesWorld_ints (w : World) (e : TypeId) (s : ByteArray) : Ints .u8 (Lib.bytesWorld w e s) (w.heap.size + 1) (some ⟨w.heap.size, 0, none⟩) s.size (strZ s) := by
  refine ⟨strZ_length s, fun _ => ⟨w.heap.size, 0, rfl, by omega, fun j hj => ?_⟩⟩
  rw [Nat.zero_add, Lib.bytesWorld_cell w e s j hj, strZ_get s j hj]

set_option maxRecDepth 100000 in
set_option maxHeartbeats 2000000 in
theorem sum_any (s : ByteArray) (hs : s.size ≤ 1000000) (A : Option Addr) (len cap : Nat) (zs : List Int) (hlen : len ≤ 1000000) (w : World) (hI : Ints .i64 w w.heap.size A len zs) :
    Calls Try.prog 21 #[.string s, .slice A len cap] w fun e w' => e = .returned (.int .u64 (sumZ (strZ s) zs)) ∧ Below w.heap.size w w' := by
  refine (callsIn_wide (n := 6)).1 ?_
  have hconv := fun wx => Lib.run_convert_string_bytes (P := Try.prog) wx 9 39 5 s Try.underlying9 Try.underlying39 Try.underlying5
  refine callsIn_of_wp_marks Try.func21 rfl trivial ?_ rfl
  simp only [Try.ntmps21, List.size_toArray, List.length_cons, List.length_nil, Nat.reduceAdd, Nat.reduceSub, Array.replicate_succ, Array.replicate_zero, List.push_toArray, List.append_toArray, List.nil_append, List.cons_append]
  gi_wp2_with fail
  refine ⟨trivial, ?_⟩
  clear hconv
  obtain ⟨cap0, hcap0⟩ : ∃ cap0, grownCap (w.alloc (.cells #[.int .u64 0] 40)) s.size 0 5 = cap0 := ⟨_, rfl⟩
  rw [hcap0]
  clear hcap0
  refine (wordsOf_in Fence.wide 5 trivial rfl _ _ _ _).mono ?_
  rintro e w' ⟨rfl, rfl⟩
  gi_wp2_with fail
  have hz1 : (Lib.bytesWorld (w.alloc (.cells #[.int .u64 0] 40)) 5 s).heap.size = w.heap.size + 2 := by rw [Lib.bytesWorld_size]; simp
  rw [hz1]
  have bS : Boxed (Lib.bytesWorld (w.alloc (.cells #[.int .u64 0] 40)) 5 s) w.heap.size 40 (.int .u64 0) := (Lib.bytesWorld_at_old _ _ _ _ (by simp)).trans (Boxed.new w 40 (.int .u64 0))
  have hIs := bytesWorld_ints (w.alloc (.cells #[.int .u64 0] 40)) 5 s
  have hB0 : Below w.heap.size w (Lib.bytesWorld (w.alloc (.cells #[.int .u64 0] 40)) 5 s) := (Below.refl _ w).alloc (Nat.le_refl _) _ |>.trans (bytesWorld_below _ _ (Below.refl _ _) (by simp))
  rw [World.size_alloc] at hIs
  obtain ⟨W1, hW1⟩ : ∃ W1, Lib.bytesWorld (w.alloc (.cells #[.int .u64 0] 40)) 5 s = W1 := ⟨_, rfl⟩
  rw [hW1] at hz1 bS hIs hB0 ⊢
  clear hW1
  have bN := Boxed.new W1 39 (.slice (some ⟨w.heap.size + 1, 0, none⟩) s.size cap0)
  rw [hz1] at bN
  have bS2 := bS.alloc (.cells #[.slice (some ⟨w.heap.size + 1, 0, none⟩) s.size cap0] 39)
  have hB2 : Below w.heap.size w (W1.alloc (.cells #[.slice (some ⟨w.heap.size + 1, 0, none⟩) s.size cap0] 39)) := hB0.alloc (by omega) _
  have hI2 : Ints .u8 (W1.alloc (.cells #[.slice (some ⟨w.heap.size + 1, 0, none⟩) s.size cap0] 39)) (w.heap.size + 2) (some ⟨w.heap.size + 1, 0, none⟩) s.size (strZ s) := hIs.below ((Below.refl _ _).alloc (by omega) _)
  have hz2 : (W1.alloc (.cells #[.slice (some ⟨w.heap.size + 1, 0, none⟩) s.size cap0] 39)).heap.size = w.heap.size + 3 := by simp [hz1]
  obtain ⟨W0, hW0⟩ : ∃ W0, W1.alloc (.cells #[.slice (some ⟨w.heap.size + 1, 0, none⟩) s.size cap0] 39) = W0 := ⟨_, rfl⟩
  rw [hW0] at bN bS2 hB2 hI2 hz2 ⊢
  clear hW0 hIs hB0 bS hz1
  refine wpIn_rangeFunc_ownG rfl (by decide) (gf := 54) (lb := #[.pointer (some ⟨w.heap.size + 2, 0, none⟩)]) rfl trivial (enters_of Try.func54 (by kernel_rfl) rfl)
    (words_stops Fence.wide 5 trivial rfl (by decide) (w.heap.size + 2) s.size cap0 _ (strZ s) (by omega) (strZ_byt s) (fun k => k = w.heap.size + 1 ∨ k = w.heap.size + 2) (.inr rfl) (fun _ b off e => by cases e; exact .inl rfl) W0 bN.cell (by omega) (hI2.more (by omega)))
    KeepB.trans (KeepB.put (by rw [hz2]; omega)) (Below.refl _ _) (fun _ => rfl)
    (fun pre W => Boxed W w.heap.size 40 (.int .u64 (runZ 0 pre)) ∧ Below w.heap.size w W)
    (fun _ _ _ => False)
    (OwnFrom.and (Own.from (boxed_own _ _ _) _) (ownFrom_below (Nat.le_refl _) (by rw [hz2]; omega)))
    (fun _ _ _ _ _ hs _ _ => hs)
    ⟨bS2, hB2⟩
    (fun x => { tmps := #[.string s, .slice A len cap, undef, undef, .int .u64 0, .pointer (some ⟨w.heap.size, 0, none⟩), .int .u64 x, undef, undef, .string s, .slice (some ⟨w.heap.size + 1, 0, none⟩) s.size cap0, .func (.func 54) #[] #[.pointer (some ⟨w.heap.size + 2, 0, none⟩)], .int .u64 x, undef, undef, undef, undef, undef, undef, undef, undef, undef, undef, undef, undef, undef, undef, undef, undef, undef, undef, undef, undef, undef, undef, undef, undef, undef, undef], defers := [] }) ?assign ?body ?done ?stop
  case assign =>
    intro l x W K hK
    gi_wp2
    exact hK
  case body =>
    rintro l pre x W ⟨hb, hB⟩ _
    have hc := hb.cell
    have hf := hb.frozen
    gi_wp2_with (refine ⟨trivial, ?_⟩; gi_at_call 41; refine (CallsIn.inRound l (callsIn_wide.2 (mix_any _ _ _))).mono ?_; rintro e w' ⟨rfl, rfl⟩)
    exact ⟨(KeepsOthers.setCell _ _ _).from _, fun k hk => Below.heap_setCell _ _ _ _ (by show k ≠ w.heap.size; omega), by rw [runZ_snoc]; exact hb.set _, hB.setCell (p := ⟨w.heap.size, 0, none⟩) (Nat.le_refl _) _⟩
  case done =>
    rintro D ys W hD rfl ⟨hb, hB⟩ hK
    have hc := hb.cell
    have hf := hb.frozen
    have HL := Lib.hid (strZ_length s)
    obtain ⟨s0, hs0⟩ : ∃ s0, runZ 0 (wordsZ (strZ s)) = s0 := ⟨_, rfl⟩
    rw [hs0] at hb hc
    have HS := Lib.hid hs0
    clear hs0
    gi_wp2_with (refine ⟨trivial, ?_⟩; gi_at_call 41; refine (callsIn_wide.2 (mix_any _ _ _)).mono ?_; rintro e w' ⟨rfl, rfl⟩)
    have hb2 := (hb.set (.int .u64 (mixZ s0 (s.size : Int)))).set (.int .u64 (mixZ (mixZ s0 (s.size : Int)) (len : Int)))
    have hB2' := (hB.setCell (p := ⟨w.heap.size, 0, none⟩) (Nat.le_refl _) (.int .u64 (mixZ s0 (s.size : Int)))).setCell (p := ⟨w.heap.size, 0, none⟩) (Nat.le_refl _) (.int .u64 (mixZ (mixZ s0 (s.size : Int)) (len : Int)))
    have hK2 := (KeepsOthers.setCell _ ⟨w.heap.size, 0, none⟩ (.int .u64 (mixZ (mixZ s0 (s.size : Int)) (len : Int)))).same D _ ((KeepsOthers.setCell W ⟨w.heap.size, 0, none⟩ (.int .u64 (mixZ s0 (s.size : Int)))).same D _ hK rfl) rfl
    obtain ⟨s2, hs2⟩ : ∃ s2, mixZ (mixZ s0 (s.size : Int)) (len : Int) = s2 := ⟨_, rfl⟩
    obtain ⟨W2, hW2⟩ : ∃ W2, (W.setCell ⟨w.heap.size, 0, none⟩ (.int .u64 (mixZ s0 (s.size : Int)))).setCell ⟨w.heap.size, 0, none⟩ (.int .u64 (mixZ (mixZ s0 (s.size : Int)) (len : Int))) = W2 := ⟨_, rfl⟩
    rw [hW2] at hb2 hB2' hK2 ⊢
    rw [hs2] at hb2 ⊢
    have HS2 := Lib.hid hs2
    clear hs2 hW2 hb hB hK hc hf
    gi_loopw [28] (fun i wr => ∃ k : Nat, k ≤ len ∧ i = .int .i64 (k : Int) ∧ Boxed wr w.heap.size 40 (.int .u64 (runZ s2 ((zs.map IntKind.u64.wrap).take k))) ∧ wr.heap[D]? = some (.deferred (some [])) ∧ Below w.heap.size w wr)
      (fun i _ => len - (intOf i).toNat)
    case atStart => exact ⟨0, Nat.zero_le _, rfl, hb2, hK2, hB2'⟩
    case round =>
      obtain ⟨k, hk, rfl, hb, hK, hB⟩ := hrel
      have hc := hb.cell
      have hf := hb.frozen
      by_cases hlt : k < len
      · obtain ⟨b, off, rfl, hblt, hcs⟩ := hI.2 (by omega)
        have hcx : wr.cell? ⟨b, off + k, none⟩ = some (.int .i64 (zs[k]?.getD 0)) := (hB.cell (p := ⟨b, off + k, none⟩) hblt).trans (hcs k hlt)
        have HT := Lib.hid (take_wrap_snoc zs k (by have := hI.1; omega))
        clear hcs
        gi_wp2_with (refine ⟨trivial, ?_⟩; gi_at_call 41; refine (callsIn_wide.2 (mix_any _ _ _)).mono ?_; rintro e w' ⟨rfl, rfl⟩)
        go_roundw
        case rel => exact ⟨k + 1, by omega, by go_num, by rw [HT.out, runZ_snoc]; exact hb.set _, (KeepsOthers.setCell _ _ _).same D _ hK rfl, hB.setCell (p := ⟨w.heap.size, 0, none⟩) (Nat.le_refl _) _⟩
        case measure => simp [intOf]; omega
      · have HT := Lib.hid (show (zs.map IntKind.u64.wrap).take k = zs.map IntKind.u64.wrap from by rw [List.take_of_length_le (by have := hI.1; simp; omega)])
        gi_wp2_with (refine ⟨trivial, ?_⟩; gi_at_call 41; refine (callsIn_wide.2 (mix_any _ _ _)).mono ?_; rintro e w' ⟨rfl, rfl⟩)
        refine ⟨by simp, .inl ⟨_, _, rfl, run_takeDeferred hK, ?_⟩⟩
        refine ⟨_, results_tmp rfl _ _ _, ?_, hB.trans (belowK_b (w := w) (Nat.le_refl _) wr D _ _ (by omega) hK rfl rfl)⟩
        show Ending.returned (.int .u64 (mixZ (runZ s2 ((zs.map IntKind.u64.wrap).take k)) 0)) = _
        rw [HT.out, ← HS2.out, ← HS.out]
        unfold sumZ
        rw [HL.out, hI.1]
  case stop =>
    rintro D c pre W _ _ h _
    exact h.elim
end Go.Proofs.Ytliconagelemdaa
