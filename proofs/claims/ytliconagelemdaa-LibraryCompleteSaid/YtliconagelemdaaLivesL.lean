/- lives answers true. -/
import Derived.Test.YtliconagelemdaaEnts2
namespace Go.Proofs.Ytliconagelemdaa
open Go.RowKit Go.Shelf
set_option linter.unusedVariables false

attribute [local go_sem ↓] Go.wp_at_zero Go.wp_at_succ

theorem three_rows (w : World) : RowsIn ((((w.alloc (.cells #[.int .u8 7] 5)).alloc (.cells #[.int .u8 8] 5)).alloc (.cells #[.int .u8 9] 5)).alloc (.cells #[.slice (some ⟨w.heap.size, 0, none⟩) 1 1, .slice (some ⟨w.heap.size + 1, 0, none⟩) 1 1, .slice (some ⟨w.heap.size + 1 + 1, 0, none⟩) 1 1] 39))
    (w.heap.size + 1 + 1 + 1 + 1) (some ⟨w.heap.size + 1 + 1 + 1, 0, none⟩) 3 [[7], [8], [9]] := by
  have h1 := ints_new .u8 w [7] 5
  have h2 := ints_new .u8 (w.alloc (.cells #[.int .u8 7] 5)) [8] 5
  have h3 := ints_new .u8 ((w.alloc (.cells #[.int .u8 7] 5)).alloc (.cells #[.int .u8 8] 5)) [9] 5
  simp only [World.size_alloc] at h2 h3
  have hn : ∀ {W : World} {B : Nat} {k : IntKind} {A : Option Addr} {n : Nat} {zs : List Int} (o : Obj), Ints k W B A n zs → B ≤ W.heap.size → Ints k (W.alloc o) B A n zs := fun o h hB => h.below ((Below.refl _ _).alloc hB _)
  have k1 := hn (.cells #[.slice (some ⟨w.heap.size, 0, none⟩) 1 1, .slice (some ⟨w.heap.size + 1, 0, none⟩) 1 1, .slice (some ⟨w.heap.size + 1 + 1, 0, none⟩) 1 1] 39) (hn (.cells #[.int .u8 9] 5) (hn (.cells #[.int .u8 8] 5) h1 (by simp)) (by simp)) (by simp)
  have k2 := hn (.cells #[.slice (some ⟨w.heap.size, 0, none⟩) 1 1, .slice (some ⟨w.heap.size + 1, 0, none⟩) 1 1, .slice (some ⟨w.heap.size + 1 + 1, 0, none⟩) 1 1] 39) (hn (.cells #[.int .u8 9] 5) h2 (by simp)) (by simp)
  have k3 := hn (.cells #[.slice (some ⟨w.heap.size, 0, none⟩) 1 1, .slice (some ⟨w.heap.size + 1, 0, none⟩) 1 1, .slice (some ⟨w.heap.size + 1 + 1, 0, none⟩) 1 1] 39) h3 (by simp)
  have hh := World.alloc_heap_new (((w.alloc (.cells #[.int .u8 7] 5)).alloc (.cells #[.int .u8 8] 5)).alloc (.cells #[.int .u8 9] 5)) (.cells #[.slice (some ⟨w.heap.size, 0, none⟩) 1 1, .slice (some ⟨w.heap.size + 1, 0, none⟩) 1 1, .slice (some ⟨w.heap.size + 1 + 1, 0, none⟩) 1 1] 39)
  simp only [World.size_alloc] at hh
  refine ⟨rfl, fun _ => ⟨_, 0, rfl, by omega, fun j hj => ?_⟩⟩
  have hm : (1 : Nat) ≤ maxLen := by unfold maxLen; omega
  match j, hj with
  | 0, _ => exact ⟨_, 1, 1, by unfold World.cell?; rw [hh]; rfl, Nat.le_refl _, hm, k1.more (by omega)⟩
  | 1, _ => exact ⟨_, 1, 1, by unfold World.cell?; rw [hh]; rfl, Nat.le_refl _, hm, k2.more (by omega)⟩
  | 2, _ => exact ⟨_, 1, 1, by unfold World.cell?; rw [hh]; rfl, Nat.le_refl _, hm, k3.more (by omega)⟩

theorem Below.step {A B C : World} (h : Below A.heap.size A B) (k : Below B.heap.size B C) : Below A.heap.size A C := h.trans (k.mono h.size)
theorem Below.made {A C : World} {o : Obj} (k : Below (A.alloc o).heap.size (A.alloc o) C) : Below A.heap.size A C := Below.step ((Below.refl _ A).alloc (Nat.le_refl _) o) k
theorem Below.then {n : Nat} {A B C : World} (h : Below n A B) (hn : n ≤ A.heap.size) (k : Below B.heap.size B C) : Below n A C := h.trans (k.mono (Nat.le_trans hn h.size))

theorem byt_one {n : Int} (h : 0 ≤ n ∧ n < 256) : Byt [n] := fun z hz => by
  have := List.mem_singleton.1 hz
  omega
theorem three_byt : ∀ e ∈ ([[7], [8], [9]] : List (List Int)), Byt e ∧ e.length ≤ 65536 := by
  intro e he
  simp at he
  rcases he with rfl | rfl | rfl
  · exact ⟨byt_one (by decide), by decide⟩
  · exact ⟨byt_one (by decide), by decide⟩
  · exact ⟨byt_one (by decide), by decide⟩

theorem live_root (a b c : Int) : rootL [a, b] = nodeZ (leafZ a) (leafZ b) := rfl
theorem live_path2 (a b c : Int) : pathL [a, b, c] 2 = [nodeZ (leafZ a) (leafZ b)] := rfl
theorem live_path0 (a b c : Int) : pathL [a, b, c] 0 = [leafZ b, leafZ c] := rfl
theorem live_link (a b c : Int) : linkZ [a, b, c] 2 = [leafZ c] := rfl

set_option maxRecDepth 100000 in
set_option maxHeartbeats 4000000 in
theorem lives_any (w : World) : Calls Try.prog 17 #[] w fun e w' => e = .returned (.bool true) ∧ Below w.heap.size w w' := by
  go_enter Try.func17, Try.ntmps17
  go_wp2_with fail
  refine (tree_any _ 3 3 [[7], [8], [9]] _ (by omega) three_byt (by simpa using three_rows w)).mono ?_
  rintro e w1 ⟨lb, rfl, hL, b1⟩
  have B1 : Below w.heap.size w w1 := Below.made (Below.made (Below.made (Below.made b1)))
  clear b1
  go_wp2_with fail
  refine (entryBytes_any _ _ _ [8] (by decide) (byt_one (by decide)) _ (ints_new .u8 w1 [8] 5 |>.more (by simp))).mono ?_
  rintro e w2a ⟨rfl, w2ab⟩
  obtain ⟨n8, h8⟩ : ∃ n, nameZ [8] = n := ⟨_, rfl⟩
  rw [h8]
  go_wp2_with fail
  refine (leafSum_any _ _ n8 _ (ints_new .i64 w2a [wrap64 n8] 3 |>.more (by simp))).mono ?_
  rintro e w2 ⟨rfl, w2b⟩
  obtain ⟨l8, k8⟩ : ∃ l, leafZ n8 = l := ⟨_, rfl⟩
  rw [k8]
  have Bw2 : Below w1.heap.size w1 w2 := Below.step (Below.made w2ab) (Below.made w2b)
  clear w2ab w2b
  go_wp2_with fail
  refine (entryBytes_any _ _ _ [9] (by decide) (byt_one (by decide)) _ (ints_new .u8 w2 [9] 5 |>.more (by simp))).mono ?_
  rintro e w3a ⟨rfl, w3ab⟩
  obtain ⟨n9, h9⟩ : ∃ n, nameZ [9] = n := ⟨_, rfl⟩
  rw [h9]
  go_wp2_with fail
  refine (leafSum_any _ _ n9 _ (ints_new .i64 w3a [wrap64 n9] 3 |>.more (by simp))).mono ?_
  rintro e w3 ⟨rfl, w3b⟩
  obtain ⟨l9, k9⟩ : ∃ l, leafZ n9 = l := ⟨_, rfl⟩
  rw [k9]
  have Bw3 : Below w2.heap.size w2 w3 := Below.step (Below.made w3ab) (Below.made w3b)
  clear w3ab w3b
  go_wp2_with fail
  refine (entryBytes_any _ _ _ [7] (by decide) (byt_one (by decide)) _ (ints_new .u8 w3 [7] 5 |>.more (by simp))).mono ?_
  rintro e w4a ⟨rfl, w4ab⟩
  obtain ⟨n7, h7⟩ : ∃ n, nameZ [7] = n := ⟨_, rfl⟩
  rw [h7]
  go_wp2_with fail
  refine (leafSum_any _ _ n7 _ (ints_new .i64 w4a [wrap64 n7] 3 |>.more (by simp))).mono ?_
  rintro e w4 ⟨rfl, w4b⟩
  obtain ⟨l7, k7⟩ : ∃ l, leafZ n7 = l := ⟨_, rfl⟩
  rw [k7]
  have Bw4 : Below w3.heap.size w3 w4 := Below.step (Below.made w4ab) (Below.made w4b)
  clear w4ab w4b
  go_wp2_with fail
  refine (nodeSum_any _ _ l7 l8 _ (ints_new .i64 w4 [wrap64 l7, wrap64 l8] 3 |>.more (by simp))).mono ?_
  rintro e w5 ⟨rfl, w5b⟩
  obtain ⟨two, htwo⟩ : ∃ l, nodeZ l7 l8 = l := ⟨_, rfl⟩
  rw [htwo]
  have B5 : Below w1.heap.size w1 w5 := Below.step (Below.step (Below.step Bw2 Bw3) Bw4) (Below.made w5b)
  have hL5 : LibAt w5 (fun k => w.heap.size ≤ k) lb [[7], [8], [9]] := (hL.mono fun k _ hk => by simp at hk; omega).below B5
  have BB : Below w.heap.size w w5 := Below.step B1 B5
  have HP := Lib.hid (show partZ [[7], [8], [9]] 0 3 = [n7, n8, n9] from by rw [← h7, ← h8, ← h9]; rfl)
  have e1 : rootL (partZ [[7], [8], [9]] 0 2) = two := by rw [← htwo, ← k7, ← k8, ← h7, ← h8]; rfl
  have e2 : pathL (partZ [[7], [8], [9]] 0 3) 2 = [two] := by rw [HP.out, live_path2, k7, k8, htwo]
  have e3 : pathL (partZ [[7], [8], [9]] 0 3) 0 = [l8, l9] := by rw [HP.out, live_path0, k8, k9]
  have e4 : linkZ (partZ [[7], [8], [9]] 0 3) 2 = [l9] := by rw [HP.out, live_link, k9]
  have R1 := Root_yes _ lb [[7], [8], [9]] 2 w5 hL5 (by decide)
  rw [e1] at R1
  have R2 := fun W (h : LibAt W (fun k => w.heap.size ≤ k) lb [[7], [8], [9]]) => Path_yes _ lb [[7], [8], [9]] 2 3 W h (by decide) (by decide)
  rw [e2] at R2
  have R3 := fun W (h : LibAt W (fun k => w.heap.size ≤ k) lb [[7], [8], [9]]) => Path_yes _ lb [[7], [8], [9]] 0 3 W h (by decide) (by decide)
  rw [e3] at R3
  have R4 := fun W (h : LibAt W (fun k => w.heap.size ≤ k) lb [[7], [8], [9]]) => Link_yes _ lb [[7], [8], [9]] 2 3 W h (by decide) (by decide)
  rw [e4] at R4
  clear e1 e2 e3 e4 HP h7 h8 h9 k7 k8 k9 htwo hL B1 B5 Bw2 Bw3 Bw4 w5b
  have HR := Lib.hid (And.intro R1 (And.intro R2 (And.intro R3 R4)))
  clear R1 R2 R3 R4
  go_wp2_with fail
  refine HR.out.1.mono ?_
  rintro e w6 ⟨rfl, b6⟩
  have hL6 := hL5.below b6
  have BB6 := Below.step BB b6
  clear hL5 BB b6
  go_wp2_with fail
  refine (HR.out.2.1 _ hL6).mono ?_
  rintro e w7 ⟨A7, c7, rfl, hown7, b7⟩
  have hL7 := hL6.below b7
  have BB7 := Below.step BB6 b7
  have hI7 : Ints .u64 w7 w7.heap.size A7 1 [two] := Ints.of_own hown7
  clear hL6 BB6 b7 hown7
  go_wp2_with fail
  refine (HR.out.2.2.1 _ hL7).mono ?_
  rintro e w8 ⟨A8, c8, rfl, hown8, b8⟩
  have hL8 := hL7.below b8
  have BB8 := Below.step BB7 b8
  have hI8 : Ints .u64 w8 w8.heap.size A8 2 [l8, l9] := Ints.of_own hown8
  have hI78 : Ints .u64 w8 w8.heap.size A7 1 [two] := (hI7.below b8).more b8.size
  clear hL7 BB7 b8 hown8 hI7
  go_wp2_with fail
  refine (HR.out.2.2.2 _ hL8).mono ?_
  rintro e w9 ⟨A9, c9, rfl, hown9, b9⟩
  have BB9 := Below.step BB8 b9
  have hI9 : Ints .u64 w9 w9.heap.size A9 1 [l9] := Ints.of_own hown9
  have hI79 : Ints .u64 w9 w9.heap.size A7 1 [two] := (hI78.below b9).more b9.size
  have hI89 : Ints .u64 w9 w9.heap.size A8 2 [l8, l9] := (hI8.below b9).more b9.size
  clear hL8 BB8 b9 hown9 hI78 hI8 HR
  go_wp2_with fail
  refine (sameU64_any _ _ 1 1 _ _ [two] [two] (by decide) (by decide) _ ((hI79.below ((Below.refl _ w9).alloc (Nat.le_refl _) _)).more (by simp)) (ints_new .u64 w9 [two] 40 |>.more (by simp))).mono ?_
  rintro e w10 ⟨rfl, b10⟩
  rw [sameB_true rfl]
  have b10' := Below.made b10
  have BB10 := Below.step BB9 b10'
  have hI810 : Ints .u64 w10 w10.heap.size A8 2 [l8, l9] := (hI89.below b10').more b10'.size
  have hI910 : Ints .u64 w10 w10.heap.size A9 1 [l9] := (hI9.below b10').more b10'.size
  clear BB9 b10 b10' hI89 hI9 hI79
  go_wp2_with fail
  refine (sameU64_any _ _ 2 2 _ _ [l8, l9] [l8, l9] (by decide) (by decide) _ ((hI810.below ((Below.refl _ w10).alloc (Nat.le_refl _) _)).more (by simp)) (ints_new .u64 w10 [l8, l9] 40 |>.more (by simp))).mono ?_
  rintro e w11 ⟨rfl, b11⟩
  rw [sameB_true rfl]
  have b11' := Below.made b11
  have BB11 := Below.step BB10 b11'
  have hI911 : Ints .u64 w11 w11.heap.size A9 1 [l9] := (hI910.below b11').more b11'.size
  clear BB10 b11 b11' hI810 hI910
  go_wp2_with fail
  refine (sameU64_any _ _ 1 1 _ _ [l9] [l9] (by decide) (by decide) _ ((hI911.below ((Below.refl _ w11).alloc (Nat.le_refl _) _)).more (by simp)) (ints_new .u64 w11 [l9] 40 |>.more (by simp))).mono ?_
  rintro e w12 ⟨rfl, b12⟩
  rw [sameB_true rfl]
  have BB12 := Below.step BB11 (Below.made b12)
  clear BB11 b12 hI911
  go_wp2_with fail
  go_ret
  exact ⟨rfl, BB12⟩

end Go.Proofs.Ytliconagelemdaa
