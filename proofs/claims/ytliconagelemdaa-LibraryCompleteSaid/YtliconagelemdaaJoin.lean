/- Pick, and the plain law behind LibraryJoined: a list of 2^k names and at most as many more. -/
import Derived.Test.YtliconagelemdaaLaw3L
namespace Go.Proofs.Ytliconagelemdaa
open Go.RowKit Go.Shelf
set_option linter.unusedVariables false

section
variable {P : Program} (w : World)
/-- The same append as an operation of a region whose guard says yes. -/
theorem wpList_append_ints_w {ops : Array Oper} {rest : List Oper} {o : Oper} {a : Act} {Q : Exit → Act → World → Prop} (hgd : Region.wanted o (yielded ops a.tmps) = true) (s x : Operand) (t : TypeId)
    (ho : o.op = .call { callee := .builtin .append, args := #[s, x], argTypes := #[t, t] })
    (base : Nat) (e : TypeId) (i : TypeInfo) (z : Value) (bytes : Nat) (ht : P.underlying t = some (.slice e)) (hi : P.info? e = some i) (hz : i.zero = some z)
    (hsize : i.size = 1) (hby : i.bytes = bytes) (hzs : z.cells.size = 1)
    (v : Value) (n : Nat) (xs : List Value) (hs : a.eval s = v) (hown : w.ownsRow base e 1 v n xs)
    (k : IntKind) (B : Nat) (A : Option Addr) (m c : Nat) (zs : List Int) (hx : a.eval x = .slice A m c) (hr : Ints k w B A m zs)
    (h63 : n + m ≤ maxLen) (hbytes : (n + m) * bytes ≤ 140737488355328) (hbase : base ≤ w.heap.size)
    (h : ∀ v' w', w'.ownsRow base e 1 v' (n + m) (xs ++ zs.map (Value.int k)) → w.grownBy w' v.ownBlock → wpList P ops Q rest (a.put o.dst v') w') : wpList P ops Q (o :: rest) a w := by
  refine wpList_step fun K hK => ?_
  rw [if_pos hgd]
  obtain ⟨v', w', hrun, h2, h3⟩ := run_append_ints (P := P) w base t o.type e i z bytes ht hi hz hsize hby hzs v n xs hown k B A m c zs hr h63 hbytes hbase
  unfold Oper.wp execOp
  simp only [ho, resolve, invoke, builtin, Sem.run_bind, Sem.run_pure, Result.andThen_ok, List.map_toArray, List.map_cons, List.map_nil, hs, hx, hrun]
  exact hK _ _ (h v' w' h2 h3)
end

theorem join_root {a b : List Int} (ha : Pow a.length) (h1 : 1 ≤ b.length) (h2 : b.length ≤ a.length) : rootL (a ++ b) = nodeZ (rootL a) (rootL b) := by
  have hl : (a ++ b).length = a.length + b.length := List.length_append
  rw [rootL_node (by omega), hl, halfN_add ha h1 h2, List.take_left, List.drop_left]
theorem join_path_left {a b : List Int} (ha : Pow a.length) (h1 : 1 ≤ b.length) (h2 : b.length ≤ a.length) {i : Nat} (hi : i < a.length) : pathL (a ++ b) i = pathL a i ++ [rootL b] := by
  have hl : (a ++ b).length = a.length + b.length := List.length_append
  rw [pathL_left (by omega) (by rw [hl, halfN_add ha h1 h2]; exact hi), hl, halfN_add ha h1 h2, List.take_left, List.drop_left]
theorem join_path_right {a b : List Int} (ha : Pow a.length) (h1 : 1 ≤ b.length) (h2 : b.length ≤ a.length) (j : Nat) : pathL (a ++ b) (a.length + j) = pathL b j ++ [rootL a] := by
  have hl : (a ++ b).length = a.length + b.length := List.length_append
  rw [pathL_right (by omega) (by rw [hl, halfN_add ha h1 h2]; omega), hl, halfN_add ha h1 h2, List.take_left, List.drop_left, Nat.add_sub_cancel_left]

theorem namesZ_append (es fs : List (List Int)) : namesZ (es ++ fs) = namesZ es ++ namesZ fs := by simp [namesZ]
theorem partZ_all (es : List (List Int)) : partZ es 0 es.length = namesZ es := by
  rw [partZ_first, List.take_of_length_le (by rw [namesZ_length]; exact Nat.le_refl _)]

set_option maxRecDepth 100000 in
theorem pick_any (A : Option Addr) (len cap : Nat) (zs : List Int) (i : Nat) (m : Int) (w : World) (hm : 1 ≤ m) (hm2 : m ≤ 1000000) (hw : ∀ z ∈ zs, I z) (hI : Ints .i64 w w.heap.size A len zs) :
    Calls Try.prog 19 #[.slice A len cap, .int .i64 (i : Int), .int .i64 m] w fun e w' => (∃ p, e = .returned (.int .i64 p) ∧ 0 ≤ p ∧ p < m) ∧ w = w' := by
  have hd0 : decide ((i : Int) < 0) = false := by simp
  by_cases hi : i < len
  · have hd : decide (len ≤ i) = false := by simpa using hi
    obtain ⟨b, off, rfl, hblt, hcs⟩ := hI.2 (by omega)
    have hc := hcs i hi
    obtain ⟨z, hz⟩ : ∃ z, zs[i]?.getD 0 = z := ⟨_, rfl⟩
    rw [hz] at hc
    have hl := hI.1
    have hzI : I z := hw z (by rw [← hz, List.getElem?_eq_getElem (by omega)]; exact List.getElem_mem _)
    clear hcs hz hl
    go_enter Try.func19, Try.ntmps19
    go_wp2_with fail
    refine (around_any z m hm hm2 hzI _).mono ?_
    rintro e w' ⟨rfl, rfl⟩
    go_wp2
    go_ret
    exact ⟨⟨_, rfl, arZ_lt _ hm⟩, rfl⟩
  · have hd : decide (len ≤ i) = true := by simp; omega
    go_enter Try.func19, Try.ntmps19
    go_wp2
    go_ret
    exact ⟨⟨0, rfl, by omega, by omega⟩, rfl⟩

end Go.Proofs.Ytliconagelemdaa
