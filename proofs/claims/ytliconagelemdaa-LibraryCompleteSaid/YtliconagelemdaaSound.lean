/- What the law LibrarySound needs besides the walks: numbers that are changed, and Check and CheckLink as they refuse. -/
import Derived.Test.YtliconagelemdaaLaw4L
import Derived.Test.YtliconagelemdaaWalkI
namespace Go.Proofs.Ytliconagelemdaa
open Go.RowKit Go.Shelf
set_option linter.unusedVariables false

theorem around_big (n m : Int) (h1 : 1 ≤ m) (h2 : m ≤ 2000000000) (hn : -9223372036854775808 ≤ n ∧ n ≤ 9223372036854775807) (w : World) :
    Calls Try.prog 18 #[.int .i64 n, .int .i64 m] w fun e w' => e = .returned (.int .i64 (arZ n m)) ∧ w = w' := by
  have hm0 : (m == 0) = false := by simp; omega
  by_cases h : n < 0
  · go_enter Try.func18, Try.ntmps18
    go_wp2
    go_ret
    refine ⟨?_, rfl⟩
    show Ending.returned (.int .i64 (-((n + 1).tmod m))) = _
    unfold arZ
    rw [if_pos h, ← Int.neg_tmod, Int.tmod_eq_emod_of_nonneg (by omega)]
  · go_enter Try.func18, Try.ntmps18
    go_wp2
    go_ret
    exact ⟨by unfold arZ; rw [if_neg (by omega)]; rfl, rfl⟩

theorem Check_no (root : Int) (i n : Nat) (Ab : Option Addr) (nb cb : Nat) (zs : List Int) (Ap : Option Addr) (np cp : Nat) (p : List Int) (w : World) (hn : n ≤ 4096) (hi : i < n) (hnb : nb ≤ 1000000) (hbyt : Byt zs) (hnp : np ≤ 1000000) (hno : checkZ root n i (leafZ (nameZ zs)) p = false) (hIb : Ints .u8 w w.heap.size Ab nb zs) (hIp : Ints .u64 w w.heap.size Ap np p) :
    Calls Try.prog 27 #[.int .u64 root, .int .i64 (i : Int), .int .i64 (n : Int), .slice Ab nb cb, .slice Ap np cp] w fun e w' => e = .returned (.int .i64 16) ∧ Below w.heap.size w w' := by
  have := Check_any root i n Ab nb cb zs Ap np cp p w hn hi hnb hbyt hIb hnp hIp
  rw [hno] at this
  exact this

theorem CheckLink_any (v0 vt : Int) (a b : Nat) (Ap : Option Addr) (np cp : Nat) (p : List Int) (w : World) (hb : b ≤ 4096) (ha : 1 ≤ a) (hab : a ≤ b) (hnp : np ≤ 1000000) (hz : a = b → p = []) (hIp : Ints .u64 w w.heap.size Ap np p) :
    Calls Try.prog 28 #[.int .u64 v0, .int .u64 vt, .int .i64 (a : Int), .int .i64 (b : Int), .slice Ap np cp] w fun e w' => e = .returned (.int .i64 (codeZ (checkLinkZ v0 vt a b p))) ∧ Below w.heap.size w w' := by
  by_cases h : a = b
  · subst h
    have hp := hz rfl
    subst hp
    have hn : np = 0 := by have := hIp.1; simp at this; omega
    subst hn
    exact CheckLink_same v0 vt a Ap cp w hb ha
  · exact CheckLink_less v0 vt a b Ap np cp p w hb ha (by omega) hnp hIp

theorem CheckLink_no (v0 vt : Int) (a b : Nat) (Ap : Option Addr) (np cp : Nat) (p : List Int) (w : World) (hb : b ≤ 4096) (ha : 1 ≤ a) (hab : a ≤ b) (hnp : np ≤ 1000000) (hz : a = b → p = []) (hno : checkLinkZ v0 vt a b p = false) (hIp : Ints .u64 w w.heap.size Ap np p) :
    Calls Try.prog 28 #[.int .u64 v0, .int .u64 vt, .int .i64 (a : Int), .int .i64 (b : Int), .slice Ap np cp] w fun e w' => e = .returned (.int .i64 16) ∧ Below w.heap.size w w' := by
  have := CheckLink_any v0 vt a b Ap np cp p w hb ha hab hnp hz hIp
  rw [hno] at this
  exact this

/-- A byte to which 1 to 255 is added is another one. -/
theorem byte_other {q r : Int} (hq : 0 ≤ q ∧ q < 256) (hr : 0 ≤ r ∧ r < 255) : IntKind.u8.wrap (IntKind.u8.wrap (q + 1) + IntKind.u8.wrap r) ≠ q := by
  simp only [IntKind.wrap, IntKind.signed, IntKind.bits]
  simp
  omega
theorem byte_in (x : Int) : 0 ≤ IntKind.u8.wrap x ∧ IntKind.u8.wrap x < 256 := by
  simp only [IntKind.wrap, IntKind.signed, IntKind.bits]
  simp
  omega
/-- A number to which 1 to 2^30 is added is another one. -/
theorem num_other {q r : Int} (hq : U q) (hr : 0 ≤ r ∧ r < 1073741824) : IntKind.u64.wrap (IntKind.u64.wrap (q + 1) + IntKind.u64.wrap r) ≠ q := by
  rw [IntKind.wrap_u64, IntKind.wrap_u64, IntKind.wrap_u64]
  unfold U at hq
  omega

/-- A name of entries at i. -/
theorem names_get {es : List (List Int)} {i : Nat} (hi : i < es.length) : (namesZ es)[i]?.getD 0 = nameZ (es[i]?.getD []) := by
  unfold namesZ
  rw [List.getElem?_map, List.getElem?_eq_getElem hi]
  rfl
theorem linkZ_pos {l : List Int} {m : Nat} (h : 1 ≤ m) : linkZ l m = linkL l m true := by
  unfold linkZ
  rw [if_neg (by omega)]
/-- Another byte, another name. -/
theorem name_other {f : List Int} (hf : Byt f) {k : Nat} (hk : k < f.length) {v : Int} (hv : 0 ≤ v ∧ v < 256) (hne : v ≠ f[k]?.getD 0) : nameZ (f.set k v) ≠ nameZ f := by
  have h := (near_one hf hk hv).bytes [101, 110, 116, 114, 121]
  have h2 : sameB f (f.set k v) = false := sameB_false (fun e => hne (by
    have h3 := congrArg (fun l => l[k]?.getD 0) e
    simp only [List.getElem?_set_self hk, Option.getD_some] at h3
    exact h3.symm))
  rw [h2] at h
  intro e
  unfold nameZ at e
  rw [e] at h
  simp at h
end Go.Proofs.Ytliconagelemdaa
