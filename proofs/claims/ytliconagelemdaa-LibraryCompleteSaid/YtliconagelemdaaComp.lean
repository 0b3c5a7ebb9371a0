/- What the law LibraryComplete needs besides the walks: Check and CheckLink as they accept; two libraries that stand side by side. -/
import Derived.Test.YtliconagelemdaaSound
import Derived.Test.YtliconagelemdaaCopy
namespace Go.Proofs.Ytliconagelemdaa
open Go.RowKit Go.Shelf
set_option linter.unusedVariables false

theorem CheckLink_ok (l : List Int) (n b : Nat) (Ap : Option Addr) (cp : Nat) (w : World) (hl : l.length = b) (hb : b ≤ 4096) (hn : n ≤ b) (hI : Ints .u64 w w.heap.size Ap (linkZ l n).length (linkZ l n)) :
    Calls Try.prog 28 #[.int .u64 (rootL (l.take n)), .int .u64 (rootL l), .int .i64 (n : Int), .int .i64 (b : Int), .slice Ap (linkZ l n).length cp] w fun e w' => e = .returned (.int .i64 0) ∧ Below w.heap.size w w' := by
  by_cases h : n = 0
  · subst h
    have e : linkZ l 0 = [] := by unfold linkZ; rw [if_pos rfl]
    rw [e]
    exact CheckLink_none (rootL l) b Ap cp w hb
  · rw [linkZ_pos (by omega)] at hI ⊢
    have hlen := linkL_len (l := l) (m := n) true (by omega) (by omega)
    have := CheckLink_any (rootL (l.take n)) (rootL l) n b Ap (linkL l n true).length cp (linkL l n true) w hb (by omega) hn (by omega) (fun e => by
      have := linkL_all l true
      rw [hl, ← e] at this
      exact this) hI
    rw [checkLinkZ_yes hl (by omega) hn] at this
    exact this

theorem Check_ok (l : List Int) (n i : Nat) (Ab : Option Addr) (nb cb : Nat) (zs : List Int) (Ap : Option Addr) (cp : Nat) (w : World) (hl : l.length = n) (hi : i < n) (hn : n ≤ 4096) (hz : l[i]?.getD 0 = nameZ zs) (hnb : nb ≤ 1000000) (hbyt : Byt zs) (hIb : Ints .u8 w w.heap.size Ab nb zs) (hIp : Ints .u64 w w.heap.size Ap (pathL l i).length (pathL l i)) :
    Calls Try.prog 27 #[.int .u64 (rootL l), .int .i64 (i : Int), .int .i64 (n : Int), .slice Ab nb cb, .slice Ap (pathL l i).length cp] w fun e w' => e = .returned (.int .i64 0) ∧ Below w.heap.size w w' := by
  have hlen := pathL_len l i
  have := Check_any (rootL l) i n Ab nb cb zs Ap (pathL l i).length cp (pathL l i) w hn hi hnb hbyt hIb (by omega) hIp
  rw [← hz, checkZ_yes hl hi] at this
  exact this

theorem linkZ_short {l : List Int} {n : Nat} (hl : l.length ≤ 4096) (hn : n ≤ l.length) : (linkZ l n).length ≤ 13 := by
  by_cases h : n = 0
  · unfold linkZ; rw [if_pos h]; exact Nat.zero_le _
  · rw [linkZ_pos (by omega)]
    exact linkL_short (p := 12) true (by omega) hn hl

theorem partZ_firsts {es fs : List (List Int)} {n : Nat} (h : n ≤ es.length) : partZ (es ++ fs) 0 n = (namesZ es).take n := by
  rw [partZ_pre (by omega), partZ_first]

/-- The blocks from y on below z, and those from v on. -/
def Sides (y z v : Nat) (k : Nat) : Prop := (y ≤ k ∧ k < z) ∨ v ≤ k

/-- Both libraries and the entries stand. -/
structure Both (w : World) (ST : Nat → Prop) (lb : Nat) (gs : List (List Int)) (SU : Nat → Prop) (cb : Nat) (es : List (List Int)) (A : Option Addr) (N : Nat) (W : World) : Prop where
  t : LibAt W ST lb gs
  u : LibAt W SU cb es
  x : RowsIn W W.heap.size A N es
  b : Below w.heap.size w W
theorem Both.step {w : World} {ST : Nat → Prop} {lb : Nat} {gs : List (List Int)} {SU : Nat → Prop} {cb : Nat} {es : List (List Int)} {A : Option Addr} {N : Nat} {W W' : World} (h : Both w ST lb gs SU cb es A N W) (k : Below W.heap.size W W') : Both w ST lb gs SU cb es A N W' :=
  ⟨h.t.below k, h.u.below k, (h.x.below k).more k.size, Below.step h.b k⟩
theorem Ints.at {k : IntKind} {U W : World} {A : Option Addr} {n : Nat} {xs : List Int} (h : Ints k U U.heap.size A n xs) (b : Below U.heap.size U W) : Ints k W W.heap.size A n xs := (h.below b).more b.size

theorem own_addr {W : World} {base : Nat} {e : TypeId} {A : Option Addr} {n c : Nat} {vs : List Value} (h : W.ownsRow base e 1 (.slice A n c) n vs) {b off : Nat} (hA : A = some ⟨b, off, none⟩) : (Value.slice A n c).ownBlock = some b := by
  rcases h.2 with ⟨hv, _⟩ | ⟨g, cap, cur, hv, _⟩
  · injection hv with h1
    rw [h1] at hA
    cases hA
  · injection hv with h1 h2 h3
    rw [h1] at hA
    injection hA with hA
    injection hA with hA
    rw [h1, hA]
    rfl
end Go.Proofs.Ytliconagelemdaa
