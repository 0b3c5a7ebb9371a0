/- The plain mathematics of the library: the greatest power of two below a number, roots, paths and links of a list of names. No program is in sight here. -/
import Derived.Test.YtliconagelemdaaPlain2
namespace Go.Proofs.Ytliconagelemdaa
open Go.RowKit

def halfFrom : Nat → Nat → Nat → Nat
  | 0, k, _ => k
  | f + 1, k, n => if 2 * k < n then halfFrom f (2 * k) n else k

/-- The greatest power of two below n, for n above 1. -/
def halfN (n : Nat) : Nat := halfFrom n 1 n

theorem halfFrom_spec : ∀ (f k n : Nat), 1 ≤ k → n ≤ 2 ^ f * k * 2 → (k < n → k ≤ halfFrom f k n ∧ halfFrom f k n < n ∧ n ≤ 2 * halfFrom f k n)
  | 0, k, n, _, h, hk => by
    simp only [halfFrom]
    simp at h
    omega
  | f + 1, k, n, h1, h, hk => by
    unfold halfFrom
    by_cases h2 : 2 * k < n
    · rw [if_pos h2]
      have := halfFrom_spec f (2 * k) n (by omega) (by rw [Nat.pow_succ] at h; rw [← Nat.mul_assoc]; exact h) h2
      omega
    · rw [if_neg h2]
      omega

theorem lt_two_pow (n : Nat) : n < 2 ^ n := Nat.lt_two_pow_self

theorem halfN_spec {n : Nat} (h : 2 ≤ n) : 1 ≤ halfN n ∧ halfN n < n ∧ n ≤ 2 * halfN n := by
  have := halfFrom_spec n 1 n (by omega) (by have := lt_two_pow n; omega) (by omega)
  exact this

/-- A number is 2^p. -/
def Pow (k : Nat) : Prop := ∃ p, k = 2 ^ p
theorem Pow.one : Pow 1 := ⟨0, rfl⟩
theorem Pow.two {k : Nat} (h : Pow k) : Pow (2 * k) := by
  obtain ⟨p, rfl⟩ := h
  exact ⟨p + 1, by rw [Nat.pow_succ]; omega⟩

theorem halfFrom_pow : ∀ (f k n : Nat), Pow k → Pow (halfFrom f k n)
  | 0, _, _, h => h
  | f + 1, k, n, h => by
    unfold halfFrom
    split
    · exact halfFrom_pow f _ _ h.two
    · exact h
theorem halfN_pow (n : Nat) : Pow (halfN n) := halfFrom_pow n 1 n Pow.one

/-- Between n and 2 n lies one power of two. -/
theorem pow_between {a b n : Nat} (ha : Pow a) (hb : Pow b) (h1 : a < n) (h2 : n ≤ 2 * a) (h3 : b < n) (h4 : n ≤ 2 * b) : a = b := by
  obtain ⟨p, rfl⟩ := ha
  obtain ⟨q, rfl⟩ := hb
  have h5 : 2 ^ p < 2 ^ (q + 1) := by rw [Nat.pow_succ]; omega
  have h6 : 2 ^ q < 2 ^ (p + 1) := by rw [Nat.pow_succ]; omega
  have h7 := (Nat.pow_lt_pow_iff_right (by decide : 1 < 2)).1 h5
  have h8 := (Nat.pow_lt_pow_iff_right (by decide : 1 < 2)).1 h6
  have : p = q := by omega
  rw [this]

/-- The half of a power of two. -/
theorem halfN_two {k : Nat} (hk : Pow k) : halfN (2 * k) = k := by
  have h1 : 1 ≤ k := by obtain ⟨p, rfl⟩ := hk; exact Nat.one_le_two_pow
  have := halfN_spec (n := 2 * k) (by omega)
  exact pow_between (halfN_pow _) hk this.2.1 this.2.2 (by omega) (Nat.le_refl _)

/-- The half of a power of two and at most as many more. -/
theorem halfN_add {k m : Nat} (hk : Pow k) (h1 : 1 ≤ m) (h2 : m ≤ k) : halfN (k + m) = k := by
  have := halfN_spec (n := k + m) (by omega)
  exact pow_between (halfN_pow _) hk this.2.1 this.2.2 (by omega) (by omega)

def noneZ : Int := sumZ [110, 111, 110, 101] []
def leafZ (h : Int) : Int := sumZ [108, 101, 97, 102] [wrap64 h]
def nodeZ (a b : Int) : Int := sumZ [110, 111, 100, 101] [wrap64 a, wrap64 b]
def nameZ (b : List Int) : Int := bytesZ [101, 110, 116, 114, 121] b

theorem sumZ_U (lab l : List Int) : U (sumZ lab l) := mixZ_U _ _

/-- The root of a list of names. -/
def rootF : Nat → List Int → Int
  | _, [] => noneZ
  | _, [h] => leafZ h
  | 0, _ => 0
  | f + 1, l => nodeZ (rootF f (l.take (halfN l.length))) (rootF f (l.drop (halfN l.length)))
def rootL (l : List Int) : Int := rootF l.length l

theorem rootF_nil (f : Nat) : rootF f [] = noneZ := by cases f <;> rfl
theorem rootF_one (f : Nat) (h : Int) : rootF f [h] = leafZ h := by cases f <;> rfl
theorem rootF_node (f : Nat) (l : List Int) (h : 2 ≤ l.length) : rootF (f + 1) l = nodeZ (rootF f (l.take (halfN l.length))) (rootF f (l.drop (halfN l.length))) := by
  match l, h with
  | a :: b :: r, _ => rfl

theorem rootF_any : ∀ (f g : Nat) (l : List Int), l.length ≤ f → l.length ≤ g → rootF f l = rootF g l
  | f, g, [], _, _ => by rw [rootF_nil, rootF_nil]
  | f, g, [h], _, _ => by rw [rootF_one, rootF_one]
  | f + 1, g + 1, a :: b :: r, hf, hg => by
    have h2 : 2 ≤ (a :: b :: r).length := by simp
    have hs := halfN_spec h2
    rw [rootF_node f _ h2, rootF_node g _ h2]
    rw [rootF_any f g ((a :: b :: r).take _) (by rw [List.length_take]; omega) (by rw [List.length_take]; omega)]
    rw [rootF_any f g ((a :: b :: r).drop _) (by rw [List.length_drop]; omega) (by rw [List.length_drop]; omega)]

theorem rootL_nil : rootL [] = noneZ := rfl
theorem rootL_one (h : Int) : rootL [h] = leafZ h := rfl
theorem rootL_node {l : List Int} (h : 2 ≤ l.length) : rootL l = nodeZ (rootL (l.take (halfN l.length))) (rootL (l.drop (halfN l.length))) := by
  have hs := halfN_spec h
  obtain ⟨f, hf⟩ : ∃ f, l.length = f + 1 := ⟨l.length - 1, by omega⟩
  have e : rootL l = rootF (f + 1) l := by unfold rootL; rw [hf]
  rw [e, rootF_node f l h]
  unfold rootL
  rw [rootF_any f _ (l.take (halfN l.length)) (by rw [List.length_take]; omega) (Nat.le_refl _), rootF_any f _ (l.drop (halfN l.length)) (by rw [List.length_drop]; omega) (Nat.le_refl _)]

theorem rootF_U : ∀ (f : Nat) (l : List Int), U (rootF f l)
  | f, [] => by rw [rootF_nil]; exact sumZ_U _ _
  | f, [h] => by rw [rootF_one]; exact sumZ_U _ _
  | 0, _ :: _ :: _ => zero_U
  | f + 1, a :: b :: r => sumZ_U _ _
theorem rootL_U (l : List Int) : U (rootL l) := rootF_U _ _

/-- The path of the name i. -/
def pathF : Nat → List Int → Nat → List Int
  | 0, _, _ => []
  | f + 1, l, i => if l.length ≤ 1 then [] else if i < halfN l.length then pathF f (l.take (halfN l.length)) i ++ [rootL (l.drop (halfN l.length))]
    else pathF f (l.drop (halfN l.length)) (i - halfN l.length) ++ [rootL (l.take (halfN l.length))]
def pathL (l : List Int) (i : Nat) : List Int := pathF l.length l i

theorem pathF_any : ∀ (f g : Nat) (l : List Int) (i : Nat), l.length ≤ f → l.length ≤ g → pathF f l i = pathF g l i
  | 0, 0, _, _, _, _ => rfl
  | 0, g + 1, l, i, hf, _ => by unfold pathF; rw [if_pos (by omega)]
  | f + 1, 0, l, i, _, hg => by unfold pathF; rw [if_pos (by omega)]
  | f + 1, g + 1, l, i, hf, hg => by
    unfold pathF
    by_cases h1 : l.length ≤ 1
    · rw [if_pos h1, if_pos h1]
    · have hs := halfN_spec (n := l.length) (by omega)
      rw [if_neg h1, if_neg h1, pathF_any f g (l.take _) i (by rw [List.length_take]; omega) (by rw [List.length_take]; omega), pathF_any f g (l.drop _) _ (by rw [List.length_drop]; omega) (by rw [List.length_drop]; omega)]

theorem pathL_one {l : List Int} (h : l.length ≤ 1) (i : Nat) : pathL l i = [] := by
  unfold pathL
  cases hl : l.length with
  | zero => rfl
  | succ f => unfold pathF; rw [if_pos h]
theorem pathL_left {l : List Int} {i : Nat} (h : 2 ≤ l.length) (hi : i < halfN l.length) : pathL l i = pathL (l.take (halfN l.length)) i ++ [rootL (l.drop (halfN l.length))] := by
  have hs := halfN_spec h
  obtain ⟨f, hf⟩ : ∃ f, l.length = f + 1 := ⟨l.length - 1, by omega⟩
  have e : pathL l i = pathF (f + 1) l i := by unfold pathL; rw [hf]
  rw [e]
  unfold pathF pathL
  rw [if_neg (by omega), if_pos hi, pathF_any f _ (l.take _) i (by rw [List.length_take]; omega) (Nat.le_refl _)]
theorem pathL_right {l : List Int} {i : Nat} (h : 2 ≤ l.length) (hi : ¬ i < halfN l.length) : pathL l i = pathL (l.drop (halfN l.length)) (i - halfN l.length) ++ [rootL (l.take (halfN l.length))] := by
  have hs := halfN_spec h
  obtain ⟨f, hf⟩ : ∃ f, l.length = f + 1 := ⟨l.length - 1, by omega⟩
  have e : pathL l i = pathF (f + 1) l i := by unfold pathL; rw [hf]
  rw [e]
  unfold pathF pathL
  rw [if_neg (by omega), if_neg hi, pathF_any f _ (l.drop _) _ (by rw [List.length_drop]; omega) (Nat.le_refl _)]

theorem pathF_len : ∀ (f : Nat) (l : List Int) (i : Nat), (pathF f l i).length ≤ l.length
  | 0, _, _ => Nat.zero_le _
  | f + 1, l, i => by
    unfold pathF
    by_cases h1 : l.length ≤ 1
    · rw [if_pos h1]; exact Nat.zero_le _
    · have hs := halfN_spec (n := l.length) (by omega)
      have a := pathF_len f (l.take (halfN l.length)) i
      have b := pathF_len f (l.drop (halfN l.length)) (i - halfN l.length)
      rw [List.length_take] at a
      rw [List.length_drop] at b
      rw [if_neg h1]
      split <;> rw [List.length_append] <;> simp <;> omega
theorem pathL_len (l : List Int) (i : Nat) : (pathL l i).length ≤ l.length := pathF_len _ _ _

/-- The link of the first m names. -/
def linkF : Nat → List Int → Nat → Bool → List Int
  | 0, _, _, _ => []
  | f + 1, l, m, whole => if m = l.length then (if whole then [] else [rootL l]) else if m ≤ halfN l.length then linkF f (l.take (halfN l.length)) m whole ++ [rootL (l.drop (halfN l.length))]
    else linkF f (l.drop (halfN l.length)) (m - halfN l.length) false ++ [rootL (l.take (halfN l.length))]
def linkL (l : List Int) (m : Nat) (whole : Bool) : List Int := linkF (l.length + 1) l m whole

theorem linkF_any : ∀ (f g : Nat) (l : List Int) (m : Nat) (whole : Bool), 1 ≤ m → m ≤ l.length → l.length + 1 ≤ f → l.length + 1 ≤ g → linkF f l m whole = linkF g l m whole
  | 0, _, _, _, _, _, _, hf, _ => by omega
  | f + 1, 0, _, _, _, _, _, _, hg => by omega
  | f + 1, g + 1, l, m, whole, h1, h2, hf, hg => by
    unfold linkF
    by_cases hm : m = l.length
    · rw [if_pos hm, if_pos hm]
    · have hs := halfN_spec (n := l.length) (by omega)
      rw [if_neg hm, if_neg hm]
      by_cases hk : m ≤ halfN l.length
      · rw [if_pos hk, if_pos hk, linkF_any f g (l.take _) m whole h1 (by rw [List.length_take]; omega) (by rw [List.length_take]; omega) (by rw [List.length_take]; omega)]
      · rw [if_neg hk, if_neg hk, linkF_any f g (l.drop _) _ false (by omega) (by rw [List.length_drop]; omega) (by rw [List.length_drop]; omega) (by rw [List.length_drop]; omega)]

theorem linkL_all (l : List Int) (whole : Bool) : linkL l l.length whole = if whole then [] else [rootL l] := by
  unfold linkL linkF
  rw [if_pos rfl]
theorem linkL_left {l : List Int} {m : Nat} (whole : Bool) (h1 : 1 ≤ m) (h2 : m < l.length) (hm : m ≤ halfN l.length) : linkL l m whole = linkL (l.take (halfN l.length)) m whole ++ [rootL (l.drop (halfN l.length))] := by
  have hs := halfN_spec (n := l.length) (by omega)
  unfold linkL
  rw [linkF, if_neg (by omega), if_pos hm, linkF_any l.length _ (l.take _) m whole h1 (by rw [List.length_take]; omega) (by rw [List.length_take]; omega) (Nat.le_refl _)]
theorem linkL_right {l : List Int} {m : Nat} (whole : Bool) (h2 : m < l.length) (hm : ¬ m ≤ halfN l.length) : linkL l m whole = linkL (l.drop (halfN l.length)) (m - halfN l.length) false ++ [rootL (l.take (halfN l.length))] := by
  have hs := halfN_spec (n := l.length) (by omega)
  unfold linkL
  rw [linkF, if_neg (by omega), if_neg hm, linkF_any l.length _ (l.drop _) _ false (by omega) (by rw [List.length_drop]; omega) (by rw [List.length_drop]; omega) (Nat.le_refl _)]

theorem linkF_len : ∀ (f : Nat) (l : List Int) (m : Nat) (whole : Bool), 1 ≤ m → m ≤ l.length → (linkF f l m whole).length ≤ l.length + 1
  | 0, _, _, _, _, _ => Nat.zero_le _
  | f + 1, l, m, whole, h1, h2 => by
    unfold linkF
    by_cases hm : m = l.length
    · rw [if_pos hm]
      cases whole <;> simp
    · rw [if_neg hm]
      have hs := halfN_spec (n := l.length) (by omega)
      by_cases hk : m ≤ halfN l.length
      · have a := linkF_len f (l.take (halfN l.length)) m whole h1 (by rw [List.length_take]; omega)
        rw [List.length_take] at a
        rw [if_pos hk, List.length_append]
        simp
        omega
      · have b := linkF_len f (l.drop (halfN l.length)) (m - halfN l.length) false (by omega) (by rw [List.length_drop]; omega)
        rw [List.length_drop] at b
        rw [if_neg hk, List.length_append]
        simp
        omega
theorem linkL_len {l : List Int} {m : Nat} (whole : Bool) (h1 : 1 ≤ m) (h2 : m ≤ l.length) : (linkL l m whole).length ≤ l.length + 1 := linkF_len _ _ _ _ h1 h2

end Go.Proofs.Ytliconagelemdaa
