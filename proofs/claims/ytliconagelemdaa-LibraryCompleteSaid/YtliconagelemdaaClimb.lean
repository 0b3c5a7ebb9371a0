/- The plain mathematics of Check and CheckLink: what is computed along a path and along a link; paths and links lead to the roots; a change of one number changes the result. No program is in sight here. -/
import Derived.Test.YtliconagelemdaaTree
namespace Go.Proofs.Ytliconagelemdaa
open Go.RowKit

theorem nodeZ_left {a b c : Int} (ha : U a) (hb : U b) (h : nodeZ a c = nodeZ b c) : a = b := by
  unfold nodeZ at h
  exact wrap64_inj ha hb (sumZ_one (p := []) (q := [wrap64 c]) (wrap64_I _) (wrap64_I _) h)
theorem nodeZ_right {a b c : Int} (ha : U a) (hb : U b) (h : nodeZ c a = nodeZ c b) : a = b := by
  unfold nodeZ at h
  exact wrap64_inj ha hb (sumZ_one (p := [wrap64 c]) (q := []) (wrap64_I _) (wrap64_I _) h)
theorem leafZ_inj {a b : Int} (ha : U a) (hb : U b) (h : leafZ a = leafZ b) : a = b := by
  unfold leafZ at h
  exact wrap64_inj ha hb (sumZ_one (p := []) (q := []) (wrap64_I _) (wrap64_I _) h)
theorem nodeZ_U (a b : Int) : U (nodeZ a b) := sumZ_U _ _
theorem leafZ_U (a : Int) : U (leafZ a) := sumZ_U _ _
theorem nameZ_U (b : List Int) : U (nameZ b) := sumZ_U _ _

/-- The element t of a list of hashes, or 0. -/
def elt (p : List Int) (t : Nat) : Int := p[t]?.getD 0

/-- What Check's walk computes: from the leaf's hash v, the elements of p from t on; and how many elements were taken then. -/
def climbF : Nat → Nat → Nat → Int → List Int → Nat → Int × Nat
  | 0, _, _, v, _, t => (v, t)
  | f + 1, n, i, v, p, t => if n ≤ 1 then (v, t) else
    if i < halfN n then (nodeZ (climbF f (halfN n) i v p t).1 (elt p (climbF f (halfN n) i v p t).2), (climbF f (halfN n) i v p t).2 + 1)
    else (nodeZ (elt p (climbF f (n - halfN n) (i - halfN n) v p t).2) (climbF f (n - halfN n) (i - halfN n) v p t).1, (climbF f (n - halfN n) (i - halfN n) v p t).2 + 1)
def climb (n i : Nat) (v : Int) (p : List Int) (t : Nat) : Int × Nat := climbF n n i v p t

theorem climbF_any : ∀ (f g n i : Nat) (v : Int) (p : List Int) (t : Nat), n ≤ f → n ≤ g → climbF f n i v p t = climbF g n i v p t
  | 0, 0, _, _, _, _, _, _, _ => rfl
  | 0, g + 1, n, i, v, p, t, hf, _ => by rw [climbF, climbF, if_pos (by omega)]
  | f + 1, 0, n, i, v, p, t, _, hg => by rw [climbF, climbF, if_pos (by omega)]
  | f + 1, g + 1, n, i, v, p, t, hf, hg => by
    rw [climbF, climbF]
    by_cases h1 : n ≤ 1
    · rw [if_pos h1, if_pos h1]
    · have hs := halfN_spec (n := n) (by omega)
      rw [if_neg h1, if_neg h1, climbF_any f g (halfN n) i v p t (by omega) (by omega), climbF_any f g (n - halfN n) (i - halfN n) v p t (by omega) (by omega)]

theorem climb_one (i : Nat) (v : Int) (p : List Int) (t : Nat) : climb 1 i v p t = (v, t) := by
  unfold climb
  rw [climbF, if_pos (Nat.le_refl _)]
theorem climb_left {n i : Nat} (v : Int) (p : List Int) (t : Nat) (hn : 2 ≤ n) (hi : i < halfN n) : climb n i v p t = (nodeZ (climb (halfN n) i v p t).1 (elt p (climb (halfN n) i v p t).2), (climb (halfN n) i v p t).2 + 1) := by
  have hs := halfN_spec hn
  obtain ⟨f, rfl⟩ : ∃ f, n = f + 1 := ⟨n - 1, by omega⟩
  unfold climb
  rw [climbF, if_neg (by omega), if_pos hi, climbF_any f (halfN (f + 1)) (halfN (f + 1)) i v p t (by omega) (Nat.le_refl _)]
theorem climb_right {n i : Nat} (v : Int) (p : List Int) (t : Nat) (hn : 2 ≤ n) (hi : ¬ i < halfN n) : climb n i v p t = (nodeZ (elt p (climb (n - halfN n) (i - halfN n) v p t).2) (climb (n - halfN n) (i - halfN n) v p t).1, (climb (n - halfN n) (i - halfN n) v p t).2 + 1) := by
  have hs := halfN_spec hn
  obtain ⟨f, rfl⟩ : ∃ f, n = f + 1 := ⟨n - 1, by omega⟩
  unfold climb
  rw [climbF, if_neg (by omega), if_neg hi, climbF_any f (f + 1 - halfN (f + 1)) (f + 1 - halfN (f + 1)) (i - halfN (f + 1)) v p t (by omega) (Nat.le_refl _)]

/-- How many elements a path has. -/
def depF : Nat → Nat → Nat → Nat
  | 0, _, _ => 0
  | f + 1, n, i => if n ≤ 1 then 0 else if i < halfN n then depF f (halfN n) i + 1 else depF f (n - halfN n) (i - halfN n) + 1
theorem climbF_taken : ∀ (f n i : Nat) (v : Int) (p : List Int) (t : Nat), (climbF f n i v p t).2 = t + depF f n i
  | 0, _, _, _, _, _ => rfl
  | f + 1, n, i, v, p, t => by
    rw [climbF, depF]
    split
    · rfl
    · split
      · rw [climbF_taken f]; show t + _ + 1 = _; omega
      · rw [climbF_taken f]; show t + _ + 1 = _; omega
theorem climb_taken (n i : Nat) (v : Int) (p : List Int) (t : Nat) : (climb n i v p t).2 = t + depF n n i := climbF_taken _ _ _ _ _ _

theorem climbF_U : ∀ (f n i : Nat) (v : Int) (p : List Int) (t : Nat), U v → U (climbF f n i v p t).1
  | 0, _, _, _, _, _, h => h
  | f + 1, n, i, v, p, t, h => by
    rw [climbF]
    split
    · exact h
    · split
      · exact nodeZ_U _ _
      · exact nodeZ_U _ _

theorem elt_U {p : List Int} (h : ∀ z ∈ p, U z) (t : Nat) : U (elt p t) := by
  unfold elt
  cases e : p[t]? with
  | none => exact zero_U
  | some z => exact h z (List.mem_of_getElem? e)

/-- Another leaf leads to another root. -/
theorem climbF_leaf : ∀ (f n i : Nat) (v v' : Int) (p : List Int) (t : Nat), U v → U v' → (climbF f n i v p t).1 = (climbF f n i v' p t).1 → v = v'
  | 0, _, _, _, _, _, _, _, _, h => h
  | f + 1, n, i, v, v', p, t, hv, hv', h => by
    rw [climbF, climbF] at h
    by_cases h1 : n ≤ 1
    · rw [if_pos h1, if_pos h1] at h
      exact h
    · rw [if_neg h1, if_neg h1] at h
      by_cases h2 : i < halfN n
      · rw [if_pos h2, if_pos h2] at h
        simp only [climbF_taken] at h
        exact climbF_leaf f _ _ v v' p t hv hv' (nodeZ_left (climbF_U _ _ _ _ _ _ hv) (climbF_U _ _ _ _ _ _ hv') h)
      · rw [if_neg h2, if_neg h2] at h
        simp only [climbF_taken] at h
        exact climbF_leaf f _ _ v v' p t hv hv' (nodeZ_right (climbF_U _ _ _ _ _ _ hv) (climbF_U _ _ _ _ _ _ hv') h)

/-- The lists p and p' are alike but at k. -/
def But (k : Nat) (p p' : List Int) : Prop := ∀ j, j ≠ k → elt p j = elt p' j

theorem climbF_same : ∀ (f n i : Nat) (v : Int) (p p' : List Int) (t k : Nat), But k p p' → t + depF f n i ≤ k → climbF f n i v p t = climbF f n i v p' t
  | 0, _, _, _, _, _, _, _, _, _ => rfl
  | f + 1, n, i, v, p, p', t, k, hb, hk => by
    rw [climbF, climbF]
    rw [depF] at hk
    by_cases h1 : n ≤ 1
    · rw [if_pos h1, if_pos h1]
    · rw [if_neg h1] at hk
      rw [if_neg h1, if_neg h1]
      by_cases h2 : i < halfN n
      · rw [if_pos h2] at hk
        rw [if_pos h2, if_pos h2, climbF_same f _ _ v p p' t k hb (by omega)]
        rw [hb _ (by rw [climbF_taken]; omega)]
      · rw [if_neg h2] at hk
        rw [if_neg h2, if_neg h2, climbF_same f _ _ v p p' t k hb (by omega)]
        rw [hb _ (by rw [climbF_taken]; omega)]

/-- A path that is changed at one place that is taken leads to another root. -/
theorem climbF_elt : ∀ (f n i : Nat) (v : Int) (p p' : List Int) (t k : Nat), U v → (∀ j, U (elt p j)) → (∀ j, U (elt p' j)) → But k p p' → elt p k ≠ elt p' k → t ≤ k → k < t + depF f n i → (climbF f n i v p t).1 ≠ (climbF f n i v p' t).1
  | 0, _, _, _, _, _, _, _, _, _, _, _, _, h1, h2 => by rw [depF] at h2; omega
  | f + 1, n, i, v, p, p', t, k, hv, hp, hp', hb, hne, h1, h2 => by
    rw [climbF, climbF]
    rw [depF] at h2
    by_cases h3 : n ≤ 1
    · rw [if_pos h3] at h2; omega
    · rw [if_neg h3] at h2
      rw [if_neg h3, if_neg h3]
      by_cases h4 : i < halfN n
      · rw [if_pos h4] at h2
        rw [if_pos h4, if_pos h4]
        by_cases h5 : k < t + depF f (halfN n) i
        · rw [climbF_taken, climbF_taken, hb _ (by omega)]
          exact fun e => climbF_elt f _ _ v p p' t k hv hp hp' hb hne h1 h5 (nodeZ_left (climbF_U _ _ _ _ _ _ hv) (climbF_U _ _ _ _ _ _ hv) e)
        · rw [climbF_same f _ _ v p p' t k hb (by omega), climbF_taken, show t + depF f (halfN n) i = k from by omega]
          exact fun e => hne (nodeZ_right (hp _) (hp' _) e)
      · rw [if_neg h4] at h2
        rw [if_neg h4, if_neg h4]
        by_cases h5 : k < t + depF f (n - halfN n) (i - halfN n)
        · rw [climbF_taken, climbF_taken, hb _ (by omega)]
          exact fun e => climbF_elt f _ _ v p p' t k hv hp hp' hb hne h1 h5 (nodeZ_right (climbF_U _ _ _ _ _ _ hv) (climbF_U _ _ _ _ _ _ hv) e)
        · rw [climbF_same f _ _ v p p' t k hb (by omega), climbF_taken, show t + depF f (n - halfN n) (i - halfN n) = k from by omega]
          exact fun e => hne (nodeZ_left (hp _) (hp' _) e)

theorem depF_path : ∀ (f : Nat) (l : List Int) (i : Nat), (pathF f l i).length = depF f l.length i
  | 0, _, _ => rfl
  | f + 1, l, i => by
    rw [pathF, depF]
    by_cases h1 : l.length ≤ 1
    · rw [if_pos h1, if_pos h1]; rfl
    · have hs := halfN_spec (n := l.length) (by omega)
      rw [if_neg h1, if_neg h1]
      by_cases h2 : i < halfN l.length
      · rw [if_pos h2, if_pos h2, List.length_append, depF_path f, List.length_take, Nat.min_eq_left (by omega)]; rfl
      · rw [if_neg h2, if_neg h2, List.length_append, depF_path f, List.length_drop]; rfl

theorem elt_mid (q : List Int) (x : Int) (r : List Int) : elt (q ++ x :: r) q.length = x := by
  unfold elt
  rw [List.getElem?_append_right (Nat.le_refl _), Nat.sub_self]
  rfl

/-- A path leads to the root. -/
theorem climb_root : ∀ (n : Nat) (l : List Int) (i : Nat) (q r : List Int), l.length = n → i < n → climb n i (leafZ (l[i]?.getD 0)) (q ++ pathL l i ++ r) q.length = (rootL l, q.length + (pathL l i).length) := by
  intro n
  induction n using Nat.strongRecOn with
  | ind n ih =>
  intro l i q r hl hi
  by_cases h1 : n = 1
  · subst h1
    obtain rfl : i = 0 := by omega
    obtain ⟨x, rfl⟩ : ∃ x, l = [x] := by
      match l, hl with
      | [x], _ => exact ⟨x, rfl⟩
    rw [climb_one, pathL_one (by simp)]
    rfl
  · have hs := halfN_spec (n := n) (by omega)
    by_cases h2 : i < halfN n
    · have hp := pathL_left (l := l) (i := i) (by omega) (by rw [hl]; exact h2)
      rw [hl] at hp
      have h3 := ih (halfN n) (by omega) (l.take (halfN n)) i q (rootL (l.drop (halfN n)) :: r) (by rw [List.length_take]; omega) h2
      rw [show (l.take (halfN n))[i]? = l[i]? from List.getElem?_take_of_lt h2] at h3
      rw [hp, show q ++ (pathL (l.take (halfN n)) i ++ [rootL (l.drop (halfN n))]) ++ r = q ++ pathL (l.take (halfN n)) i ++ rootL (l.drop (halfN n)) :: r from by simp]
      rw [climb_left _ _ _ (by omega) h2, h3]
      have h4 := elt_mid (q ++ pathL (l.take (halfN n)) i) (rootL (l.drop (halfN n))) r
      rw [List.length_append] at h4
      simp only
      rw [h4, rootL_node (l := l) (by omega), hl, List.length_append]
      rfl
    · have hp := pathL_right (l := l) (i := i) (by omega) (by rw [hl]; exact h2)
      rw [hl] at hp
      have h3 := ih (n - halfN n) (by omega) (l.drop (halfN n)) (i - halfN n) q (rootL (l.take (halfN n)) :: r) (by rw [List.length_drop]; omega) (by omega)
      rw [show (l.drop (halfN n))[i - halfN n]? = l[i]? from by rw [List.getElem?_drop]; congr 1; omega] at h3
      rw [hp, show q ++ (pathL (l.drop (halfN n)) (i - halfN n) ++ [rootL (l.take (halfN n))]) ++ r = q ++ pathL (l.drop (halfN n)) (i - halfN n) ++ rootL (l.take (halfN n)) :: r from by simp]
      rw [climb_right _ _ _ (by omega) h2, h3]
      have h4 := elt_mid (q ++ pathL (l.drop (halfN n)) (i - halfN n)) (rootL (l.take (halfN n))) r
      rw [List.length_append] at h4
      simp only
      rw [h4, rootL_node (l := l) (by omega), hl, List.length_append]
      rfl

theorem climb_path {n : Nat} {l : List Int} {i : Nat} (hl : l.length = n) (hi : i < n) : climb n i (leafZ (l[i]?.getD 0)) (pathL l i) 0 = (rootL l, (pathL l i).length) := by
  have := climb_root n l i [] [] hl hi
  simpa using this

theorem pathL_U : ∀ (f : Nat) (l : List Int) (i : Nat), ∀ z ∈ pathF f l i, U z
  | 0, _, _, z, hz => by simp [pathF] at hz
  | f + 1, l, i, z, hz => by
    rw [pathF] at hz
    split at hz
    · simp at hz
    · split at hz
      · rcases List.mem_append.1 hz with h | h
        · exact pathL_U f _ _ z h
        · rw [List.mem_singleton.1 h]; exact rootL_U _
      · rcases List.mem_append.1 hz with h | h
        · exact pathL_U f _ _ z h
        · rw [List.mem_singleton.1 h]; exact rootL_U _

/-- A half of at most 2^(p+1) is at most 2^p. -/
theorem halfN_le {n p : Nat} (h2 : 2 ≤ n) (h : n ≤ 2 ^ (p + 1)) : halfN n ≤ 2 ^ p := by
  have hs := halfN_spec h2
  obtain ⟨q, hq⟩ := halfN_pow n
  rw [hq] at hs ⊢
  have h5 : 2 ^ q < 2 ^ (p + 1) := by omega
  have h7 := (Nat.pow_lt_pow_iff_right (by decide : 1 < 2)).1 h5
  exact Nat.pow_le_pow_right (by decide) (by omega)

theorem depF_le : ∀ (f n i p : Nat), n ≤ 2 ^ p → depF f n i ≤ p
  | 0, _, _, _, _ => Nat.zero_le _
  | f + 1, n, i, p, h => by
    rw [depF]
    by_cases h1 : n ≤ 1
    · rw [if_pos h1]; exact Nat.zero_le _
    · have hs := halfN_spec (n := n) (by omega)
      cases p with
      | zero => simp at h; omega
      | succ p =>
        have hh := halfN_le (n := n) (by omega) h
        rw [if_neg h1]
        split
        · exact Nat.succ_le_succ (depF_le f _ _ p hh)
        · exact Nat.succ_le_succ (depF_le f _ _ p (by omega))
theorem pathL_short {l : List Int} (i : Nat) {p : Nat} (h : l.length ≤ 2 ^ p) : (pathL l i).length ≤ p := by
  unfold pathL
  rw [depF_path]
  exact depF_le _ _ _ _ h

/-- What CheckLink's walk computes: both roots, and how many elements were taken then. -/
def linkcF : Nat → Nat → Nat → Bool → Int → List Int → Nat → Int × Int × Nat
  | 0, _, _, _, v, _, t => (v, v, t)
  | f + 1, m, n, whole, v, p, t => if m = n then (if whole then (v, v, t) else (elt p t, elt p t, t + 1)) else
    if m ≤ halfN n then ((linkcF f m (halfN n) whole v p t).1, nodeZ (linkcF f m (halfN n) whole v p t).2.1 (elt p (linkcF f m (halfN n) whole v p t).2.2), (linkcF f m (halfN n) whole v p t).2.2 + 1)
    else (nodeZ (elt p (linkcF f (m - halfN n) (n - halfN n) false v p t).2.2) (linkcF f (m - halfN n) (n - halfN n) false v p t).1, nodeZ (elt p (linkcF f (m - halfN n) (n - halfN n) false v p t).2.2) (linkcF f (m - halfN n) (n - halfN n) false v p t).2.1, (linkcF f (m - halfN n) (n - halfN n) false v p t).2.2 + 1)
def linkc (m n : Nat) (whole : Bool) (v : Int) (p : List Int) (t : Nat) : Int × Int × Nat := linkcF n m n whole v p t

theorem linkcF_any : ∀ (f g m n : Nat) (whole : Bool) (v : Int) (p : List Int) (t : Nat), 1 ≤ m → m ≤ n → n ≤ f → n ≤ g → linkcF f m n whole v p t = linkcF g m n whole v p t
  | 0, _, m, n, _, _, _, _, h1, h2, hf, _ => by omega
  | f + 1, 0, m, n, _, _, _, _, h1, h2, _, hg => by omega
  | f + 1, g + 1, m, n, whole, v, p, t, h1, h2, hf, hg => by
    rw [linkcF, linkcF]
    by_cases h3 : m = n
    · rw [if_pos h3, if_pos h3]
    · have hs := halfN_spec (n := n) (by omega)
      rw [if_neg h3, if_neg h3]
      by_cases h4 : m ≤ halfN n
      · rw [if_pos h4, if_pos h4, linkcF_any f g m (halfN n) whole v p t h1 h4 (by omega) (by omega)]
      · rw [if_neg h4, if_neg h4, linkcF_any f g (m - halfN n) (n - halfN n) false v p t (by omega) (by omega) (by omega) (by omega)]

theorem linkc_all {n : Nat} (whole : Bool) (v : Int) (p : List Int) (t : Nat) (h : 1 ≤ n) : linkc n n whole v p t = if whole then (v, v, t) else (elt p t, elt p t, t + 1) := by
  obtain ⟨f, rfl⟩ : ∃ f, n = f + 1 := ⟨n - 1, by omega⟩
  unfold linkc
  rw [linkcF, if_pos rfl]
theorem linkc_left {m n : Nat} (whole : Bool) (v : Int) (p : List Int) (t : Nat) (h1 : 1 ≤ m) (h2 : m < n) (h : m ≤ halfN n) : linkc m n whole v p t = ((linkc m (halfN n) whole v p t).1, nodeZ (linkc m (halfN n) whole v p t).2.1 (elt p (linkc m (halfN n) whole v p t).2.2), (linkc m (halfN n) whole v p t).2.2 + 1) := by
  have hs := halfN_spec (n := n) (by omega)
  obtain ⟨f, rfl⟩ : ∃ f, n = f + 1 := ⟨n - 1, by omega⟩
  unfold linkc
  rw [linkcF, if_neg (by omega), if_pos h, linkcF_any f (halfN (f + 1)) m (halfN (f + 1)) whole v p t h1 h (by omega) (Nat.le_refl _)]
theorem linkc_right {m n : Nat} (whole : Bool) (v : Int) (p : List Int) (t : Nat) (h2 : m < n) (h : ¬ m ≤ halfN n) : linkc m n whole v p t = (nodeZ (elt p (linkc (m - halfN n) (n - halfN n) false v p t).2.2) (linkc (m - halfN n) (n - halfN n) false v p t).1, nodeZ (elt p (linkc (m - halfN n) (n - halfN n) false v p t).2.2) (linkc (m - halfN n) (n - halfN n) false v p t).2.1, (linkc (m - halfN n) (n - halfN n) false v p t).2.2 + 1) := by
  have hs := halfN_spec (n := n) (by omega)
  obtain ⟨f, rfl⟩ : ∃ f, n = f + 1 := ⟨n - 1, by omega⟩
  unfold linkc
  rw [linkcF, if_neg (by omega), if_neg h, linkcF_any f (f + 1 - halfN (f + 1)) (m - halfN (f + 1)) (f + 1 - halfN (f + 1)) false v p t (by omega) (by omega) (by omega) (Nat.le_refl _)]

/-- How many elements a link has. -/
def delF : Nat → Nat → Nat → Bool → Nat
  | 0, _, _, _ => 0
  | f + 1, m, n, whole => if m = n then (if whole then 0 else 1) else if m ≤ halfN n then delF f m (halfN n) whole + 1 else delF f (m - halfN n) (n - halfN n) false + 1
theorem linkcF_taken : ∀ (f m n : Nat) (whole : Bool) (v : Int) (p : List Int) (t : Nat), (linkcF f m n whole v p t).2.2 = t + delF f m n whole
  | 0, _, _, _, _, _, _ => rfl
  | f + 1, m, n, whole, v, p, t => by
    rw [linkcF, delF]
    split
    · cases whole <;> rfl
    · split
      · rw [linkcF_taken f]; show t + _ + 1 = _; omega
      · rw [linkcF_taken f]; show t + _ + 1 = _; omega

theorem linkcF_U : ∀ (f m n : Nat) (whole : Bool) (v : Int) (p : List Int) (t : Nat), U v → (∀ j, U (elt p j)) → U (linkcF f m n whole v p t).1 ∧ U (linkcF f m n whole v p t).2.1
  | 0, _, _, _, _, _, _, h, _ => ⟨h, h⟩
  | f + 1, m, n, whole, v, p, t, h, hp => by
    rw [linkcF]
    split
    · cases whole
      · exact ⟨hp _, hp _⟩
      · exact ⟨h, h⟩
    · split
      · exact ⟨(linkcF_U f _ _ _ _ _ _ h hp).1, nodeZ_U _ _⟩
      · exact ⟨nodeZ_U _ _, nodeZ_U _ _⟩

/-- Without 'whole' the first root does not count. -/
theorem linkcF_false : ∀ (f m n : Nat) (v v' : Int) (p : List Int) (t : Nat), 1 ≤ m → m ≤ n → n ≤ f → linkcF f m n false v p t = linkcF f m n false v' p t
  | 0, m, n, _, _, _, _, h1, h2, h3 => by omega
  | f + 1, m, n, v, v', p, t, h1, h2, h3 => by
    rw [linkcF, linkcF]
    by_cases h4 : m = n
    · rw [if_pos h4, if_pos h4]; rfl
    · have hs := halfN_spec (n := n) (by omega)
      rw [if_neg h4, if_neg h4]
      by_cases h5 : m ≤ halfN n
      · rw [if_pos h5, if_pos h5, linkcF_false f m (halfN n) v v' p t h1 h5 (by omega)]
      · rw [if_neg h5, if_neg h5, linkcF_false f _ _ v v' p t (by omega) (by omega) (by omega)]

/-- With another first root: it does not count, or it is handed on, and the second root is another one. -/
theorem linkcF_from : ∀ (f m n : Nat) (v v' : Int) (p : List Int) (t : Nat), U v → U v' → (∀ j, U (elt p j)) → v ≠ v' → 1 ≤ m → m ≤ n → n ≤ f →
    (linkcF f m n true v' p t).1 = (linkcF f m n true v p t).1 ∨ (linkcF f m n true v' p t).2.1 ≠ (linkcF f m n true v p t).2.1
  | 0, m, n, _, _, _, _, _, _, _, _, h1, h2, h3 => by omega
  | f + 1, m, n, v, v', p, t, hv, hv', hp, hne, h1, h2, h3 => by
    rw [linkcF, linkcF]
    by_cases h4 : m = n
    · rw [if_pos h4, if_pos h4]; exact .inr fun e => hne e.symm
    · have hs := halfN_spec (n := n) (by omega)
      rw [if_neg h4, if_neg h4]
      by_cases h5 : m ≤ halfN n
      · rw [if_pos h5, if_pos h5]
        rcases linkcF_from f m (halfN n) v v' p t hv hv' hp hne h1 h5 (by omega) with h6 | h6
        · exact .inl h6
        · right
          simp only [linkcF_taken]
          exact fun e => h6 (nodeZ_left (linkcF_U _ _ _ _ _ _ _ hv' hp).2 (linkcF_U _ _ _ _ _ _ _ hv hp).2 e)
      · rw [if_neg h5, if_neg h5, linkcF_false f _ _ v v' p t (by omega) (by omega) (by omega)]
        exact .inl rfl

theorem linkcF_same : ∀ (f m n : Nat) (whole : Bool) (v : Int) (p p' : List Int) (t k : Nat), But k p p' → t + delF f m n whole ≤ k → linkcF f m n whole v p t = linkcF f m n whole v p' t
  | 0, _, _, _, _, _, _, _, _, _, _ => rfl
  | f + 1, m, n, whole, v, p, p', t, k, hb, hk => by
    rw [linkcF, linkcF]
    rw [delF] at hk
    by_cases h1 : m = n
    · rw [if_pos h1] at hk
      rw [if_pos h1, if_pos h1]
      cases whole
      · have hk' : t + 1 ≤ k := hk
        simp only [Bool.false_eq_true, if_false]
        rw [hb t (by omega)]
      · rfl
    · rw [if_neg h1] at hk
      rw [if_neg h1, if_neg h1]
      by_cases h2 : m ≤ halfN n
      · rw [if_pos h2] at hk
        rw [if_pos h2, if_pos h2, linkcF_same f _ _ whole v p p' t k hb (by omega)]
        rw [hb _ (by rw [linkcF_taken]; omega)]
      · rw [if_neg h2] at hk
        rw [if_neg h2, if_neg h2, linkcF_same f _ _ false v p p' t k hb (by omega)]
        rw [hb _ (by rw [linkcF_taken]; omega)]

/-- A link that is changed at one place that is taken leads to another second root. -/
theorem linkcF_elt : ∀ (f m n : Nat) (whole : Bool) (v : Int) (p p' : List Int) (t k : Nat), U v → (∀ j, U (elt p j)) → (∀ j, U (elt p' j)) → But k p p' → elt p k ≠ elt p' k → t ≤ k → k < t + delF f m n whole → (linkcF f m n whole v p t).2.1 ≠ (linkcF f m n whole v p' t).2.1
  | 0, _, _, _, _, _, _, _, _, _, _, _, _, _, h1, h2 => by rw [delF] at h2; omega
  | f + 1, m, n, whole, v, p, p', t, k, hv, hp, hp', hb, hne, h1, h2 => by
    rw [linkcF, linkcF]
    rw [delF] at h2
    by_cases h3 : m = n
    · rw [if_pos h3] at h2
      rw [if_pos h3, if_pos h3]
      cases whole
      · have h2' : k < t + 1 := h2
        obtain rfl : t = k := by omega
        exact hne
      · have h2' : k < t + 0 := h2
        omega
    · rw [if_neg h3] at h2
      rw [if_neg h3, if_neg h3]
      by_cases h4 : m ≤ halfN n
      · rw [if_pos h4] at h2
        rw [if_pos h4, if_pos h4]
        by_cases h5 : k < t + delF f m (halfN n) whole
        · simp only [linkcF_taken]
          rw [hb _ (by omega)]
          exact fun e => linkcF_elt f _ _ whole v p p' t k hv hp hp' hb hne h1 h5 (nodeZ_left (linkcF_U _ _ _ _ _ _ _ hv hp).2 (linkcF_U _ _ _ _ _ _ _ hv hp').2 e)
        · rw [linkcF_same f _ _ whole v p p' t k hb (by omega)]
          simp only [linkcF_taken]
          rw [show t + delF f m (halfN n) whole = k from by omega]
          exact fun e => hne (nodeZ_right (hp _) (hp' _) e)
      · rw [if_neg h4] at h2
        rw [if_neg h4, if_neg h4]
        by_cases h5 : k < t + delF f (m - halfN n) (n - halfN n) false
        · simp only [linkcF_taken]
          rw [hb _ (by omega)]
          exact fun e => linkcF_elt f _ _ false v p p' t k hv hp hp' hb hne h1 h5 (nodeZ_right (linkcF_U _ _ _ _ _ _ _ hv hp).2 (linkcF_U _ _ _ _ _ _ _ hv hp').2 e)
        · rw [linkcF_same f _ _ false v p p' t k hb (by omega)]
          simp only [linkcF_taken]
          rw [show t + delF f (m - halfN n) (n - halfN n) false = k from by omega]
          exact fun e => hne (nodeZ_left (hp _) (hp' _) e)

/-- A link leads to both roots. -/
theorem linkc_root : ∀ (n : Nat) (l : List Int) (m : Nat) (whole : Bool) (v : Int) (q r : List Int), l.length = n → 1 ≤ m → m ≤ n → (whole = true → v = rootL (l.take m)) → linkc m n whole v (q ++ linkL l m whole ++ r) q.length = (rootL (l.take m), rootL l, q.length + (linkL l m whole).length) := by
  intro n
  induction n using Nat.strongRecOn with
  | ind n ih =>
  intro l m whole v q r hl h1 hm hv
  by_cases h2 : m = n
  · subst h2
    have hall := linkL_all l whole
    rw [hl] at hall
    rw [linkc_all whole _ _ _ h1, hall, List.take_of_length_le (by omega)]
    cases whole
    · simp only [Bool.false_eq_true, if_false]
      rw [show q ++ [rootL l] ++ r = q ++ rootL l :: r from by simp, elt_mid]
      rfl
    · simp only [if_true]
      rw [hv rfl, List.take_of_length_le (by omega)]
      rfl
  · have hs := halfN_spec (n := n) (by omega)
    by_cases h3 : m ≤ halfN n
    · have hp := linkL_left (l := l) (m := m) whole h1 (by omega) (by rw [hl]; exact h3)
      rw [hl] at hp
      have htt : (l.take (halfN n)).take m = l.take m := by rw [List.take_take, Nat.min_eq_left h3]
      have h4 := ih (halfN n) (by omega) (l.take (halfN n)) m whole v q (rootL (l.drop (halfN n)) :: r) (by rw [List.length_take]; omega) h1 h3 (fun e => by rw [htt]; exact hv e)
      rw [hp, show q ++ (linkL (l.take (halfN n)) m whole ++ [rootL (l.drop (halfN n))]) ++ r = q ++ linkL (l.take (halfN n)) m whole ++ rootL (l.drop (halfN n)) :: r from by simp]
      rw [linkc_left whole _ _ _ h1 (by omega) h3, h4]
      have h5 := elt_mid (q ++ linkL (l.take (halfN n)) m whole) (rootL (l.drop (halfN n))) r
      rw [List.length_append] at h5
      simp only
      rw [h5, rootL_node (l := l) (by omega), hl, List.length_append, htt]
      rfl
    · have hp := linkL_right (l := l) (m := m) whole (by omega) (by rw [hl]; exact h3)
      rw [hl] at hp
      have h4 := ih (n - halfN n) (by omega) (l.drop (halfN n)) (m - halfN n) false v q (rootL (l.take (halfN n)) :: r) (by rw [List.length_drop]; omega) (by omega) (by omega) (fun e => by cases e)
      rw [hp, show q ++ (linkL (l.drop (halfN n)) (m - halfN n) false ++ [rootL (l.take (halfN n))]) ++ r = q ++ linkL (l.drop (halfN n)) (m - halfN n) false ++ rootL (l.take (halfN n)) :: r from by simp]
      rw [linkc_right whole _ _ _ (by omega) h3, h4]
      have h5 := elt_mid (q ++ linkL (l.drop (halfN n)) (m - halfN n) false) (rootL (l.take (halfN n))) r
      rw [List.length_append] at h5
      have hlm : (l.take m).length = m := by rw [List.length_take]; omega
      have hsm := halfN_spec (n := m) (by omega)
      have hhm : halfN m = halfN n := pow_between (n := m) (halfN_pow m) (halfN_pow n) hsm.2.1 hsm.2.2 (by omega) (by omega)
      have h6 : rootL (l.take m) = nodeZ (rootL (l.take (halfN n))) (rootL ((l.drop (halfN n)).take (m - halfN n))) := by
        rw [rootL_node (l := l.take m) (by omega), hlm, hhm, List.take_take, Nat.min_eq_left (by omega), List.drop_take]
      simp only
      rw [h5, rootL_node (l := l) (by omega), hl, List.length_append, h6]
      rfl

theorem linkc_link {n : Nat} {l : List Int} {m : Nat} (hl : l.length = n) (h1 : 1 ≤ m) (hm : m ≤ n) : linkc m n true (rootL (l.take m)) (linkL l m true) 0 = (rootL (l.take m), rootL l, (linkL l m true).length) := by
  have := linkc_root n l m true _ [] [] hl h1 hm (fun _ => rfl)
  simpa using this

theorem linkF_U : ∀ (f : Nat) (l : List Int) (m : Nat) (whole : Bool), ∀ z ∈ linkF f l m whole, U z
  | 0, _, _, _, z, hz => by simp [linkF] at hz
  | f + 1, l, m, whole, z, hz => by
    rw [linkF] at hz
    split at hz
    · cases whole
      · simp at hz; rw [hz]; exact rootL_U _
      · simp at hz
    · split at hz
      · rcases List.mem_append.1 hz with h | h
        · exact linkF_U f _ _ _ z h
        · rw [List.mem_singleton.1 h]; exact rootL_U _
      · rcases List.mem_append.1 hz with h | h
        · exact linkF_U f _ _ _ z h
        · rw [List.mem_singleton.1 h]; exact rootL_U _

theorem linkF_short : ∀ (f : Nat) (l : List Int) (m : Nat) (whole : Bool) (p : Nat), 1 ≤ m → m ≤ l.length → l.length ≤ 2 ^ p → (linkF f l m whole).length ≤ p + 1
  | 0, _, _, _, _, _, _, _ => by simp [linkF]
  | f + 1, l, m, whole, p, h1, h2, h => by
    rw [linkF]
    by_cases h3 : m = l.length
    · rw [if_pos h3]
      cases whole <;> simp
    · have hs := halfN_spec (n := l.length) (by omega)
      rw [if_neg h3]
      cases p with
      | zero => simp at h; omega
      | succ p =>
        have hh := halfN_le (n := l.length) (by omega) h
        by_cases h4 : m ≤ halfN l.length
        · rw [if_pos h4, List.length_append]
          exact Nat.succ_le_succ (linkF_short f _ m whole p h1 (by rw [List.length_take]; omega) (by rw [List.length_take]; omega))
        · rw [if_neg h4, List.length_append]
          exact Nat.succ_le_succ (linkF_short f _ (m - halfN l.length) false p (by omega) (by rw [List.length_drop]; omega) (by rw [List.length_drop]; omega))
theorem linkL_short {l : List Int} {m : Nat} (whole : Bool) {p : Nat} (h1 : 1 ≤ m) (h2 : m ≤ l.length) (h : l.length ≤ 2 ^ p) : (linkL l m whole).length ≤ p + 1 := linkF_short _ _ _ _ _ h1 h2 h

/-- What Check answers for a leaf's hash v. -/
def checkZ (root : Int) (n i : Nat) (v : Int) (p : List Int) : Bool := decide ((climb n i v p 0).1 = root ∧ (climb n i v p 0).2 = p.length)
/-- What CheckLink answers for 1 ≤ a ≤ b. -/
def checkLinkZ (v to : Int) (a b : Nat) (p : List Int) : Bool :=
  if a = b then decide (p.length = 0 ∧ v = to) else decide ((linkc a b true v p 0).1 = v ∧ (linkc a b true v p 0).2.1 = to ∧ (linkc a b true v p 0).2.2 = p.length)

theorem elt_set_same (p : List Int) (k : Nat) (v : Int) (hk : k < p.length) : elt (p.set k v) k = v := by
  unfold elt
  rw [List.getElem?_set_self hk]
  rfl
theorem but_set (p : List Int) (k : Nat) (v : Int) : But k p (p.set k v) := fun j hj => by
  unfold elt
  rw [List.getElem?_set_ne (Ne.symm hj)]
theorem set_U {p : List Int} (h : ∀ z ∈ p, U z) (k : Nat) {v : Int} (hv : U v) : ∀ z ∈ p.set k v, U z := fun z hz => by
  rcases List.mem_or_eq_of_mem_set hz with h1 | h1
  · exact h z h1
  · rw [h1]; exact hv

section laws
variable {n : Nat} {l : List Int} {i : Nat}
theorem checkZ_yes (hl : l.length = n) (hi : i < n) : checkZ (rootL l) n i (leafZ (l[i]?.getD 0)) (pathL l i) = true := by
  unfold checkZ
  rw [climb_path hl hi]
  exact decide_eq_true ⟨rfl, rfl⟩
theorem checkZ_root (hl : l.length = n) (hi : i < n) {other : Int} (h : other ≠ rootL l) : checkZ other n i (leafZ (l[i]?.getD 0)) (pathL l i) = false := by
  unfold checkZ
  rw [climb_path hl hi]
  exact decide_eq_false fun e => h e.1.symm
theorem checkZ_leaf (hl : l.length = n) (hi : i < n) {x : Int} (hx : U x) (hy : U (l[i]?.getD 0)) (h : x ≠ l[i]?.getD 0) : checkZ (rootL l) n i (leafZ x) (pathL l i) = false := by
  unfold checkZ
  refine decide_eq_false fun e => h ?_
  have h1 : (climb n i (leafZ x) (pathL l i) 0).1 = (climb n i (leafZ (l[i]?.getD 0)) (pathL l i) 0).1 := by rw [e.1, climb_path hl hi]
  exact leafZ_inj hx hy (climbF_leaf _ _ _ _ _ _ _ (leafZ_U _) (leafZ_U _) h1)
theorem checkZ_elt (hl : l.length = n) (hi : i < n) {k : Nat} (hk : k < (pathL l i).length) {x : Int} (hx : U x) (h : x ≠ elt (pathL l i) k) : checkZ (rootL l) n i (leafZ (l[i]?.getD 0)) ((pathL l i).set k x) = false := by
  unfold checkZ
  refine decide_eq_false fun e => ?_
  have hd : (pathL l i).length = depF n n i := by unfold pathL; rw [depF_path, hl]
  have hU := pathL_U l.length l i
  refine climbF_elt n n i (leafZ (l[i]?.getD 0)) (pathL l i) ((pathL l i).set k x) 0 k (leafZ_U _) (elt_U hU) (elt_U (set_U hU k hx)) (but_set _ _ _) (by rw [elt_set_same _ _ _ hk]; exact Ne.symm h) (Nat.zero_le _) (by omega) ?_
  have h1 := e.1
  unfold climb at h1
  rw [h1]
  have h2 := congrArg Prod.fst (climb_path hl hi)
  exact h2

variable {m : Nat}
theorem take_all (hl : l.length = n) : l.take n = l := List.take_of_length_le (by omega)
theorem checkLinkZ_yes (hl : l.length = n) (h1 : 1 ≤ m) (hm : m ≤ n) : checkLinkZ (rootL (l.take m)) (rootL l) m n (linkL l m true) = true := by
  unfold checkLinkZ
  by_cases h : m = n
  · subst h
    have hall := linkL_all l true
    rw [hl] at hall
    rw [if_pos rfl, hall, take_all hl]
    exact decide_eq_true ⟨rfl, rfl⟩
  · rw [if_neg h, linkc_link hl h1 hm]
    exact decide_eq_true ⟨rfl, rfl, rfl⟩
theorem checkLinkZ_from (hl : l.length = n) (h1 : 1 ≤ m) (hm : m ≤ n) {other : Int} (ho : U other) (hne : other ≠ rootL (l.take m)) : checkLinkZ other (rootL l) m n (linkL l m true) = false := by
  unfold checkLinkZ
  by_cases h : m = n
  · subst h
    rw [take_all hl] at hne
    rw [if_pos rfl]
    exact decide_eq_false fun e => hne e.2
  · rw [if_neg h]
    refine decide_eq_false fun e => ?_
    have hL := linkc_link hl h1 hm
    have hU := linkF_U (l.length + 1) l m true
    rcases linkcF_from n m n (rootL (l.take m)) other (linkL l m true) 0 (rootL_U _) ho (elt_U hU) (Ne.symm hne) h1 hm (Nat.le_refl _) with h2 | h2
    · have h3 := congrArg Prod.fst hL
      exact hne (e.1.symm.trans (h2.trans h3))
    · have h3 := congrArg (fun x => x.2.1) hL
      exact h2 (e.2.1.trans h3.symm)
theorem checkLinkZ_to (hl : l.length = n) (h1 : 1 ≤ m) (hm : m ≤ n) {other : Int} (hne : other ≠ rootL l) : checkLinkZ (rootL (l.take m)) other m n (linkL l m true) = false := by
  unfold checkLinkZ
  by_cases h : m = n
  · subst h
    rw [if_pos rfl, take_all hl]
    exact decide_eq_false fun e => hne e.2.symm
  · rw [if_neg h, linkc_link hl h1 hm]
    exact decide_eq_false fun e => hne e.2.1.symm
theorem delF_link : ∀ (f : Nat) (l : List Int) (m : Nat) (whole : Bool), m ≤ l.length → (linkF f l m whole).length = delF f m l.length whole
  | 0, _, _, _, _ => rfl
  | f + 1, l, m, whole, h => by
    rw [linkF, delF]
    by_cases h1 : m = l.length
    · rw [if_pos h1, if_pos h1]; cases whole <;> rfl
    · have hh : halfN l.length ≤ l.length ∨ l.length < 2 := by
        rcases Nat.lt_or_ge l.length 2 with h2 | h2
        · exact .inr h2
        · exact .inl (by have := halfN_spec h2; omega)
      rw [if_neg h1, if_neg h1]
      by_cases h2 : m ≤ halfN l.length
      · rw [if_pos h2, if_pos h2, List.length_append]
        rcases hh with hh | hh
        · rw [delF_link f _ _ _ (by rw [List.length_take]; omega), List.length_take, Nat.min_eq_left hh]; rfl
        · have h0 : m = 0 := by omega
          have hl1 : l.length = 1 := by omega
          have hh1 : halfN l.length = 1 := by rw [hl1]; rfl
          rw [delF_link f _ _ _ (by rw [List.length_take]; omega), List.length_take, hh1, hl1]; rfl
      · rw [if_neg h2, if_neg h2, List.length_append, delF_link f _ _ _ (by rw [List.length_drop]; omega), List.length_drop]; rfl
theorem delF_any : ∀ (f g m n : Nat) (whole : Bool), 1 ≤ m → m ≤ n → n ≤ f → n ≤ g → delF f m n whole = delF g m n whole
  | 0, _, m, n, _, h1, h2, hf, _ => by omega
  | f + 1, 0, m, n, _, h1, h2, _, hg => by omega
  | f + 1, g + 1, m, n, whole, h1, h2, hf, hg => by
    rw [delF, delF]
    by_cases h3 : m = n
    · rw [if_pos h3, if_pos h3]
    · have hs := halfN_spec (n := n) (by omega)
      rw [if_neg h3, if_neg h3]
      by_cases h4 : m ≤ halfN n
      · rw [if_pos h4, if_pos h4, delF_any f g m (halfN n) whole h1 h4 (by omega) (by omega)]
      · rw [if_neg h4, if_neg h4, delF_any f g (m - halfN n) (n - halfN n) false (by omega) (by omega) (by omega) (by omega)]
theorem checkLinkZ_elt (hl : l.length = n) (h1 : 1 ≤ m) (hm : m ≤ n) {k : Nat} (hk : k < (linkL l m true).length) {x : Int} (hx : U x) (h : x ≠ elt (linkL l m true) k) : checkLinkZ (rootL (l.take m)) (rootL l) m n ((linkL l m true).set k x) = false := by
  unfold checkLinkZ
  by_cases h2 : m = n
  · subst h2
    have hall := linkL_all l true
    rw [hl] at hall
    rw [hall] at hk
    simp at hk
  · rw [if_neg h2]
    refine decide_eq_false fun e => ?_
    have hd : (linkL l m true).length = delF n m n true := by
      unfold linkL
      rw [delF_link _ _ _ _ (by omega), hl]
      exact delF_any _ _ _ _ _ h1 hm (by omega) (Nat.le_refl _)
    have hU := linkF_U (l.length + 1) l m true
    refine linkcF_elt n m n true (rootL (l.take m)) (linkL l m true) ((linkL l m true).set k x) 0 k (rootL_U _) (elt_U hU) (elt_U (set_U hU k hx)) (but_set _ _ _) (by rw [elt_set_same _ _ _ hk]; exact Ne.symm h) (Nat.zero_le _) (by omega) ?_
    have h3 := e.2.1
    unfold linkc at h3
    rw [h3]
    exact congrArg (fun x => x.2.1) (linkc_link hl h1 hm)
end laws

end Go.Proofs.Ytliconagelemdaa
