/- The plain laws of the hash: a change within one word changes the hash. -/
import Derived.Test.YtliconagelemdaaPlain
namespace Go.Proofs.Ytliconagelemdaa
open Go.RowKit

/-- A number of type int. -/
def I (x : Int) : Prop := -9223372036854775808 ≤ x ∧ x ≤ 9223372036854775807

theorem wrap_inj {a b : Int} (ha : I a) (hb : I b) (h : IntKind.u64.wrap a = IntKind.u64.wrap b) : a = b := by
  rw [IntKind.wrap_u64, IntKind.wrap_u64] at h
  unfold I at ha hb
  omega

theorem wrap64_I (x : Int) : I (wrap64 x) := by
  unfold I wrap64
  omega

theorem wrap_wrap64 (x : Int) : IntKind.u64.wrap (wrap64 x) = IntKind.u64.wrap x := by
  rw [IntKind.wrap_u64, IntKind.wrap_u64]
  unfold wrap64
  omega

theorem wrap64_inj {a b : Int} (ha : U a) (hb : U b) (h : wrap64 a = wrap64 b) : a = b := by
  have : IntKind.u64.wrap (wrap64 a) = IntKind.u64.wrap (wrap64 b) := by rw [h]
  rw [wrap_wrap64, wrap_wrap64, wrap_of_U ha, wrap_of_U hb] at this
  exact this

theorem zero_U : U 0 := by unfold U; omega

/-- Two sums that part in one number. -/
theorem sumZ_one {lab p q : List Int} {a b : Int} (ha : I a) (hb : I b) (h : sumZ lab (p ++ a :: q) = sumZ lab (p ++ b :: q)) : a = b := by
  unfold sumZ at h
  have h1 := mixZ_left (runZ_U (mixZ_U _ _) _) (runZ_U (mixZ_U _ _) _) h
  rw [show (p ++ a :: q).length = (p ++ b :: q).length from by simp, List.map_append, List.map_append, List.map_cons, List.map_cons] at h1
  exact wrap_inj ha hb (runZ_one (wrap_U _) (wrap_U _) h1)

theorem split_at (l : List Int) (k : Nat) (hk : k < l.length) : l = l.take k ++ (l[k]?.getD 0) :: l.drop (k + 1) := by
  rw [List.getElem?_eq_getElem hk, Option.getD_some, ← List.drop_eq_getElem_cons hk, List.take_append_drop]

theorem set_at (l : List Int) (k : Nat) (v : Int) (hk : k < l.length) : l.set k v = l.take k ++ v :: l.drop (k + 1) := by
  rw [List.set_eq_take_append_cons_drop, if_pos hk]

theorem sumZ_set (lab l : List Int) (k : Nat) (v : Int) (hk : k < l.length) (hl : I (l[k]?.getD 0)) (hv : I v) : (sumZ lab l == sumZ lab (l.set k v)) = (l[k]?.getD 0 == v) := by
  by_cases h : l[k]?.getD 0 = v
  · have : l.set k v = l := by rw [set_at l k v hk, ← h]; exact (split_at l k hk).symm
    rw [this, h]
    simp
  · have : sumZ lab l ≠ sumZ lab (l.set k v) := by
      intro e
      rw [set_at l k v hk] at e
      rw [split_at l k hk] at e
      have h0 : l.take k ++ (l[k]?.getD 0) :: l.drop (k + 1) = l := (split_at l k hk).symm
      rw [h0] at e
      rw [← h0] at e
      simp only [h0] at e
      exact h (sumZ_one hl hv (by rw [h0]; exact e))
    rw [beq_eq_false_iff_ne.2 this, beq_eq_false_iff_ne.2 h]

theorem pair_left {a b c : Int} (ha : U a) (hb : U b) : (sumZ [112, 97, 105, 114] [wrap64 a, wrap64 c] == sumZ [112, 97, 105, 114] [wrap64 b, wrap64 c]) = (a == b) := by
  by_cases h : a = b
  · simp [h]
  · have : sumZ [112, 97, 105, 114] [wrap64 a, wrap64 c] ≠ sumZ [112, 97, 105, 114] [wrap64 b, wrap64 c] := fun e => h (wrap64_inj ha hb (sumZ_one (p := []) (q := [wrap64 c]) (wrap64_I _) (wrap64_I _) e))
    rw [beq_eq_false_iff_ne.2 this, beq_eq_false_iff_ne.2 h]

theorem pair_right {a b c : Int} (ha : U a) (hb : U b) : (sumZ [112, 97, 105, 114] [wrap64 c, wrap64 a] == sumZ [112, 97, 105, 114] [wrap64 c, wrap64 b]) = (a == b) := by
  by_cases h : a = b
  · simp [h]
  · have : sumZ [112, 97, 105, 114] [wrap64 c, wrap64 a] ≠ sumZ [112, 97, 105, 114] [wrap64 c, wrap64 b] := fun e => h (wrap64_inj ha hb (sumZ_one (p := [wrap64 c]) (q := []) (wrap64_I _) (wrap64_I _) e))
    rw [beq_eq_false_iff_ne.2 this, beq_eq_false_iff_ne.2 h]

theorem leZ_inj : ∀ {l m : List Int}, Byt l → Byt m → l.length = m.length → leZ l = leZ m → l = m
  | [], [], _, _, _, _ => rfl
  | [], _ :: _, _, _, h, _ => by simp at h
  | _ :: _, [], _, _, h, _ => by simp at h
  | x :: l, y :: m, hl, hm, hlen, h => by
    have hx := hl x (by simp)
    have hy := hm y (by simp)
    simp only [leZ] at h
    have e : x = y := by omega
    have e2 : leZ l = leZ m := by omega
    rw [e, leZ_inj (fun z hz => hl z (by simp [hz])) (fun z hz => hm z (by simp [hz])) (by simpa using hlen) e2]

/-- Two lists of bytes of one length that part within the group j alone. -/
structure Near (x y : List Int) (j : Nat) : Prop where
  bx : Byt x
  bz : Byt y
  len : x.length = y.length
  lt : 8 * j < x.length
  same : ∀ i, i / 8 ≠ j → x[i]? = y[i]?

theorem wordAt_same {x y : List Int} {i : Nat} (h : ∀ m, m < 8 → x[8 * i + m]? = y[8 * i + m]?) : wordAt x i = wordAt y i := by
  unfold wordAt
  congr 1
  apply List.ext_getElem?
  intro m
  by_cases hm : m < 8
  · rw [List.getElem?_take_of_lt hm, List.getElem?_take_of_lt hm, List.getElem?_drop, List.getElem?_drop, h m hm]
  · rw [List.getElem?_take_eq_none (by omega), List.getElem?_take_eq_none (by omega)]

theorem Near.words {x y : List Int} {j : Nat} (h : Near x y j) : wordsZ y = (wordsZ x).set j (wordAt y j) := by
  apply List.ext_getElem?
  intro i
  unfold wordsZ
  rw [List.getElem?_set, ← h.len]
  by_cases hi : i < (x.length + 7) / 8
  · simp only [List.getElem?_map, List.getElem?_range hi, Option.map_some, List.length_map, List.length_range]
    by_cases e : j = i
    · rw [if_pos e, if_pos (by omega), e]
    · rw [if_neg e]
      rw [wordAt_same fun m hm => h.same _ (by omega)]
  · have hn : (List.range ((x.length + 7) / 8))[i]? = none := by simp; omega
    simp only [List.getElem?_map, hn, Option.map_none, List.length_map, List.length_range]
    rw [if_neg (by have := h.lt; omega)]

theorem Near.word_ne {x y : List Int} {j : Nat} (h : Near x y j) (hne : x ≠ y) : wordAt x j ≠ wordAt y j := by
  intro e
  apply hne
  have hc : chunk x j = chunk y j := leZ_inj (chunk_byt h.bx j) (chunk_byt h.bz j) (by rw [chunk_length, chunk_length, h.len]) e
  apply List.ext_getElem?
  intro i
  by_cases hi : i / 8 = j
  · have h1 : (chunk x j)[i - 8 * j]? = (chunk y j)[i - 8 * j]? := by rw [hc]
    unfold chunk at h1
    rw [List.getElem?_take_of_lt (by omega), List.getElem?_take_of_lt (by omega), List.getElem?_drop, List.getElem?_drop, show 8 * j + (i - 8 * j) = i from by omega] at h1
    exact h1
  · exact h.same i hi

theorem wordsZ_get (x : List Int) (j : Nat) (h : 8 * j < x.length) : (wordsZ x)[j]?.getD 0 = wordAt x j := by
  simp [wordsZ, List.getElem?_range (show j < (x.length + 7) / 8 by omega)]

theorem Near.bytes {x y : List Int} {j : Nat} (h : Near x y j) (lab : List Int) : (bytesZ lab x == bytesZ lab y) = sameB x y := by
  by_cases hne : x = y
  · subst hne; rw [sameB_true rfl]; simp
  · rw [sameB_false hne]
    have hj : j < (wordsZ x).length := by rw [wordsZ_length]; have := h.lt; omega
    have : bytesZ lab x ≠ bytesZ lab y := by
      intro e
      unfold bytesZ at e
      rw [h.words, ← h.len, set_at _ _ _ hj] at e
      have hs : (wordsZ x).map wrap64 = ((wordsZ x).take j ++ wordAt x j :: (wordsZ x).drop (j + 1)).map wrap64 := by rw [← wordsZ_get x j h.lt, ← split_at (wordsZ x) j hj]
      rw [hs] at e
      simp only [List.map_append, List.map_cons, List.append_assoc, List.cons_append] at e
      have e2 := sumZ_one (wrap64_I _) (wrap64_I _) e
      exact h.word_ne hne (wrap64_inj (wordAt_U h.bx j) (wordAt_U h.bz j) e2)
    simpa using this

theorem Near.label {x y : List Int} {j : Nat} (h : Near x y j) (l : List Int) : (sumZ x l == sumZ y l) = sameB x y := by
  by_cases hne : x = y
  · subst hne; rw [sameB_true rfl]; simp
  · rw [sameB_false hne]
    have hj : j < (wordsZ x).length := by rw [wordsZ_length]; have := h.lt; omega
    have : sumZ x l ≠ sumZ y l := by
      intro e
      unfold sumZ at e
      have e1 := mixZ_left (runZ_U (mixZ_U _ _) _) (runZ_U (mixZ_U _ _) _) e
      have e2 := mixZ_left (mixZ_U _ _) (mixZ_U _ _) (runZ_left (mixZ_U _ _) (mixZ_U _ _) e1)
      rw [← h.len] at e2
      have e3 := mixZ_left (runZ_U zero_U _) (runZ_U zero_U _) e2
      rw [h.words, set_at _ _ _ hj] at e3
      have hs : wordsZ x = (wordsZ x).take j ++ wordAt x j :: (wordsZ x).drop (j + 1) := by rw [← wordsZ_get x j h.lt]; exact split_at (wordsZ x) j hj
      have e4 : runZ 0 ((wordsZ x).take j ++ wordAt x j :: (wordsZ x).drop (j + 1)) = runZ 0 ((wordsZ x).take j ++ wordAt y j :: (wordsZ x).drop (j + 1)) := by rw [← hs]; exact e3
      exact h.word_ne hne (runZ_one (wordAt_U h.bx j) (wordAt_U h.bz j) e4)
    simpa using this

theorem leZ_zero (l : List Int) : leZ (l ++ [0]) = leZ l := by rw [leZ_snoc]; simp

theorem words_longer {c : List Int} (h : c.length % 8 ≠ 0) : wordsZ (c ++ [0]) = wordsZ c := by
  unfold wordsZ
  rw [show ((c ++ [(0 : Int)]).length + 7) / 8 = (c.length + 7) / 8 from by simp; omega]
  apply List.map_congr_left
  intro i hi
  have hi' : 8 * i ≤ c.length := by have := List.mem_range.1 hi; omega
  unfold wordAt
  rw [List.drop_append_of_le_length hi']
  by_cases h8 : 8 ≤ (c.drop (8 * i)).length
  · rw [List.take_append_of_le_length h8]
  · rw [List.take_of_length_le (l := c.drop (8 * i) ++ [0]) (by simp at h8 ⊢; omega), List.take_of_length_le (l := c.drop (8 * i)) (by omega), leZ_zero]

theorem bytes_longer (lab : List Int) {c : List Int} (h : c.length % 8 ≠ 0) (hl : c.length ≤ 1000000) : (bytesZ lab (c ++ [0]) != bytesZ lab c) = true := by
  have : bytesZ lab (c ++ [0]) ≠ bytesZ lab c := by
    intro e
    unfold bytesZ at e
    rw [words_longer h] at e
    have := sumZ_one (q := []) (by unfold I; simp; omega) (by unfold I; omega) e
    simp at this
    omega
  simpa using this
/-- Two bytes, the one against the other. -/
theorem xor8_byte (a b : Int) : 0 ≤ bits .xor .u8 a b ∧ bits .xor .u8 a b < 256 := by
  have hw : ∀ x : Int, 0 ≤ IntKind.u8.wrap x ∧ IntKind.u8.wrap x < 256 := by
    intro x
    have : IntKind.u8.wrap x = x % 256 := by simp [IntKind.wrap, IntKind.bits, IntKind.signed]
    omega
  exact hw _

theorem Byt.set {zs : List Int} (h : Byt zs) (k : Nat) {v : Int} (hv : 0 ≤ v ∧ v < 256) : Byt (zs.set k v) := by
  intro z hz
  rcases List.mem_or_eq_of_mem_set hz with h1 | h1
  · exact h z h1
  · rw [h1]; exact hv

theorem near_one {xs : List Int} (h : Byt xs) {k : Nat} (hk : k < xs.length) {v : Int} (hv : 0 ≤ v ∧ v < 256) : Near xs (xs.set k v) (k / 8) :=
  ⟨h, h.set k hv, by simp, by omega, fun i hi => by rw [List.getElem?_set_ne (by rintro rfl; exact hi rfl)]⟩

theorem near_two {xs : List Int} (h : Byt xs) {k : Nat} (hk : k < xs.length) (h8 : (k + 1) % 8 ≠ 0) {v u : Int} (hv : 0 ≤ v ∧ v < 256) (hu : 0 ≤ u ∧ u < 256) : Near xs ((xs.set k v).set (k + 1) u) (k / 8) :=
  ⟨h, (h.set k hv).set (k + 1) hu, by simp, by omega, fun i hi => by rw [List.getElem?_set_ne (by rintro rfl; omega), List.getElem?_set_ne (by rintro rfl; exact hi rfl)]⟩

end Go.Proofs.Ytliconagelemdaa
