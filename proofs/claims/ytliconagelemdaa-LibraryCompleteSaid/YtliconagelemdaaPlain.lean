/- The plain mathematics of the hash: what hash.Sum, hash.Bytes and hash.Pair compute, as functions on lists of integers, and that they are one-to-one in each single word. No program is in sight here. -/
import Derived.Laws.Bits64
import Derived.RowKit
namespace Go.Proofs.Ytliconagelemdaa
open Go.RowKit

/-- One step of the hash, in the walk's own form. -/
def mixZ (s w : Int) : Int :=
  bits .xor .u64 (IntKind.u64.wrap (bits .xor .u64 s w * 11400714819323198485)) (IntKind.u64.wrap (bits .xor .u64 s w * 11400714819323198485) / 4294967296)

/-- The same step on machine words. -/
def mixB (s w : BitVec 64) : BitVec 64 :=
  ((s ^^^ w) * 11400714819323198485#64) ^^^ (((s ^^^ w) * 11400714819323198485#64) >>> 32)

theorem wrap_toNat (x : Int) : IntKind.u64.wrap x = ((BitVec.ofInt 64 x).toNat : Int) := by
  rw [IntKind.wrap_u64, BitVec.toNat_ofInt]
  have : (0 : Int) ≤ x % 18446744073709551616 := Int.emod_nonneg _ (by decide)
  show x % 18446744073709551616 = ((x % 18446744073709551616).toNat : Int)
  omega

theorem ofInt_toNat (x : BitVec 64) : BitVec.ofInt 64 (x.toNat : Int) = x := by simp

theorem xor_toNat (a b : Int) : bits .xor .u64 a b = ((BitVec.ofInt 64 a ^^^ BitVec.ofInt 64 b).toNat : Int) := by
  show IntKind.u64.wrap ((BitVec.ofInt 64 a ^^^ BitVec.ofInt 64 b).toNat : Int) = _
  rw [wrap_toNat, ofInt_toNat]

theorem mixZ_eq (s w : Int) : mixZ s w = ((mixB (BitVec.ofInt 64 s) (BitVec.ofInt 64 w)).toNat : Int) := by
  have hm : IntKind.u64.wrap (bits .xor .u64 s w * 11400714819323198485) = (((BitVec.ofInt 64 s ^^^ BitVec.ofInt 64 w) * 11400714819323198485#64).toNat : Int) := by
    rw [wrap_toNat, BitVec.ofInt_mul, xor_toNat, ofInt_toNat]
    rfl
  unfold mixZ
  rw [hm, xor_toNat, ofInt_toNat]
  unfold mixB
  generalize (BitVec.ofInt 64 s ^^^ BitVec.ofInt 64 w) * 11400714819323198485#64 = m
  have hd : (m.toNat : Int) / (4294967296 : Int) = ((m >>> 32).toNat : Int) := by
    rw [BitVec.toNat_ushiftRight, Nat.shiftRight_eq_div_pow]
    rfl
  rw [hd, ofInt_toNat]

theorem xorShift_inj {a b : BitVec 64} (h : a ^^^ (a >>> 32) = b ^^^ (b >>> 32)) : a = b := by
  have inv : ∀ x : BitVec 64, (x ^^^ (x >>> 32)) ^^^ ((x ^^^ (x >>> 32)) >>> 32) = x := by
    intro x
    have h64 : x >>> 32 >>> 32 = 0#64 := by
      rw [← BitVec.shiftRight_add]
      exact BitVec.ushiftRight_eq_zero (by decide)
    rw [BitVec.ushiftRight_xor_distrib, h64, BitVec.xor_zero, BitVec.xor_assoc, BitVec.xor_self, BitVec.xor_zero]
  rw [← inv a, h, inv b]

theorem mulK_inj {a b : BitVec 64} (h : a * 11400714819323198485#64 = b * 11400714819323198485#64) : a = b := by
  have inv : ∀ x : BitVec 64, (x * 11400714819323198485#64) * 17428512612931826493#64 = x := by
    intro x
    rw [BitVec.mul_assoc, show 11400714819323198485#64 * 17428512612931826493#64 = 1#64 from by decide, BitVec.mul_one]
  rw [← inv a, h, inv b]

theorem mixB_right {s a b : BitVec 64} (h : mixB s a = mixB s b) : a = b := by
  have := mulK_inj (xorShift_inj h)
  rw [← BitVec.zero_xor (x := a), ← BitVec.zero_xor (x := b), ← BitVec.xor_self (x := s), BitVec.xor_assoc, BitVec.xor_assoc, this]

theorem mixB_left {s a b : BitVec 64} (h : mixB a s = mixB b s) : a = b := by
  unfold mixB at h
  rw [BitVec.xor_comm a s, BitVec.xor_comm b s] at h
  exact mixB_right h

/-- A machine word's number. -/
def U (x : Int) : Prop := 0 ≤ x ∧ x < 18446744073709551616

theorem ofInt_inj {a b : Int} (ha : U a) (hb : U b) (h : BitVec.ofInt 64 a = BitVec.ofInt 64 b) : a = b := by
  have e : ((BitVec.ofInt 64 a).toNat : Int) = ((BitVec.ofInt 64 b).toNat : Int) := by rw [h]
  rw [← wrap_toNat, ← wrap_toNat, IntKind.wrap_u64, IntKind.wrap_u64] at e
  unfold U at ha hb
  omega

theorem mixZ_U (s w : Int) : U (mixZ s w) := by
  rw [mixZ_eq]
  have := (mixB (BitVec.ofInt 64 s) (BitVec.ofInt 64 w)).isLt
  unfold U
  omega

theorem wrap_U (x : Int) : U (IntKind.u64.wrap x) := by
  rw [IntKind.wrap_u64]
  unfold U
  omega

theorem wrap_of_U {x : Int} (h : U x) : IntKind.u64.wrap x = x := by
  rw [IntKind.wrap_u64]
  unfold U at h
  omega

theorem mixZ_right {s a b : Int} (ha : U a) (hb : U b) (h : mixZ s a = mixZ s b) : a = b := by
  rw [mixZ_eq, mixZ_eq] at h
  exact ofInt_inj ha hb (mixB_right (BitVec.eq_of_toNat_eq (by exact_mod_cast h)))

theorem mixZ_left {s a b : Int} (ha : U a) (hb : U b) (h : mixZ a s = mixZ b s) : a = b := by
  rw [mixZ_eq, mixZ_eq] at h
  exact ofInt_inj ha hb (mixB_left (BitVec.eq_of_toNat_eq (by exact_mod_cast h)))

/-- A run of steps. -/
def runZ (s : Int) (l : List Int) : Int := l.foldl mixZ s

theorem runZ_nil (s : Int) : runZ s [] = s := rfl
theorem runZ_snoc (s : Int) (l : List Int) (x : Int) : runZ s (l ++ [x]) = mixZ (runZ s l) x := by simp [runZ]
theorem runZ_append (s : Int) (l m : List Int) : runZ s (l ++ m) = runZ (runZ s l) m := by simp [runZ]
theorem runZ_cons (s x : Int) (l : List Int) : runZ s (x :: l) = runZ (mixZ s x) l := rfl

theorem runZ_U {s : Int} (hs : U s) (l : List Int) : U (runZ s l) := by
  induction l generalizing s with
  | nil => exact hs
  | cons x l ih => exact ih (mixZ_U s x)

theorem runZ_left {l : List Int} : ∀ {a b : Int}, U a → U b → runZ a l = runZ b l → a = b := by
  induction l with
  | nil => intro a b _ _ h; exact h
  | cons x l ih =>
    intro a b ha hb h
    exact mixZ_left ha hb (ih (mixZ_U _ _) (mixZ_U _ _) h)

/-- Two runs that part in one word alone end apart. -/
theorem runZ_one {s a b : Int} {p q : List Int} (ha : U a) (hb : U b) (h : runZ s (p ++ a :: q) = runZ s (p ++ b :: q)) : a = b := by
  rw [runZ_append, runZ_append, runZ_cons, runZ_cons] at h
  exact mixZ_right ha hb (runZ_left (mixZ_U _ _) (mixZ_U _ _) h)

/-- The number that a list of bytes is, the least first. -/
def leZ : List Int → Int
  | [] => 0
  | b :: r => b + 256 * leZ r

def wordAt (zs : List Int) (j : Nat) : Int := leZ ((zs.drop (8 * j)).take 8)
def wordsZ (zs : List Int) : List Int := (List.range ((zs.length + 7) / 8)).map (wordAt zs)

/-- What hash.Sum computes. -/
def sumZ (label l : List Int) : Int :=
  mixZ (runZ (mixZ (mixZ (runZ 0 (wordsZ label)) (label.length : Int)) (l.length : Int)) (l.map IntKind.u64.wrap)) 0

/-- What hash.Bytes computes. -/
def bytesZ (label zs : List Int) : Int := sumZ label ((wordsZ zs).map wrap64 ++ [(zs.length : Int)])

/-- A string's bytes as integers. -/
def strZ (s : ByteArray) : List Int := s.data.toList.map fun c => (c.toNat : Int)

theorem strZ_length (s : ByteArray) : (strZ s).length = s.size := by simp [strZ]

/-- Bytes. -/
def Byt (zs : List Int) : Prop := ∀ z ∈ zs, 0 ≤ z ∧ z < 256

theorem Byt.drop {zs : List Int} (h : Byt zs) (n : Nat) : Byt (zs.drop n) := fun z hz => h z (List.mem_of_mem_drop hz)
theorem Byt.take {zs : List Int} (h : Byt zs) (n : Nat) : Byt (zs.take n) := fun z hz => h z (List.mem_of_mem_take hz)
theorem strZ_byt (s : ByteArray) : Byt (strZ s) := by
  intro z hz
  simp only [strZ, List.mem_map] at hz
  obtain ⟨c, _, rfl⟩ := hz
  have := c.toNat_lt
  omega

theorem Byt.get {zs : List Int} (h : Byt zs) (i : Nat) : 0 ≤ zs[i]?.getD 0 ∧ zs[i]?.getD 0 < 256 := by
  by_cases hi : i < zs.length
  · rw [List.getElem?_eq_getElem hi]; exact h _ (List.getElem_mem hi)
  · rw [List.getElem?_eq_none (by omega)]; simp

theorem leZ_snoc (l : List Int) (b : Int) : leZ (l ++ [b]) = leZ l + b * 256 ^ l.length := by
  induction l with
  | nil => simp [leZ]
  | cons x l ih =>
    simp only [List.cons_append, leZ, ih, List.length_cons, Int.pow_succ]
    have : (256 : Int) * (b * 256 ^ l.length) = b * (256 ^ l.length * 256) := by
      rw [Int.mul_comm, Int.mul_assoc]
    rw [Int.mul_add, this]
    omega

theorem leZ_lt {l : List Int} (h : Byt l) : 0 ≤ leZ l ∧ leZ l < 256 ^ l.length := by
  induction l with
  | nil => simp [leZ]
  | cons x l ih =>
    have hx := h x (by simp)
    have hl := ih (fun z hz => h z (by simp [hz]))
    simp only [leZ, List.length_cons, Int.pow_succ]
    omega

theorem take_wrap_snoc (zs : List Int) (k : Nat) (h : k < zs.length) : (zs.map IntKind.u64.wrap).take (k + 1) = (zs.map IntKind.u64.wrap).take k ++ [IntKind.u64.wrap (zs[k]?.getD 0)] := by
  rw [List.take_succ_eq_append_getElem (by simpa using h), List.getElem_map, List.getElem?_eq_getElem h]
  rfl

theorem take_drop_snoc (zs : List Int) (i k : Nat) (h : i + k < zs.length) : (zs.drop i).take (k + 1) = (zs.drop i).take k ++ [zs[i + k]?.getD 0] := by
  rw [List.take_succ_eq_append_getElem (by simp; omega)]
  simp [List.getElem?_eq_getElem h]

theorem pow256 (k : Nat) : (256 : Int) ^ k = ((256 ^ k : Nat) : Int) := (Int.natCast_pow 256 k).symm
theorem pow2c (k : Nat) : (2 : Int) ^ k = ((2 ^ k : Nat) : Int) := (Int.natCast_pow 2 k).symm

/-- One byte more into a word: 'w |= uint64(b) << (8 * k)'. -/
theorem or_byte (a b : Int) (k : Nat) (hk : k < 8) (ha : 0 ≤ a ∧ a < 256 ^ k) (hb : 0 ≤ b ∧ b < 256) :
    bits .or .u64 a (IntKind.u64.wrap (b * 2 ^ (8 * k))) = a + b * 256 ^ k := by
  obtain ⟨x, rfl⟩ := Int.eq_ofNat_of_zero_le ha.1
  obtain ⟨y, rfl⟩ := Int.eq_ofNat_of_zero_le hb.1
  have hp : (256 : Nat) ^ k = 2 ^ (8 * k) := by rw [Nat.pow_mul]
  have hx : x < 2 ^ (8 * k) := by rw [← hp]; have := ha.2; rw [pow256] at this; exact Int.ofNat_lt.1 this
  have hy : y < 256 := by have := hb.2; omega
  have h8 : (2 : Nat) ^ (8 * k) * 256 ≤ 18446744073709551616 := by
    have : (2 : Nat) ^ (8 * k) * 2 ^ 8 ≤ 2 ^ 64 := by rw [← Nat.pow_add]; exact Nat.pow_le_pow_right (by decide) (by omega)
    simpa using this
  have hyp : y * 2 ^ (8 * k) < 18446744073709551616 := by
    have : y * 2 ^ (8 * k) < 256 * 2 ^ (8 * k) := Nat.mul_lt_mul_of_pos_right hy (Nat.two_pow_pos _)
    have h9 : 256 * 2 ^ (8 * k) = 2 ^ (8 * k) * 256 := Nat.mul_comm _ _
    omega
  have hxp : x < 18446744073709551616 := by omega
  have e1 : ((y : Int) * 2 ^ (8 * k)) = ((y * 2 ^ (8 * k) : Nat) : Int) := by rw [pow2c, Int.natCast_mul]
  have hU : U ((y * 2 ^ (8 * k) : Nat) : Int) := by unfold U; omega
  rw [e1, wrap_of_U hU]
  show IntKind.u64.wrap ((BitVec.ofInt 64 (x : Int) ||| BitVec.ofInt 64 ((y * 2 ^ (8 * k) : Nat) : Int)).toNat : Int) = _
  rw [wrap_toNat, ofInt_toNat, BitVec.toNat_or]
  have t1 : (BitVec.ofInt 64 (x : Int)).toNat = x := by rw [BitVec.ofInt_natCast, BitVec.toNat_ofNat]; exact Nat.mod_eq_of_lt hxp
  have t2 : (BitVec.ofInt 64 ((y * 2 ^ (8 * k) : Nat) : Int)).toNat = y * 2 ^ (8 * k) := by rw [BitVec.ofInt_natCast, BitVec.toNat_ofNat]; exact Nat.mod_eq_of_lt hyp
  rw [t1, t2, Nat.or_comm, ← Nat.shiftLeft_eq, ← Nat.shiftLeft_add_eq_or_of_lt hx, Nat.shiftLeft_eq, ← hp, pow256, Int.natCast_add, Int.natCast_mul]
  omega

/-- One byte more from above: '256 * w + uint64(b)'. -/
theorem horner {x b : Int} (h : U (b + 256 * x)) : IntKind.u64.wrap (IntKind.u64.wrap (256 * x) + b) = b + 256 * x := by
  rw [IntKind.wrap_u64, IntKind.wrap_u64]
  unfold U at h
  omega

/-- The bytes of one word. -/
def chunk (zs : List Int) (j : Nat) : List Int := (zs.drop (8 * j)).take 8
theorem chunk_byt {zs : List Int} (h : Byt zs) (j : Nat) : Byt (chunk zs j) := (h.drop _).take _
theorem chunk_length (zs : List Int) (j : Nat) : (chunk zs j).length = min 8 (zs.length - 8 * j) := by simp [chunk]
theorem chunk_get (zs : List Int) (j m : Nat) (h : m < (chunk zs j).length) : (chunk zs j)[m] = zs[8 * j + m]?.getD 0 := by
  have h' : 8 * j + m < zs.length := by rw [chunk_length] at h; omega
  simp [chunk, List.getElem?_eq_getElem h']
theorem chunk_drop (zs : List Int) (j m : Nat) (h : m < (chunk zs j).length) : leZ ((chunk zs j).drop m) = zs[8 * j + m]?.getD 0 + 256 * leZ ((chunk zs j).drop (m + 1)) := by
  rw [List.drop_eq_getElem_cons h, chunk_get zs j m h]
  rfl
theorem chunk_U {zs : List Int} (hz : Byt zs) (j m : Nat) : U (leZ ((chunk zs j).drop m)) := by
  have h1 := leZ_lt ((chunk_byt hz j).drop m)
  have h2 : (256 : Int) ^ ((chunk zs j).drop m).length ≤ 256 ^ 8 := by
    have : ((chunk zs j).drop m).length ≤ 8 := by rw [List.length_drop, chunk_length]; omega
    rw [pow256, pow256]
    exact Int.ofNat_le.2 (Nat.pow_le_pow_right (by decide) this)
  unfold U
  have : (256 : Int) ^ 8 = 18446744073709551616 := by decide
  omega

/-- What the reference's Around computes. -/
def arZ (n m : Int) : Int := (if n < 0 then -(n + 1) else n) % m
theorem arZ_lt (n : Int) {m : Int} (h : 1 ≤ m) : 0 ≤ arZ n m ∧ arZ n m < m := ⟨Int.emod_nonneg _ (by omega), Int.emod_lt_of_pos _ (by omega)⟩

/-- Are two lists equal? -/
def sameB (xs ys : List Int) : Bool := decide (xs = ys)
theorem sameB_true {xs ys : List Int} (h : xs = ys) : sameB xs ys = true := decide_eq_true h
theorem sameB_false {xs ys : List Int} (h : xs ≠ ys) : sameB xs ys = false := decide_eq_false h

theorem wordsZ_length (zs : List Int) : (wordsZ zs).length = (zs.length + 7) / 8 := by simp [wordsZ]

/-- The first k words. -/
def wordsTo (zs : List Int) (k : Nat) : List Int := (List.range k).map (wordAt zs)
theorem wordsTo_succ (zs : List Int) (k : Nat) : wordsTo zs (k + 1) = wordsTo zs k ++ [wordAt zs k] := by simp [wordsTo, List.range_succ]
theorem wordsTo_length (zs : List Int) (k : Nat) : (wordsTo zs k).length = k := by simp [wordsTo]
theorem wordsTo_all (zs : List Int) : wordsTo zs ((zs.length + 7) / 8) = wordsZ zs := rfl

theorem wordAt_U {zs : List Int} (h : Byt zs) (j : Nat) : U (wordAt zs j) := by
  have h1 := leZ_lt ((h.drop (8 * j)).take 8)
  have h2 : (256 : Int) ^ ((zs.drop (8 * j)).take 8).length ≤ 256 ^ 8 := by
    have : ((zs.drop (8 * j)).take 8).length ≤ 8 := by simp; omega
    rw [pow256, pow256]
    exact Int.ofNat_le.2 (Nat.pow_le_pow_right (by decide) this)
  unfold U wordAt
  have : (256 : Int) ^ 8 = 18446744073709551616 := by decide
  omega

end Go.Proofs.Ytliconagelemdaa
