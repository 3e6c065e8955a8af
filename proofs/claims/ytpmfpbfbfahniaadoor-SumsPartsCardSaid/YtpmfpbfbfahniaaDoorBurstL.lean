/- Bits of a string of bytes that are turned, all of them among 32 in a row: the crc changes just if there are any. -/
import Derived.Test.YtpmfpbfbfahniaaDoorSums
import Derived.Test.YtpmfpbfbfahniaaDoorBase
namespace Go.Proofs.YtpmfpbfbfahniaaDoor
open Lime
def bit8 (k : Nat) : UInt8 := UInt8.ofBitVec (1#8 <<< (k % 8))
/-- one bit turned -/
def flip1 (l : List UInt8) (k : Nat) : List UInt8 := l.set (k / 8) (at8 l (k / 8) ^^^ bit8 k)
def turnsB (n p : Nat) (wh : BitVec 32) (i : Nat) : Bool := decide (p + i < 8 * n) && odd32 (wh >>> i)
/-- so many of the bits turned -/
def flipK (l : List UInt8) (p : Nat) (wh : BitVec 32) : Nat → List UInt8
  | 0 => l
  | i + 1 => bif turnsB l.length p wh i then flip1 (flipK l p wh i) (p + i) else flipK l p wh i
/-- whether any was -/
def anyK (n p : Nat) (wh : BitVec 32) : Nat → Bool
  | 0 => false
  | i + 1 => bif turnsB n p wh i then true else anyK n p wh i
theorem flipK_length (l : List UInt8) (p : Nat) (wh : BitVec 32) (n : Nat) : (flipK l p wh n).length = l.length := by
  induction n with
  | zero => rfl
  | succ n ih =>
    rw [flipK]
    cases turnsB l.length p wh n
    · exact ih
    · rw [cond_true, flip1, List.length_set]; exact ih
theorem bit8_bits (k j : Nat) (h : j < 8) : (bit8 k).toBitVec.getLsbD j = decide (j = k % 8) := by
  show (1#8 <<< (k % 8)).getLsbD j = _
  rw [BitVec.getLsbD_shiftLeft]
  by_cases h1 : j < k % 8
  · simp [h1]; omega
  · by_cases h2 : j = k % 8
    · subst h2; simp [h]
    · have : ¬ j - k % 8 = 0 := by omega
      simp [h1, h2, h, this]
theorem at8_put (l : List UInt8) (i j : Nat) (c : UInt8) (hi : i < l.length) : at8 (l.set i c) j = if j = i then c else at8 l j := by
  unfold at8
  simp only [List.getD_eq_getElem?_getD, List.getElem?_set]
  by_cases h : i = j
  · subst h; simp [hi]
  · have h' : ¬ j = i := fun e => h e.symm
    simp [h, h']
theorem bits_flip1 (l : List UInt8) (k i : Nat) (hk : k < 8 * l.length) : (bitsOf (flip1 l k)).getD i false = ((bitsOf l).getD i false ^^ decide (i = k)) := by
  rw [bitsOf_getD, bitsOf_getD]
  show (at8 (flip1 l k) (i / 8)).toBitVec.getLsbD (i % 8) = ((at8 l (i / 8)).toBitVec.getLsbD (i % 8) ^^ decide (i = k))
  rw [flip1, at8_put _ _ _ _ (by omega)]
  split
  · rename_i h
    rw [← h, UInt8.toBitVec_xor, BitVec.getLsbD_xor, bit8_bits _ _ (by omega)]
    congr 1
    by_cases e : i = k
    · subst e; simp
    · have : ¬ i % 8 = k % 8 := by omega
      simp [e, this]
  · rename_i h
    have e : ¬ i = k := fun e => h (by rw [e])
    simp [e]
theorem bits_flip (l : List UInt8) (p : Nat) (wh : BitVec 32) (n i : Nat) : (bitsOf (flipK l p wh n)).getD i false = ((bitsOf l).getD i false ^^ (decide (p ≤ i ∧ i < p + n) && turnsB l.length p wh (i - p))) := by
  induction n with
  | zero =>
    have : ¬ (p ≤ i ∧ i < p + 0) := by omega
    rw [flipK, decide_eq_false this]; simp
  | succ n ih =>
    rw [flipK]
    cases hb : turnsB l.length p wh n
    · rw [cond_false, ih]
      congr 1
      by_cases e : i = p + n
      · subst e
        rw [show p + n - p = n by omega, hb]; simp
      · have : (p ≤ i ∧ i < p + (n + 1)) ↔ (p ≤ i ∧ i < p + n) := by omega
        simp only [this]
    · have hlt : p + n < 8 * l.length := by
        unfold turnsB at hb
        simp only [Bool.and_eq_true, decide_eq_true_eq] at hb
        exact hb.1
      rw [cond_true, bits_flip1 _ _ _ (by rw [flipK_length]; exact hlt), ih]
      by_cases e : i = p + n
      · subst e
        have h1 : ¬ (p ≤ p + n ∧ p + n < p + n) := by omega
        have h2 : p ≤ p + n ∧ p + n < p + (n + 1) := by omega
        rw [show p + n - p = n by omega, hb, decide_eq_false h1, decide_eq_true h2]; simp
      · have : (p ≤ i ∧ i < p + (n + 1)) ↔ (p ≤ i ∧ i < p + n) := by omega
        simp only [this, e, decide_false, Bool.xor_false]
theorem anyK_iff (n p : Nat) (wh : BitVec 32) (k : Nat) : anyK n p wh k = true ↔ ∃ i, i < k ∧ turnsB n p wh i = true := by
  induction k with
  | zero => simp [anyK]
  | succ k ih =>
    rw [anyK]
    cases hb : turnsB n p wh k
    · rw [cond_false, ih]
      constructor
      · rintro ⟨i, h1, h2⟩; exact ⟨i, by omega, h2⟩
      · rintro ⟨i, h1, h2⟩
        rcases Nat.lt_or_ge i k with h | h
        · exact ⟨i, h, h2⟩
        · rw [show i = k by omega, hb] at h2; cases h2
    · simp only [cond_true, true_iff]
      exact ⟨k, by omega, hb⟩
theorem flipK_none (l : List UInt8) (p : Nat) (wh : BitVec 32) (k : Nat) (h : anyK l.length p wh k = false) : flipK l p wh k = l := by
  induction k with
  | zero => rfl
  | succ k ih =>
    rw [anyK] at h
    rw [flipK]
    cases hb : turnsB l.length p wh k
    · rw [hb, cond_false] at h; rw [cond_false]; exact ih h
    · rw [hb] at h; cases h
theorem crc_reg {a b : List UInt8} (h : crc a = crc b) : reg (~~~0#32) a = reg (~~~0#32) b := by
  unfold crc on at h
  have := congrArg (~~~ ·) h
  simpa using this
/-- the crc changes just if some bit was turned -/
theorem burst_crc (l : List UInt8) (p : Nat) (wh : BitVec 32) : (crc l != crc (flipK l p wh 32)) = anyK l.length p wh 32 := by
  cases h : anyK l.length p wh 32
  · rw [flipK_none l p wh 32 h]; simp
  · obtain ⟨i, hi, ht⟩ := (anyK_iff _ _ _ _).1 h
    have hne : crc l ≠ crc (flipK l p wh 32) := by
      intro e
      have he := burst_eq (flipK l p wh 32) l (~~~0#32) p (flipK_length _ _ _ _) (fun j hj => by
        rw [bits_flip]
        have : ¬ (p ≤ j ∧ j < p + 32) := by omega
        rw [decide_eq_false this]; simp) (crc_reg e).symm
      have hb := bits_flip l p wh 32 (p + i)
      rw [he, show p + i - p = i by omega, ht, decide_eq_true (by omega)] at hb
      revert hb
      cases (bitsOf l).getD (p + i) false <;> simp
    simpa using hne
end Go.Proofs.YtpmfpbfbfahniaaDoor
