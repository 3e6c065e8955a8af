/- Bits of a sector that are turned, all of them among 32 in a row: no frame is left. -/
import Derived.Test.YtghaaonghlfepaaDoorOddB
namespace Go.Proofs.YtghaaonghlfepaaDoor
open Lime
def bit8 (k : Nat) : UInt8 := UInt8.ofBitVec (1#8 <<< (k % 8))
/-- one bit turned -/
def flip1 (s : Sector) (k : Nat) : Sector := sput s (k / 8) (sat s (k / 8) ^^^ bit8 k)
/-- so many of the bits turned -/
def flipK (s : Sector) (p : Nat) (wh : BitVec 32) : Nat → Sector
  | 0 => s
  | i + 1 => bif decide (p + i < 1024) && odd32 (wh >>> i) then flip1 (flipK s p wh i) (p + i) else flipK s p wh i
theorem bit8_bits (k j : Nat) (h : j < 8) : (bit8 k).toBitVec.getLsbD j = decide (j = k % 8) := by
  show (1#8 <<< (k % 8)).getLsbD j = _
  rw [BitVec.getLsbD_shiftLeft]
  by_cases h1 : j < k % 8
  · simp [h1]; omega
  · by_cases h2 : j = k % 8
    · subst h2; simp [h]
    · have : ¬ j - k % 8 = 0 := by omega
      simp [h1, h2, h, this]
theorem sat_len (s : Sector) : s.toList.length = 128 := by simp
theorem bits_flip1 (s : Sector) (k i : Nat) (hk : k < 1024) (hi : i ≠ k) : (bitsOf (flip1 s k).toList).getD i false = (bitsOf s.toList).getD i false := by
  rw [bitsOf_getD, bitsOf_getD]
  show (sat (flip1 s k) (i / 8)).toBitVec.getLsbD (i % 8) = (sat s (i / 8)).toBitVec.getLsbD (i % 8)
  rw [flip1, sat_put _ _ _ _ (by omega)]
  split
  · rename_i h
    rw [← h, UInt8.toBitVec_xor, BitVec.getLsbD_xor, bit8_bits _ _ (by omega)]
    have : ¬ i % 8 = k % 8 := by omega
    simp [this]
  · rfl
theorem bits_flip (s : Sector) (p : Nat) (wh : BitVec 32) (n i : Nat) (hi : i < p ∨ p + n ≤ i) : (bitsOf (flipK s p wh n).toList).getD i false = (bitsOf s.toList).getD i false := by
  induction n with
  | zero => rfl
  | succ n ih =>
    rw [flipK]
    cases hb : decide (p + n < 1024) && odd32 (wh >>> n)
    · exact ih (by omega)
    · simp only [Bool.and_eq_true, decide_eq_true_eq] at hb
      rw [cond_true, bits_flip1 _ _ _ hb.1 (by omega)]
      exact ih (by omega)
/-- four bytes of a number -/
theorem reg_four (r n : BitVec 32) (s : Sector) (h : getN s 124 = n) : reg r (s.toList.drop 124) = s1n 32 (r ^^^ n) := by
  have hlen : (s.toList.drop 124).length = 4 := by simp
  have hb : (bitsOf (s.toList.drop 124)).length = 32 := by rw [bitsOf_length, hlen]
  rw [reg_bits, regB_word _ _ (by omega), hb]
  congr 2
  rw [← h]
  apply BitVec.eq_of_getLsbD_eq
  intro i hi
  rw [word_bits _ _ hi, getN_bits _ _ _ hi, bitsOf_getD]
  congr 2
  unfold sat
  simp [List.getD_eq_getElem?_getD, List.getElem?_drop]
theorem reg_whole (s : Sector) (h : getN s 124 = crc (s.toList.take 124)) : reg (~~~0#32) s.toList = s1n 32 (BitVec.allOnes 32) := by
  have e : reg (~~~0#32) s.toList = reg (~~~0#32) (s.toList.take 124 ++ s.toList.drop 124) := by rw [List.take_append_drop]
  rw [e, reg_append, reg_four _ _ s h, crc, on]
  congr 1
  generalize reg (~~~0#32) (List.take 124 s.toList) = r
  apply BitVec.eq_of_getLsbD_eq
  intro i hi
  rw [BitVec.getLsbD_xor, BitVec.getLsbD_not, BitVec.getLsbD_allOnes]
  cases r.getLsbD i <;> simp [hi]
theorem burst_frame (s t : Sector) (p : Nat) (hs : getN s 124 = crc (s.toList.take 124)) (ht : getN t 124 = crc (t.toList.take 124))
    (hout : ∀ i, i < p ∨ p + 32 ≤ i → (bitsOf t.toList).getD i false = (bitsOf s.toList).getD i false) : t = s := by
  apply Vector.toList_inj.1
  exact burst_eq _ _ (~~~0#32) p (by simp) hout ((reg_whole t ht).trans (reg_whole s hs).symm)
/-- what Open says of a frame of which bits are turned -/
theorem flip_open (kb lb : UInt8) (l : List UInt8) (seq : BitVec 32) (p b : Nat) (wh : BitVec 32) (hl : l.length ≤ 112) (hb : lb.toNat = l.length) (hk : kb ≠ 0) (hp : p < 256) :
    openCode p (flipK (sealOf kb lb l seq p) b wh 32) = 0 ↔ flipK (sealOf kb lb l seq p) b wh 32 = sealOf kb lb l seq p := by
  constructor
  · intro h
    exact burst_frame _ _ b (seal_sum _ _ _ _ _) (openCode_zero h).1.sum (fun i hi => bits_flip _ _ _ _ _ hi)
  · intro h
    rw [h, open_seal _ _ _ _ _ _ hl hb hk hp]; simp
end Go.Proofs.YtghaaonghlfepaaDoor
