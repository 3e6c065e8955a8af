/- Plain mathematics of matrices over 32 bits: the image of a number, squares, many bytes 0. -/
import Derived.Test.YtpmfpbfbfahniaaDoorSums
namespace Lime
/-- the image of the lowest k bits -/
def tmK (m : Nat → BitVec 32) (x : BitVec 32) : Nat → BitVec 32
  | 0 => 0#32
  | k + 1 => bif x.getLsbD k then tmK m x k ^^^ m k else tmK m x k
def tm (m : Nat → BitVec 32) (x : BitVec 32) : BitVec 32 := tmK m x 32
theorem tmK_stays (m : Nat → BitVec 32) (x : BitVec 32) (k : Nat) (h : ∀ i, k ≤ i → x.getLsbD i = false) (j : Nat) : tmK m x (k + j) = tmK m x k := by
  induction j with
  | zero => rfl
  | succ j ih => rw [← Nat.add_assoc, tmK, h _ (by omega), cond_false, ih]
theorem shr_zero_bits {x : BitVec 32} {k : Nat} (h : x >>> k = 0#32) (i : Nat) (hi : k ≤ i) : x.getLsbD i = false := by
  have := congrArg (fun z => z.getLsbD (i - k)) h
  simp only [BitVec.getLsbD_ushiftRight, BitVec.getLsbD_zero] at this
  rwa [show k + (i - k) = i by omega] at this
theorem tmK_done (m : Nat → BitVec 32) (x : BitVec 32) (k : Nat) (hk : k ≤ 32) (h : x >>> k = 0#32) : tmK m x k = tm m x := by
  have := tmK_stays m x k (shr_zero_bits h) (32 - k)
  rw [show k + (32 - k) = 32 by omega] at this
  exact this.symm
/-- the lowest k bits -/
def lowK (x : BitVec 32) : Nat → BitVec 32 := tmK (fun i => 1#32 <<< i) x
theorem lowK_bits (x : BitVec 32) (k i : Nat) (hk : k ≤ 32) : (lowK x k).getLsbD i = (decide (i < k) && x.getLsbD i) := by
  induction k with
  | zero => simp [lowK, tmK]
  | succ k ih =>
    have h1 : ∀ i, (1#32 <<< k).getLsbD i = decide (i = k) := by
      intro i
      by_cases hi : i < 32
      · rw [BitVec.getLsbD_shiftLeft, BitVec.getLsbD_one]
        by_cases h : i = k
        · subst h; simp [hi]
        · by_cases h2 : i < k
          · simp [h, h2]
          · have : ¬ (i - k = 0) := by omega
            simp [h, this]
      · rw [BitVec.getLsbD_of_ge _ _ (by omega)]; simp; omega
    have ih' := ih (by omega)
    unfold lowK at ih' ⊢
    rw [tmK]
    cases hx : x.getLsbD k
    · rw [cond_false, ih']
      by_cases h : i = k
      · subst h; simp [hx]
      · by_cases h2 : i < k
        · simp [h2, show i < k + 1 by omega]
        · simp [h2, show ¬ i < k + 1 by omega]
    · rw [cond_true, BitVec.getLsbD_xor, ih', h1]
      by_cases h : i = k
      · subst h; simp [hx]
      · by_cases h2 : i < k
        · simp [h2, h, show i < k + 1 by omega]
        · simp [h2, h, show ¬ i < k + 1 by omega]
theorem lowK_all (x : BitVec 32) : lowK x 32 = x := by
  apply BitVec.eq_of_getLsbD_eq
  intro i hi
  rw [lowK_bits x 32 i (Nat.le_refl _)]
  simp [hi]
theorem tmK_congr {m m' : Nat → BitVec 32} (x : BitVec 32) (k : Nat) (h : ∀ i, i < k → m i = m' i) : tmK m x k = tmK m' x k := by
  induction k with
  | zero => rfl
  | succ k ih => rw [tmK, tmK, ih (fun i hi => h i (by omega)), h k (by omega)]
theorem tm_linear (f : BitVec 32 → BitVec 32) (h0 : f 0#32 = 0#32) (hx : ∀ a b, f (a ^^^ b) = f a ^^^ f b) (x : BitVec 32) (k : Nat) : tmK (fun i => f (1#32 <<< i)) x k = f (lowK x k) := by
  induction k with
  | zero => exact h0.symm
  | succ k ih =>
    unfold lowK at ih ⊢
    rw [tmK, tmK, ih]
    cases x.getLsbD k
    · rfl
    · rw [cond_true, cond_true, hx]
/-- the matrix of n bytes 0 -/
def mz (n : Nat) (i : Nat) : BitVec 32 := s8n n (1#32 <<< i)
theorem tm_mz (n : Nat) (x : BitVec 32) : tm (mz n) x = s8n n x := by
  have := tm_linear (s8n n) (s8n_zero n) (s8n_xor n) x 32
  rw [lowK_all] at this
  exact this
theorem mz_square (n i : Nat) : tm (mz n) (mz n i) = mz (n + n) i := by
  rw [tm_mz, mz, mz, s8n_add]
theorem mz_one (i : Nat) : mz 1 i = s8 (1#32 <<< i) := rfl
/-- what 'shift' keeps while it halves the number -/
theorem shift_even (n p : Nat) (r : BitVec 32) : s8n (2 * n * p) r = s8n (n * (p + p)) r := by
  congr 1; rw [show p + p = 2 * p by omega, ← Nat.mul_assoc, Nat.mul_comm n 2]
theorem shift_odd (n p : Nat) (r : BitVec 32) : s8n ((2 * n + 1) * p) r = s8n (n * (p + p)) (s8n p r) := by
  rw [← s8n_add]; congr 1; rw [Nat.add_mul, show p + p = 2 * p by omega, ← Nat.mul_assoc, Nat.mul_comm n 2, Nat.one_mul]
/-- Combine: the crc of what follows -/
theorem crc_combine (a b : List UInt8) : s8n b.length (crc a) ^^^ crc b = crc (a ++ b) := by
  have h := reg_diff b (reg (~~~0#32) a) (~~~0#32)
  have e : crc (a ++ b) ^^^ crc b = s8n b.length (crc a) := by
    unfold crc on
    rw [not_xor_not, reg_append, h]
    congr 1
    rw [BitVec.xor_comm, show (~~~(0#32) : BitVec 32) = BitVec.allOnes 32 by decide, BitVec.allOnes_xor]
  rw [← e, BitVec.xor_assoc, BitVec.xor_self, BitVec.xor_zero]
end Lime
