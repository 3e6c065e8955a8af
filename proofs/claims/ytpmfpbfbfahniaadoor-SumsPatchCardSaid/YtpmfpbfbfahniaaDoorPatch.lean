/- Plain mathematics of Patch: what stands in the register before and after four bytes is known from both sides. -/
import Derived.Test.YtpmfpbfbfahniaaDoorSums
import Derived.Test.YtpmfpbfbfahniaaDoorBase
namespace Go.Proofs.YtpmfpbfbfahniaaDoor
open Lime
/-- the register ahead of bytes, undone -/
def unreg (l : List UInt8) (r : BitVec 32) : BitVec 32 := l.foldr (fun c r => b8 r ^^^ x8 c) r
theorem unreg_cons (c : UInt8) (l : List UInt8) (r : BitVec 32) : unreg (c :: l) r = b8 (unreg l r) ^^^ x8 c := rfl
theorem reg_unreg (l : List UInt8) (r : BitVec 32) : reg (unreg l r) l = r := by
  induction l with
  | nil => rfl
  | cons c l ih =>
    show reg (cstep (b8 (unreg l r) ^^^ x8 c) c) l = r
    have : cstep (b8 (unreg l r) ^^^ x8 c) c = unreg l r := by
      rw [cstep, BitVec.xor_assoc, BitVec.xor_self, BitVec.xor_zero, s8_b8]
    rw [this, ih]
/-- a number's four bytes, the lowest one first -/
def le4 (x : BitVec 32) : List UInt8 := [lo8 x, lo8 (x >>> 8), lo8 (x >>> 16), lo8 (x >>> 24)]
theorem lo8_bits (x : BitVec 32) (j : Nat) (h : j < 8) : (lo8 x).toBitVec.getLsbD j = x.getLsbD j := by
  show (x.setWidth 8).getLsbD j = _
  rw [BitVec.getLsbD_setWidth]; simp [h]
theorem reg_le4 (r x : BitVec 32) : reg r (le4 x) = s8n 4 (r ^^^ x) := by
  have hl : (bitsOf (le4 x)).length = 32 := by rw [bitsOf_length]; rfl
  have hw : word (bitsOf (le4 x)) = x := by
    apply BitVec.eq_of_getLsbD_eq
    intro i hi
    rw [word_bits _ _ hi, bitsOf_getD]
    have h8 : i % 8 < 8 := Nat.mod_lt _ (by decide)
    rcases (show i / 8 = 0 ∨ i / 8 = 1 ∨ i / 8 = 2 ∨ i / 8 = 3 by omega) with h | h | h | h <;> rw [h]
    · show (lo8 x).toBitVec.getLsbD (i % 8) = _
      rw [lo8_bits _ _ h8]; congr 1; omega
    · show (lo8 (x >>> 8)).toBitVec.getLsbD (i % 8) = _
      rw [lo8_bits _ _ h8, BitVec.getLsbD_ushiftRight]; congr 1; omega
    · show (lo8 (x >>> 16)).toBitVec.getLsbD (i % 8) = _
      rw [lo8_bits _ _ h8, BitVec.getLsbD_ushiftRight]; congr 1; omega
    · show (lo8 (x >>> 24)).toBitVec.getLsbD (i % 8) = _
      rw [lo8_bits _ _ h8, BitVec.getLsbD_ushiftRight]; congr 1; omega
  rw [reg_bits, regB_word _ _ (by omega), hl, hw]
  rfl
/-- the number that is put in -/
def patchX (l : List UInt8) (p : Nat) (want : BitVec 32) : BitVec 32 := b8n 4 (unreg (l.drop (p + 4)) (~~~ want)) ^^^ ~~~ crc (l.take p)
/-- so many of its bytes put in -/
def patchK (l : List UInt8) (p : Nat) (x : BitVec 32) : Nat → List UInt8
  | 0 => l
  | k + 1 => (patchK l p x k).set (p + k) (lo8 (x >>> (8 * k)))
def patchL (l : List UInt8) (p : Nat) (want : BitVec 32) : List UInt8 := patchK l p (patchX l p want) 4
theorem patchK_length (l : List UInt8) (p : Nat) (x : BitVec 32) (k : Nat) : (patchK l p x k).length = l.length := by
  induction k with
  | zero => rfl
  | succ k ih => rw [patchK, List.length_set, ih]
theorem patchL_length (l : List UInt8) (p : Nat) (want : BitVec 32) : (patchL l p want).length = l.length := patchK_length _ _ _ _
theorem at8_patchK (l : List UInt8) (p : Nat) (x : BitVec 32) (k i : Nat) (h : p + k ≤ l.length) : at8 (patchK l p x k) i = if p ≤ i ∧ i < p + k then lo8 (x >>> (8 * (i - p))) else at8 l i := by
  induction k with
  | zero => rw [patchK, if_neg (by omega)]
  | succ k ih =>
    have hs : ∀ (l : List UInt8) (i j : Nat) (c : UInt8), i < l.length → at8 (l.set i c) j = if j = i then c else at8 l j := by
      intro l i j c hi
      unfold at8
      simp only [List.getD_eq_getElem?_getD, List.getElem?_set]
      by_cases h : i = j
      · subst h; simp [hi]
      · have h' : ¬ j = i := fun e => h e.symm
        simp [h, h']
    rw [patchK, hs _ _ _ _ (by rw [patchK_length]; omega), ih (by omega)]
    by_cases h1 : i = p + k
    · rw [if_pos h1, if_pos (by omega), show i - p = k by omega]
    · rw [if_neg h1]
      by_cases h2 : p ≤ i ∧ i < p + k
      · rw [if_pos h2, if_pos (by omega)]
      · rw [if_neg h2, if_neg (by omega)]
theorem at8_out (l : List UInt8) (p : Nat) (want : BitVec 32) (i : Nat) (h : p + 4 ≤ l.length) (hi : i < p ∨ p + 3 < i) : at8 (patchL l p want) i = at8 l i := by
  rw [patchL, at8_patchK _ _ _ _ _ h, if_neg (by omega)]
theorem patch_split (l : List UInt8) (p : Nat) (x : BitVec 32) (h : p + 4 ≤ l.length) : patchK l p x 4 = l.take p ++ (le4 x ++ l.drop (p + 4)) := by
  apply List.ext_getElem
  · rw [patchK_length]; simp [le4]; omega
  · intro i h1 h2
    have ea : ∀ (m : List UInt8) (j : Nat) (hj : j < m.length), m[j] = at8 m j := fun m j hj => by simp [at8, hj]
    rw [ea _ _ h1, at8_patchK _ _ _ _ _ h]
    rw [patchK_length] at h1
    by_cases hp : i < p
    · rw [if_neg (by omega), List.getElem_append_left (by simp; omega)]
      simp [at8, h1]
    · rw [List.getElem_append_right (by simp; omega)]
      have hlt : (l.take p).length = p := by simp; omega
      by_cases hq : i < p + 4
      · rw [if_pos (by omega), List.getElem_append_left (by rw [hlt]; simp [le4]; omega)]
        simp only [hlt]
        rcases (show i - p = 0 ∨ i - p = 1 ∨ i - p = 2 ∨ i - p = 3 by omega) with e | e | e | e <;> simp [e, le4]
      · rw [if_neg (by omega), List.getElem_append_right (by rw [hlt]; simp [le4]; omega)]
        simp only [hlt, List.getElem_drop, at8]
        simp [le4, h1]
        congr 1
        omega
theorem crc_patch (l : List UInt8) (p : Nat) (want : BitVec 32) (h : p + 4 ≤ l.length) : crc (patchL l p want) = want := by
  rw [patchL, patch_split _ _ _ h]
  unfold crc on
  rw [reg_append, reg_append, reg_le4]
  have e1 : reg (~~~0#32) (l.take p) = ~~~ crc (l.take p) := by unfold crc on; simp
  have e2 : reg (~~~0#32) (l.take p) ^^^ patchX l p want = b8n 4 (unreg (l.drop (p + 4)) (~~~ want)) := by
    rw [e1, patchX, BitVec.xor_comm, BitVec.xor_assoc, BitVec.xor_self, BitVec.xor_zero]
  rw [e2, s8n_b8n, reg_unreg]
  simp
end Go.Proofs.YtpmfpbfbfahniaaDoor
