import Derived.Test.YtfbkfdoekgnldaaGreatDoorCrc
/- Plain mathematics of bursts: a nonzero pattern within 32 bits in a row changes the register. -/
namespace Lime
theorem getD_default {α : Type} (l : List α) (i : Nat) (d : α) (h : l.length ≤ i) : l.getD i d = d := by simp [List.getD_eq_getElem?_getD, h]
theorem getD_lt {α : Type} (l : List α) (i : Nat) (d : α) (h : i < l.length) : l.getD i d = l[i] := by simp [List.getD_eq_getElem?_getD, h]
theorem getD_append_l {α : Type} (a b : List α) (i : Nat) (d : α) (h : i < a.length) : (a ++ b).getD i d = a.getD i d := by
  simp [List.getD_eq_getElem?_getD, List.getElem?_append_left h]
theorem getD_append_r {α : Type} (a b : List α) (i : Nat) (d : α) (h : a.length ≤ i) : (a ++ b).getD i d = b.getD (i - a.length) d := by
  simp [List.getD_eq_getElem?_getD, List.getElem?_append_right h]
/-- a bit in 32 bits -/
def xb (b : Bool) : BitVec 32 := bif b then 1#32 else 0#32
def regB (r : BitVec 32) (l : List Bool) : BitVec 32 := l.foldl (fun r b => s1 (r ^^^ xb b)) r
/-- a number of steps for a bit -/
def s1n : Nat → BitVec 32 → BitVec 32
  | 0, r => r
  | n + 1, r => s1n n (s1 r)
/-- bits as a number, the lowest one first -/
def word : List Bool → BitVec 32
  | [] => 0#32
  | b :: l => xb b ^^^ (word l <<< 1)

theorem s1n_xor (n : Nat) (a b : BitVec 32) : s1n n (a ^^^ b) = s1n n a ^^^ s1n n b := by
  induction n generalizing a b with
  | zero => rfl
  | succ n ih => simp [s1n, s1_xor, ih]
theorem s1n_zero (n : Nat) : s1n n 0#32 = 0#32 := by
  induction n with
  | zero => rfl
  | succ n ih => simp [s1n, s1_zero, ih]
theorem s1n_inj (n : Nat) {a b : BitVec 32} (h : s1n n a = s1n n b) : a = b := by
  induction n generalizing a b with
  | zero => exact h
  | succ n ih => exact s1_inj (ih h)
theorem s1n_add (m n : Nat) (a : BitVec 32) : s1n (m + n) a = s1n n (s1n m a) := by
  induction m generalizing a with
  | zero => simp [s1n]
  | succ m ih => rw [show m + 1 + n = (m + n) + 1 by omega]; simp [s1n, ih]

theorem word_bits (l : List Bool) (i : Nat) (h : i < 32) : (word l).getLsbD i = l.getD i false := by
  induction l generalizing i with
  | nil => simp [word]
  | cons b l ih =>
    rw [word, BitVec.getLsbD_xor, BitVec.getLsbD_shiftLeft]
    cases i with
    | zero => cases b <;> simp [xb]
    | succ i =>
      have h1 : (xb b).getLsbD (i + 1) = false := by
        cases b
        · simp [xb]
        · simp [xb, BitVec.getLsbD_one]
      rw [h1]
      simp [h]
      rw [← List.getD_eq_getElem?_getD, ← ih i (by omega)]
theorem regB_word (l : List Bool) (r : BitVec 32) (h : l.length ≤ 32) : regB r l = s1n l.length (r ^^^ word l) := by
  induction l generalizing r with
  | nil => simp [regB, word, s1n]
  | cons b l ih =>
    simp only [List.length_cons] at h
    have e : regB r (b :: l) = regB (s1 (r ^^^ xb b)) l := rfl
    have ht : (word l).getLsbD 31 = false := by
      rw [word_bits l 31 (by omega), getD_default l 31 false (by omega)]
    rw [e, ih _ (by omega), List.length_cons, s1n, word, ← BitVec.xor_assoc, s1_xor (r ^^^ xb b), s1_shl _ ht]
theorem regB_xor (a b : List Bool) (r q : BitVec 32) (h : a.length = b.length) : regB (r ^^^ q) (List.zipWith xor a b) = regB r a ^^^ regB q b := by
  induction a generalizing b r q with
  | nil => cases b with | nil => rfl | cons _ _ => simp at h
  | cons x a ih =>
    cases b with
    | nil => simp at h
    | cons y b =>
      have e : regB (r ^^^ q) (List.zipWith xor (x :: a) (y :: b)) = regB (s1 (r ^^^ q ^^^ xb (x ^^ y))) (List.zipWith xor a b) := rfl
      have hx : r ^^^ q ^^^ xb (x ^^ y) = (r ^^^ xb x) ^^^ (q ^^^ xb y) := by
        have : xb (x ^^ y) = xb x ^^^ xb y := by cases x <;> cases y <;> simp [xb]
        rw [this]; ac_rfl
      rw [e, hx, s1_xor, ih _ _ _ (by simpa using h)]
      rfl
theorem regB_append (r : BitVec 32) (a b : List Bool) : regB r (a ++ b) = regB (regB r a) b := by simp [regB]
theorem regB_falses (r : BitVec 32) (n : Nat) : regB r (List.replicate n false) = s1n n r := by
  induction n generalizing r with
  | zero => rfl
  | succ n ih =>
    rw [List.replicate_succ]
    show regB (s1 (r ^^^ xb false)) _ = _
    rw [ih]; simp [xb, s1n]
/-- bits all of which lie among 32 in a row leave a register that is 0 only if there are none -/
theorem regB_burst (p m q : Nat) (l : List Bool) (hl : l.length = m) (hm : m ≤ 32) (h : regB 0#32 (List.replicate p false ++ (l ++ List.replicate q false)) = 0#32) :
    ∀ b ∈ l, b = false := by
  rw [regB_append, regB_falses, s1n_zero, regB_append, regB_falses] at h
  have h1 := s1n_inj q (h.trans (s1n_zero q).symm)
  rw [regB_word l _ (by omega), BitVec.zero_xor] at h1
  have h2 := s1n_inj _ (h1.trans (s1n_zero _).symm)
  intro b hb
  obtain ⟨i, hi, rfl⟩ := List.mem_iff_getElem.1 hb
  have := word_bits l i (by omega)
  rw [h2] at this
  simp at this
  simpa [hi] using this.symm

/-- the bits of a byte, the lowest one first -/
def bits8 (c : UInt8) : List Bool := (List.range 8).map c.toBitVec.getLsbD
def bitsOf (l : List UInt8) : List Bool := l.flatMap bits8
theorem word_bits8 (c : UInt8) : word (bits8 c) = x8 c := by
  apply BitVec.eq_of_getLsbD_eq
  intro i hi
  rw [word_bits _ _ hi, x8, BitVec.getLsbD_setWidth]
  simp only [bits8, hi, decide_true, Bool.true_and]
  by_cases h8 : i < 8
  · simp [h8]
  · rw [getD_default _ _ _ (by simp; omega)]; exact (BitVec.getLsbD_of_ge c.toBitVec i (by omega)).symm
theorem s8_eq (r : BitVec 32) : s8 r = s1n 8 r := rfl
theorem reg_bits (r : BitVec 32) (l : List UInt8) : reg r l = regB r (bitsOf l) := by
  induction l generalizing r with
  | nil => rfl
  | cons c l ih =>
    show reg (cstep r c) l = _
    rw [ih, show bitsOf (c :: l) = bits8 c ++ bitsOf l from rfl, regB_append, regB_word (bits8 c) r (by simp [bits8]), word_bits8]
    rfl
theorem bitsOf_length (l : List UInt8) : (bitsOf l).length = 8 * l.length := by
  induction l with
  | nil => rfl
  | cons c l ih => simp [bitsOf, bits8] at *; omega
theorem bitsOf_getD (l : List UInt8) (i : Nat) : (bitsOf l).getD i false = (l.getD (i / 8) 0).toBitVec.getLsbD (i % 8) := by
  induction l generalizing i with
  | nil => simp [bitsOf]
  | cons c l ih =>
    have hb : bitsOf (c :: l) = bits8 c ++ bitsOf l := rfl
    rw [hb]
    by_cases h : i < 8
    · rw [getD_append_l _ _ _ _ (by simpa [bits8] using h)]
      rw [show i / 8 = 0 by omega, show i % 8 = i by omega]
      simp [bits8, h]
    · rw [getD_append_r _ _ _ _ (by simp [bits8]; omega)]
      have : (bits8 c).length = 8 := by simp [bits8]
      rw [this, ih, show i / 8 = (i - 8) / 8 + 1 by omega, show (i - 8) % 8 = i % 8 by omega]
      simp
/-- two strings whose bits differ only among 32 in a row, and whose registers are equal, are equal -/
theorem burst_eq (a b : List UInt8) (r : BitVec 32) (p : Nat) (hl : a.length = b.length)
    (hout : ∀ i, i < p ∨ p + 32 ≤ i → (bitsOf a).getD i false = (bitsOf b).getD i false) (h : reg r a = reg r b) : a = b := by
  have hx : regB 0#32 (List.zipWith xor (bitsOf a) (bitsOf b)) = 0#32 := by
    have := regB_xor (bitsOf a) (bitsOf b) r r (by rw [bitsOf_length, bitsOf_length, hl])
    rw [BitVec.xor_self] at this
    rw [this, ← reg_bits, ← reg_bits, h, BitVec.xor_self]
  have hlen : (List.zipWith xor (bitsOf a) (bitsOf b)).length = 8 * a.length := by simp [bitsOf_length, hl]
  have hz : ∀ i, (List.zipWith xor (bitsOf a) (bitsOf b)).getD i false = ((bitsOf a).getD i false ^^ (bitsOf b).getD i false) := by
    intro i
    by_cases hi : i < 8 * a.length
    · have h1 : i < (bitsOf a).length := by rw [bitsOf_length]; exact hi
      have h2 : i < (bitsOf b).length := by rw [bitsOf_length, ← hl]; exact hi
      rw [getD_lt _ _ _ (by omega), getD_lt _ _ _ h1, getD_lt _ _ _ h2, List.getElem_zipWith]
    · rw [getD_default _ i false (by omega), getD_default (bitsOf a) i false (by rw [bitsOf_length]; omega), getD_default (bitsOf b) i false (by rw [bitsOf_length]; omega)]
      rfl
  have hall : ∀ i, (List.zipWith xor (bitsOf a) (bitsOf b)).getD i false = false := by
    generalize List.zipWith xor (bitsOf a) (bitsOf b) = d at hx hlen hz
    have hd : d = List.replicate (min p d.length) false ++ ((d.drop p).take 32 ++ List.replicate (d.length - (p + 32)) false) := by
      apply List.ext_getElem
      · simp; omega
      · intro i h1 h2
        have hf : i < p ∨ p + 32 ≤ i → d[i] = false := fun hh => by
          have h3 := hz i
          rw [hout i hh, Bool.xor_self] at h3
          simpa [h1] using h3
        by_cases hp : i < p
        · rw [List.getElem_append_left (by simp; omega)]
          simp [hf (.inl hp)]
        · rw [List.getElem_append_right (by simp; omega)]
          by_cases hq : i < p + 32
          · rw [List.getElem_append_left (by simp only [List.length_replicate, List.length_take, List.length_drop]; omega)]
            simp only [List.length_replicate, List.getElem_take, List.getElem_drop]
            congr 1
            omega
          · rw [List.getElem_append_right (by simp only [List.length_replicate, List.length_take, List.length_drop]; omega)]
            simp [hf (.inr (by omega))]
    have hb := regB_burst (min p d.length) _ (d.length - (p + 32)) ((d.drop p).take 32) rfl (by simp; omega) (by rw [← hd]; exact hx)
    intro i
    rw [hd]
    by_cases hi : i < d.length
    · have : ∀ x ∈ List.replicate (min p d.length) false ++ ((d.drop p).take 32 ++ List.replicate (d.length - (p + 32)) false), x = false := by
        intro x hx
        rcases List.mem_append.1 hx with h | h
        · exact (List.mem_replicate.1 h).2
        · rcases List.mem_append.1 h with h | h
          · exact hb _ h
          · exact (List.mem_replicate.1 h).2
      rw [← hd] at this ⊢
      simpa [hi] using this d[i] (List.getElem_mem hi)
    · rw [← hd, getD_default d i false (by omega)]
  apply List.ext_getElem hl
  intro i h1 h2
  apply UInt8.eq_of_toBitVec_eq
  apply BitVec.eq_of_getLsbD_eq
  intro j hj
  have h3 := hz (8 * i + j)
  rw [hall, bitsOf_getD, bitsOf_getD, show (8 * i + j) / 8 = i by omega, show (8 * i + j) % 8 = j by omega] at h3
  rw [getD_lt _ _ _ h1, getD_lt _ _ _ h2] at h3
  simpa using h3.symm
end Lime
