/- Plain mathematics of the crc: steps for bits and bytes on 32 bits, their inverses, linearity, the table of sixteen. -/
namespace Lime
/-- one cstep for a bit -/
def s1 (r : BitVec 32) : BitVec 32 := bif r.getLsbD 0 then (r >>> 1) ^^^ 3988292384#32 else r >>> 1
/-- its inverse -/
def b1 (r : BitVec 32) : BitVec 32 := bif r.getLsbD 31 then ((r ^^^ 3988292384#32) <<< 1) ||| 1#32 else r <<< 1
def s4 (r : BitVec 32) : BitVec 32 := s1 (s1 (s1 (s1 r)))
def s8 (r : BitVec 32) : BitVec 32 := s4 (s4 r)
def b8 (r : BitVec 32) : BitVec 32 := b1 (b1 (b1 (b1 (b1 (b1 (b1 (b1 r)))))))
/-- a byte in 32 bits -/
def x8 (c : UInt8) : BitVec 32 := c.toBitVec.setWidth 32
/-- what is done for a byte -/
def cstep (r : BitVec 32) (c : UInt8) : BitVec 32 := s8 (r ^^^ x8 c)
def reg (r : BitVec 32) (l : List UInt8) : BitVec 32 := l.foldl cstep r
def on (h : BitVec 32) (l : List UInt8) : BitVec 32 := ~~~ reg (~~~ h) l
def crc (l : List UInt8) : BitVec 32 := on 0#32 l
def half : List (BitVec 32) := [0#32, 498536548#32, 997073096#32, 651767980#32, 1994146192#32, 1802195444#32, 1303535960#32, 1342533948#32, 3988292384#32, 4027552580#32, 3604390888#32, 3412177804#32, 2607071920#32, 2262029012#32, 2685067896#32, 3183342108#32]

theorem s1_xor (a b : BitVec 32) : s1 (a ^^^ b) = s1 a ^^^ s1 b := by
  unfold s1
  rw [BitVec.getLsbD_xor, BitVec.ushiftRight_xor_distrib]
  cases a.getLsbD 0 <;> cases b.getLsbD 0 <;> simp
  · rw [BitVec.xor_assoc]
  · ac_rfl
  · rw [show a >>> 1 ^^^ 3988292384#32 ^^^ (b >>> 1 ^^^ 3988292384#32) = a >>> 1 ^^^ b >>> 1 ^^^ (3988292384#32 ^^^ 3988292384#32) by ac_rfl]
    simp
theorem s1_zero : s1 0#32 = 0#32 := by decide
theorem s4_xor (a b : BitVec 32) : s4 (a ^^^ b) = s4 a ^^^ s4 b := by simp [s4, s1_xor]
theorem s8_xor (a b : BitVec 32) : s8 (a ^^^ b) = s8 a ^^^ s8 b := by simp [s8, s4_xor]
theorem s8_zero : s8 0#32 = 0#32 := by decide

theorem b1_s1 (r : BitVec 32) : b1 (s1 r) = r := by
  unfold s1
  cases h : r.getLsbD 0
  · simp only [cond_false]
    unfold b1
    have : (r >>> 1).getLsbD 31 = false := by simp
    rw [this, cond_false]
    apply BitVec.eq_of_getLsbD_eq
    intro i hi
    rw [BitVec.getLsbD_shiftLeft, BitVec.getLsbD_ushiftRight]
    by_cases h0 : i = 0
    · subst h0; rw [h]; simp
    · have : 1 + (i - 1) = i := by omega
      simp [h0, this, hi]
  · simp only [cond_true]
    unfold b1
    have : (r >>> 1 ^^^ 3988292384#32).getLsbD 31 = true := by simp
    rw [this, cond_true, BitVec.xor_assoc, BitVec.xor_self, BitVec.xor_zero]
    apply BitVec.eq_of_getLsbD_eq
    intro i hi
    rw [BitVec.getLsbD_or, BitVec.getLsbD_shiftLeft, BitVec.getLsbD_ushiftRight]
    by_cases h0 : i = 0
    · subst h0; rw [h]; simp
    · have : 1 + (i - 1) = i := by omega
      simp [h0, this, hi]
theorem s1_b1 (r : BitVec 32) : s1 (b1 r) = r := by
  unfold b1
  cases h : r.getLsbD 31
  · simp only [cond_false]
    unfold s1
    have : (r <<< 1).getLsbD 0 = false := by simp
    rw [this, cond_false]
    apply BitVec.eq_of_getLsbD_eq
    intro i hi
    rw [BitVec.getLsbD_ushiftRight, BitVec.getLsbD_shiftLeft]
    by_cases h0 : i = 31
    · subst h0; rw [h]; simp
    · have : 1 + i < 32 := by omega
      simp [this]
  · simp only [cond_true]
    unfold s1
    have : ((r ^^^ 3988292384#32) <<< 1 ||| 1#32).getLsbD 0 = true := by simp
    rw [this, cond_true]
    have e : ((r ^^^ 3988292384#32) <<< 1 ||| 1#32) >>> 1 = r ^^^ 3988292384#32 := by
      apply BitVec.eq_of_getLsbD_eq
      intro i hi
      rw [BitVec.getLsbD_ushiftRight, BitVec.getLsbD_or, BitVec.getLsbD_shiftLeft, BitVec.getLsbD_one]
      by_cases h0 : i = 31
      · subst h0; rw [BitVec.getLsbD_xor, h]; simp
      · have : 1 + i < 32 := by omega
        simp [this]
    rw [e, BitVec.xor_assoc, BitVec.xor_self, BitVec.xor_zero]
theorem b8_s8 (r : BitVec 32) : b8 (s8 r) = r := by simp [b8, s8, s4, b1_s1]
theorem s8_b8 (r : BitVec 32) : s8 (b8 r) = r := by simp [b8, s8, s4, s1_b1]
theorem s1_inj {a b : BitVec 32} (h : s1 a = s1 b) : a = b := by rw [← b1_s1 a, ← b1_s1 b, h]
theorem s8_inj {a b : BitVec 32} (h : s8 a = s8 b) : a = b := by rw [← b8_s8 a, ← b8_s8 b, h]
theorem s1_shl (y : BitVec 32) (h : y.getLsbD 31 = false) : s1 (y <<< 1) = y := by
  have := s1_b1 y
  unfold b1 at this
  rwa [h, cond_false] at this
theorem half_of (n : Nat) (h : n < 16) : s4 (BitVec.ofNat 32 n) = half.getD n 0#32 := by
  have : ∀ n : Fin 16, s4 (BitVec.ofNat 32 n) = half.getD n 0#32 := by decide +kernel
  exact this ⟨n, h⟩
theorem s4_shl (y : BitVec 32) (h : y >>> 28 = 0#32) : s4 (y <<< 4) = y := by
  have hb : ∀ i, 28 ≤ i → y.getLsbD i = false := by
    intro i hi
    have := congrArg (fun z => z.getLsbD (i - 28)) h
    simp only [BitVec.getLsbD_ushiftRight, BitVec.getLsbD_zero] at this
    rwa [show 28 + (i - 28) = i by omega] at this
  have e : y <<< 4 = ((y <<< 1) <<< 1) <<< 1 <<< 1 := by simp [← BitVec.shiftLeft_add]
  rw [e]
  unfold s4
  rw [s1_shl, s1_shl, s1_shl, s1_shl]
  all_goals (simp; rw [← BitVec.getLsbD_eq_getElem]; exact hb _ (by omega))
theorem s4_half (x : BitVec 32) : s4 x = half.getD (x &&& 15#32).toNat 0#32 ^^^ (x >>> 4) := by
  have hx : x = (x &&& 15#32) ^^^ ((x >>> 4) <<< 4) := by
    apply BitVec.eq_of_getLsbD_eq
    intro i hi
    have h15 : (15#32).getLsbD i = decide (i < 4) := by
      have : ∀ i : Fin 32, (15#32).getLsbD i = decide (i.val < 4) := by decide
      exact this ⟨i, hi⟩
    rw [BitVec.getLsbD_xor, BitVec.getLsbD_and, h15, BitVec.getLsbD_shiftLeft, BitVec.getLsbD_ushiftRight]
    by_cases h4 : i < 4
    · simp [h4]
    · have : 4 + (i - 4) = i := by omega
      simp [h4, hi, this]
  have hlt : (x &&& 15#32).toNat < 16 := by
    rw [BitVec.toNat_and]; exact Nat.lt_of_le_of_lt Nat.and_le_right (by decide)
  conv => lhs; rw [hx]
  rw [s4_xor, s4_shl _ (by rw [← BitVec.shiftRight_add]; exact BitVec.eq_of_toNat_eq (by simp [Nat.shiftRight_eq_div_pow]; omega)), ← half_of _ hlt]
  simp

theorem cstep_inj {a b : BitVec 32} {c : UInt8} (h : cstep a c = cstep b c) : a = b := by
  have := s8_inj h
  rw [← BitVec.xor_zero (x := a), ← BitVec.xor_self (x := x8 c), ← BitVec.xor_assoc, this, BitVec.xor_assoc, BitVec.xor_self, BitVec.xor_zero]
theorem reg_append (r : BitVec 32) (a b : List UInt8) : reg r (a ++ b) = reg (reg r a) b := by simp [reg]
theorem reg_snoc (r : BitVec 32) (a : List UInt8) (c : UInt8) : reg r (a ++ [c]) = cstep (reg r a) c := by simp [reg]
theorem on_append (h : BitVec 32) (a b : List UInt8) : on h (a ++ b) = on (on h a) b := by simp [on, reg_append]
example : crc [49, 50, 51, 52, 53, 54, 55, 56, 57] = 3421780262#32 := by decide +kernel
end Lime
