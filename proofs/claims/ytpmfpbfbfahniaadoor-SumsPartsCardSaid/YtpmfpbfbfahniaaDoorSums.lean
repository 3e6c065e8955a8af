import Derived.Test.YtpmfpbfbfahniaaDoorBurst
/- Plain mathematics of the checksums: linearity, bytes put in, undoing, many zero bytes, the mix. -/
namespace Lime
theorem x8_xor (a b : UInt8) : x8 (a ^^^ b) = x8 a ^^^ x8 b := by
  simp [x8, BitVec.setWidth_xor]
theorem x8_inj {a b : UInt8} (h : x8 a = x8 b) : a = b := by
  apply UInt8.eq_of_toBitVec_eq
  have := congrArg (fun z => z.setWidth 8) h
  simpa [x8] using this
theorem x8_toNat (a : UInt8) : (x8 a).toNat = a.toNat := by
  simp [x8]
theorem x8_zero : x8 0 = 0#32 := rfl
theorem cstep_xor (r q : BitVec 32) (a b : UInt8) : cstep (r ^^^ q) (a ^^^ b) = cstep r a ^^^ cstep q b := by
  unfold cstep
  rw [← s8_xor, x8_xor]
  congr 1; ac_rfl
theorem reg_xor (a b : List UInt8) (r q : BitVec 32) (h : a.length = b.length) : reg (r ^^^ q) (List.zipWith (· ^^^ ·) a b) = reg r a ^^^ reg q b := by
  induction a generalizing b r q with
  | nil => cases b with | nil => rfl | cons _ _ => simp at h
  | cons x a ih =>
    cases b with
    | nil => simp at h
    | cons y b =>
      show reg (cstep (r ^^^ q) (x ^^^ y)) _ = reg (cstep r x) a ^^^ reg (cstep q y) b
      rw [cstep_xor, ih _ _ _ (by simpa using h)]
/-- the crc of the xor of three strings -/
theorem crc_linear (a b c : List UInt8) (h1 : a.length = b.length) (h2 : a.length = c.length) :
    crc (List.zipWith (· ^^^ ·) (List.zipWith (· ^^^ ·) a b) c) = crc a ^^^ crc b ^^^ crc c := by
  have e : ∀ x y z : BitVec 32, ~~~(x ^^^ y ^^^ z) = ~~~x ^^^ ~~~y ^^^ ~~~z := by
    intro x y z
    apply BitVec.eq_of_getLsbD_eq
    intro i hi
    simp only [BitVec.getLsbD_not, BitVec.getLsbD_xor]
    cases x.getLsbD i <;> cases y.getLsbD i <;> cases z.getLsbD i <;> simp [hi]
  have hz : ~~~(0#32) = ~~~(0#32) ^^^ ~~~(0#32) ^^^ ~~~(0#32) := by decide
  unfold crc on
  rw [← e]
  congr 1
  conv => lhs; rw [hz]
  rw [reg_xor _ _ _ _ (by simp; omega), reg_xor _ _ _ _ h1]
/-- a number of bytes 0 -/
def s8n : Nat → BitVec 32 → BitVec 32
  | 0, r => r
  | n + 1, r => s8n n (s8 r)
def b8n : Nat → BitVec 32 → BitVec 32
  | 0, r => r
  | n + 1, r => b8n n (b8 r)
theorem s8n_succ (n : Nat) (r : BitVec 32) : s8n (n + 1) r = s8 (s8n n r) := by
  induction n generalizing r with
  | zero => rfl
  | succ n ih => rw [s8n, ih]; rfl
theorem b8n_succ (n : Nat) (r : BitVec 32) : b8n (n + 1) r = b8 (b8n n r) := by
  induction n generalizing r with
  | zero => rfl
  | succ n ih => rw [b8n, ih]; rfl
theorem s8n_add (m n : Nat) (r : BitVec 32) : s8n (m + n) r = s8n m (s8n n r) := by
  induction n generalizing r with
  | zero => rfl
  | succ n ih => rw [← Nat.add_assoc, s8n, ih]; rfl
theorem s8n_xor (n : Nat) (a b : BitVec 32) : s8n n (a ^^^ b) = s8n n a ^^^ s8n n b := by
  induction n generalizing a b with
  | zero => rfl
  | succ n ih => simp [s8n, s8_xor, ih]
theorem s8n_zero (n : Nat) : s8n n 0#32 = 0#32 := by
  induction n with
  | zero => rfl
  | succ n ih => simp [s8n, s8_zero, ih]
theorem b8n_s8n (n : Nat) (r : BitVec 32) : b8n n (s8n n r) = r := by
  induction n generalizing r with
  | zero => rfl
  | succ n ih => rw [s8n_succ, b8n, b8_s8, ih]
theorem s8n_b8n (n : Nat) (r : BitVec 32) : s8n n (b8n n r) = r := by
  induction n generalizing r with
  | zero => rfl
  | succ n ih => rw [b8n_succ, s8n, s8_b8, ih]
theorem reg_zeros (n : Nat) (r : BitVec 32) : reg r (List.replicate n 0) = s8n n r := by
  induction n generalizing r with
  | zero => rfl
  | succ n ih =>
    rw [List.replicate_succ]
    show reg (cstep r 0) _ = _
    rw [ih, cstep, x8_zero, BitVec.xor_zero]; rfl
/-- what a difference of the register has become -/
theorem reg_diff (l : List UInt8) (r q : BitVec 32) : reg r l ^^^ reg q l = s8n l.length (r ^^^ q) := by
  have := reg_xor l l r q rfl
  rw [← this]
  have hz : List.zipWith (· ^^^ ·) l l = List.replicate l.length 0 := by
    apply List.ext_getElem
    · simp
    · intro i h1 h2; simp
  rw [hz, reg_zeros]
theorem not_xor_not (a b : BitVec 32) : ~~~a ^^^ ~~~b = a ^^^ b := by
  apply BitVec.eq_of_getLsbD_eq
  intro i hi
  simp only [BitVec.getLsbD_not, BitVec.getLsbD_xor]
  cases a.getLsbD i <;> cases b.getLsbD i <;> simp [hi]
theorem xor_eq_iff (a b c : BitVec 32) : a ^^^ b = c ↔ a = b ^^^ c := by
  constructor
  · rintro rfl; rw [BitVec.xor_comm a b, ← BitVec.xor_assoc, BitVec.xor_self, BitVec.zero_xor]
  · rintro rfl; rw [BitVec.xor_comm b c, BitVec.xor_assoc, BitVec.xor_self, BitVec.xor_zero]
theorem xor_eq_zero_iff (a b : BitVec 32) : a ^^^ b = 0#32 ↔ a = b := by rw [xor_eq_iff, BitVec.xor_zero]
/-- a byte that is changed: what it does to the crc -/
theorem crc_set (l : List UInt8) (i : Nat) (v : UInt8) (h : i < l.length) : crc (l.set i v) ^^^ crc l = s8n (l.length - i) (x8 (l[i] ^^^ v)) := by
  have e1 : l.set i v = l.take i ++ v :: l.drop (i + 1) := List.set_eq_take_append_cons_drop.trans (if_pos h)
  have e2 : l = l.take i ++ l[i] :: l.drop (i + 1) := by simp
  unfold crc on
  rw [not_xor_not, e1]
  conv => lhs; rhs; rw [e2]
  rw [reg_append, reg_append]
  generalize reg (~~~0#32) (List.take i l) = r
  show reg (cstep r v) (List.drop (i + 1) l) ^^^ reg (cstep r l[i]) (List.drop (i + 1) l) = _
  rw [reg_diff, List.length_drop]
  have : cstep r v ^^^ cstep r l[i] = s8 (x8 (l[i] ^^^ v)) := by
    unfold cstep
    rw [← s8_xor, x8_xor]
    congr 1
    rw [show r ^^^ x8 v ^^^ (r ^^^ x8 l[i]) = r ^^^ r ^^^ (x8 l[i] ^^^ x8 v) by ac_rfl, BitVec.xor_self, BitVec.zero_xor]
  rw [this, show l.length - i = (l.length - (i + 1)) + 1 by omega, s8n]
/-- a wanted crc is made by a change of byte 'i' to 'v' just if the undone difference is that byte's -/
theorem crc_set_iff (l : List UInt8) (i : Nat) (v : UInt8) (want : BitVec 32) (h : i < l.length) :
    crc (l.set i v) = want ↔ x8 (l[i] ^^^ v) = b8n (l.length - i) (crc l ^^^ want) := by
  have hc := crc_set l i v h
  constructor
  · rintro rfl
    rw [BitVec.xor_comm, hc, b8n_s8n]
  · intro hx
    rw [hx, s8n_b8n] at hc
    have := (xor_eq_iff _ _ _).1 hc
    rw [this, ← BitVec.xor_assoc, BitVec.xor_self, BitVec.zero_xor]
/-- going on with a byte put in -/
theorem on_set (l : List UInt8) (i : Nat) (v : UInt8) (h : i < l.length) : on (on (crc (l.take i)) [v]) (l.drop (i + 1)) = crc (l.set i v) := by
  have e1 : l.set i v = (l.take i ++ [v]) ++ l.drop (i + 1) := by
    rw [List.append_assoc]; exact List.set_eq_take_append_cons_drop.trans (if_pos h)
  unfold crc
  rw [e1, on_append, on_append]
end Lime
