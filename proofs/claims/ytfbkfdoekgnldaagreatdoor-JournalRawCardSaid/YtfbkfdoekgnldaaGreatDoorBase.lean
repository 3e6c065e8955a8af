/- Values of 32 bits and of bytes in the walk: names that the walk's simplifier does not open, and what the operations do to them. -/
import Derived.Test.YtfbkfdoekgnldaaGreatDoorCrc
import Derived.Test.YtfbkfdoekgnldaaGreatDoorProg
import Derived.WalkKit
import Derived.WalkLawsBesides
import Derived.WalkSpells
import Derived.Lib.Hide
import Derived.IntWalk
namespace Go.Proofs.YtfbkfdoekgnldaaGreatDoor
open Go.RowKit
open Lime
/-- the number of 32 bits -/
def vu (x : BitVec 32) : Int := x.toNat
/-- the number of a byte -/
def vb (c : UInt8) : Int := c.toNat
def at8 (l : List UInt8) (k : Nat) : UInt8 := l.getD k 0
theorem vu_nonneg (x : BitVec 32) : 0 ≤ vu x := by unfold vu; omega
theorem vu_lt (x : BitVec 32) : vu x < 4294967296 := by unfold vu; have := x.isLt; omega
theorem vb_nonneg (x : UInt8) : 0 ≤ vb x := by unfold vb; omega
theorem vb_lt (x : UInt8) : vb x < 256 := by unfold vb; have := x.toNat_lt; omega
theorem vu_inj {x y : BitVec 32} : vu x = vu y ↔ x = y := by
  constructor
  · intro h; apply BitVec.eq_of_toNat_eq; unfold vu at h; omega
  · rintro rfl; rfl
theorem vb_inj {x y : UInt8} : vb x = vb y ↔ x = y := by
  constructor
  · intro h; apply UInt8.toNat_inj.1; unfold vb at h; omega
  · rintro rfl; rfl
theorem g_eq32 (x y : BitVec 32) : (vu x == vu y) = (x == y) := by rw [Bool.eq_iff_iff]; simp [vu_inj]
theorem g_ne32 (x y : BitVec 32) : (vu x != vu y) = (x != y) := by rw [bne, g_eq32]; rfl
theorem g_eq8 (x y : UInt8) : (vb x == vb y) = (x == y) := by rw [Bool.eq_iff_iff]; simp [vb_inj]
theorem g_ne8 (x y : UInt8) : (vb x != vb y) = (x != y) := by rw [bne, g_eq8]; rfl
theorem g_xor32 (x y : BitVec 32) : bits .xor .u32 (vu x) (vu y) = vu (x ^^^ y) := by
  unfold vu; rw [u32_xor_nat _ _ x.isLt y.isLt, BitVec.toNat_xor]
theorem g_or32 (x y : BitVec 32) : bits .or .u32 (vu x) (vu y) = vu (x ||| y) := by
  unfold vu; rw [u32_or_nat _ _ x.isLt y.isLt, BitVec.toNat_or]
theorem g_xor8 (x y : UInt8) : bits .xor .u8 (vb x) (vb y) = vb (x ^^^ y) := by
  unfold vb; rw [u8_xor_nat _ _ x.toNat_lt y.toNat_lt, UInt8.toNat_xor]
theorem g_not32 (x : BitVec 32) : bits .xor .u32 4294967295 (vu x) = vu (~~~x) := by
  have := u32_xor_nat 4294967295 x.toNat (by decide) x.isLt
  have e : (4294967295#32 ^^^ x) = ~~~x := by
    rw [show (4294967295#32) = BitVec.allOnes 32 from rfl, BitVec.allOnes_xor]
  unfold vu; rw [← e, BitVec.toNat_xor]; exact this
theorem g_not32' (x : BitVec 32) : bits .xor .u32 (vu x) 4294967295 = vu (~~~x) := by
  have := u32_xor_nat x.toNat 4294967295 x.isLt (by decide)
  have e : (x ^^^ 4294967295#32) = ~~~x := by
    rw [BitVec.xor_comm, show (4294967295#32) = BitVec.allOnes 32 from rfl, BitVec.allOnes_xor]
  unfold vu; rw [← e, BitVec.toNat_xor]; exact this
theorem g_add32 (x y : BitVec 32) : IntKind.u32.wrap (vu x + vu y) = vu (x + y) := by
  unfold vu; rw [IntKind.wrap_u32, BitVec.toNat_add]; omega
theorem g_and15 (x : BitVec 32) : bits .and .u32 (vu x) 15 = vu (x &&& 15#32) := by
  have := u32_and_nat x.toNat 15 x.isLt (by decide)
  unfold vu; rw [BitVec.toNat_and]; exact this
theorem g_and15_lt (x : BitVec 32) : vu (x &&& 15#32) < 16 := by
  have : (x &&& 15#32).toNat < 16 := by rw [BitVec.toNat_and]; exact Nat.lt_of_le_of_lt Nat.and_le_right (by decide)
  unfold vu; omega
theorem g_wrap8 (c : UInt8) : IntKind.u32.wrap (vb c) = vu (x8 c) := by
  unfold vu vb; rw [IntKind.wrap_u32]; simp [x8]; have := c.toNat_lt; omega
theorem g_same32 (x : BitVec 32) : IntKind.u32.wrap (vu x) = vu x := by
  rw [IntKind.wrap_u32]; have := vu_nonneg x; have := vu_lt x; omega
theorem g_same8 (x : UInt8) : IntKind.u8.wrap (vb x) = vb x := by
  rw [IntKind.wrap_u8]; have := vb_nonneg x; have := vb_lt x; omega
/-- the lowest byte -/
def lo8 (x : BitVec 32) : UInt8 := UInt8.ofBitVec (x.setWidth 8)
theorem g_lo8 (x : BitVec 32) : IntKind.u8.wrap (vu x) = vb (lo8 x) := by
  unfold vu vb lo8; rw [IntKind.wrap_u8]; simp [UInt8.toNat]
theorem g_shr32 (x : BitVec 32) (yk : IntKind) (y : Int) (h : 0 ≤ y) : Op.shift .shr .u32 (vu x) yk y = pure (.int .u32 (vu (x >>> y.toNat))) := by
  rw [shift_shr_any _ _ _ _ h]
  congr 2
  unfold vu
  rw [BitVec.toNat_ushiftRight, Nat.shiftRight_eq_div_pow]
  show _ / 2 ^ min y.toNat 32 = _
  have hx := x.isLt
  rcases Nat.le_total y.toNat 32 with h | h
  · rw [Nat.min_eq_left h]; norm_cast
  · rw [Nat.min_eq_right h, Nat.div_eq_of_lt (Nat.lt_of_lt_of_le hx (Nat.pow_le_pow_right (by decide) h))]
    omega
theorem g_shl32 (x : BitVec 32) (yk : IntKind) (y : Int) (h : 0 ≤ y) : Op.shift .shl .u32 (vu x) yk y = pure (.int .u32 (vu (x <<< y.toNat))) := by
  rw [shift_shl_any _ _ _ _ h]
  congr 2
  unfold vu
  rw [BitVec.toNat_shiftLeft, Nat.shiftLeft_eq, IntKind.wrap_u32]
  show _ * 2 ^ min y.toNat 32 % 4294967296 = _
  rcases Nat.le_total y.toNat 32 with h | h
  · rw [Nat.min_eq_left h, Int.natCast_emod, Int.natCast_mul, Int.natCast_pow]; rfl
  · rw [Nat.min_eq_right h]
    obtain ⟨m, hm⟩ := Nat.exists_eq_add_of_le h
    rw [hm, Nat.pow_add, Nat.mul_left_comm, Nat.mul_mod_right]
    omega
theorem q_shr32 (t : TypeId) (x : BitVec 32) (yk : IntKind) (y : Int) (h : 0 ≤ y) : binOp .shr t (.int .u32 (vu x)) (.int yk y) = pure (.int .u32 (vu (x >>> y.toNat))) := g_shr32 x yk y h
theorem q_shl32 (t : TypeId) (x : BitVec 32) (yk : IntKind) (y : Int) (h : 0 ≤ y) : binOp .shl t (.int .u32 (vu x)) (.int yk y) = pure (.int .u32 (vu (x <<< y.toNat))) := g_shl32 x yk y h
theorem q_shr32k (t : TypeId) (x : BitVec 32) (yk : IntKind) (k : Nat) : binOp .shr t (.int .u32 (vu x)) (.int yk (8 * (k : Int))) = pure (.int .u32 (vu (x >>> (8 * k)))) := by
  rw [q_shr32 t x yk _ (by omega)]; congr 4
theorem q_shl32k (t : TypeId) (x : BitVec 32) (yk : IntKind) (k : Nat) : binOp .shl t (.int .u32 (vu x)) (.int yk (8 * (k : Int))) = pure (.int .u32 (vu (x <<< (8 * k)))) := by
  rw [q_shl32 t x yk _ (by omega)]; congr 4
theorem q_shr32n (t : TypeId) (x : BitVec 32) (yk : IntKind) (k : Nat) : binOp .shr t (.int .u32 (vu x)) (.int yk (k : Int)) = pure (.int .u32 (vu (x >>> k))) := by
  rw [q_shr32 t x yk _ (by omega)]; congr 4
theorem q_shl32n (t : TypeId) (x : BitVec 32) (yk : IntKind) (k : Nat) : binOp .shl t (.int .u32 (vu x)) (.int yk (k : Int)) = pure (.int .u32 (vu (x <<< k))) := by
  rw [q_shl32 t x yk _ (by omega)]; congr 4
theorem g_com32 (x : BitVec 32) : Op.unary .xor (.int .u32 (vu x)) = pure (.int .u32 (vu (~~~x))) := by
  rw [← g_not32]; rfl
theorem g_quo2 (x : BitVec 32) : IntKind.u32.wrap ((vu x).tdiv 2) = vu (x >>> 1) := by
  have e : vu (x >>> 1) = vu x / 2 := by
    unfold vu; rw [BitVec.toNat_ushiftRight, Nat.shiftRight_eq_div_pow]; rfl
  have : (vu x).tdiv 2 = vu x / 2 := Int.tdiv_eq_ediv_of_nonneg (vu_nonneg x)
  rw [this, e, IntKind.wrap_u32]
  have := vu_nonneg x; have := vu_lt x
  omega
/-- the lowest bit -/
def odd32 (x : BitVec 32) : Bool := x.getLsbD 0
theorem g_rem2 (x : BitVec 32) : ((vu x).tmod 2 == 1) = odd32 x := by
  rw [Int.tmod_eq_emod_of_nonneg (vu_nonneg x), odd32, BitVec.getLsbD, Nat.testBit_zero]
  unfold vu
  rw [Bool.eq_iff_iff]; simp; omega
theorem g_rem2' (x : BitVec 32) : (vu x % 2 == 1) = odd32 x := by
  rw [odd32, BitVec.getLsbD, Nat.testBit_zero]
  unfold vu
  rw [Bool.eq_iff_iff]; simp; omega
theorem g_poly (x : BitVec 32) : bits .xor .u32 (vu x) 3988292384 = vu (x ^^^ 3988292384#32) := g_xor32 x 3988292384#32
theorem s1_odd (x : BitVec 32) (h : odd32 x = true) : s1 x = x >>> 1 ^^^ 3988292384#32 := by
  unfold s1; rw [show x.getLsbD 0 = true from h]; rfl
theorem s1_even (x : BitVec 32) (h : odd32 x = false) : s1 x = x >>> 1 := by
  unfold s1; rw [show x.getLsbD 0 = false from h]; rfl
theorem take_at (l : List UInt8) (k : Nat) (h : k < l.length) : l.take (k + 1) = l.take k ++ [at8 l k] := by
  rw [List.take_succ_eq_append_getElem h]; simp [at8, h]
/-- a slice of bytes that can be read: it is empty, or its cells lie at its address -/
def BytesAt (w : World) (a : Option Addr) (l : List UInt8) : Prop :=
  l.length ≤ 9223372036854775807 ∧ (l.length = 0 ∨ ∃ b off, a = some ⟨b, off, none⟩ ∧ ∀ i, i < l.length → w.cell? ⟨b, off + i, none⟩ = some (.int .u8 (vb (at8 l i))))
theorem BytesAt.below {w w' : World} {a : Option Addr} {l : List UInt8} (h : BytesAt w a l) (hb : Below w.heap.size w w') : BytesAt w' a l := by
  refine ⟨h.1, ?_⟩
  rcases h.2 with h | ⟨b, off, rfl, hc⟩
  · exact .inl h
  · refine .inr ⟨b, off, rfl, fun i hi => ?_⟩
    exact (hb.cell (p := ⟨b, off + i, none⟩) (block_lt_of_cell (hc i hi))).trans (hc i hi)
/-- a number of 32 bits that fits its kind -/
theorem of_u32 {n : Int} (h : (Lit.int .u32 n).wf = true) : ∃ x : BitVec 32, n = vu x := by
  have hb : 0 ≤ n ∧ n < 4294967296 := by
    simp only [Lit.wf, Bool.and_eq_true, decide_eq_true_eq] at h
    have h1 : IntKind.u32.min = 0 := by decide
    have h2 : IntKind.u32.max = 4294967295 := by decide
    omega
  refine ⟨BitVec.ofNat 32 n.toNat, ?_⟩
  unfold vu
  rw [BitVec.toNat_ofNat, Nat.mod_eq_of_lt (by omega)]
  omega
theorem of_u8 {n : Int} (h : (Lit.int .u8 n).wf = true) : ∃ x : UInt8, n = vb x := by
  have hb : 0 ≤ n ∧ n < 256 := by
    simp only [Lit.wf, Bool.and_eq_true, decide_eq_true_eq] at h
    have h1 : IntKind.u8.min = 0 := by decide
    have h2 : IntKind.u8.max = 255 := by decide
    omega
  refine ⟨UInt8.ofNat n.toNat, ?_⟩
  unfold vb
  simp
  omega
theorem ret_int {k : IntKind} {a b : Int} (h : a = b) : Ending.returned (.int k a) = .returned (.int k b) := by rw [h]
end Go.Proofs.YtfbkfdoekgnldaaGreatDoor
