/- The walk of the reference's frames: numbers, Seal, Fixed. -/
import Derived.Test.YtfbkfdoekgnldaaDoorSealW
namespace Go.Proofs.YtfbkfdoekgnldaaDoor
open Go.RowKit
open Lime
attribute [local go_sem high] q_shr32 q_shl32 q_shr32k q_shl32k q_shr32n q_shl32n g_com32
attribute [local go_sem] g_xor32 g_or32 g_add32 g_wrap8 vu_nonneg g_same32 g_lo8 setRow_alloc_at setRow_alloc_past setRow_drew sec_set sec_set76 g_same8 sec_get
/-- a number read by sums -/
def addK (s : Sector) (p : Nat) : Nat → BitVec 32
  | 0 => 0#32
  | k + 1 => addK s p k + (x8 (sat s (p + k)) <<< (8 * k))
theorem getK_lt (s : Sector) (p k : Nat) (hk : k ≤ 4) : (getK s p k).toNat < 2 ^ (8 * k) := by
  induction k with
  | zero => simp [getK]
  | succ k ih =>
    rw [getK, BitVec.toNat_or]
    apply Nat.or_lt_two_pow
    · exact Nat.lt_of_lt_of_le (ih (by omega)) (Nat.pow_le_pow_right (by decide) (by omega))
    · rw [BitVec.toNat_shiftLeft, Nat.shiftLeft_eq]
      have h1 : (x8 (sat s (p + k))).toNat < 256 := by
        unfold x8; have := (sat s (p + k)).toNat_lt; simp; omega
      refine Nat.lt_of_le_of_lt (Nat.mod_le _ _) ?_
      rw [show 8 * (k + 1) = 8 + 8 * k by omega, Nat.pow_add]
      exact Nat.mul_lt_mul_of_pos_right h1 (Nat.two_pow_pos _)
theorem addK_getK (s : Sector) (p k : Nat) (hk : k ≤ 4) : addK s p k = getK s p k := by
  induction k with
  | zero => rfl
  | succ k ih =>
    rw [addK, getK, ih (by omega)]
    apply BitVec.add_eq_or_of_and_eq_zero
    apply BitVec.eq_of_getLsbD_eq
    intro i hi
    rw [BitVec.getLsbD_and, BitVec.getLsbD_shiftLeft, BitVec.getLsbD_zero]
    by_cases h : i < 8 * k
    · simp [h]
    · have : (getK s p k).getLsbD i = false := by
        rw [BitVec.getLsbD]
        exact Nat.testBit_lt_two_pow (Nat.lt_of_lt_of_le (getK_lt s p k (by omega)) (Nat.pow_le_pow_right (by decide) (by omega)))
      rw [this]; rfl
theorem putL_snoc (l : List UInt8) (c : UInt8) : ∀ (s : Sector) (p : Nat), putL s p (l ++ [c]) = sput (putL s p l) (p + l.length) c := by
  induction l with
  | nil => intro s p; rfl
  | cons d l ih => intro s p; simp only [List.cons_append, putL, ih, List.length_cons]; congr 1; omega
theorem putL_putK (l : List UInt8) (n : BitVec 32) (p k : Nat) : ∀ (s : Sector) (q : Nat), p + k ≤ q → putL (putK s p n k) q l = putK (putL s q l) p n k := by
  induction l with
  | nil => intro s q _; rfl
  | cons c l ih => intro s q h; rw [putL, putL, ← putK_sput _ _ _ _ _ _ (by omega), ih _ _ (by omega)]
/-- a result that is still zero, and a sector that is being made -/
structure SecInv (w wr : World) (s : Sector) : Prop where
  hB : Below w.heap.size w wr
  hr : wr.heap[w.heap.size]? = some (.cells (sec zsec) 64 (0, 0))
  hs : wr.heap[w.heap.size + 1]? = some (.cells (sec s) 64 (0, 0))
theorem SecInv.start (w : World) (s : Sector) : SecInv w ((w.alloc (.cells (sec zsec) 64)).alloc (.cells (sec s) 64)) s :=
  ⟨((Below.refl _ _).alloc (Nat.le_refl _) _).alloc (by simp) _, heap_alloc2_old _ _ _, heap_alloc2_new _ _ _⟩
theorem SecInv.set {w wr : World} {s : Sector} (h : SecInv w wr s) (s' : Sector) : SecInv w (wr.setRow (w.heap.size + 1) (sec s')) s' :=
  ⟨h.hB.trans ⟨rfl, rfl, rfl, by simp, fun k hk => setRow_other wr _ _ _ (by omega)⟩, (setRow_other wr _ _ _ (by omega)).trans h.hr, setRow_heap wr _ _ _ _ _ h.hs⟩
theorem SecInv.setCell {w wr : World} {s : Sector} (h : SecInv w wr s) (i : Nat) (c : UInt8) : SecInv w (wr.setCell ⟨w.heap.size + 1, i, none⟩ (.int .u8 (vb c))) (sput s i c) := by
  rw [setCell_eq_setRow wr _ _ _ _ _ _ h.hs, sec_set]; exact h.set _
theorem str_at (d : ByteArray) (k : Nat) (h : k < d.size) : vb (at8 d.data.toList k) = ((d[k]).toNat : Int) := by
  have : at8 d.data.toList k = d[k] := by
    unfold at8
    simp [h]
    rfl
  rw [this]; rfl
/-- what Seal returns, at any arguments -/
def sealS (p kind : Int) (seq : BitVec 32) (d : ByteArray) : Sector × Int :=
  if p < 0 ∨ 256 ≤ p ∨ kind < 1 ∨ 255 < kind then (zsec, 7) else if 112 < d.size then (zsec, 3)
  else (sealOf (UInt8.ofNat kind.toNat) (UInt8.ofNat d.size) d.data.toList seq p.toNat, 0)
def sealV (x : Sector × Int) : Value := .tuple #[.agg (sec x.1), .int .i64 x.2]
theorem seal_args (p kind : Int) (seq : BitVec 32) (d : ByteArray) (h : ¬ (p < 0 ∨ 256 ≤ p ∨ kind < 1 ∨ 255 < kind)) (hd : ¬ 112 < d.size) :
    ∃ (n : Nat) (kb lb : UInt8), p = (n : Int) ∧ kind = vb kb ∧ n < 256 ∧ 1 ≤ vb kb ∧ vb lb = d.size ∧ sealS p kind seq d = (sealOf kb lb d.data.toList seq n, 0) := by
  refine ⟨p.toNat, UInt8.ofNat kind.toNat, UInt8.ofNat d.size, by omega, ?_, by omega, ?_, ?_, ?_⟩
  · unfold vb; simp; omega
  · unfold vb; simp; omega
  · unfold vb; simp; omega
  · rw [sealS, if_neg h, if_neg hd]
theorem seal_any (p kind : Int) (seq : BitVec 32) (d : ByteArray) (w : World) (hd : d.size ≤ 9223372036854775807) (hh : HalfLaid w) :
    Calls Tryd.prog 66 #[.int .i64 p, .int .i64 kind, .int .u32 (vu seq), .string d] w fun e w' =>
      e = .returned (sealV (sealS p kind seq d)) ∧ Below w.heap.size w w' := by
  by_cases h : p < 0 ∨ 256 ≤ p ∨ kind < 1 ∨ 255 < kind
  · rw [sealS, if_pos h]; exact seal_range p kind seq d w h
  · by_cases hl : 112 < d.size
    · rw [sealS, if_neg h, if_pos hl]; exact seal_long p kind seq d w (by omega) (by omega) (by omega) (by omega) hl hd
    · obtain ⟨n, kb, lb, rfl, rfl, h1, h2, h3, h4⟩ := seal_args p kind seq d h hl
      rw [h4]; exact seal_ok n kb lb seq d w h1 h2 (by omega) h3 hh
end Go.Proofs.YtfbkfdoekgnldaaDoor
