/- The walk of the reference's frames: numbers, Seal, Fixed. -/
import Derived.Test.YtfbkfdoekgnldaaGreatDoorSealW
namespace Go.Proofs.YtfbkfdoekgnldaaGreatDoor
open Go.RowKit
open Lime
attribute [local go_sem high] q_shr32 q_shl32 q_shr32k q_shl32k q_shr32n q_shl32n g_com32
attribute [local go_sem] g_xor32 g_or32 g_add32 g_wrap8 vu_nonneg g_same32 g_lo8 setRow_alloc_at setRow_alloc_past setRow_drew sec_set sec_set76 g_same8 sec_get
set_option maxHeartbeats 400000 in
theorem refnumber_any (sb p : Nat) (n : BitVec 32) (s : Sector) (t : TypeId) (w : World) (hp : p + 4 ≤ 128)
    (hs : w.heap[sb]? = some (.cells (sec s) t (0, 0))) :
    Calls Tryz.prog 43 #[.pointer (some ⟨sb, 0, none⟩), .int .i64 (p : Int), .int .u32 (vu n)] w fun e w' =>
      e = .returned (.tuple #[]) ∧ w.setRow sb (sec (putN s p n)) = w' := by
  go_enter Tryz.func43, Tryz.ntmps43
  go_wp2
  go_loopw [6] (fun i wr => ∃ k : Nat, k ≤ 4 ∧ i = .int .i64 k ∧ wr = w.setRow sb (sec (putK s p n k))) (fun i _ => 4 - (intOf i).toNat)
  case atStart => exact ⟨0, Nat.zero_le _, rfl, (setRow_self w sb _ _ _ hs).symm⟩
  case round =>
    obtain ⟨k, hk, rfl, hwr⟩ := hrel
    have hs' : wr.heap[sb]? = some (.cells (sec (putK s p n k)) t (0, 0)) := by rw [hwr]; exact setRow_heap w sb _ _ _ _ hs
    by_cases hlt : k < 4
    · have hc : wr.cell? ⟨sb, p + k, none⟩ = some (.int .u8 (vb (sat (putK s p n k) (p + k)))) := by
        rw [cell_of_row wr sb _ _ _ _ hs', sec_get _ _ (by omega)]
      have hf : wr.frozen? ⟨sb, p + k, none⟩ = false := frozen_of_row wr sb _ _ _ hs'
      have HW : Hid (wr.setCell ⟨sb, p + k, none⟩ (.int .u8 (vb (lo8 (n >>> (8 * k))))) = w.setRow sb (sec (putK s p n (k + 1)))) := by
        rw [setCell_eq_setRow wr sb _ _ _ _ _ hs', sec_set, hwr]
        exact setRow_setRow w sb _ _
      clear hwr hs'
      go_wp2
      go_roundw
      case rel => exact ⟨k + 1, by omega, by go_num, HW.out⟩
      case measure => simp [intOf]; omega
    · have : k = 4 := by omega
      subst this
      have HW := Lib.hid hwr
      clear hwr
      go_wp2
      go_end0
      exact ⟨rfl, HW.out.symm⟩

/-- a number read by sums -/
def addK (s : Sector) (p : Nat) : Nat → BitVec 32
  | 0 => 0#32
  | k + 1 => addK s p k + (x8 (sat s (p + k)) <<< (8 * k))
theorem getK_lt (s : Sector) (p k : Nat) (hk : k ≤ 4) : (getK s p k).toNat < 2 ^ (8 * k) := by
  induction k with
  | zero => simp [getK]
  | succ k ih =>
    rw [getK, BitVec.toNat_or]
    apply Nat.or_lt_two_pow
    · exact Nat.lt_of_lt_of_le (ih (by omega)) (Nat.pow_le_pow_right (by decide) (by omega))
    · rw [BitVec.toNat_shiftLeft, Nat.shiftLeft_eq]
      have h1 : (x8 (sat s (p + k))).toNat < 256 := by
        unfold x8; have := (sat s (p + k)).toNat_lt; simp; omega
      refine Nat.lt_of_le_of_lt (Nat.mod_le _ _) ?_
      rw [show 8 * (k + 1) = 8 + 8 * k by omega, Nat.pow_add]
      exact Nat.mul_lt_mul_of_pos_right h1 (Nat.two_pow_pos _)
theorem addK_getK (s : Sector) (p k : Nat) (hk : k ≤ 4) : addK s p k = getK s p k := by
  induction k with
  | zero => rfl
  | succ k ih =>
    rw [addK, getK, ih (by omega)]
    apply BitVec.add_eq_or_of_and_eq_zero
    apply BitVec.eq_of_getLsbD_eq
    intro i hi
    rw [BitVec.getLsbD_and, BitVec.getLsbD_shiftLeft, BitVec.getLsbD_zero]
    by_cases h : i < 8 * k
    · simp [h]
    · have : (getK s p k).getLsbD i = false := by
        rw [BitVec.getLsbD]
        exact Nat.testBit_lt_two_pow (Nat.lt_of_lt_of_le (getK_lt s p k (by omega)) (Nat.pow_le_pow_right (by decide) (by omega)))
      rw [this]; rfl
set_option maxHeartbeats 400000 in
theorem refnumbered_any (p : Nat) (s : Sector) (w : World) (hp : p + 4 ≤ 128) :
    Calls Tryz.prog 108 #[.agg (sec s), .int .i64 (p : Int)] w fun e w' =>
      e = .returned (.int .u32 (vu (getN s p))) ∧ Below w.heap.size w w' := by
  go_enter Tryz.func108, Tryz.ntmps108
  go_wp2_with (((with_reducible refine wpList_box_sector rfl _ rfl s ?_ ?_); rfl))
  go_loop [5, 6] (fun x i => ∃ k : Nat, k ≤ 4 ∧ i = .int .i64 k ∧ x = .int .u32 (vu (addK s p k))) (fun _ i => 4 - (intOf i).toNat)
  case atStart => exact ⟨0, Nat.zero_le _, rfl, rfl⟩
  case round =>
    obtain ⟨k, hk, rfl, rfl⟩ := hrel
    by_cases hlt : k < 4
    · have hpk : p + k < 128 := by omega
      go_wp2
      go_round
      case rel => exact ⟨k + 1, by omega, by go_num, rfl⟩
      case measure => simp [intOf]; omega
    · have : k = 4 := by omega
      subst this
      have HA := Lib.hid (addK_getK s p 4 (by omega))
      go_wp2
      go_ret
      exact ⟨by rw [HA.out]; rfl, (Below.refl _ _).alloc (Nat.le_refl _) _⟩
theorem putL_snoc (l : List UInt8) (c : UInt8) : ∀ (s : Sector) (p : Nat), putL s p (l ++ [c]) = sput (putL s p l) (p + l.length) c := by
  induction l with
  | nil => intro s p; rfl
  | cons d l ih => intro s p; simp only [List.cons_append, putL, ih, List.length_cons]; congr 1; omega
theorem putL_putK (l : List UInt8) (n : BitVec 32) (p k : Nat) : ∀ (s : Sector) (q : Nat), p + k ≤ q → putL (putK s p n k) q l = putK (putL s q l) p n k := by
  induction l with
  | nil => intro s q _; rfl
  | cons c l ih => intro s q h; rw [putL, putL, ← putK_sput _ _ _ _ _ _ (by omega), ih _ _ (by omega)]
set_option maxRecDepth 100000 in
set_option maxHeartbeats 1000000 in
theorem refseal_range (p kind : Int) (seq : BitVec 32) (d : ByteArray) (w : World) (h : p < 0 ∨ 256 ≤ p ∨ kind < 1 ∨ 255 < kind) :
    Calls Tryz.prog 13 #[.int .i64 p, .int .i64 kind, .int .u32 (vu seq), .string d] w fun e w' =>
      e = .returned (.tuple #[.agg (sec zsec), .int .i64 7]) ∧ Below w.heap.size w w' := by
  have h4 : (p < 0) ∨ (0 ≤ p ∧ 256 ≤ p) ∨ (0 ≤ p ∧ p < 256 ∧ kind < 1) ∨ (0 ≤ p ∧ p < 256 ∧ 1 ≤ kind ∧ 255 < kind) := by omega
  clear h
  rcases h4 with h | ⟨h1, h⟩ | ⟨h1, h2, h⟩ | ⟨h1, h2, h3, h⟩
  · go_enter Tryz.func13, Tryz.ntmps13
    go_wp2_with (first | (with_reducible refine wpList_alloc_sector rfl rfl ?_) | ((with_reducible refine wpList_load_sector rfl _ rfl (w.heap.size + 1) zsec ?_ ?_ ?_); rfl; exact heap_alloc2_new _ _ _) | ((with_reducible refine wpList_store_sector rfl _ _ rfl w.heap.size zsec zsec ?_ ?_ ?_ ?_); rfl; rfl; exact heap_alloc2_old _ _ _))
    exact bodyPost_ret (results_sector2 rfl _ _ w.heap.size zsec rfl (heap_alloc2_old _ _ _)) rfl ⟨rfl, ((Below.refl _ _).alloc (Nat.le_refl _) _).alloc (by simp) _⟩
  · go_enter Tryz.func13, Tryz.ntmps13
    go_wp2_with (first | (with_reducible refine wpList_alloc_sector rfl rfl ?_) | ((with_reducible refine wpList_load_sector rfl _ rfl (w.heap.size + 1) zsec ?_ ?_ ?_); rfl; exact heap_alloc2_new _ _ _) | ((with_reducible refine wpList_store_sector rfl _ _ rfl w.heap.size zsec zsec ?_ ?_ ?_ ?_); rfl; rfl; exact heap_alloc2_old _ _ _))
    exact bodyPost_ret (results_sector2 rfl _ _ w.heap.size zsec rfl (heap_alloc2_old _ _ _)) rfl ⟨rfl, ((Below.refl _ _).alloc (Nat.le_refl _) _).alloc (by simp) _⟩
  · go_enter Tryz.func13, Tryz.ntmps13
    go_wp2_with (first | (with_reducible refine wpList_alloc_sector rfl rfl ?_) | ((with_reducible refine wpList_load_sector rfl _ rfl (w.heap.size + 1) zsec ?_ ?_ ?_); rfl; exact heap_alloc2_new _ _ _) | ((with_reducible refine wpList_store_sector rfl _ _ rfl w.heap.size zsec zsec ?_ ?_ ?_ ?_); rfl; rfl; exact heap_alloc2_old _ _ _))
    exact bodyPost_ret (results_sector2 rfl _ _ w.heap.size zsec rfl (heap_alloc2_old _ _ _)) rfl ⟨rfl, ((Below.refl _ _).alloc (Nat.le_refl _) _).alloc (by simp) _⟩
  · go_enter Tryz.func13, Tryz.ntmps13
    go_wp2_with (first | (with_reducible refine wpList_alloc_sector rfl rfl ?_) | ((with_reducible refine wpList_load_sector rfl _ rfl (w.heap.size + 1) zsec ?_ ?_ ?_); rfl; exact heap_alloc2_new _ _ _) | ((with_reducible refine wpList_store_sector rfl _ _ rfl w.heap.size zsec zsec ?_ ?_ ?_ ?_); rfl; rfl; exact heap_alloc2_old _ _ _))
    exact bodyPost_ret (results_sector2 rfl _ _ w.heap.size zsec rfl (heap_alloc2_old _ _ _)) rfl ⟨rfl, ((Below.refl _ _).alloc (Nat.le_refl _) _).alloc (by simp) _⟩

set_option maxRecDepth 100000 in
set_option maxHeartbeats 1000000 in
theorem refseal_long (p kind : Int) (seq : BitVec 32) (d : ByteArray) (w : World) (h1 : 0 ≤ p) (h2 : p < 256) (h3 : 1 ≤ kind) (h4 : kind ≤ 255) (h5 : 112 < d.size) (h6 : d.size ≤ 9223372036854775807) :
    Calls Tryz.prog 13 #[.int .i64 p, .int .i64 kind, .int .u32 (vu seq), .string d] w fun e w' =>
      e = .returned (.tuple #[.agg (sec zsec), .int .i64 3]) ∧ Below w.heap.size w w' := by
  go_enter Tryz.func13, Tryz.ntmps13
  go_wp2_with (first | (with_reducible refine wpList_alloc_sector rfl rfl ?_) | ((with_reducible refine wpList_load_sector rfl _ rfl (w.heap.size + 1) zsec ?_ ?_ ?_); rfl; exact heap_alloc2_new _ _ _) | ((with_reducible refine wpList_store_sector rfl _ _ rfl w.heap.size zsec zsec ?_ ?_ ?_ ?_); rfl; rfl; exact heap_alloc2_old _ _ _))
  exact bodyPost_ret (results_sector2 rfl _ _ w.heap.size zsec rfl (heap_alloc2_old _ _ _)) rfl ⟨rfl, ((Below.refl _ _).alloc (Nat.le_refl _) _).alloc (by simp) _⟩


/-- a result that is still zero, and a sector that is being made -/
structure SecInv (w wr : World) (s : Sector) : Prop where
  hB : Below w.heap.size w wr
  hr : wr.heap[w.heap.size]? = some (.cells (sec zsec) 53 (0, 0))
  hs : wr.heap[w.heap.size + 1]? = some (.cells (sec s) 53 (0, 0))
theorem SecInv.start (w : World) (s : Sector) : SecInv w ((w.alloc (.cells (sec zsec) 53)).alloc (.cells (sec s) 53)) s :=
  ⟨((Below.refl _ _).alloc (Nat.le_refl _) _).alloc (by simp) _, heap_alloc2_old _ _ _, heap_alloc2_new _ _ _⟩
theorem SecInv.set {w wr : World} {s : Sector} (h : SecInv w wr s) (s' : Sector) : SecInv w (wr.setRow (w.heap.size + 1) (sec s')) s' :=
  ⟨h.hB.trans ⟨rfl, rfl, rfl, by simp, fun k hk => setRow_other wr _ _ _ (by omega)⟩, (setRow_other wr _ _ _ (by omega)).trans h.hr, setRow_heap wr _ _ _ _ _ h.hs⟩
theorem SecInv.setCell {w wr : World} {s : Sector} (h : SecInv w wr s) (i : Nat) (c : UInt8) : SecInv w (wr.setCell ⟨w.heap.size + 1, i, none⟩ (.int .u8 (vb c))) (sput s i c) := by
  rw [setCell_eq_setRow wr _ _ _ _ _ _ h.hs, sec_set]; exact h.set _
theorem str_at (d : ByteArray) (k : Nat) (h : k < d.size) : vb (at8 d.data.toList k) = ((d[k]).toNat : Int) := by
  have : at8 d.data.toList k = d[k] := by
    unfold at8
    simp [h]
    rfl
  rw [this]; rfl
set_option maxRecDepth 100000 in
set_option maxHeartbeats 1000000 in
theorem refseal_ok (p : Nat) (kb lb : UInt8) (seq : BitVec 32) (d : ByteArray) (w : World) (h2 : p < 256) (h3 : 1 ≤ vb kb) (h5 : d.size ≤ 112) (hL : vb lb = d.size) :
    Calls Tryz.prog 13 #[.int .i64 (p : Int), .int .i64 (vb kb), .int .u32 (vu seq), .string d] w fun e w' =>
      e = .returned (.tuple #[.agg (sec (sealOf kb lb d.data.toList seq p)), .int .i64 0]) ∧ Below w.heap.size w w' := by
  have hlb : ∀ (s : Sector) (i : Nat), (sec s).setIfInBounds i (.int .u8 (d.size : Int)) = sec (sput s i lb) := by intro s i; rw [← hL, sec_set]
  have hkb : vb kb ≤ 255 := by have := vb_lt kb; omega
  have d1 : decide ((p : Int) < 0) = false := by simp
  have d2 : decide (256 ≤ (p : Int)) = false := by simp; omega
  have d3 : decide (vb kb < 1) = false := by simp; omega
  have d4 : decide (255 < vb kb) = false := by simp; omega
  have d5 : decide (112 < (d.size : Int)) = false := by simp; omega
  have HL := Lib.hid hL
  clear hL
  go_enter Tryz.func13, Tryz.ntmps13
  go_wp2_with (with_reducible refine wpList_alloc_sector rfl rfl ?_)
  have hinv := SecInv.start w (sput (sput (sput zsec 0 76) 1 kb) 2 lb)
  refine (refnumber_any (w.heap.size + 1) 4 seq _ 53 _ (by omega) hinv.hs).mono ?_
  have hinv1 := hinv.set (putN (sput (sput (sput zsec 0 76) 1 kb) 2 lb) 4 seq)
  rintro e w1 ⟨rfl, hw1⟩
  rw [hw1] at hinv1
  clear hw1 hinv hlb d1 d2 d3 d4 d5
  go_wp2_with fail
  go_loopw [11] (fun i wr => ∃ k : Nat, k ≤ d.size ∧ i = .int .i64 k ∧ SecInv w wr (putL (putN (sput (sput (sput zsec 0 76) 1 kb) 2 lb) 4 seq) 8 (d.data.toList.take k))) (fun i _ => d.size - (intOf i).toNat)
  case atStart => exact ⟨0, Nat.zero_le _, rfl, hinv1⟩
  case round =>
    obtain ⟨k, hk, rfl, hinv⟩ := hrel
    clear hinv1
    by_cases hlt : k < d.size
    · have hc : wr.cell? ⟨w.heap.size + 1, 8 + k, none⟩ = some _ := (cell_of_row wr _ _ _ _ _ hinv.hs).trans (sec_get _ (8 + k) (by omega))
      have hf : wr.frozen? ⟨w.heap.size + 1, 8 + k, none⟩ = false := frozen_of_row wr _ _ _ _ hinv.hs
      have hsc := hinv.setCell (8 + k) (at8 d.data.toList k)
      rw [str_at d k hlt] at hsc
      have hpl : sput (putL (putN (sput (sput (sput zsec 0 76) 1 kb) 2 lb) 4 seq) 8 (d.data.toList.take k)) (8 + k) (at8 d.data.toList k) = putL (putN (sput (sput (sput zsec 0 76) 1 kb) 2 lb) 4 seq) 8 (d.data.toList.take (k + 1)) := by
        rw [take_at _ _ (by simpa using hlt), putL_snoc]
        congr 1
        simp; omega
      rw [hpl] at hsc
      clear hpl hinv
      go_wp2
      go_roundw
      case rel => exact ⟨k + 1, by omega, by go_num, hsc⟩
      case measure => simp [intOf]; omega
    · have hk' : d.data.toList.take k = d.data.toList := List.take_of_length_le (by simp; omega)
      rw [hk'] at hinv
      have hv := vu_ofNat p h2
      have hsl := fun W => run_slice_to_sector (w.heap.size + 1) 124 (by omega) W
      have hc1 := refnumber_any (w.heap.size + 1) 120 (BitVec.ofNat 32 p) _ 53 wr (by omega) hinv.hs
      rw [hv] at hc1
      have hinv1 := hinv.set (putN (putL (putN (sput (sput (sput zsec 0 76) 1 kb) 2 lb) 4 seq) 8 d.data.toList) 120 (BitVec.ofNat 32 p))
      have hsn : putN (putL (putN (sput (sput (sput zsec 0 76) 1 kb) 2 lb) 4 seq) 8 d.data.toList) 120 (BitVec.ofNat 32 p) = sealNum kb lb d.data.toList seq p := by
        unfold sealNum sealBase; rw [show putN (sput (sput (sput zsec 0 76) 1 kb) 2 lb) 4 seq = putK (sput (sput (sput zsec 0 76) 1 kb) 2 lb) 4 seq 4 from rfl, putL_putK _ _ _ _ _ _ (by omega)]; rfl
      rw [hsn] at hc1 hinv1
      have HC1 := Lib.hid hc1
      clear hc1 hv hk' hsn hinv
      go_wp2_with fail
      refine HC1.out.mono ?_
      clear HC1
      rintro e w2 ⟨rfl, hw2⟩
      rw [hw2] at hinv1
      clear hw2
      generalize hsn : sealNum kb lb d.data.toList seq p = sn at hinv1
      have HSN := Lib.hid hsn
      clear hsn
      go_wp2_with fail
      have hc := refcrc_any 128 (some ⟨w.heap.size + 1, 0, none⟩) (sn.toList.take 124) w2 (sec_bytes hinv1.hs 124 (by omega))
      rw [take_len sn 124 (by omega)] at hc
      refine hc.mono ?_
      clear hc
      rintro e w3 ⟨rfl, rfl⟩
      go_wp2_with fail
      refine (refnumber_any (w.heap.size + 1) 124 (crc (sn.toList.take 124)) _ 53 w2 (by omega) hinv1.hs).mono ?_
      rintro e w5 ⟨rfl, hw5⟩
      have hinv2 := hinv1.set (putN sn 124 (crc (sn.toList.take 124)))
      rw [hw5] at hinv2
      clear hw5 hinv1 hsl
      generalize hsf : putN sn 124 (crc (sn.toList.take 124)) = sf at hinv2
      have HSF := Lib.hid hsf
      clear hsf
      have hs5 := hinv2.hs
      have hr5 := hinv2.hr
      have hB5 := hinv2.hB
      clear hinv2
      go_wp2_with (first | ((with_reducible refine wpList_load_sector rfl _ rfl (w.heap.size + 1) sf ?_ hs5 ?_); rfl) | ((with_reducible refine wpList_store_sector rfl _ _ rfl w.heap.size sf zsec ?_ ?_ hr5 ?_); rfl; rfl))
      refine bodyPost_ret (results_sector2 rfl _ _ w.heap.size sf rfl (setRow_heap w5 _ _ _ _ _ hr5)) rfl ⟨?_, ?_⟩
      · rw [← HSF.out, ← HSN.out]; rfl
      · exact hB5.trans ⟨rfl, rfl, rfl, by simp, fun k hk => setRow_other w5 _ _ _ (by omega)⟩
/-- what Seal returns, at any arguments -/
def sealS (p kind : Int) (seq : BitVec 32) (d : ByteArray) : Sector × Int :=
  if p < 0 ∨ 256 ≤ p ∨ kind < 1 ∨ 255 < kind then (zsec, 7) else if 112 < d.size then (zsec, 3)
  else (sealOf (UInt8.ofNat kind.toNat) (UInt8.ofNat d.size) d.data.toList seq p.toNat, 0)
def sealV (x : Sector × Int) : Value := .tuple #[.agg (sec x.1), .int .i64 x.2]
theorem seal_args (p kind : Int) (seq : BitVec 32) (d : ByteArray) (h : ¬ (p < 0 ∨ 256 ≤ p ∨ kind < 1 ∨ 255 < kind)) (hd : ¬ 112 < d.size) :
    ∃ (n : Nat) (kb lb : UInt8), p = (n : Int) ∧ kind = vb kb ∧ n < 256 ∧ 1 ≤ vb kb ∧ vb lb = d.size ∧ sealS p kind seq d = (sealOf kb lb d.data.toList seq n, 0) := by
  refine ⟨p.toNat, UInt8.ofNat kind.toNat, UInt8.ofNat d.size, by omega, ?_, by omega, ?_, ?_, ?_⟩
  · unfold vb; simp; omega
  · unfold vb; simp; omega
  · unfold vb; simp; omega
  · rw [sealS, if_neg h, if_neg hd]
theorem seal_any (p kind : Int) (seq : BitVec 32) (d : ByteArray) (w : World) (hd : d.size ≤ 9223372036854775807) (hh : HalfLaid w) :
    Calls Tryz.prog 92 #[.int .i64 p, .int .i64 kind, .int .u32 (vu seq), .string d] w fun e w' =>
      e = .returned (sealV (sealS p kind seq d)) ∧ Below w.heap.size w w' := by
  by_cases h : p < 0 ∨ 256 ≤ p ∨ kind < 1 ∨ 255 < kind
  · rw [sealS, if_pos h]; exact seal_range p kind seq d w h
  · by_cases hl : 112 < d.size
    · rw [sealS, if_neg h, if_pos hl]; exact seal_long p kind seq d w (by omega) (by omega) (by omega) (by omega) hl hd
    · obtain ⟨n, kb, lb, rfl, rfl, h1, h2, h3, h4⟩ := seal_args p kind seq d h hl
      rw [h4]; exact seal_ok n kb lb seq d w h1 h2 (by omega) h3 hh
theorem refseal_any (p kind : Int) (seq : BitVec 32) (d : ByteArray) (w : World) (hd : d.size ≤ 9223372036854775807) :
    Calls Tryz.prog 13 #[.int .i64 p, .int .i64 kind, .int .u32 (vu seq), .string d] w fun e w' =>
      e = .returned (sealV (sealS p kind seq d)) ∧ Below w.heap.size w w' := by
  by_cases h : p < 0 ∨ 256 ≤ p ∨ kind < 1 ∨ 255 < kind
  · rw [sealS, if_pos h]; exact refseal_range p kind seq d w h
  · by_cases hl : 112 < d.size
    · rw [sealS, if_neg h, if_pos hl]; exact refseal_long p kind seq d w (by omega) (by omega) (by omega) (by omega) hl hd
    · obtain ⟨n, kb, lb, rfl, rfl, h1, h2, h3, h4⟩ := seal_args p kind seq d h hl
      rw [h4]; exact refseal_ok n kb lb seq d w h1 h2 (by omega) h3
end Go.Proofs.YtfbkfdoekgnldaaGreatDoor
