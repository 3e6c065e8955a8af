/- The walk of Seal: the sector of a frame. -/
import Derived.Test.YtfbkfdoekgnldaaGreatDoorNum
import Derived.Test.YtfbkfdoekgnldaaGreatDoorCrcW
import Derived.Test.YtfbkfdoekgnldaaGreatDoorTwo
namespace Go.Proofs.YtfbkfdoekgnldaaGreatDoor
open Go.RowKit
open Lime
theorem sec_set76 (s : Sector) (i : Nat) : (sec s).setIfInBounds i (.int .u8 76) = sec (sput s i 76) := sec_set s i 76
attribute [local go_sem high] q_shr32 q_shl32 q_shr32k q_shl32k q_shr32n q_shl32n g_com32
attribute [local go_sem] g_xor32 g_or32 g_wrap8 vu_nonneg g_same32 g_lo8 setRow_alloc_at setRow_alloc_past setRow_drew sec_set sec_set76 g_same8 sec_get
/-- bytes written at a place -/
def putL (s : Sector) (p : Nat) : List UInt8 → Sector
  | [] => s
  | c :: l => putL (sput s p c) (p + 1) l
theorem sec_putL (l : List UInt8) : ∀ (s : Sector) (p : Nat), p + l.length ≤ 128 →
    sec (putL s p l) = ((sec s).toList.take p ++ l.map (fun c => Value.int .u8 (vb c)) ++ (sec s).toList.drop (p + l.length)).toArray := by
  induction l with
  | nil => intro s p _; simp [putL]
  | cons c l ih =>
    intro s p h
    simp only [List.length_cons] at h
    rw [putL, ih _ _ (by omega), ← sec_set]
    have e := list_seg_step (sec s).toList p (.int .u8 (vb c)) (l.map (fun c => Value.int .u8 (vb c))) (by simp [sec_size]; omega)
    simpa [Array.toList_setIfInBounds, Nat.add_assoc] using e
theorem run_copy_data (w : World) (sb : Nat) (s : Sector) (t : TypeId) (d : ByteArray) (ty : TypeId) (hd : d.size ≤ 112) (hs : w.heap[sb]? = some (.cells (sec s) t (0, 0))) :
    (Builtin.copy_ #[96, 9] ty #[.slice (some ⟨sb, 8, none⟩) 112 112, .string d]).run Tryz.prog w = .ok (goInt d.size) (w.setRow sb (sec (putL s 8 d.data.toList))) := by
  have hlen : d.data.toList.length = d.size := by simp
  have hn : Nat.min d.size 112 = d.size := Nat.min_eq_left hd
  have hst := run_storeCells_at Tryz.prog sb 8 t (d.data.toList.map fun c => Value.int .u8 (vb c)) 0 (sec s) w hs (by rw [sec_size, List.length_map, hlen]; omega) (by
    intro v hv; simp only [List.mem_map] at hv; obtain ⟨c, _, rfl⟩ := hv; rfl)
  rw [sec_putL _ _ _ (by rw [hlen]; omega)]
  simp only [Nat.add_zero, List.length_map] at hst
  have hl : ((d.extract 0 d.size).data.map fun b => Value.int .u8 (b.toNat : Int)).toList = d.data.toList.map fun c => Value.int .u8 (vb c) := by
    have : d.extract 0 d.size = d := by simp
    rw [this, Array.toList_map]; rfl
  simp only [Builtin.copy_, Sem.run_bind, run_underlying Tryz.underlying96, Builtin.lenOf, Builtin.firstCells, byte_size, hn, Sem.run_pure, Result.andThen_ok, List.getElem?_toArray, List.getElem?_cons_zero, List.getElem?_cons_succ, hl, hst]
set_option maxRecDepth 100000 in
set_option maxHeartbeats 1000000 in
theorem seal_range (p kind : Int) (seq : BitVec 32) (d : ByteArray) (w : World) (h : p < 0 ∨ 256 ≤ p ∨ kind < 1 ∨ 255 < kind) :
    Calls Tryz.prog 92 #[.int .i64 p, .int .i64 kind, .int .u32 (vu seq), .string d] w fun e w' =>
      e = .returned (.tuple #[.agg (sec zsec), .int .i64 7]) ∧ Below w.heap.size w w' := by
  have h4 : (p < 0) ∨ (0 ≤ p ∧ 256 ≤ p) ∨ (0 ≤ p ∧ p < 256 ∧ kind < 1) ∨ (0 ≤ p ∧ p < 256 ∧ 1 ≤ kind ∧ 255 < kind) := by omega
  clear h
  rcases h4 with h | ⟨h1, h⟩ | ⟨h1, h2, h⟩ | ⟨h1, h2, h3, h⟩
  · go_enter Tryz.func92, Tryz.ntmps92
    go_wp2_with (first | (with_reducible refine wpList_alloc_sector rfl rfl ?_) | ((with_reducible refine wpList_load_sector rfl _ rfl (w.heap.size + 1) zsec ?_ ?_ ?_); rfl; exact heap_alloc2_new _ _ _) | ((with_reducible refine wpList_store_sector rfl _ _ rfl w.heap.size zsec zsec ?_ ?_ ?_ ?_); rfl; rfl; exact heap_alloc2_old _ _ _))
    exact bodyPost_ret (results_sector2 rfl _ _ w.heap.size zsec rfl (heap_alloc2_old _ _ _)) rfl ⟨rfl, ((Below.refl _ _).alloc (Nat.le_refl _) _).alloc (by simp) _⟩
  · go_enter Tryz.func92, Tryz.ntmps92
    go_wp2_with (first | (with_reducible refine wpList_alloc_sector rfl rfl ?_) | ((with_reducible refine wpList_load_sector rfl _ rfl (w.heap.size + 1) zsec ?_ ?_ ?_); rfl; exact heap_alloc2_new _ _ _) | ((with_reducible refine wpList_store_sector rfl _ _ rfl w.heap.size zsec zsec ?_ ?_ ?_ ?_); rfl; rfl; exact heap_alloc2_old _ _ _))
    exact bodyPost_ret (results_sector2 rfl _ _ w.heap.size zsec rfl (heap_alloc2_old _ _ _)) rfl ⟨rfl, ((Below.refl _ _).alloc (Nat.le_refl _) _).alloc (by simp) _⟩
  · go_enter Tryz.func92, Tryz.ntmps92
    go_wp2_with (first | (with_reducible refine wpList_alloc_sector rfl rfl ?_) | ((with_reducible refine wpList_load_sector rfl _ rfl (w.heap.size + 1) zsec ?_ ?_ ?_); rfl; exact heap_alloc2_new _ _ _) | ((with_reducible refine wpList_store_sector rfl _ _ rfl w.heap.size zsec zsec ?_ ?_ ?_ ?_); rfl; rfl; exact heap_alloc2_old _ _ _))
    exact bodyPost_ret (results_sector2 rfl _ _ w.heap.size zsec rfl (heap_alloc2_old _ _ _)) rfl ⟨rfl, ((Below.refl _ _).alloc (Nat.le_refl _) _).alloc (by simp) _⟩
  · go_enter Tryz.func92, Tryz.ntmps92
    go_wp2_with (first | (with_reducible refine wpList_alloc_sector rfl rfl ?_) | ((with_reducible refine wpList_load_sector rfl _ rfl (w.heap.size + 1) zsec ?_ ?_ ?_); rfl; exact heap_alloc2_new _ _ _) | ((with_reducible refine wpList_store_sector rfl _ _ rfl w.heap.size zsec zsec ?_ ?_ ?_ ?_); rfl; rfl; exact heap_alloc2_old _ _ _))
    exact bodyPost_ret (results_sector2 rfl _ _ w.heap.size zsec rfl (heap_alloc2_old _ _ _)) rfl ⟨rfl, ((Below.refl _ _).alloc (Nat.le_refl _) _).alloc (by simp) _⟩

set_option maxRecDepth 100000 in
set_option maxHeartbeats 1000000 in
theorem seal_long (p kind : Int) (seq : BitVec 32) (d : ByteArray) (w : World) (h1 : 0 ≤ p) (h2 : p < 256) (h3 : 1 ≤ kind) (h4 : kind ≤ 255) (h5 : 112 < d.size) (h6 : d.size ≤ 9223372036854775807) :
    Calls Tryz.prog 92 #[.int .i64 p, .int .i64 kind, .int .u32 (vu seq), .string d] w fun e w' =>
      e = .returned (.tuple #[.agg (sec zsec), .int .i64 3]) ∧ Below w.heap.size w w' := by
  go_enter Tryz.func92, Tryz.ntmps92
  go_wp2_with (first | (with_reducible refine wpList_alloc_sector rfl rfl ?_) | ((with_reducible refine wpList_load_sector rfl _ rfl (w.heap.size + 1) zsec ?_ ?_ ?_); rfl; exact heap_alloc2_new _ _ _) | ((with_reducible refine wpList_store_sector rfl _ _ rfl w.heap.size zsec zsec ?_ ?_ ?_ ?_); rfl; rfl; exact heap_alloc2_old _ _ _))
  exact bodyPost_ret (results_sector2 rfl _ _ w.heap.size zsec rfl (heap_alloc2_old _ _ _)) rfl ⟨rfl, ((Below.refl _ _).alloc (Nat.le_refl _) _).alloc (by simp) _⟩

/-- the sector of a frame before its numbers are written -/
def sealBase (kb lb : UInt8) (l : List UInt8) : Sector := putL (sput (sput (sput zsec 0 76) 1 kb) 2 lb) 8 l
def sealNum (kb lb : UInt8) (l : List UInt8) (seq : BitVec 32) (p : Nat) : Sector := putN (putN (sealBase kb lb l) 4 seq) 120 (BitVec.ofNat 32 p)
def sealOf (kb lb : UInt8) (l : List UInt8) (seq : BitVec 32) (p : Nat) : Sector :=
  putN (sealNum kb lb l seq p) 124 (crc ((sealNum kb lb l seq p).toList.take 124))
theorem vu_ofNat (p : Nat) (h : p < 256) : vu (BitVec.ofNat 32 p) = (p : Int) := by
  unfold vu; rw [BitVec.toNat_ofNat, Nat.mod_eq_of_lt (by omega)]
theorem sput_comm (s : Sector) (i j : Nat) (c d : UInt8) (h : i ≠ j) : sput (sput s i c) j d = sput (sput s j d) i c := by
  apply Vector.toArray_inj.1
  simp only [sput, Vector.toArray_setIfInBounds]
  exact Array.setIfInBounds_comm _ _ h
theorem putK_sput (s : Sector) (p : Nat) (n : BitVec 32) (j : Nat) (c : UInt8) (k : Nat) (h : j < p ∨ p + k ≤ j) : putK (sput s j c) p n k = sput (putK s p n k) j c := by
  induction k with
  | zero => rfl
  | succ k ih => rw [putK, putK, ih (by omega), sput_comm _ _ _ _ _ (by omega)]
theorem putK_comm (s : Sector) (p q : Nat) (m n : BitVec 32) (j k : Nat) (h : p + j ≤ q ∨ q + k ≤ p) : putK (putK s p m j) q n k = putK (putK s q n k) p m j := by
  induction j with
  | zero => rfl
  | succ j ih => rw [putK, putK_sput _ _ _ _ _ _ (by omega), ih (by omega)]; rfl
theorem putN_comm (s : Sector) (p q : Nat) (m n : BitVec 32) (h : p + 4 ≤ q ∨ q + 4 ≤ p) : putN (putN s p m) q n = putN (putN s q n) p m := putK_comm s p q m n 4 4 h
/-- between two rounds over the map -/
structure SealInv (w wr : World) (seq : BitVec 32) (p : Nat) (seen : Array Nat) (s : Sector) : Prop where
  hB : Below w.heap.size w wr
  hr : wr.heap[w.heap.size]? = some (.cells (sec zsec) 53 (0, 0))
  hs : wr.heap[w.heap.size + 1]? = some (.cells (sec s) 53 (0, 0))
  hm : wr.heap[w.heap.size + 1 + 1]? = some (.map #[⟨.int .i64 4, .int .u32 (vu seq), 0⟩, ⟨.int .i64 120, .int .u32 (p : Int), 1⟩] 2)
  hi : wr.heap[w.heap.size + 1 + 1 + 1]? = some (.mapIter (some (w.heap.size + 1 + 1)) 2 seen 2)
theorem SealInv.next {w wr : World} {seq : BitVec 32} {p : Nat} {seen : Array Nat} {s : Sector} (h : SealInv w wr seq p seen s) (seen' : Array Nat) :
    SealInv w (putO wr (w.heap.size + 1 + 1 + 1) (.mapIter (some (w.heap.size + 1 + 1)) 2 seen' 2)) seq p seen' s := by
  have hlt : w.heap.size + 1 + 1 + 1 < wr.heap.size := (Array.getElem?_eq_some_iff.1 h.hi).1
  exact ⟨putO_below h.hB (by omega) _, by rw [putO_other _ _ _ _ (by omega)]; exact h.hr, by rw [putO_other _ _ _ _ (by omega)]; exact h.hs,
    by rw [putO_other _ _ _ _ (by omega)]; exact h.hm, putO_same _ _ _ hlt⟩
theorem SealInv.drew {w wr : World} {seq : BitVec 32} {p : Nat} {seen : Array Nat} {s : Sector} (h : SealInv w wr seq p seen s) : SealInv w wr.drew seq p seen s :=
  ⟨h.hB.drew, h.hr, h.hs, h.hm, h.hi⟩
theorem SealInv.write {w wr : World} {seq : BitVec 32} {p : Nat} {seen : Array Nat} {s : Sector} (h : SealInv w wr seq p seen s) (o : Obj) (s' : Sector) (m : Nat) :
    SealInv w (((wr.alloc o).setRow (w.heap.size + 1) (sec s')).drewN m) seq p seen s' := by
  have hlt : w.heap.size + 1 + 1 + 1 < wr.heap.size := (Array.getElem?_eq_some_iff.1 h.hi).1
  have ho : ∀ k, k ≠ w.heap.size + 1 → k < wr.heap.size → (((wr.alloc o).setRow (w.heap.size + 1) (sec s')).drewN m).heap[k]? = wr.heap[k]? := fun k hk hl =>
    (setRow_other _ _ _ _ hk).trans (Below.heap_alloc _ _ _ hl)
  refine ⟨h.hB.trans ⟨rfl, rfl, rfl, by show wr.heap.size ≤ ((wr.alloc o).setRow (w.heap.size + 1) (sec s')).heap.size; simp, fun k hk => ho k (by omega) (by omega)⟩, ?_, ?_, ?_, ?_⟩
  · rw [ho _ (by omega) (by omega)]; exact h.hr
  · exact setRow_heap _ _ _ _ _ _ ((Below.heap_alloc _ _ _ (by omega)).trans h.hs)
  · rw [ho _ (by omega) (by omega)]; exact h.hm
  · rw [ho _ (by omega) (by omega)]; exact h.hi
/-- what has been written when these entries have been seen -/
def SealSt (s0 : Sector) (seq : BitVec 32) (p : Nat) (seen : Array Nat) (s : Sector) : Prop :=
  (seen = #[] ∧ s = s0) ∨ (seen = #[0] ∧ s = putN s0 4 seq) ∨ (seen = #[1] ∧ s = putN s0 120 (BitVec.ofNat 32 p)) ∨
  ((seen = #[0, 1] ∨ seen = #[1, 0]) ∧ s = putN (putN s0 4 seq) 120 (BitVec.ofNat 32 p))
def leftIn (wr : World) (ib : Nat) : Nat := match wr.heap[ib]? with | some (.mapIter _ _ seen _) => 2 - seen.size | _ => 0
theorem SealInv.left {w wr : World} {seq : BitVec 32} {p : Nat} {seen : Array Nat} {s : Sector} (h : SealInv w wr seq p seen s) : leftIn wr (w.heap.size + 1 + 1 + 1) = 2 - seen.size := by
  unfold leftIn; rw [h.hi]
/-- a step of the range over the map: it is over, or one more number is to be written -/
theorem seal_next {w wr : World} {seq : BitVec 32} {p : Nat} {seen : Array Nat} {s s0 : Sector} (hp : p < 256) (h : SealInv w wr seq p seen s) (hst : SealSt s0 seq p seen s) :
    ((Instr.next (.pointer (some ⟨w.heap.size + 1 + 1 + 1, 0, none⟩)) false 0).run Tryz.prog wr = .ok (.tuple #[.bool false]) wr ∧ s = putN (putN s0 4 seq) 120 (BitVec.ofNat 32 p)) ∨
    ∃ (q : Nat) (n : BitVec 32) (w1 : World) (seen' : Array Nat), q + 4 ≤ 128 ∧
      (Instr.next (.pointer (some ⟨w.heap.size + 1 + 1 + 1, 0, none⟩)) false 0).run Tryz.prog wr = .ok (.tuple #[.bool true, .int .i64 (q : Int), .int .u32 (vu n)]) w1 ∧
      (Instr.entry (.pointer (some ⟨w.heap.size + 1 + 1 + 1, 0, none⟩))).run Tryz.prog w1 = .ok (.tuple #[.int .i64 (q : Int), .int .u32 (vu n)]) w1 ∧
      SealInv w w1 seq p seen' s ∧ SealSt s0 seq p seen' (putN s q n) ∧ 2 - seen'.size < 2 - seen.size := by
  have hv := vu_ofNat p hp
  rcases hst with ⟨rfl, rfl⟩ | ⟨rfl, rfl⟩ | ⟨rfl, rfl⟩ | ⟨hseen, rfl⟩
  · rcases run_next_first (P := Tryz.prog) wr _ _ _ _ rfl rfl h.hm h.hi 0 with hn | hn
    · have h1 := h.drew.next #[0]
      have he := run_entry_at (P := Tryz.prog) _ _ _ _ _ ⟨.int .i64 4, .int .u32 (vu seq), 0⟩ h1.hm #[0] 0 rfl rfl h1.hi
      exact .inr ⟨4, seq, _, #[0], by omega, hn, he, h1, .inr (.inl ⟨rfl, rfl⟩), by simp⟩
    · have h1 := h.drew.next #[1]
      have he := run_entry_at (P := Tryz.prog) _ _ _ _ _ ⟨.int .i64 120, .int .u32 (p : Int), 1⟩ h1.hm #[1] 1 rfl rfl h1.hi
      exact .inr ⟨120, BitVec.ofNat 32 p, _, #[1], by omega, by rw [hv]; exact hn, by rw [hv]; exact he, h1, .inr (.inr (.inl ⟨rfl, rfl⟩)), by simp⟩
  · have hn := run_next_second (P := Tryz.prog) wr _ _ _ _ rfl rfl h.hm h.hi 0
    have h1 := h.next #[0, 1]
    have he := run_entry_at (P := Tryz.prog) _ _ _ _ _ ⟨.int .i64 120, .int .u32 (p : Int), 1⟩ h1.hm #[0, 1] 1 rfl rfl h1.hi
    exact .inr ⟨120, BitVec.ofNat 32 p, _, #[0, 1], by omega, by rw [hv]; exact hn, by rw [hv]; exact he, h1, .inr (.inr (.inr ⟨.inl rfl, rfl⟩)), by simp⟩
  · have hn := run_next_second' (P := Tryz.prog) wr _ _ _ _ rfl rfl h.hm h.hi 0
    have h1 := h.next #[1, 0]
    have he := run_entry_at (P := Tryz.prog) _ _ _ _ _ ⟨.int .i64 4, .int .u32 (vu seq), 0⟩ h1.hm #[1, 0] 0 rfl rfl h1.hi
    exact .inr ⟨4, seq, _, #[1, 0], by omega, hn, he, h1, .inr (.inr (.inr ⟨.inr rfl, putN_comm _ _ _ _ _ (by omega)⟩)), by simp⟩
  · exact .inl ⟨run_next_over (P := Tryz.prog) wr _ _ _ _ rfl rfl h.hm _ hseen h.hi 0, rfl⟩
set_option maxRecDepth 100000 in
set_option maxHeartbeats 1000000 in
theorem seal_ok (p : Nat) (kb lb : UInt8) (seq : BitVec 32) (d : ByteArray) (w : World) (h2 : p < 256) (h3 : 1 ≤ vb kb) (h5 : d.size ≤ 112) (hL : vb lb = d.size) (hh : HalfLaid w) :
    Calls Tryz.prog 92 #[.int .i64 (p : Int), .int .i64 (vb kb), .int .u32 (vu seq), .string d] w fun e w' =>
      e = .returned (.tuple #[.agg (sec (sealOf kb lb d.data.toList seq p)), .int .i64 0]) ∧ Below w.heap.size w w' := by
  have hlb : ∀ (s : Sector) (i : Nat), (sec s).setIfInBounds i (.int .u8 (d.size : Int)) = sec (sput s i lb) := by intro s i; rw [← hL, sec_set]
  have hkb : vb kb ≤ 255 := by have := vb_lt kb; omega
  have hcp := fun ty => run_copy_data ((w.alloc (.cells (sec zsec) 53)).alloc (.cells (sec (sput (sput (sput zsec 0 76) 1 kb) 2 lb)) 53)) (w.heap.size + 1) _ _ d ty h5 (heap_alloc2_new _ _ _)
  have hsl := fun W => run_slice3_sector (w.heap.size + 1) 8 120 (by omega) (by omega) W
  have hmm := @run_makeMap Tryz.prog
  have d1 : decide ((p : Int) < 0) = false := by simp
  have d2 : decide (256 ≤ (p : Int)) = false := by simp; omega
  have d3 : decide (vb kb < 1) = false := by simp; omega
  have d4 : decide (255 < vb kb) = false := by simp; omega
  have d5 : decide (112 < (d.size : Int)) = false := by simp; omega
  have hi1 : ∀ (w : World) (n : Nat) (v : Value), n = w.heap.size → (Instr.mapUpdate 146 (.map (some n)) (.int .i64 4) v).run Tryz.prog (w.alloc (.map #[] 0)) = .ok () (w.alloc (.map #[⟨.int .i64 4, v, 0⟩] 1)) := by
    rintro w n v rfl; exact run_insert_first (P := Tryz.prog) Tryz.underlying146 Tryz.underlying3 w 4 v
  have hi2 : ∀ (w : World) (n : Nat) (u v : Value), n = w.heap.size → (Instr.mapUpdate 146 (.map (some n)) (.int .i64 120) v).run Tryz.prog (w.alloc (.map #[⟨.int .i64 4, u, 0⟩] 1)) = .ok () (w.alloc (.map #[⟨.int .i64 4, u, 0⟩, ⟨.int .i64 120, v, 1⟩] 2)) := by
    rintro w n u v rfl; exact run_insert_second (P := Tryz.prog) Tryz.underlying146 Tryz.underlying3 w 4 120 u v (by decide)
  have hr : ∀ (w : World) (n : Nat) (es : Array MapEntry), n = w.heap.size → (Instr.range 146 (.map (some n))).run Tryz.prog (w.alloc (.map es 2)) = .ok (.pointer (some ⟨(w.alloc (.map es 2)).heap.size, 0, none⟩)) ((w.alloc (.map es 2)).alloc (.mapIter (some n) 2 #[] 2)) := by
    rintro w n es rfl; exact run_range_two (P := Tryz.prog) Tryz.underlying146 (w.alloc (.map es 2)) w.heap.size 2 es (heap_alloc_new _ _)
  have HL := Lib.hid hL
  clear hL
  go_enter Tryz.func92, Tryz.ntmps92
  go_wp2_with (with_reducible refine wpList_alloc_sector rfl rfl ?_)
  go_loopw [] (fun wr => ∃ seen s, SealInv w wr seq p seen s ∧ SealSt (sealBase kb lb d.data.toList) seq p seen s) (fun wr => leftIn wr (w.heap.size + 1 + 1 + 1))
  case atStart =>
    refine ⟨#[], _, ⟨?_, ?_, ?_, ?_, ?_⟩, .inl ⟨rfl, rfl⟩⟩
    · exact ((((Below.refl _ _).alloc (Nat.le_refl _) _).alloc (by simp) _).alloc (by simp; omega) _).alloc (by simp; omega) _
    · rw [Below.heap_alloc _ _ _ (by simp; omega), Below.heap_alloc _ _ _ (by simp; omega), Below.heap_alloc _ _ _ (by simp)]; exact heap_alloc_new _ _
    · rw [Below.heap_alloc _ _ _ (by simp), Below.heap_alloc _ _ _ (by simp)]; exact heap_alloc2_new _ _ _
    · rw [Below.heap_alloc _ _ _ (by simp)]; exact heap_alloc_eq _ _ _ (by simp)
    · exact heap_alloc_eq _ _ _ (by simp)
  case round =>
    obtain ⟨seen, s, hinv, hst⟩ := hrel
    clear hcp hsl hmm d1 d2 d3 d4 d5 hi1 hi2 hr hlb
    rcases seal_next h2 hinv hst with ⟨hn, rfl⟩ | ⟨q, n, w1, seen', hq, hn, he, hinv1, hst1, hlt⟩
    · have hs1 := hinv.hs
      have hr1 := hinv.hr
      have hB1 := hinv.hB
      have hsz : w.heap.size + 1 + 1 + 1 < wr.heap.size := (Array.getElem?_eq_some_iff.1 hinv.hi).1
      have hsl := fun W => run_slice_to_sector (w.heap.size + 1) 124 (by omega) W
      clear hinv hst
      generalize hsn : putN (putN (sealBase kb lb d.data.toList) 4 seq) 120 (BitVec.ofNat 32 p) = sn at hs1
      have HSN := Lib.hid hsn
      clear hsn
      go_wp2_with fail
      refine (number_any (w.heap.size + 1) 124 wr (by omega)).mono ?_
      rintro e w2 ⟨rfl, rfl⟩
      go_wp2_with fail
      have hB2 : Below wr.heap.size wr (wr.alloc (.cells #[.slice (some ⟨w.heap.size + 1, 124, none⟩) 4 4] 96)) := (Below.refl _ _).alloc (Nat.le_refl _) _
      have hs2 := (hB2.block (w.heap.size + 1) (by omega)).trans hs1
      have hl2 : (wr.alloc (.cells #[.slice (some ⟨w.heap.size + 1, 124, none⟩) 4 4] 96)).cell? ⟨wr.heap.size, 0, none⟩ = some (.slice (some ⟨w.heap.size + 1, 124, none⟩) 4 4) := by go_simp
      have hc := crc_any 128 (some ⟨w.heap.size + 1, 0, none⟩) (sn.toList.take 124) _ (sec_bytes hs2 124 (by omega)) ((hh.below hB1).below hB2)
      rw [take_len sn 124 (by omega)] at hc
      refine hc.mono ?_
      clear hc
      rintro e w3 ⟨rfl, hB3⟩
      have hs3 := (hB3.block (w.heap.size + 1) (by simp; omega)).trans hs2
      have hl3 := (hB3.cell (p := ⟨wr.heap.size, 0, none⟩) (by simp)).trans hl2
      have hr3 := (hB3.block w.heap.size (by simp; omega)).trans ((hB2.block w.heap.size (by omega)).trans hr1)
      have hB4 : Below w.heap.size w w3 := (hB1.trans (hB2.mono (by omega))).trans (hB3.mono (by simp; omega))
      have hsz3 : w.heap.size + 1 + 1 + 1 < w3.heap.size := by have := hB3.size; simp at this; omega
      clear hB3 hB2 hs2 hl2 hB1 hs1 hr1 hn hsl
      go_wp2_with fail
      refine (numwrite_any wr.heap.size (w.heap.size + 1) 124 _ sn 53 w3 (by omega) (by omega) hl3 hs3).mono ?_
      rintro e w5 ⟨rfl, m, hw5⟩
      have hs5 : w5.heap[w.heap.size + 1]? = some (.cells (sec (putN sn 124 (crc (sn.toList.take 124)))) 53 (0, 0)) := by
        rw [← hw5]; exact setRow_heap w3 _ _ _ _ _ hs3
      have hr5 : w5.heap[w.heap.size]? = some (.cells (sec zsec) 53 (0, 0)) := by
        rw [← hw5]; exact (setRow_other w3 _ _ _ (by omega)).trans hr3
      have hB5 : Below w.heap.size w w5 := by
        rw [← hw5]; exact hB4.trans ⟨rfl, rfl, rfl, by show w3.heap.size ≤ (w3.setRow _ _).heap.size; simp, fun k hk => setRow_other w3 _ _ _ (by omega)⟩
      clear hw5 hs3 hl3 hr3 hB4 hsz3
      generalize hsf : putN sn 124 (crc (sn.toList.take 124)) = sf at hs5
      have HSF := Lib.hid hsf
      clear hsf
      go_wp2_with (first | ((with_reducible refine wpList_load_sector rfl _ rfl (w.heap.size + 1) sf ?_ hs5 ?_); rfl) | ((with_reducible refine wpList_store_sector rfl _ _ rfl w.heap.size sf zsec ?_ ?_ hr5 ?_); rfl; rfl))
      refine bodyPost_ret (results_sector2 rfl _ _ w.heap.size sf rfl (setRow_heap w5 _ _ _ _ _ hr5)) rfl ⟨?_, ?_⟩
      · rw [← HSF.out, ← HSN.out]; rfl
      · exact hB5.trans ⟨rfl, rfl, rfl, by simp, fun k hk => setRow_other w5 _ _ _ (by omega)⟩
    · have HL1 := Lib.hid hinv.left
      have HL2 := Lib.hid hlt
      have hs1 := hinv1.hs
      have hsz : w.heap.size + 1 + 1 + 1 < w1.heap.size := (Array.getElem?_eq_some_iff.1 hinv1.hi).1
      clear hlt hinv hst
      go_wp2_with fail
      refine (number_any (w.heap.size + 1) q w1 hq).mono ?_
      rintro e w2 ⟨rfl, rfl⟩
      go_wp2_with fail
      refine (numwrite_any w1.heap.size (w.heap.size + 1) q n s 53 _ hq (by omega) ?_ ?_).mono ?_
      · go_simp
      · rw [Below.heap_alloc _ _ _ (by omega)]; exact hs1
      rintro e w3 ⟨rfl, m, hw3⟩
      have hinv3 := hinv1.write (.cells #[.slice (some ⟨w.heap.size + 1, q, none⟩) 4 4] 96) (putN s q n) m
      rw [hw3] at hinv3
      have HL3 := Lib.hid hinv3.left
      clear hw3 hinv1 hs1 hsz hn he
      go_wp2
      go_roundw
      case rel => exact ⟨seen', _, hinv3, hst1⟩
      case measure => rw [HL3.out, HL1.out]; exact HL2.out
end Go.Proofs.YtfbkfdoekgnldaaGreatDoor
