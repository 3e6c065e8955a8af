/- Sectors: 128 bytes in a row of cells; what the walk's operations do to them. -/
import Derived.Test.YtfbkfdoekgnldaaGreatDoorBase
import Derived.Stop.BytesEq
namespace Go.Proofs.YtfbkfdoekgnldaaGreatDoor
open Go.RowKit
open Lime
abbrev Sector := Vector UInt8 128
def sec (s : Sector) : Array Value := s.toArray.map fun c => .int .u8 (vb c)
def sat (s : Sector) (i : Nat) : UInt8 := s.toList.getD i 0
def sput (s : Sector) (i : Nat) (c : UInt8) : Sector := s.setIfInBounds i c
def zsec : Sector := Vector.replicate 128 0
theorem sec_size (s : Sector) : (sec s).size = 128 := by simp [sec]
theorem sec_get (s : Sector) (i : Nat) (h : i < 128) : (sec s)[i]? = some (.int .u8 (vb (sat s i))) := by
  simp [sec, sat, h]
theorem sec_set (s : Sector) (i : Nat) (c : UInt8) : (sec s).setIfInBounds i (.int .u8 (vb c)) = sec (sput s i c) := by
  simp [sec, sput, Array.map_setIfInBounds]
theorem sec_one (s : Sector) : ∀ v ∈ sec s, v.oneCell' = true := by
  intro v hv
  simp only [sec, Array.mem_map] at hv
  obtain ⟨c, _, rfl⟩ := hv
  rfl
theorem sat_put (s : Sector) (i j : Nat) (c : UInt8) (h : i < 128) : sat (sput s i c) j = if j = i then c else sat s j := by
  unfold sat sput
  simp only [List.getD_eq_getElem?_getD, Vector.toList_setIfInBounds, List.getElem?_set]
  split
  · rename_i e; subst e; simp [h]
  · rename_i e; rw [if_neg (fun h => e h.symm)]
theorem sec_inj {s t : Sector} : sec s = sec t ↔ s = t := by
  constructor
  · intro h
    apply Vector.toArray_inj.1
    unfold sec at h
    have hinj : ∀ a b : UInt8, Value.int .u8 (vb a) = .int .u8 (vb b) → a = b := by
      intro a b hab; simp at hab; exact vb_inj.1 hab
    exact (Array.map_inj_right hinj).1 h
  · rintro rfl; rfl
theorem sat_ext {s t : Sector} (h : ∀ i, i < 128 → sat s i = sat t i) : s = t := by
  apply Vector.ext
  intro i hi
  have := h i hi
  simpa [sat, hi] using this
theorem sat_zero (i : Nat) : sat zsec i = 0 := by
  unfold sat zsec
  simp only [List.getD_eq_getElem?_getD, Vector.toList_replicate, List.getElem?_replicate]
  split <;> rfl
/-! ### rows that are set, in a world that is written out -/
theorem setRow_alloc_at (w : World) (c : Array Value) (t : TypeId) (n : Nat) (x : Array Value) (hn : n = w.heap.size) :
    (w.alloc (.cells c t)).setRow n x = w.alloc (.cells x t) := by
  subst hn
  simp only [World.setRow, World.alloc]
  congr 1
  apply Array.ext_getElem?
  intro i
  simp [Array.getElem?_modify, Array.getElem?_push]
  by_cases h : w.heap.size = i
  · subst h; simp
  · have h' : ¬ i = w.heap.size := fun e => h e.symm
    simp [h, h']
theorem setRow_alloc_past (w : World) (o : Obj) (n : Nat) (x : Array Value) (hn : n < w.heap.size) :
    (w.alloc o).setRow n x = (w.setRow n x).alloc o := by
  simp only [World.setRow, World.alloc]
  congr 1
  apply Array.ext_getElem?
  intro i
  simp [Array.getElem?_modify, Array.getElem?_push]
  by_cases h : i = w.heap.size
  · subst h; simp; omega
  · simp [h]
theorem heap_alloc_eq (w : World) (o : Obj) (k : Nat) (h : k = w.heap.size) : (w.alloc o).heap[k]? = some o := by subst h; exact heap_alloc_new w o
theorem take_len (s : Sector) (k : Nat) (hk : k ≤ 128) : (s.toList.take k).length = k := by simp; omega
theorem sec_bytes {w : World} {sb : Nat} {s : Sector} {t : TypeId} (h : w.heap[sb]? = some (.cells (sec s) t (0, 0))) (k : Nat) (hk : k ≤ 128) : BytesAt w (some ⟨sb, 0, none⟩) (s.toList.take k) := by
  have hlen : (s.toList.take k).length = k := by simp; omega
  refine ⟨by rw [hlen]; omega, .inr ⟨sb, 0, rfl, fun i hi => ?_⟩⟩
  rw [hlen] at hi
  rw [cell_of_row w sb _ _ _ _ h, Nat.zero_add, sec_get s i (by omega)]
  have : at8 (s.toList.take k) i = sat s i := by
    unfold at8 sat
    simp [hi]
  rw [this]
theorem heap_setRow_same (w : World) (g : Nat) (cs x : Array Value) (t : TypeId) (h : w.heap[g]? = some (.cells cs t (0, 0))) : (w.setRow g x).heap[g]? = some (.cells x t (0, 0)) := setRow_heap w g cs x t _ h
theorem setRow_drew (w : World) (n : Nat) (x : Array Value) : w.drew.setRow n x = (w.setRow n x).drew := rfl

/-! ### the operations on whole sectors -/
theorem byte_size (w : World) : (sizeOf 5).run Tryz.prog w = .ok 1 w := by kernel_rfl
theorem run_bound (i y : Nat) (c : BoundsCode) (h : i ≤ y) (w : World) : (Instr.sliceBound (.int .i64 (i : Int)) y c).run Tryz.prog w = .ok i w := by
  have h' : (0 : Int) ≤ i ∧ (i : Int) ≤ y := by omega
  simp [Instr.sliceBound, asIntOf, h']
/-- 's[lo:hi:hi]' -/
theorem run_slice3_sector (sb lo hi : Nat) (h1 : lo < hi) (h2 : hi ≤ 128) (w : World) :
    (Instr.sliceAt 53 (.pointer (some ⟨sb, 0, none⟩)) (some (.int .i64 (lo : Int))) (some (.int .i64 (hi : Int))) (some (.int .i64 (hi : Int)))).run Tryz.prog w =
      .ok (.slice (some ⟨sb, lo, none⟩) (hi - lo) (hi - lo)) w := by
  have hne : ¬ hi = lo := by omega
  simp only [Instr.sliceAt, Sem.run_bind, run_underlying Tryz.underlying53, Result.andThen_ok, Instr.sureAddr, Instr.sliceBounds, run_bound hi 128 _ h2, run_bound hi hi _ (Nat.le_refl _),
    run_bound lo hi _ (Nat.le_of_lt h1), Sem.run_pure, byte_size, if_neg hne, Nat.mul_one, Addr.add_lit, Nat.zero_add]
/-- 's[:hi]' -/
theorem run_slice_to_sector (sb hi : Nat) (h2 : hi ≤ 128) (w : World) :
    (Instr.sliceAt 53 (.pointer (some ⟨sb, 0, none⟩)) none (some (.int .i64 (hi : Int))) none).run Tryz.prog w =
      .ok (.slice (some ⟨sb, 0, none⟩) hi 128) w := by
  simp only [Instr.sliceAt, Sem.run_bind, run_underlying Tryz.underlying53, Result.andThen_ok, Instr.sureAddr, Instr.sliceBounds, run_bound hi 128 _ h2,
    Sem.run_pure, byte_size, Nat.zero_mul, Addr.add_lit, Nat.zero_add]
  rfl
/-- 's[lo:hi]' -/
theorem run_slice2_sector (sb lo hi : Nat) (h1 : lo ≤ hi) (h2 : hi ≤ 128) (h3 : lo < 128) (w : World) :
    (Instr.sliceAt 53 (.pointer (some ⟨sb, 0, none⟩)) (some (.int .i64 (lo : Int))) (some (.int .i64 (hi : Int))) none).run Tryz.prog w =
      .ok (.slice (some ⟨sb, lo, none⟩) (hi - lo) (128 - lo)) w := by
  have hne : ¬ 128 = lo := by omega
  simp only [Instr.sliceAt, Sem.run_bind, run_underlying Tryz.underlying53, Result.andThen_ok, Instr.sureAddr, Instr.sliceBounds, run_bound hi 128 _ h2,
    run_bound lo hi _ h1, Sem.run_pure, byte_size, if_neg hne, Nat.mul_one, Addr.add_lit, Nat.zero_add]

theorem sector_info : (Tryz.prog.info? 53).map (fun i => (i.zero, i.size)) = some (some (.agg (sec zsec)), 128) := by kernel_rfl
theorem sector_size : (Tryz.prog.info? 53).map (·.size) = some 128 := by kernel_rfl
theorem run_alloc_sector (w : World) (v : Value) : (Instr.alloc 53 true v).run Tryz.prog w = .ok (.pointer (some ⟨w.heap.size, 0, none⟩)) (w.alloc (.cells (sec zsec) 53)) := by
  have hz : (zeroValue 53).run Tryz.prog w = .ok (.agg (sec zsec)) w := by
    have h := sector_info
    cases hq : Tryz.prog.info? 53 with
    | none => simp [hq] at h
    | some i =>
      simp only [hq, Option.map_some, Option.some.injEq, Prod.mk.injEq] at h
      simp [zeroValue, typeInfo, hq, h.1]
  simp [Instr.alloc, Sem.run_bind, hz, newVar, newRow, Value.cells]
theorem run_box_sector (w : World) (s : Sector) : (Instr.box 53 (.agg (sec s))).run Tryz.prog w = .ok (.pointer (some ⟨w.heap.size, 0, none⟩)) (w.alloc (.cells (sec s) 53)) := by
  simp [Instr.box, newVar, newRow, Value.cells]
theorem wpList_alloc_sector {ops : Array Oper} {rest : List Oper} {o : Oper} {a : Act} {w : World} {Q : Exit → Act → World → Prop} (hgd : o.guard = none) (ho : o.op = .alloc 53)
    (h : wpList Tryz.prog ops Q rest (a.put o.dst (.pointer (some ⟨w.heap.size, 0, none⟩))) (w.alloc (.cells (sec zsec) 53))) : wpList Tryz.prog ops Q (o :: rest) a w :=
  wpList_plain hgd fun _ hK => by
    unfold Oper.wp execOp
    simp only [ho, Sem.run_bind, run_alloc_sector, Result.andThen_ok, Sem.run_pure]
    exact hK _ _ h
theorem wpList_load_sector {ops : Array Oper} {rest : List Oper} {o : Oper} {a : Act} {w : World} {Q : Exit → Act → World → Prop} (hgd : o.guard = none) (x : Operand) (ho : o.op = .load 53 x)
    (g : Nat) (s : Sector) (hx : a.eval x = .pointer (some ⟨g, 0, none⟩)) (hg : w.heap[g]? = some (.cells (sec s) 53 (0, 0)))
    (h : wpList Tryz.prog ops Q rest (a.put o.dst (.agg (sec s))) w) : wpList Tryz.prog ops Q (o :: rest) a w :=
  wpList_load_row hgd _ x ho g hx _ _ _ _ hg Tryz.underlying53 rfl (by rw [sec_size]; exact sector_size) h
theorem wpList_store_sector {ops : Array Oper} {rest : List Oper} {o : Oper} {a : Act} {w : World} {Q : Exit → Act → World → Prop} (hgd : o.guard = none) (x y : Operand) (ho : o.op = .store 53 x y)
    (g : Nat) (s s0 : Sector) (hx : a.eval x = .pointer (some ⟨g, 0, none⟩)) (hy : a.eval y = .agg (sec s)) (hg : w.heap[g]? = some (.cells (sec s0) 53 (0, 0)))
    (h : wpList Tryz.prog ops Q rest (a.put o.dst undef) (w.setRow g (sec s))) : wpList Tryz.prog ops Q (o :: rest) a w :=
  wpList_store_row hgd _ x y ho g _ hx hy _ _ hg (by rw [sec_size]; exact sector_size) (by rw [sec_size, sec_size]) (Array.all_eq_true_iff_forall_mem.2 (sec_one s)) h
theorem wpList_box_sector {ops : Array Oper} {rest : List Oper} {o : Oper} {a : Act} {w : World} {Q : Exit → Act → World → Prop} (hgd : o.guard = none) (x : Operand) (ho : o.op = .box 53 x)
    (s : Sector) (hx : a.eval x = .agg (sec s))
    (h : wpList Tryz.prog ops Q rest (a.put o.dst (.pointer (some ⟨w.heap.size, 0, none⟩))) (w.alloc (.cells (sec s) 53))) : wpList Tryz.prog ops Q (o :: rest) a w :=
  wpList_plain hgd fun _ hK => by
    unfold Oper.wp execOp
    simp only [ho, hx, Sem.run_bind, run_box_sector, Result.andThen_ok, Sem.run_pure]
    exact hK _ _ h
theorem run_loadVar_sector (w : World) (g : Nat) (s : Sector) (hg : w.heap[g]? = some (.cells (sec s) 53 (0, 0))) :
    (loadVar 53 ⟨g, 0, none⟩).run Tryz.prog w = .ok (.agg (sec s)) w :=
  run_loadVar_row w g _ _ _ _ _ hg Tryz.underlying53 rfl (by rw [sec_size]; exact sector_size)
/-- two results: a sector in a cell, and a value -/
theorem results_sector2 {fn : Func} {p q : Tmp} (h : fn.results = #[.cell p 53, .tmp q]) (tmps : Array Value) (w : World) (g : Nat) (s : Sector)
    (hp : tmps.getD p undef = .pointer (some ⟨g, 0, none⟩)) (hg : w.heap[g]? = some (.cells (sec s) 53 (0, 0))) :
    (results fn tmps).run Tryz.prog w = .ok (.tuple #[.agg (sec s), tmps.getD q undef]) w := by
  have hp' : tmps[p]?.getD undef = .pointer (some ⟨g, 0, none⟩) := by simpa using hp
  simp [results, h, hp', asAddr, run_loadVar_sector w g s hg]
/-- whether two sectors are equal -/
def seqB (s t : Sector) : Bool := decide (s = t)
theorem sec_cells (s : Sector) : sec s = (s.toList.map Extern.Stop.cell).toArray := by
  apply Array.toList_inj.1
  simp only [sec, Array.toList_map]
  rfl
theorem run_eql_sector (s t : Sector) (w : World) : (binOp .eql 53 (.agg (sec s)) (.agg (sec t))).run Tryz.prog w = .ok (.bool (seqB s t)) w := by
  rw [sec_cells, sec_cells, run_eql_bytes w _ _ 128 Tryz.underlying53 Tryz.underlying5 byte_size _ _ (by simp) (by simp)]
  congr 2
  rw [Bool.eq_iff_iff]
  simp only [seqB, decide_eq_true_eq, beq_iff_eq, Vector.toList_inj]
theorem run_neq_sector (s t : Sector) (w : World) : (binOp .neq 53 (.agg (sec s)) (.agg (sec t))).run Tryz.prog w = .ok (.bool (!seqB s t)) w := by
  have h := run_eql_sector s t w
  rw [run_eql_struct] at h
  rw [run_neq_struct]
  cases hr : (Op.equalIn 10000 53 (.agg (sec s)) (.agg (sec t))).run Tryz.prog w with
  | ok b w' =>
    rw [hr] at h
    simp only [Result.andThen_ok, Result.ok.injEq, Value.bool.injEq] at h ⊢
    rw [h.1, h.2]; exact ⟨rfl, rfl⟩
  | halt x w' => rw [hr] at h; simp [Result.andThen] at h
theorem run_build_sector (w : World) : (Instr.build 53 #[]).run Tryz.prog w = .ok (.agg (sec zsec)) w := by
  have hz : (zeroValue 53).run Tryz.prog w = .ok (.agg (sec zsec)) w := by
    have h := sector_info
    cases hq : Tryz.prog.info? 53 with
    | none => simp [hq] at h
    | some i =>
      simp only [hq, Option.map_some, Option.some.injEq, Prod.mk.injEq] at h
      simp [zeroValue, typeInfo, hq, h.1]
  simp [Instr.build, hz, run_underlying Tryz.underlying53, Instr.fill, Value.cells]
theorem wpList_build_sector {ops : Array Oper} {rest : List Oper} {o : Oper} {a : Act} {w : World} {Q : Exit → Act → World → Prop} (hgd : o.guard = none) (ho : o.op = .build 53 #[])
    (h : wpList Tryz.prog ops Q rest (a.put o.dst (.agg (sec zsec))) w) : wpList Tryz.prog ops Q (o :: rest) a w :=
  wpList_plain hgd fun _ hK => by
    unfold Oper.wp execOp
    simp only [ho, Sem.run_bind, List.map_toArray, List.map_nil, run_build_sector, Result.andThen_ok, Sem.run_pure]
    exact hK _ _ h
theorem foldl_push (l : List UInt8) : ∀ r : ByteArray, (l.map vb).foldl (fun r n => r.push (UInt8.ofNat n.toNat)) r = ⟨r.data ++ l.toArray⟩ := by
  induction l with
  | nil => intro r; simp
  | cons c l ih =>
    intro r
    have e : UInt8.ofNat (vb c).toNat = c := by unfold vb; simp
    rw [List.map_cons, List.foldl_cons, ih, e]
    congr 1
    simp [ByteArray.push]
theorem run_string_bytes (w : World) (a : Addr) (l : List UInt8) (cap : Nat) (h : ∀ i, i < l.length → w.cell? (a.add i) = some (.int .u8 (vb (at8 l i)))) :
    (convert 96 9 (.slice (some a) l.length cap)).run Tryz.prog w = .ok (.string ⟨l.toArray⟩) w := by
  rw [run_convert_bytes_string w _ _ _ _ _ _ Tryz.underlying96 Tryz.underlying5 Tryz.underlying9, run_bytesToString w a l.length cap (l.map vb) ?_, foldl_push]
  · congr 2; simp
  · have := run_loadCells_list (P := Tryz.prog) w a ((l.map vb).map (Value.int .u8)) (fun j v hv => by
      simp only [List.map_map, List.getElem?_map, Option.map_eq_some_iff] at hv
      obtain ⟨c, hc, rfl⟩ := hv
      obtain ⟨hj, rfl⟩ := List.getElem?_eq_some_iff.1 hc
      rw [h j hj]
      simp [at8, hj])
    simpa using this
theorem sat_drop (s : Sector) (lo n i : Nat) (h : i < n) : at8 ((s.toList.drop lo).take n) i = sat s (lo + i) := by
  unfold at8 sat
  simp only [List.getD_eq_getElem?_getD, List.getElem?_take, h, if_true, List.getElem?_drop]
theorem run_string_sector (w : World) (sb lo n cap : Nat) (s : Sector) (t : TypeId) (hs : w.heap[sb]? = some (.cells (sec s) t (0, 0))) (h : lo + n ≤ 128) :
    (convert 96 9 (.slice (some ⟨sb, lo, none⟩) n cap)).run Tryz.prog w = .ok (.string ⟨((s.toList.drop lo).take n).toArray⟩) w := by
  have hl : ((s.toList.drop lo).take n).length = n := by simp; omega
  have := run_string_bytes w ⟨sb, lo, none⟩ ((s.toList.drop lo).take n) cap (fun i hi => by
    rw [hl] at hi
    rw [Addr.add_lit, cell_of_row w sb _ _ _ _ hs, sec_get _ _ (by omega), sat_drop _ _ _ _ hi])
  rw [hl] at this
  exact this
end Go.Proofs.YtfbkfdoekgnldaaGreatDoor
