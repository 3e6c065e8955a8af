/- The walk of the matrices: times, square, shift; Zeros and Combine. -/
import Derived.Test.YtpmfpbfbfahniaaDoorMat
import Derived.Test.YtpmfpbfbfahniaaDoorCrcW
namespace Go.Proofs.YtpmfpbfbfahniaaDoor
open Go.RowKit
open Lime
/-- the cells of a matrix -/
def mcs (m : Nat → BitVec 32) : Array Value := ((List.range 32).map fun i => Value.int .u32 (vu (m i))).toArray
theorem mcs_size (m : Nat → BitVec 32) : (mcs m).size = 32 := by simp [mcs]
theorem mcs_get (m : Nat → BitVec 32) (i : Nat) (h : i < 32) : (mcs m)[i]? = some (.int .u32 (vu (m i))) := by simp [mcs, h]
def mput (m : Nat → BitVec 32) (k : Nat) (x : BitVec 32) : Nat → BitVec 32 := fun i => if i = k then x else m i
theorem mcs_set (m : Nat → BitVec 32) (k : Nat) (x : BitVec 32) : (mcs m).setIfInBounds k (.int .u32 (vu x)) = mcs (mput m k x) := by
  apply Array.ext_getElem?
  intro i
  simp only [mcs, mput, Array.getElem?_setIfInBounds, List.getElem?_toArray, List.getElem?_map, List.size_toArray, List.length_map, List.length_range]
  by_cases h : k = i
  · subst h
    by_cases hk : k < 32
    · simp [hk]
    · simp [hk]
  · have h' : ¬ i = k := fun e => h e.symm
    by_cases hi : i < 32
    · simp [h, h', hi]
    · simp [h, hi]
theorem mcs_congr {m m' : Nat → BitVec 32} (h : ∀ i, i < 32 → m i = m' i) : mcs m = mcs m' := by
  apply Array.ext_getElem?
  intro i
  by_cases hi : i < 32
  · rw [mcs_get m i hi, mcs_get m' i hi, h i hi]
  · rw [Array.getElem?_eq_none (by rw [mcs_size]; omega), Array.getElem?_eq_none (by rw [mcs_size]; omega)]
theorem mcs_one (m : Nat → BitVec 32) : (mcs m).all (·.oneCell') = true := by
  rw [Array.all_eq_true_iff_forall_mem]
  intro v hv
  simp only [mcs, List.mem_toArray, List.mem_map] at hv
  obtain ⟨i, _, rfl⟩ := hv
  rfl
def m0 : Nat → BitVec 32 := fun _ => 0#32
theorem mat_info : (Tryd.prog.info? 76).map (fun i => (i.zero, i.size)) = some (some (.agg (mcs m0)), 32) := by kernel_rfl
theorem mat_size : (Tryd.prog.info? 76).map (·.size) = some 32 := by kernel_rfl
theorem u32_size (w : World) : (sizeOf 22).run Tryd.prog w = .ok 1 w := by kernel_rfl
theorem run_alloc_mat (w : World) (v : Value) : (Instr.alloc 76 true v).run Tryd.prog w = .ok (.pointer (some ⟨w.heap.size, 0, none⟩)) (w.alloc (.cells (mcs m0) 76)) := by
  have hz : (zeroValue 76).run Tryd.prog w = .ok (.agg (mcs m0)) w := by
    have h := mat_info
    cases hq : Tryd.prog.info? 76 with
    | none => simp [hq] at h
    | some i =>
      simp only [hq, Option.map_some, Option.some.injEq, Prod.mk.injEq] at h
      simp [zeroValue, typeInfo, hq, h.1]
  simp [Instr.alloc, Sem.run_bind, hz, newVar, newRow, Value.cells]
theorem run_box_mat (w : World) (m : Nat → BitVec 32) : (Instr.box 76 (.agg (mcs m))).run Tryd.prog w = .ok (.pointer (some ⟨w.heap.size, 0, none⟩)) (w.alloc (.cells (mcs m) 76)) := by
  simp [Instr.box, newVar, newRow, Value.cells]
theorem wpList_alloc_mat {ops : Array Oper} {rest : List Oper} {o : Oper} {a : Act} {w : World} {Q : Exit → Act → World → Prop} (hgd : o.guard = none) (ho : o.op = .alloc 76)
    (h : wpList Tryd.prog ops Q rest (a.put o.dst (.pointer (some ⟨w.heap.size, 0, none⟩))) (w.alloc (.cells (mcs m0) 76))) : wpList Tryd.prog ops Q (o :: rest) a w :=
  wpList_plain hgd fun _ hK => by
    unfold Oper.wp execOp
    simp only [ho, Sem.run_bind, run_alloc_mat, Result.andThen_ok, Sem.run_pure]
    exact hK _ _ h
theorem wpList_box_mat {ops : Array Oper} {rest : List Oper} {o : Oper} {a : Act} {w : World} {Q : Exit → Act → World → Prop} (hgd : o.guard = none) (x : Operand) (ho : o.op = .box 76 x)
    (m : Nat → BitVec 32) (hx : a.eval x = .agg (mcs m))
    (h : wpList Tryd.prog ops Q rest (a.put o.dst (.pointer (some ⟨w.heap.size, 0, none⟩))) (w.alloc (.cells (mcs m) 76))) : wpList Tryd.prog ops Q (o :: rest) a w :=
  wpList_plain hgd fun _ hK => by
    unfold Oper.wp execOp
    simp only [ho, hx, Sem.run_bind, run_box_mat, Result.andThen_ok, Sem.run_pure]
    exact hK _ _ h
theorem wpList_load_mat {ops : Array Oper} {rest : List Oper} {o : Oper} {a : Act} {w : World} {Q : Exit → Act → World → Prop} (hgd : o.guard = none) (x : Operand) (ho : o.op = .load 76 x)
    (g : Nat) (m : Nat → BitVec 32) (hx : a.eval x = .pointer (some ⟨g, 0, none⟩)) (hg : w.heap[g]? = some (.cells (mcs m) 76 (0, 0)))
    (h : wpList Tryd.prog ops Q rest (a.put o.dst (.agg (mcs m))) w) : wpList Tryd.prog ops Q (o :: rest) a w :=
  wpList_load_row hgd _ x ho g hx _ _ _ _ hg Tryd.underlying76 rfl (by rw [mcs_size]; exact mat_size) h
theorem wpList_store_mat {ops : Array Oper} {rest : List Oper} {o : Oper} {a : Act} {w : World} {Q : Exit → Act → World → Prop} (hgd : o.guard = none) (x y : Operand) (ho : o.op = .store 76 x y)
    (g : Nat) (m m' : Nat → BitVec 32) (hx : a.eval x = .pointer (some ⟨g, 0, none⟩)) (hy : a.eval y = .agg (mcs m)) (hg : w.heap[g]? = some (.cells (mcs m') 76 (0, 0)))
    (h : wpList Tryd.prog ops Q rest (a.put o.dst undef) (w.setRow g (mcs m))) : wpList Tryd.prog ops Q (o :: rest) a w :=
  wpList_store_row hgd _ x y ho g _ hx hy _ _ hg (by rw [mcs_size]; exact mat_size) (by rw [mcs_size, mcs_size]) (mcs_one m) h
theorem results_mat {fn : Func} {p : Tmp} (h : fn.results = #[.cell p 76]) (tmps : Array Value) (w : World) (g : Nat) (m : Nat → BitVec 32)
    (hp : tmps.getD p undef = .pointer (some ⟨g, 0, none⟩)) (hg : w.heap[g]? = some (.cells (mcs m) 76 (0, 0))) :
    (results fn tmps).run Tryd.prog w = .ok (.agg (mcs m)) w := by
  have hp' : tmps[p]?.getD undef = .pointer (some ⟨g, 0, none⟩) := by simpa using hp
  have hl := run_loadVar_row (P := Tryd.prog) w g _ _ _ _ _ hg Tryd.underlying76 rfl (by rw [mcs_size]; exact mat_size)
  simp [results, h, hp', asAddr, hl]
/-- an element of a matrix that is a value -/
theorem run_index_mat (m : Nat → BitVec 32) (k : Nat) (hk : k < 32) (w : World) :
    (Instr.index 76 (.agg (mcs m)) (.int .i64 (k : Int))).run Tryd.prog w = .ok (.int .u32 (vu (m k))) w := by
  have h' : (0 : Int) ≤ k ∧ (k : Int) < (32 : Nat) := by omega
  simp [Instr.index, asIntOf, run_underlying Tryd.underlying76, h', part]
  rw [if_pos hk, mcs_get m k hk]; rfl
theorem g_and1 (x : BitVec 32) : bits .and .u32 (vu x) 1 = vu (x &&& 1#32) := by
  have := u32_and_nat x.toNat 1 x.isLt (by decide)
  unfold vu; rw [BitVec.toNat_and]; exact this
theorem g_odd (x : BitVec 32) : (vu (x &&& 1#32) == 1) = odd32 x := by
  unfold vu odd32
  rw [BitVec.toNat_and, BitVec.getLsbD, Nat.testBit_zero]
  have : x.toNat &&& (1#32).toNat = x.toNat % 2 := Nat.and_one_is_mod _
  rw [this, Bool.eq_iff_iff]; simp; omega
theorem g_ne0 (x : BitVec 32) : (vu x != 0) = (x != 0#32) := g_ne32 x 0#32
theorem odd_shr (x : BitVec 32) (k : Nat) : odd32 (x >>> k) = x.getLsbD k := by unfold odd32; simp
attribute [local go_sem high] q_shr32 q_shl32 q_shr32k q_shl32k q_shr32n q_shl32n g_com32
attribute [local go_sem] g_xor32 g_and15 g_and15_lt g_wrap8 vu_nonneg g_not32 g_not32' g_same32 g_and1 g_odd g_ne0
set_option maxHeartbeats 400000 in
theorem times_any (m : Nat → BitVec 32) (x : BitVec 32) (w : World) :
    Calls Tryd.prog 45 #[.agg (mcs m), .int .u32 (vu x)] w fun e w' =>
      e = .returned (.int .u32 (vu (tm m x))) ∧ Below w.heap.size w w' := by
  have hm : (w.alloc (.cells (mcs m) 76)).heap[w.heap.size]? = some (.cells (mcs m) 76 (0, 0)) := heap_alloc_new _ _
  go_enter Tryd.func45, Tryd.ntmps45
  go_wp2_with ((with_reducible refine wpList_box_mat rfl _ rfl m ?_ ?_); rfl)
  have hB : Below w.heap.size w (w.alloc (.cells (mcs m) 76)) := (Below.refl _ _).alloc (Nat.le_refl _) _
  generalize w.alloc (.cells (mcs m) 76) = W at hm hB ⊢
  go_loop [1, 5, 6] (fun v y i => ∃ k : Nat, k ≤ 32 ∧ i = .int .i64 k ∧ v = .int .u32 (vu (x >>> k)) ∧ y = .int .u32 (vu (tmK m x k))) (fun _ _ i => 32 - (intOf i).toNat)
  case atStart => exact ⟨0, Nat.zero_le _, rfl, by simp, rfl⟩
  case round =>
    obtain ⟨k, hk, rfl, rfl, rfl⟩ := hrel
    by_cases hz : x >>> k = 0#32
    · have q : (x >>> k != 0#32) = false := by simpa using hz
      have HD := Lib.hid (tmK_done m x k hk hz)
      clear hz
      go_wp2
      go_ret
      exact ⟨by rw [HD.out]; rfl, hB⟩
    · have q : (x >>> k != 0#32) = true := by simpa using hz
      have hlt : k < 32 := by
        rcases Nat.lt_or_ge k 32 with h | h
        · exact h
        · exact absurd (BitVec.eq_of_getLsbD_eq fun i hi => by rw [BitVec.getLsbD_ushiftRight, BitVec.getLsbD_of_ge _ _ (by omega)]; simp) hz
      have hc : W.cell? ⟨w.heap.size, k, none⟩ = some (.int .u32 (vu (m k))) := (cell_of_row W _ _ _ _ _ hm).trans (mcs_get m k hlt)
      have HS := Lib.hid (show (x >>> k) >>> 1 = x >>> (k + 1) by rw [BitVec.shiftRight_add])
      clear hz
      cases hb : x.getLsbD k
      · have qb : odd32 (x >>> k) = false := (odd_shr x k).trans hb
        have HT := Lib.hid (show tmK m x (k + 1) = tmK m x k by rw [tmK, hb]; rfl)
        clear hb
        go_wp2
        go_round
        case rel => exact ⟨k + 1, by omega, by go_num, by rw [HS.out], by rw [HT.out]⟩
        case measure => simp [intOf]; omega
      · have qb : odd32 (x >>> k) = true := (odd_shr x k).trans hb
        have HT := Lib.hid (show tmK m x (k + 1) = tmK m x k ^^^ m k by rw [tmK, hb]; rfl)
        clear hb
        go_wp2
        go_round
        case rel => exact ⟨k + 1, by omega, by go_num, by rw [HS.out], by rw [HT.out]⟩
        case measure => simp [intOf]; omega
/-- the memory of square: the matrix, the result, the one that is made -/
structure SqInv (w W : World) (m r : Nat → BitVec 32) : Prop where
  hB : Below w.heap.size w W
  hm : W.heap[w.heap.size]? = some (.cells (mcs m) 76 (0, 0))
  hr : W.heap[w.heap.size + 1]? = some (.cells (mcs m0) 76 (0, 0))
  ho : W.heap[w.heap.size + 1 + 1]? = some (.cells (mcs r) 76 (0, 0))
theorem SqInv.sz {w W : World} {m r : Nat → BitVec 32} (h : SqInv w W m r) : w.heap.size + 1 + 1 < W.heap.size := (Array.getElem?_eq_some_iff.1 h.ho).1
theorem SqInv.below {w W W' : World} {m r : Nat → BitVec 32} (h : SqInv w W m r) (hb : Below W.heap.size W W') : SqInv w W' m r := by
  have := h.sz
  exact ⟨h.hB.trans (hb.mono (by omega)), (hb.block _ (by omega)).trans h.hm, (hb.block _ (by omega)).trans h.hr, (hb.block _ (by omega)).trans h.ho⟩
theorem heap_alloc_at (w : World) (o : Obj) (k : Nat) (h : k = w.heap.size) : (w.alloc o).heap[k]? = some o := by subst h; exact heap_alloc_new w o
theorem SqInv.start (w : World) (m : Nat → BitVec 32) : SqInv w (((w.alloc (.cells (mcs m) 76)).alloc (.cells (mcs m0) 76)).alloc (.cells (mcs m0) 76)) m m0 := by
  refine ⟨(((Below.refl _ _).alloc (Nat.le_refl _) _).alloc (by simp) _).alloc (by simp; omega) _, ?_, ?_, ?_⟩
  · rw [Below.heap_alloc _ _ _ (by simp; omega), Below.heap_alloc _ _ _ (by simp)]; exact heap_alloc_at _ _ _ (by simp)
  · rw [Below.heap_alloc _ _ _ (by simp)]; exact heap_alloc_at _ _ _ (by simp)
  · exact heap_alloc_at _ _ _ (by simp)
theorem SqInv.put {w W : World} {m r : Nat → BitVec 32} (h : SqInv w W m r) (k : Nat) (x : BitVec 32) : SqInv w (W.setCell ⟨w.heap.size + 1 + 1, k, none⟩ (.int .u32 (vu x))) m (mput r k x) := by
  rw [setCell_eq_setRow W _ _ _ _ _ _ h.ho, mcs_set]
  exact ⟨h.hB.trans ⟨rfl, rfl, rfl, by simp, fun k hk => setRow_other W _ _ _ (by omega)⟩, (setRow_other W _ _ _ (by omega)).trans h.hm, (setRow_other W _ _ _ (by omega)).trans h.hr, setRow_heap W _ _ _ _ _ h.ho⟩
def SquareV (m : Nat → BitVec 32) (w : World) (e : Ending) (w' : World) : Prop := ∃ r, (∀ i, i < 32 → r i = tm m (m i)) ∧ e = .returned (.agg (mcs r)) ∧ Below w.heap.size w w'
set_option maxRecDepth 100000 in
set_option maxHeartbeats 400000 in
theorem square_any (m : Nat → BitVec 32) (w : World) : Calls Tryd.prog 46 #[.agg (mcs m)] w (SquareV m w) := by
  have hinv := SqInv.start w m
  go_enter Tryd.func46, Tryd.ntmps46
  go_wp2_with (first | ((with_reducible refine wpList_box_mat rfl _ rfl m ?_ ?_); rfl) | (with_reducible refine wpList_alloc_mat rfl rfl ?_) | ((with_reducible refine wpList_load_mat rfl _ rfl w.heap.size m ?_ hinv.hm ?_); rfl))
  go_loopw [7] (fun i wr => ∃ (k : Nat) (r : Nat → BitVec 32), k ≤ 32 ∧ i = .int .i64 k ∧ (∀ j, j < k → r j = tm m (m j)) ∧ SqInv w wr m r) (fun i _ => 32 - (intOf i).toNat)
  case atStart => exact ⟨0, m0, Nat.zero_le _, rfl, fun j hj => by omega, hinv⟩
  case round =>
    obtain ⟨k, r, hk, rfl, hr, hi⟩ := hrel
    clear hinv
    by_cases hlt : k < 32
    · have hx := run_index_mat m k hlt wr
      have hm := hi.hm
      have HR := Lib.hid hr
      clear hr
      go_wp2_with (first | ((with_reducible refine wpList_load_mat rfl _ rfl w.heap.size m ?_ hm ?_); rfl) | (go_at_call 45; refine (times_any m (m k) wr).mono ?_; rintro e w1 ⟨rfl, hB⟩; have hi1 := hi.below hB; have hc : w1.cell? ⟨w.heap.size + 1 + 1, k, none⟩ = some (.int .u32 (vu (r k))) := (cell_of_row w1 _ _ _ _ _ hi1.ho).trans (mcs_get r k hlt); have hf : w1.frozen? ⟨w.heap.size + 1 + 1, k, none⟩ = false := frozen_of_row w1 _ _ _ _ hi1.ho))
      go_roundw
      case rel =>
        refine ⟨k + 1, mput r k (tm m (m k)), by omega, by go_num, fun j hj => ?_, hi1.put _ _⟩
        unfold mput
        by_cases e : j = k
        · rw [if_pos e, e]
        · rw [if_neg e]; exact HR.out j (by omega)
      case measure => simp [intOf]; omega
    · obtain rfl : k = 32 := by omega
      have ho := hi.ho
      have hr0 := hi.hr
      have HR := Lib.hid hr
      clear hr
      go_wp2_with (first | ((with_reducible refine wpList_load_mat rfl _ rfl (w.heap.size + 1 + 1) r ?_ ho ?_); rfl) | ((with_reducible refine wpList_store_mat rfl _ _ rfl (w.heap.size + 1) r m0 ?_ ?_ hr0 ?_); rfl; rfl))
      refine bodyPost_ret (results_mat rfl _ _ (w.heap.size + 1) r rfl (setRow_heap wr _ _ _ _ _ hr0)) rfl ⟨r, HR.out, rfl, ?_⟩
      exact hi.hB.trans ⟨rfl, rfl, rfl, by simp, fun k hk => setRow_other wr _ _ _ (by omega)⟩
end Go.Proofs.YtpmfpbfbfahniaaDoor
