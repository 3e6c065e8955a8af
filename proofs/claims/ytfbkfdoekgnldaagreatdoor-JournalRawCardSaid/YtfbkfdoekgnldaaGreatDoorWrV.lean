/- A write as a value of 129 cells: made, loaded, stored, compared. -/
import Derived.Test.YtfbkfdoekgnldaaGreatDoorDevW2
namespace Go.Proofs.YtfbkfdoekgnldaaGreatDoor
open Go.RowKit
def wrV (x : Wr) : Array Value := (wrL x).toArray
def zwr : Wr := (0, zsec)
theorem wr_size (x : Wr) : (wrV x).size = 129 := by simp [wrV, wrL_len]
theorem wr_list (x : Wr) : (wrV x).toList = wrL x := by simp [wrV]
theorem wr_one (x : Wr) : ∀ v ∈ wrV x, v.oneCell' = true := by
  intro v hv
  have hv' : v ∈ wrL x := by simpa [wrV] using hv
  simp only [wrL, secL, List.mem_cons, Array.mem_toList_iff] at hv'
  rcases hv' with rfl | hv'
  · rfl
  · exact sec_one _ v hv'
theorem wrL_one (x : Wr) : ∀ v ∈ wrL x, v.oneCell' = true := fun v hv => wr_one x v (by simpa [wrV] using hv)
theorem secL_one (s : Sector) : ∀ v ∈ secL s, v.oneCell' = true := fun v hv => sec_one s v (by simpa [secL] using hv)
theorem wr_inj {x y : Wr} : wrV x = wrV y ↔ x = y := by
  constructor
  · intro h
    have h' : wrL x = wrL y := by have := congrArg Array.toList h; simpa [wrV] using this
    simp only [wrL, List.cons.injEq, secL, Array.toList_inj] at h'
    obtain ⟨h1, h2⟩ := h'
    injection h1 with _ h1
    exact Prod.ext h1 (sec_inj.1 h2)
  · rintro rfl; rfl
theorem wr_info : (Tryz.prog.info? 87).map (fun i => (i.zero, i.size, i.bytes)) = some (some (.agg (wrV zwr)), 129, 136) := by kernel_rfl
theorem wr_infosize : (Tryz.prog.info? 87).map (·.size) = some 129 := by kernel_rfl
theorem wrL_size (x : Wr) : (Tryz.prog.info? 87).map (·.size) = some (wrL x).length := by rw [wrL_len]; exact wr_infosize
theorem wr_zero (w : World) : (zeroValue 87).run Tryz.prog w = .ok (.agg (wrV zwr)) w := by
  have h := wr_info
  cases hq : Tryz.prog.info? 87 with
  | none => simp [hq] at h
  | some i =>
    simp only [hq, Option.map_some, Option.some.injEq, Prod.mk.injEq] at h
    simp [zeroValue, typeInfo, hq, h.1]
theorem zc_wr0 : Tryz.zeroCells87 = wrV zwr := by kernel_rfl
theorem run_alloc_wr (w : World) (v : Value) : (Instr.alloc 87 true v).run Tryz.prog w = .ok (.pointer (some ⟨w.heap.size, 0, none⟩)) (w.alloc (.cells (wrV zwr) 87)) := by
  have h2 := zc_wr0
  generalize wrV zwr = z at h2
  subst h2
  simp [Instr.alloc, Sem.run_bind, newVar, newRow, Value.cells]
theorem run_box_wr (w : World) (x : Wr) : (Instr.box 87 (.agg (wrV x))).run Tryz.prog w = .ok (.pointer (some ⟨w.heap.size, 0, none⟩)) (w.alloc (.cells (wrV x) 87)) := by
  simp [Instr.box, newVar, newRow, Value.cells]
section
variable {ops : Array Oper} {rest : List Oper} {o : Oper} {a : Act} {w : World} {Q : Exit → Act → World → Prop}
theorem wpList_alloc_wr (hgd : o.guard = none) (ho : o.op = .alloc 87)
    (h : wpList Tryz.prog ops Q rest (a.put o.dst (.pointer (some ⟨w.heap.size, 0, none⟩))) (w.alloc (.cells (wrV zwr) 87))) : wpList Tryz.prog ops Q (o :: rest) a w :=
  wpList_plain hgd fun _ hK => by
    unfold Oper.wp execOp
    simp only [ho, Sem.run_bind, run_alloc_wr, Result.andThen_ok, Sem.run_pure]
    exact hK _ _ h
theorem wpList_box_wr (hgd : o.guard = none) (x : Operand) (ho : o.op = .box 87 x) (y : Wr) (hx : a.eval x = .agg (wrV y))
    (h : wpList Tryz.prog ops Q rest (a.put o.dst (.pointer (some ⟨w.heap.size, 0, none⟩))) (w.alloc (.cells (wrV y) 87))) : wpList Tryz.prog ops Q (o :: rest) a w :=
  wpList_plain hgd fun _ hK => by
    unfold Oper.wp execOp
    simp only [ho, hx, Sem.run_bind, run_box_wr, Result.andThen_ok, Sem.run_pure]
    exact hK _ _ h
theorem wpList_load_wrmid (hgd : o.guard = none) (x : Operand) (ho : o.op = .load 87 x)
    (b i : Nat) (y : Wr) (hx : a.eval x = .pointer (some ⟨b, i, none⟩)) (hr : w.rangeAt b i (wrL y))
    (h : wpList Tryz.prog ops Q rest (a.put o.dst (.agg (wrV y))) w) : wpList Tryz.prog ops Q (o :: rest) a w :=
  wpList_load_mid hgd _ x ho b i hx (wrL y) _ hr Tryz.underlying87 rfl (wrL_size y) h
theorem wpList_store_wr (hgd : o.guard = none) (x y : Operand) (ho : o.op = .store 87 x y)
    (g : Nat) (s s0 : Wr) (hx : a.eval x = .pointer (some ⟨g, 0, none⟩)) (hy : a.eval y = .agg (wrV s)) (hg : w.heap[g]? = some (.cells (wrV s0) 87 (0, 0)))
    (h : wpList Tryz.prog ops Q rest (a.put o.dst undef) (w.setRow g (wrV s))) : wpList Tryz.prog ops Q (o :: rest) a w :=
  wpList_store_row hgd _ x y ho g _ hx hy _ _ hg (by rw [wr_size]; exact wr_infosize) (by rw [wr_size, wr_size]) (Array.all_eq_true_iff_forall_mem.2 (wr_one s)) h
end
theorem rangeAt_row {W : World} {b : Nat} {C : Array Value} {t : TypeId} (h : W.heap[b]? = some (.cells C t (0, 0))) (cs : List Value) (o : Nat) (hc : ∀ j v, cs[j]? = some v → C[o + j]? = some v) : W.rangeAt b o cs := fun j v hv => by
  rw [cell_of_row W b _ _ _ _ h]; exact hc j v hv
theorem wr_data {W : World} {b : Nat} {x : Wr} {t : TypeId} (h : W.heap[b]? = some (.cells (wrV x) t (0, 0))) : W.rangeAt b 1 (secL x.2) :=
  rangeAt_row h _ _ (fun j v hv => by
    have : (wrL x)[1 + j]? = some v := by rw [Nat.add_comm, wrL, List.getElem?_cons_succ]; exact hv
    simpa [wrV] using this)
theorem wr_at {W : World} {b : Nat} {x : Wr} {t : TypeId} (h : W.heap[b]? = some (.cells (wrV x) t (0, 0))) : W.cell? ⟨b, 0, none⟩ = some (.int .i64 x.1) := by
  rw [cell_of_row W b _ _ _ _ h]; simp [wrV, wrL]
/-! ### a write that is built -/
theorem fill_fold (v : Array Value) : ∀ (l : List Value) (k off : Nat) (cs : Array Value), off + k + l.length ≤ cs.size →
    (l.zipIdx k).foldl (fun (cs : Array Value) (x : Value × Nat) => cs.setIfInBounds (off + x.2) x.1) cs = (cs.toList.take (off + k) ++ l ++ cs.toList.drop (off + k + l.length)).toArray
  | [], k, off, cs, _ => by simp
  | x :: r, k, off, cs, h => by
    simp only [List.zipIdx_cons, List.foldl_cons]
    rw [fill_fold v r (k + 1) off _ (by simp at h ⊢; omega)]
    congr 1
    have hCl : cs.toList.length = cs.size := by simp
    simp only [List.length_cons] at h
    apply List.ext_getElem?
    intro j
    simp only [Array.toList_setIfInBounds, List.length_cons]
    by_cases h1 : j < off + k
    · rw [List.append_assoc, List.append_assoc, List.getElem?_append_left (by simp; omega), List.getElem?_append_left (by simp; omega)]
      simp only [List.getElem?_take, List.getElem?_set]
      rw [if_pos (by omega), if_pos h1, if_neg (by omega)]
    · by_cases h2 : j = off + k
      · subst h2
        rw [List.append_assoc, List.append_assoc, List.getElem?_append_left (by simp; omega), List.getElem?_append_right (by simp; omega)]
        simp only [List.getElem?_take, List.getElem?_set, List.length_take, hCl, if_true]
        rw [if_pos (by omega), if_pos (by omega), show off + k - min (off + k) cs.size = 0 by omega]
        rfl
      · simp only [List.getElem?_append, List.getElem?_drop, List.length_append, List.length_take, List.length_set, hCl, List.length_cons]
        by_cases h3 : j < off + k + 1 + r.length
        · rw [if_pos (by omega), if_neg (by omega), if_pos (by omega), if_neg (by omega)]
          rw [show j - min (off + k) cs.size = (j - min (off + (k + 1)) cs.size) + 1 by omega, List.getElem?_cons_succ]
        · rw [if_neg (by omega), if_neg (by omega), List.getElem?_set, if_neg (by omega)]
          congr 1; omega
theorem run_build_wr (w : World) (n : Int) (s : Sector) : (Instr.build 87 #[(0, .int .i64 n), (1, .agg (sec s))]).run Tryz.prog w = .ok (.agg (wrV (n, s))) w := by
  have hf : ∀ (c0 : Array Value), c0.size = 129 → Instr.fill ((#[(0, 1), (1, 128)] : Array (Nat × Nat))[·]?) c0 [(0, .int .i64 n), (1, .agg (sec s))] = some (wrV (n, s)) := by
    intro c0 h0
    have hl : c0.toList.length = 129 := by simpa using h0
    have h1 : (sec s).zipIdx.foldl (fun (cs : Array Value) (x : Value × Nat) => cs.setIfInBounds (1 + x.2) x.1) (c0.setIfInBounds 0 (.int .i64 n)) = wrV (n, s) := by
      rw [← Array.foldl_toList, Array.toList_zipIdx, fill_fold #[] _ 0 1 _ (by simp [h0, sec_size])]
      simp only [wrV, wrL, secL, Array.toList_setIfInBounds]
      congr 1
      rw [List.drop_eq_nil_of_le (by simp [h0, sec_size])]
      cases hcl : c0.toList with
      | nil => rw [hcl] at hl; simp at hl
      | cons a r => simp
    have h2 : ((Value.int IntKind.i64 n).cells.zipIdx.foldl (fun (cs : Array Value) (x : Value × Nat) => cs.setIfInBounds (0 + x.2) x.1) c0) = c0.setIfInBounds 0 (.int .i64 n) := by simp [Value.cells]
    simp only [Instr.fill]
    have e1 : (#[(0, 1), (1, 128)] : Array (Nat × Nat))[0]? = some (0, 1) := rfl
    have e2 : (#[(0, 1), (1, 128)] : Array (Nat × Nat))[1]? = some (1, 128) := rfl
    simp only [e1, e2, h2]
    have e3 : (Value.int IntKind.i64 n).cells.size = 1 := rfl
    have e4 : (Value.agg (sec s)).cells = sec s := rfl
    simp only [e3, e4, sec_size, Array.size_setIfInBounds, h0]
    simpa using h1
  have hp : ∀ fs, Tryz.prog.underlying 87 = some (.struct fs) → (fs.mapM fun (f : Field) => do pure (f.offset, ← sizeOf f.type)).run Tryz.prog w = .ok (#[(0, 1), (1, 128)] : Array (Nat × Nat)) w := by
    intro fs hfs
    rw [Tryz.underlying87] at hfs
    cases hfs
    kernel_rfl
  simp only [Instr.build, Sem.run_bind, wr_zero, Result.andThen_ok, run_underlying Tryz.underlying87]
  rw [hp _ Tryz.underlying87]
  simp only [Result.andThen_ok, hf _ (show (Value.agg (wrV zwr)).cells.size = 129 from wr_size zwr), Sem.run_pure]
theorem run_buildSlice_wr (w : World) (x : Wr) : (Instr.buildSlice 32 1 #[(0, .agg (wrV x))]).run Tryz.prog w = .ok (.slice (some ⟨w.heap.size, 0, none⟩) 1 1) (w.alloc (.cells (wrV x) 87)) := by
  have hf : ∀ (c0 : Array Value), c0.size = 129 → Instr.fill (fun i => some (i * 129, 129)) c0 [(0, .agg (wrV x))] = some (wrV x) := by
    intro c0 h0
    have hl : c0.toList.length = 129 := by simpa using h0
    have h1 : (wrV x).zipIdx.foldl (fun (cs : Array Value) (y : Value × Nat) => cs.setIfInBounds (0 + y.2) y.1) c0 = wrV x := by
      rw [← Array.foldl_toList, Array.toList_zipIdx, fill_fold #[] _ 0 0 _ (by simp [h0, wr_size])]
      rw [List.drop_eq_nil_of_le (by simp [h0, wr_size])]
      simp
    have e4 : (Value.agg (wrV x)).cells = wrV x := rfl
    simp only [Instr.fill, Nat.zero_mul, e4, wr_size, h0]
    simpa using h1
  simp only [Instr.buildSlice, Sem.run_bind, run_underlying Tryz.underlying32, Result.andThen_ok, wr_sz]
  rw [if_neg (by decide)]
  simp only [Sem.run_bind, Sem.run_pure, Result.andThen_ok, Nat.one_mul, wr_zero, show ¬ (129 = 0) from by decide, if_false]
  rw [hf _ (by simp)]
  simp [newRow]
theorem range0_map (f : Nat → Value) : (Array.range 0).map f = #[] := Array.eq_empty_of_size_eq_zero (by simp)
/-! ### a builtin by its run -/
section
variable {ops : Array Oper} {rest : List Oper} {o : Oper} {a : Act} {w : World} {K : Act → World → Prop} {Q : Exit → Act → World → Prop}
theorem wp_append_eq (s x : Operand) (ts : Array TypeId) (ho : o.op = .call { callee := .builtin .append, args := #[s, x], argTypes := ts }) (vs vx v : Value) (w' : World) (hs : a.eval s = vs) (hx : a.eval x = vx)
    (hrun : (Builtin.append_ ts o.type #[vs, vx]).run Tryz.prog w = .ok v w') (h : K (a.put o.dst v) w') : o.wp Tryz.prog a w K Q := by
  unfold Oper.wp execOp
  simp only [ho, resolve, invoke, builtin, Sem.run_bind, Sem.run_pure, Result.andThen_ok, List.map_toArray, List.map_cons, List.map_nil, hs, hx, hrun]
  exact h
theorem wpList_append_eq (hgd : o.guard = none) (s x : Operand) (ts : Array TypeId) (ho : o.op = .call { callee := .builtin .append, args := #[s, x], argTypes := ts }) (vs vx v : Value) (w' : World) (hs : a.eval s = vs) (hx : a.eval x = vx)
    (hrun : (Builtin.append_ ts o.type #[vs, vx]).run Tryz.prog w = .ok v w') (h : wpList Tryz.prog ops Q rest (a.put o.dst v) w') : wpList Tryz.prog ops Q (o :: rest) a w :=
  wpList_plain hgd fun _ hK => wp_append_eq s x ts ho vs vx v w' hs hx hrun (hK _ _ h)
theorem wpList_clear_eq (hgd : o.guard = none) (s : Operand) (ts : Array TypeId) (ho : o.op = .call { callee := .builtin .clear, args := #[s], argTypes := ts }) (vs v : Value) (w' : World) (hs : a.eval s = vs)
    (hrun : (Builtin.clear_ ts o.type #[vs]).run Tryz.prog w = .ok v w') (h : wpList Tryz.prog ops Q rest (a.put o.dst v) w') : wpList Tryz.prog ops Q (o :: rest) a w :=
  wpList_plain hgd fun _ hK => by
    unfold Oper.wp execOp
    simp only [ho, resolve, invoke, builtin, Sem.run_bind, Sem.run_pure, Result.andThen_ok, List.map_toArray, List.map_cons, List.map_nil, hs, hrun]
    exact hK _ _ h
end
end Go.Proofs.YtfbkfdoekgnldaaGreatDoor
