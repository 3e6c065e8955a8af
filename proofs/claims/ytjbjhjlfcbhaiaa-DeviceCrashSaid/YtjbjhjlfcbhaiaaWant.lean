/- An array of 64 sectors: made, written, read. -/
import Derived.Test.YtjbjhjlfcbhaiaaDevHas
namespace Go.Proofs.Ytjbjhjlfcbhaiaa
open Go.RowKit
/-- the cells of an array of sectors -/
def arr (l : List Sector) : Array Value := (flat secL l).toArray
theorem arr_size (l : List Sector) : (arr l).size = l.length * 128 := by simp [arr, flat_length secL_len]
def z64 : List Sector := List.replicate 64 zsec
theorem arr_info : (Try.prog.info? 32).map (fun i => (i.zero, i.size)) = some (some (.agg (arr z64)), 8192) := by kernel_rfl
theorem run_alloc_arr (w : World) (v : Value) : (Instr.alloc 32 true v).run Try.prog w = .ok (.pointer (some ⟨w.heap.size, 0, none⟩)) (w.alloc (.cells (arr z64) 32)) := by
  have hz : (zeroValue 32).run Try.prog w = .ok (.agg (arr z64)) w := by
    have h := arr_info
    cases hq : Try.prog.info? 32 with
    | none => simp [hq] at h
    | some i =>
      simp only [hq, Option.map_some, Option.some.injEq, Prod.mk.injEq] at h
      simp [zeroValue, typeInfo, hq, h.1]
  simp [Instr.alloc, Sem.run_bind, hz, newVar, newRow, Value.cells]
theorem wpList_alloc_arr {ops : Array Oper} {rest : List Oper} {o : Oper} {a : Act} {w : World} {Q : Exit → Act → World → Prop} (hgd : o.guard = none) (ho : o.op = .alloc 32)
    (h : wpList Try.prog ops Q rest (a.put o.dst (.pointer (some ⟨w.heap.size, 0, none⟩))) (w.alloc (.cells (arr z64) 32))) : wpList Try.prog ops Q (o :: rest) a w :=
  wpList_plain hgd fun _ hK => by
    unfold Oper.wp execOp
    simp only [ho, Sem.run_bind, run_alloc_arr, Result.andThen_ok, Sem.run_pure]
    exact hK _ _ h
theorem arr_put {W : World} {b : Nat} {l : List Sector} {t : TypeId} (h : W.heap[b]? = some (.cells (arr l) t (0, 0))) (k : Nat) (s : Sector) (hk : k < l.length) :
    (W.setCells b (k * 128) (secL s)).heap[b]? = some (.cells (arr (l.set k s)) t (0, 0)) := by
  have hle : k * 128 + 128 ≤ l.length * 128 := by omega
  rw [setCells_block W b (secL s) (k * 128) _ t h (by rw [secL_len, arr_size]; exact hle)]
  unfold arr
  rw [flat_set secL_len l k s hk, secL_len]
theorem arr_range {W : World} {b : Nat} {l : List Sector} {t : TypeId} (h : W.heap[b]? = some (.cells (arr l) t (0, 0))) (k : Nat) (s : Sector) (hk : l[k]? = some s) : W.rangeAt b (k * 128) (secL s) :=
  rangeAt_row h _ _ (fun j v hv => by
    have hj : j < 128 := by have := (List.getElem?_eq_some_iff.1 hv).1; rwa [secL_len] at this
    have := flat_cell secL_len l k s hk j hj
    rw [hv] at this
    simpa [arr] using this)
theorem arr_there {W : World} {b : Nat} {l : List Sector} {t : TypeId} (h : W.heap[b]? = some (.cells (arr l) t (0, 0))) (k : Nat) (hk : k < l.length) : W.there b (k * 128) 128 := fun j hj => by
  rw [cell_of_row W b _ _ _ _ h]
  have : k * 128 + j < (arr l).size := by rw [arr_size]; omega
  exact ⟨by simp [this], frozen_of_row W b _ _ _ h⟩
theorem Has.setArr {w W : World} (l1 : List (Res w.heap.size)) {l2 : List (Res w.heap.size)} {g : Nat} {l : List Sector} {t : TypeId} (h : Has w W (l1 ++ Blk _ g (.cells (arr l) t (0, 0)) :: l2)) (k : Nat) (s : Sector) (hk : k < l.length) :
    Has w (W.setCells g (k * 128) (secL s)) (l1 ++ Blk _ g (.cells (arr (l.set k s)) t (0, 0)) :: l2) := by
  refine h.turnAt l1 (fun F hP _ => ?_)
  obtain ⟨rfl, hP⟩ := hP
  exact ⟨Only.setCells g (.inl (by simp)) _ _ (Only.refl _ _), [g], ⟨rfl, arr_put hP k s hk⟩, by simp⟩
theorem run_index_arr (b : Nat) (q : IntKind) (k : Int) (h0 : 0 ≤ k) (h : k < 64) (w : World) : (Instr.indexAt 32 (.pointer (some ⟨b, 0, none⟩)) (.int q k)).run Try.prog w = .ok (.pointer (some ⟨b, k.toNat * 128, none⟩)) w := by
  have h1 : (0 : Int) ≤ k ∧ k < ((64 : Nat) : Int) := ⟨h0, by omega⟩
  simp only [Instr.indexAt, asIntOf, Instr.sureAddr, Sem.run_bind, Sem.run_pure, Result.andThen_ok, run_underlying Try.underlying32, if_pos h1, sec_sz, Addr.add_lit, Nat.zero_add]
end Go.Proofs.Ytjbjhjlfcbhaiaa
