/- Maps from int to int that the program made: what lookups, stores and clear do. -/
import Derived.Test.YtfbkfdoekgnldaaGreatDoorHas
import Derived.Maps.OwnSet
import Derived.Carry
namespace Go.Proofs.YtfbkfdoekgnldaaGreatDoor
open Go.RowKit Go.ChangeMaps Go.MapKept
/-- block b is a map of at most n entries that reads as f -/
def MapI (W : World) (b n : Nat) (f : Int → Option Int) : Prop :=
  ∃ D : DataW Unit, W.ownsMap Tryz.prog 3 (plainElem Tryz.prog 3) b n D ∧ Maps.IsMap D ∧
    ∀ k, (Lit.int .i64 k).wf = true → Maps.has D (.int .i64 k) = (f k).isSome ∧ D.atKey (.int .i64 k) (.lit (.int .i64 0)) = .lit (.int .i64 ((f k).getD 0))
theorem MapI.lt {W : World} {b n : Nat} {f : Int → Option Int} (h : MapI W b n f) : b < W.heap.size := by
  obtain ⟨D, h, _⟩ := h; exact h.lt
theorem MapI.stay {W W' : World} {b n : Nat} {f : Int → Option Int} (h : MapI W b n f) (hb : W'.heap[b]? = W.heap[b]?) : MapI W' b n f := by
  obtain ⟨D, ⟨es, clock, h1, h2⟩, h3⟩ := h
  exact ⟨D, ⟨es, clock, hb.trans h1, h2⟩, h3⟩
theorem MapI.mono {W : World} {b n m : Nat} {f : Int → Option Int} (h : MapI W b n f) (hm : n ≤ m) : MapI W b m f := by
  obtain ⟨D, h1, h3⟩ := h; exact ⟨D, h1.mono hm, h3⟩
theorem MapI.made (W : World) : MapI (W.alloc (.map #[] 0)) W.heap.size 0 (fun _ => none) :=
  ⟨.map [], World.ownsMap_made _ _ _ _, Maps.isMap_empty, fun _ _ => ⟨rfl, rfl⟩⟩
theorem zero_int (w : World) : (zeroValue 3).run Tryz.prog w = .ok (.int .i64 0) w := by kernel_rfl
theorem MapI.look {W : World} {b n : Nat} {f : Int → Option Int} (h : MapI W b n f) (k : Int) (hk : (Lit.int .i64 k).wf = true) :
    (Instr.lookup 88 (.map (some b)) (.int .i64 k) true).run Tryz.prog W = .ok (.tuple #[.int .i64 ((f k).getD 0), .bool (f k).isSome]) W := by
  obtain ⟨D, h1, _, h3⟩ := h
  obtain ⟨e1, e2⟩ := h3 k hk
  obtain ⟨v, ps, hrun, hv⟩ := h1.look_ok (Maps.int_keyed Tryz.underlying3) Tryz.underlying88 (zero_int W) (plainElem_int Tryz.underlying3 (by decide)) (Maps.keyOf_int_mk Tryz.underlying3 hk)
  rw [e1] at hrun
  rw [e2] at hv
  obtain ⟨c, rfl, hc, _⟩ := plainElem_int_inv Tryz.underlying3 hv
  have hcc : (f k).getD 0 = c := by
    have h : (DataW.lit (Lit.int .i64 ((f k).getD 0)) : DataW Unit) = .lit (.int .i64 c) := congrArg Prod.fst hc
    simpa using h
  rw [hrun, hcc]
theorem isKey_int (k : Int) : WideAt.IsKeyLit (.int .i64 k) := by trivial
theorem MapI.store {W : World} {b n : Nat} {f : Int → Option Int} (h : MapI W b n f) (hn : n < maxLen) (k v : Int) (hk : (Lit.int .i64 k).wf = true) (hv : (Lit.int .i64 v).wf = true) :
    ∃ W', (Instr.mapUpdate 88 (.map (some b)) (.int .i64 k) (.int .i64 v)).run Tryz.prog W = .ok () W' ∧ MapI W' b (n + 1) (fun j => if j = k then some v else f j) ∧ Only [b] W W' := by
  obtain ⟨D, h1, h2, h3⟩ := h
  obtain ⟨W', hrun, h4, hg⟩ := h1.update (Maps.int_keyed Tryz.underlying3) Tryz.underlying88 hn (Maps.keyOf_int_mk Tryz.underlying3 hk) (plainElem_int Tryz.underlying3 hv)
  refine ⟨W', hrun, ⟨_, h4, h2.put _ _, fun j hj => ?_⟩, (Only.refl _ _).grown hg (by simp)⟩
  by_cases e : j = k
  · subst e
    dsimp only
    rw [if_pos rfl, Maps.has_put_same h2 (isKey_int j), Maps.atKey_put_same h2 (isKey_int j)]
    exact ⟨rfl, rfl⟩
  · have hne : (Lit.int .i64 j) ≠ .int .i64 k := by intro e'; injection e' with _ e'; exact e e'
    dsimp only
    rw [if_neg e, Maps.has_put_other hne, Maps.atKey_put_other hne]
    exact h3 j hj
theorem MapI.clear {W : World} {b n : Nat} {f : Int → Option Int} (h : MapI W b n f) (ty : TypeId) :
    ∃ W', (Builtin.clear_ #[88] ty #[.map (some b)]).run Tryz.prog W = .ok (.tuple #[]) W' ∧ MapI W' b 0 (fun _ => none) ∧ Only [b] W W' := by
  obtain ⟨D, ⟨es, clock, hb, F, hs, rfl⟩, _⟩ := h
  refine ⟨setBlock W b (.map #[] clock), ?_, ⟨.map [], ⟨#[], clock, heap_setBlock_same hb _, ⟨by simp, ?_, by simp⟩, Nat.le_refl _, rfl⟩, Maps.isMap_empty, fun _ _ => ⟨rfl, rfl⟩⟩, ?_⟩
  · simp [Builtin.clear_, run_underlying Tryz.underlying88, MapKept.run_getObj_map hb, Result.andThen, run_setObj_map _ hb]; rfl
  · exact stamped_empty clock
  · exact ⟨rfl, rfl, rfl, by simp [setBlock], fun i _ hi => heap_setBlock_other hb _ (by simpa using hi)⟩
end Go.Proofs.YtfbkfdoekgnldaaGreatDoor
