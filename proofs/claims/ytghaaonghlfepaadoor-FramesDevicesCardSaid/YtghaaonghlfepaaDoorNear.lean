/- A region that draws its order, whose operations only read and whose calls only make new blocks: walked once, in the order of the text. -/
import Derived.Test.YtghaaonghlfepaaDoorKeep
import Derived.BigQuiet
import Derived.Deep.MidRow
namespace Go.Proofs.YtghaaonghlfepaaDoor
open Go.RowKit
/-- a world in which nothing that was there has turned -/
structure Near (W0 : World) where
  w : World
  h : Below W0.heap.size W0 w
instance near_some (W0 : World) : Nonempty (Near W0) := ⟨⟨W0, Below.refl _ _⟩⟩
theorem Near.step {W0 : World} (n : Near W0) {w' : World} (h : Below n.w.heap.size n.w w') : ∃ m : Near W0, w' = m.w := ⟨⟨w', n.h.trans (h.mono n.h.size)⟩, rfl⟩
theorem Near.same {W0 : World} (n : Near W0) : ∃ m : Near W0, n.w = m.w := ⟨n, rfl⟩
theorem wp_region_near {id : Nat} {Q : Exit → Act → World → Prop} {a : Act} {w : World} {l : List Oper} (hm : Tryd.prog.follows .mixedOrders = true) (hB : Region.lexB .any l.toArray = true)
    (h : wpQuiet Tryd.prog l.toArray (fun w' => ∃ n : Near w, w' = n.w) (fun a' => ∀ w', (∃ n : Near w, w' = n.w) → Q .normal a' w') l a) : (Code.region id l.toArray true).wp Tryd.prog Q a w :=
  wp_region_quiet (C := fun w' => ∃ n : Near w, w' = n.w) hm hB ⟨⟨w.drew, (Below.refl _ _).drew⟩, rfl⟩ (by simpa using h)
/-- a call in such a region -/
theorem near_call {W0 : World} {f : FuncId} {args : Array Value} {v : Value} (n : Near W0) (h : Calls Tryd.prog f args n.w fun e w' => e = .returned v ∧ Below n.w.heap.size n.w w') :
    Calls Tryd.prog f args n.w fun e w'' => e = .returned v ∧ ∃ m : Near W0, w'' = m.w := h.mono fun _ _ ⟨he, hb⟩ => ⟨he, n.step hb⟩
theorem near_call_same {W0 : World} {f : FuncId} {args : Array Value} {v : Value} (n : Near W0) (h : Calls Tryd.prog f args n.w fun e w' => e = .returned v ∧ w' = n.w) :
    Calls Tryd.prog f args n.w fun e w'' => e = .returned v ∧ ∃ m : Near W0, w'' = m.w := h.mono fun _ _ ⟨he, hb⟩ => ⟨he, n, hb⟩
theorem Near.range {W0 : World} {b o : Nat} {cs : List Value} (h : ∀ j v, cs[j]? = some v → W0.cell? ⟨b, o + j, none⟩ = some v) (n : Near W0) : n.w.rangeAt b o cs := fun j v hv =>
  (n.h.cell (p := ⟨b, o + j, none⟩) (block_lt_of_cell (h j v hv))).trans (h j v hv)
/-- a load of a long row in such a region -/
theorem near_load {W0 : World} {o : Oper} {a : Act} {K : Act → Prop} (ty : TypeId) (x : Operand) (ho : o.op = .load ty x) (b i : Nat) (cs : List Value) (d : TypeDesc) (hx : a.eval x = .pointer (some ⟨b, i, none⟩)) (hr : ∀ n : Near W0, n.w.rangeAt b i cs)
    (hu : Tryd.prog.underlying ty = some d) (hd : d.isRow = true) (hi : (Tryd.prog.info? ty).map (·.size) = some cs.length) (hk : K (a.put o.dst (.agg cs.toArray))) : o.quiet Tryd.prog a (fun w' => ∃ n : Near W0, w' = n.w) K := by
  refine ⟨_, fun w' hw' => ?_, hk⟩
  obtain ⟨n, rfl⟩ := hw'
  unfold Oper.quietAt execOp
  simp only [ho, hx, Instr.loadAt, Instr.sureAddr, Sem.run_bind, Sem.run_pure, Result.andThen_ok, run_loadVar_mid n.w b i ty cs d (hr n) hu hd hi]
  exact ⟨rfl, rfl⟩
end Go.Proofs.YtghaaonghlfepaaDoor
