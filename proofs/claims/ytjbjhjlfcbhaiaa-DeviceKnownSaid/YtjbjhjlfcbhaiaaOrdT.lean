/- A region that draws its order, walked along a tree of orders that the prover gives: what yields under S is taken first; at a step each operation that may come up has its own branch. -/
import Derived.Test.YtjbjhjlfcbhaiaaSec
import Derived.Deep.RegionHeld3
import Derived.BigFrame
import Derived.Deep.MidRow
namespace Go.Proofs.Ytjbjhjlfcbhaiaa
open Go.RowKit
inductive OrdT where
  | done : OrdT
  | take : Nat → OrdT → OrdT
  | one : Nat → OrdT → OrdT
  | two : Nat → OrdT → Nat → OrdT → OrdT
def OrdT.size : OrdT → Nat
  | .done => 0
  | .take _ t => t.size + 1
  | .one _ t => t.size + 1
  | .two _ t _ u => max t.size u.size + 1
/-- several in a row -/
def OrdT.takes : List Nat → OrdT → OrdT
  | [], t => t
  | i :: r, t => .take i (takes r t)
section
variable {P : Program} {ops : Array Oper} {Q : Exit → Act → World → Prop} {md : Region.Mode} {S : World → Prop}
def wpT (P : Program) (ops : Array Oper) (S : World → Prop) (Q : Exit → Act → World → Prop) : OrdT → Act → World → Prop
  | .done, a, w => Q .normal a w
  | .take i t, a, w => ∃ o v, ops[i]? = some o ∧ YieldsIf P ops S o v a ∧ wpT P ops S Q t (a.put o.dst v) w
  | .one i t, a, w => ∃ o, ops[i]? = some o ∧ Region.wanted o (yielded ops a.tmps) = true ∧ ∀ K : Act → World → Prop, (∀ a' w', S w' → wpT P ops S Q t a' w' → K a' w') → o.wp P a w K Q
  | .two i t j u, a, w => (∃ o, ops[i]? = some o ∧ Region.wanted o (yielded ops a.tmps) = true ∧ ∀ K : Act → World → Prop, (∀ a' w', S w' → wpT P ops S Q t a' w' → K a' w') → o.wp P a w K Q) ∧
      (∃ o, ops[j]? = some o ∧ Region.wanted o (yielded ops a.tmps) = true ∧ ∀ K : Act → World → Prop, (∀ a' w', S w' → wpT P ops S Q u a' w' → K a' w') → o.wp P a w K Q)
/-- is it a tree of orders that may be taken? -/
def ordT (md : Region.Mode) (ops : Array Oper) : OrdT → Array Bool → Bool
  | .done, listed => (Region.ready md ops listed).isEmpty
  | .take i t, listed => Region.free md ops listed i && (Region.ready md ops listed).contains i && ordT md ops t (listed.setIfInBounds i true)
  | .one i t, listed => decide (Region.ready md ops listed = [i]) && ordT md ops t (listed.setIfInBounds i true)
  | .two i t j u, listed => decide (Region.ready md ops listed = [i, j]) && ordT md ops t (listed.setIfInBounds i true) && ordT md ops u (listed.setIfInBounds j true)
theorem wpAnyH_ordT (hs : Region.noSelect ops = true) (hQ : ∀ c a d v w, Q (.panic c) (Act.put a d v) w → Q (.panic c) a w) : ∀ (l : OrdT) (fuel : Nat) (listed : Array Bool) (a : Act) (w : World), l.size ≤ fuel → ordT md ops l listed = true → S w →
    wpT P ops S Q l a w → wpAnyH P md ops Q S fuel listed a w
  | .done, fuel, listed, a, w, _, hB, _, h => wpAnyH_done (by simpa [ordT] using hB) h fuel
  | .take i t, fuel, listed, a, w, hf, hB, hS, h => by
    obtain ⟨o, v, hi, hy, hr⟩ := h
    simp only [ordT, Bool.and_eq_true] at hB
    obtain ⟨⟨b1, b2⟩, b3⟩ := hB
    cases fuel with
    | zero => simp [OrdT.size] at hf
    | succ fuel => exact wpAnyH_take hi hs b1 b2 (fun c a w h => hQ c a _ _ w h) hy hS (wpAnyH_ordT hs hQ t fuel _ _ w (by simpa [OrdT.size] using hf) b3 hS hr)
  | .one i t, fuel, listed, a, w, hf, hB, hS, h => by
    obtain ⟨o, hi, hw, hK⟩ := h
    simp only [ordT, Bool.and_eq_true, decide_eq_true_eq] at hB
    obtain ⟨b1, b3⟩ := hB
    cases fuel with
    | zero => simp [OrdT.size] at hf
    | succ fuel =>
      refine wpAnyH_ready b1 (by simp) (AllReadyH.cons hi (fun K' hK' => ?_) AllReadyH.nil)
      rw [if_pos hw]
      exact hK K' (fun a' w' hS' hr => hK'.out a' w' hS' (fun _ => wpAnyH_ordT hs hQ t fuel _ a' w' (by simpa [OrdT.size] using hf) b3 hS' hr))
  | .two i t j u, fuel, listed, a, w, hf, hB, hS, h => by
    obtain ⟨⟨o, hi, hw, hK⟩, ⟨o2, hi2, hw2, hK2⟩⟩ := h
    simp only [ordT, Bool.and_eq_true, decide_eq_true_eq] at hB
    obtain ⟨⟨b1, b3⟩, b4⟩ := hB
    cases fuel with
    | zero => simp [OrdT.size] at hf
    | succ fuel =>
      have hf1 : t.size ≤ fuel := by simp only [OrdT.size] at hf; omega
      have hf2 : u.size ≤ fuel := by simp only [OrdT.size] at hf; omega
      refine wpAnyH_ready b1 (by simp) (AllReadyH.cons hi (fun K' hK' => ?_) (AllReadyH.cons hi2 (fun K' hK' => ?_) AllReadyH.nil))
      · rw [if_pos hw]
        exact hK K' (fun a' w' hS' hr => hK'.out a' w' hS' (fun _ => wpAnyH_ordT hs hQ t fuel _ a' w' hf1 b3 hS' hr))
      · rw [if_pos hw2]
        exact hK2 K' (fun a' w' hS' hr => hK'.out a' w' hS' (fun _ => wpAnyH_ordT hs hQ u fuel _ a' w' hf2 b4 hS' hr))
theorem wp_region_ordT {id : Nat} {a : Act} {w : World} {l : List Oper} (S : World → Prop) (t : OrdT) (hm : P.follows .mixedOrders = true)
    (hs : (Region.noSelect l.toArray && ordT .any l.toArray t (Array.replicate l.length false) && decide (t.size ≤ l.length)) = true) (hS : S w.drew) (h : wpT P l.toArray S (NoPanic Q) t a w.drew) : (Code.region id l.toArray true).wp P Q a w := by
  simp only [Bool.and_eq_true, decide_eq_true_eq] at hs
  refine wp_region_noPanic (wp_region_held_drew (S := S) hm hS (fun _ => ?_))
  exact wpAnyH_ordT hs.1.1 (fun _ _ _ _ _ h => h) t _ _ a _ (by simpa using hs.2) (by simpa using hs.1.2) hS h
theorem t_takes {i : Nat} {r : List Nat} {t : OrdT} {a : Act} {w : World} (h : wpT P ops S Q (.take i (OrdT.takes r t)) a w) : wpT P ops S Q (OrdT.takes (i :: r) t) a w := h
/-- a value that the operation yields under S -/
theorem t_yield {i d : Nat} {t : OrdT} {a : Act} {w : World} {o : Oper} (v : Value) (hi : ops[i]? = some o) (hd : o.dst = some d) (hw : Region.wanted o (yielded ops a.tmps) = true) (hy : ∀ w', S w' → (execOp a.eval o).run P w' = .ok (.value v) w')
    (h : wpT P ops S Q t (a.put (some d) v) w) : wpT P ops S Q (.take i t) a w := ⟨o, v, hi, .inl ⟨hw, hy⟩, by rw [hd]; exact h⟩
theorem t_move {i d : Nat} {t : OrdT} {a : Act} {w : World} {o : Oper} (x : Operand) (v : Value) (hi : ops[i]? = some o) (hd : o.dst = some d) (hw : Region.wanted o (yielded ops a.tmps) = true) (ho : o.op = .move x) (hv : a.eval x = v)
    (h : wpT P ops S Q t (a.put (some d) v) w) : wpT P ops S Q (.take i t) a w := ⟨o, v, hi, .inl ⟨hw, fun w' _ => by rw [← hv]; exact BigFrame.run_move x ho w'⟩, by rw [hd]; exact h⟩
/-- an operation that is passed over -/
theorem t_skip {i d : Nat} {t : OrdT} {a : Act} {w : World} {o : Oper} (hi : ops[i]? = some o) (hd : o.dst = some d) (hw : Region.wanted o (yielded ops a.tmps) = false)
    (h : wpT P ops S Q t (a.put (some d) undef) w) : wpT P ops S Q (.take i t) a w := ⟨o, undef, hi, .inr ⟨hw, rfl⟩, by rw [hd]; exact h⟩
theorem t_load {i d : Nat} {t : OrdT} {a : Act} {w : World} {o : Oper} (b off : Nat) (cs : List Value) (ty : TypeId) (x : Operand) (ds : TypeDesc)
    (hi : ops[i]? = some o) (hd : o.dst = some d) (hw : Region.wanted o (yielded ops a.tmps) = true) (ho : o.op = .load ty x) (hx : a.eval x = .pointer (some ⟨b, off, none⟩)) (hr : ∀ w', S w' → w'.rangeAt b off cs)
    (hu : P.underlying ty = some ds) (hds : ds.isRow = true) (hn : (P.info? ty).map (·.size) = some cs.length) (h : wpT P ops S Q t (a.put (some d) (.agg cs.toArray)) w) : wpT P ops S Q (.take i t) a w :=
  ⟨o, _, hi, .inl ⟨hw, fun w' hw' => by
    unfold execOp
    simp only [ho, hx, Instr.loadAt, Instr.sureAddr, Sem.run_bind, Sem.run_pure, Result.andThen_ok, run_loadVar_mid w' b off ty cs ds (hr w' hw') hu hds hn]; rfl⟩, by rw [hd]; exact h⟩
theorem t_one {i : Nat} {t : OrdT} {a : Act} {w : World} {o : Oper} (hi : ops[i]? = some o) (hw : Region.wanted o (yielded ops a.tmps) = true)
    (h : ∀ K : Act → World → Prop, (∀ a' w', S w' → wpT P ops S Q t a' w' → K a' w') → o.wp P a w K Q) : wpT P ops S Q (.one i t) a w := ⟨o, hi, hw, h⟩
theorem t_two {i j : Nat} {t u : OrdT} {a : Act} {w : World} {o o2 : Oper} (hi : ops[i]? = some o) (hw : Region.wanted o (yielded ops a.tmps) = true) (hj : ops[j]? = some o2) (hw2 : Region.wanted o2 (yielded ops a.tmps) = true)
    (h : ∀ K : Act → World → Prop, (∀ a' w', S w' → wpT P ops S Q t a' w' → K a' w') → o.wp P a w K Q) (h2 : ∀ K : Act → World → Prop, (∀ a' w', S w' → wpT P ops S Q u a' w' → K a' w') → o2.wp P a w K Q) : wpT P ops S Q (.two i t j u) a w := ⟨⟨o, hi, hw, h⟩, ⟨o2, hj, hw2, h2⟩⟩
theorem t_done {a : Act} {w : World} (h : Q .normal a w) : wpT P ops S (NoPanic Q) .done a w := NoPanic.normal h
end
section
variable {o : Oper} {a : Act} {w : World} {K : Act → World → Prop} {Q : Exit → Act → World → Prop}
/-- a new sector -/
theorem wp_alloc_sec {d : Nat} (hd : o.dst = some d) (ho : o.op = .alloc 31) (h : K (a.put (some d) (.pointer (some ⟨w.heap.size, 0, none⟩))) (w.alloc (.cells (sec zsec) 31))) : o.wp Try.prog a w K Q := by
  unfold Oper.wp execOp
  simp only [ho, Sem.run_bind, run_alloc_sector, Result.andThen_ok, Sem.run_pure]
  have h' : K (a.put o.dst (.pointer (some ⟨w.heap.size, 0, none⟩))) (w.alloc (.cells (sec zsec) 31)) := by rw [hd]; exact h
  exact h'
/-- a sector is stored -/
theorem wp_store_sec (x y : Operand) (hd : o.dst = none) (ho : o.op = .store 31 x y) (g : Nat) (s s0 : Sector) (hx : a.eval x = .pointer (some ⟨g, 0, none⟩)) (hy : a.eval y = .agg (sec s)) (hg : w.heap[g]? = some (.cells (sec s0) 31 (0, 0)))
    (h : K a (w.setRow g (sec s))) : o.wp Try.prog a w K Q := by
  refine wp_store_row _ x y ho g _ hx hy _ _ hg (by rw [sec_size]; exact sector_size) (by rw [sec_size, sec_size]) (Array.all_eq_true_iff_forall_mem.2 (sec_one s)) ?_
  rw [hd]; exact h
end
end Go.Proofs.Ytjbjhjlfcbhaiaa
