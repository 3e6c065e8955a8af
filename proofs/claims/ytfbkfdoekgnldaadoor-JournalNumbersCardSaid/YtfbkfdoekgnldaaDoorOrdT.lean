/- A region that draws its order, walked along a tree of orders that the prover gives: what yields under S is taken first; at a step each operation that may come up has its own branch. -/
import Derived.Test.YtfbkfdoekgnldaaDoorSec
import Derived.Deep.RegionHeld3
import Derived.BigFrame
import Derived.Deep.MidRow
namespace Go.Proofs.YtfbkfdoekgnldaaDoor
open Go.RowKit
section
variable {P : Program} {ops : Array Oper} {Q : Exit → Act → World → Prop} {md : Region.Mode} {S : World → Prop}
/-- whatever order is picked; S is to hold behind each operation ahead of number L -/
def wpTill (P : Program) (md : Region.Mode) (ops : Array Oper) (Q : Exit → Act → World → Prop) (S : World → Prop) (L : Nat) : Nat → Array Bool → Act → World → Prop
  | 0, u, a, w => Region.ready md ops u = [] ∧ Q .normal a w
  | n + 1, u, a, w => (Region.ready md ops u = [] → Q .normal a w) ∧ ∀ j ∈ Region.ready md ops u, wpOp P ops Q j (fun a' w' => (u.getD L false = false → j ≠ L → S w') ∧ wpTill P md ops Q S L n (u.setIfInBounds j true) a' w') a w
theorem wpTill.any {L : Nat} : ∀ (n : Nat) (u : Array Bool) (a : Act) (w : World), wpTill P md ops Q S L n u a w → wpAny P md ops Q n u a w
  | 0, _, _, _, h => h
  | n + 1, _, _, _, h => ⟨h.1, fun j hj => wpOp_mono (fun a' w' h' => wpTill.any n _ a' w' h'.2) (h.2 j hj)⟩
theorem ready_ne {j : Nat} {u : Array Bool} (h : j ∈ Region.ready md ops u) : Region.ready md ops u ≠ [] := fun e => by rw [e] at h; cases h
/-- does number L wait for number i? -/
def waits (md : Region.Mode) (ops : Array Oper) (L i : Nat) : Bool := match ops[L]? with
  | none => true
  | some o => o.after.any fun x => Region.binds md x && x.on == i
/-- what yields under S may be taken at once -/
theorem wpTill.take {i L : Nat} {o : Oper} {v : Value} (ho : ops[i]? = some o) (hns : Region.noSelect ops = true) (hL : waits md ops L i = true) (hiL : i ≠ L) (hQ : ∀ c a w, Q (.panic c) (a.put o.dst v) w → Q (.panic c) a w) :
    ∀ (n : Nat) (u : Array Bool) (a : Act) (w : World), u.getD L false = false →
      (∀ j oj, ops[j]? = some oj → j ≠ i → u.getD j true = false → (∀ e ∈ oj.after, Region.binds md e = true → e.on ≠ i) → o.apart ops oj = true) →
      i ∈ Region.ready md ops u → YieldsIf P ops S o v a → S w → wpTill P md ops Q S L n (u.setIfInBounds i true) (a.put o.dst v) w → wpTill P md ops Q S L (n + 1) u a w
  | n, u, a, w, hLu, hap, hr, hy, hS, h => by
    refine ⟨fun e => absurd e (ready_ne hr), fun j hj => ?_⟩
    by_cases e : j = i
    · subst e
      exact hy.wpOp ho hS ⟨fun _ _ => hS, h⟩
    have hj' := ready_mono hj e
    cases n with
    | zero => exact absurd h.1 (ready_ne hj')
    | succ n =>
      obtain ⟨hju, oj, hoj, hall⟩ := mem_ready.1 hj
      have hiu := (mem_ready.1 hr).1
      have hno : ∀ x ∈ oj.after, Region.binds md x = true → x.on ≠ i := fun x hx hb ex => by
        have h2 := hall x hx hb
        rw [ex] at h2
        by_cases hs : i < u.size
        · simp [hs] at h2 hiu; simp [h2] at hiu
        · simp [hs] at h2
      have hns' := Region.noSelect_spec hns
      have hk := wpOp_putIf hoj (hap j oj hoj e hju hno) (fun cs b => hns' i o cs b ho) (fun cs b => hns' j oj cs b hoj) hQ hy (h.2 j hj')
      refine wpOp_mono (fun a' w' hk' => ?_) hk
      obtain ⟨hy', hS', hr'⟩ := hk'
      have hri : i ∈ Region.ready md ops (u.setIfInBounds j true) := ready_mono hr (Ne.symm e)
      have hlast : j ≠ L := fun ej => by
        subst ej
        unfold waits at hL
        rw [hoj, Array.any_eq_true'] at hL
        obtain ⟨x, hx, hb⟩ := hL
        simp only [Bool.and_eq_true, beq_iff_eq] at hb
        exact hno x hx hb.1 hb.2
      have hLi : (u.setIfInBounds i true).getD L false = false := by
        rw [getD_set_ne false hiL]; exact hLu
      have hSw := hS' hLi hlast
      have hLj : (u.setIfInBounds j true).getD L false = false := by rw [getD_set_ne false hlast]; exact hLu
      refine ⟨fun _ _ => hSw, wpTill.take ho hns hL hiL hQ n _ a' w' hLj (fun k ok hok hki hku hkn => ?_) hri hy' hSw (by rw [Array.setIfInBounds_comm _ _ e]; exact hr')⟩
      by_cases ejk : j = k
      · subst ejk; exact hap j ok hok hki hju hkn
      · rw [getD_set_ne true ejk] at hku; exact hap k ok hok hki hku hkn
/-- what yields anyhow may be taken at once -/
theorem wpTill.pure {i L : Nat} {o : Oper} {v : Value} (ho : ops[i]? = some o) (hns : Region.noSelect ops = true) (hiL : i ≠ L) (hQ : ∀ c a w, Q (.panic c) (a.put o.dst v) w → Q (.panic c) a w) :
    ∀ (n : Nat) (u : Array Bool) (a : Act) (w : World),
      (∀ j oj, ops[j]? = some oj → j ≠ i → u.getD j true = false → (∀ e ∈ oj.after, Region.binds md e = true → e.on ≠ i) → o.apart ops oj = true) →
      i ∈ Region.ready md ops u → YieldsIf P ops (fun _ => True) o v a → (u.getD L false = false → S w) → wpTill P md ops Q S L n (u.setIfInBounds i true) (a.put o.dst v) w → wpTill P md ops Q S L (n + 1) u a w
  | n, u, a, w, hap, hr, hy, hS, h => by
    refine ⟨fun e => absurd e (ready_ne hr), fun j hj => ?_⟩
    by_cases e : j = i
    · subst e
      exact hy.wpOp ho trivial ⟨fun hu _ => hS hu, h⟩
    have hj' := ready_mono hj e
    cases n with
    | zero => exact absurd h.1 (ready_ne hj')
    | succ n =>
      obtain ⟨hju, oj, hoj, hall⟩ := mem_ready.1 hj
      have hiu := (mem_ready.1 hr).1
      have hno : ∀ x ∈ oj.after, Region.binds md x = true → x.on ≠ i := fun x hx hb ex => by
        have h2 := hall x hx hb
        rw [ex] at h2
        by_cases hs : i < u.size
        · simp [hs] at h2 hiu; simp [h2] at hiu
        · simp [hs] at h2
      have hns' := Region.noSelect_spec hns
      have hk := wpOp_putIf hoj (hap j oj hoj e hju hno) (fun cs b => hns' i o cs b ho) (fun cs b => hns' j oj cs b hoj) hQ hy (h.2 j hj')
      refine wpOp_mono (fun a' w' hk' => ?_) hk
      obtain ⟨hy', hS', hr'⟩ := hk'
      have hri : i ∈ Region.ready md ops (u.setIfInBounds j true) := ready_mono hr (Ne.symm e)
      have hSn : u.getD L false = false → j ≠ L → S w' := fun hu hne => hS' (by rw [getD_set_ne false hiL]; exact hu) hne
      refine ⟨hSn, wpTill.pure ho hns hiL hQ n _ a' w' (fun k ok hok hki hku hkn => ?_) hri hy' (fun hu => ?_) (by rw [Array.setIfInBounds_comm _ _ e]; exact hr')⟩
      · by_cases ejk : j = k
        · subst ejk; exact hap j ok hok hki hju hkn
        · rw [getD_set_ne true ejk] at hku; exact hap k ok hok hki hku hkn
      · by_cases ejL : j = L
        · exfalso
          subst ejL
          have hlt : j < u.size := by
            by_cases hs : j < u.size
            · exact hs
            · simp [hs] at hju
          simp [hlt] at hu
        · exact hSn (by rw [getD_set_ne false ejL] at hu; exact hu) ejL
end
inductive OrdT where
  | done : OrdT
  | take : Nat → OrdT → OrdT
  | one : Nat → OrdT → OrdT
  | two : Nat → OrdT → Nat → OrdT → OrdT
  | last : Nat → OrdT
  | late : Nat → Nat → OrdT
  | pure : Nat → OrdT → OrdT
def OrdT.size : OrdT → Nat
  | .done => 0
  | .take _ t => t.size + 1
  | .one _ t => t.size + 1
  | .two _ t _ u => max t.size u.size + 1
  | .last _ => 1
  | .late _ _ => 2
  | .pure _ t => t.size + 1
/-- the number of the last operation, behind which S need not hold -/
def OrdT.lst : OrdT → Nat → Nat
  | .done, d => d
  | .take _ t, d => t.lst d
  | .one _ t, d => t.lst d
  | .two _ t _ _, d => t.lst d
  | .last i, _ => i
  | .late i _, _ => i
  | .pure _ t, d => t.lst d
/-- several in a row -/
def OrdT.takes : List Nat → OrdT → OrdT
  | [], t => t
  | i :: r, t => .take i (takes r t)
section
variable {P : Program} {ops : Array Oper} {Q : Exit → Act → World → Prop} {md : Region.Mode} {S : World → Prop}
def wpT (P : Program) (ops : Array Oper) (S : World → Prop) (Q : Exit → Act → World → Prop) : OrdT → Act → World → Prop
  | .done, a, w => Q .normal a w
  | .take i t, a, w => ∃ o v, ops[i]? = some o ∧ YieldsIf P ops S o v a ∧ wpT P ops S Q t (a.put o.dst v) w
  | .one i t, a, w => ∃ o, ops[i]? = some o ∧ Region.wanted o (yielded ops a.tmps) = true ∧ ∀ K : Act → World → Prop, (∀ a' w', S w' → wpT P ops S Q t a' w' → K a' w') → o.wp P a w K Q
  | .two i t j u, a, w => (∃ o, ops[i]? = some o ∧ Region.wanted o (yielded ops a.tmps) = true ∧ ∀ K : Act → World → Prop, (∀ a' w', S w' → wpT P ops S Q t a' w' → K a' w') → o.wp P a w K Q) ∧
      (∃ o, ops[j]? = some o ∧ Region.wanted o (yielded ops a.tmps) = true ∧ ∀ K : Act → World → Prop, (∀ a' w', S w' → wpT P ops S Q u a' w' → K a' w') → o.wp P a w K Q)
  | .last i, a, w => ∃ o, ops[i]? = some o ∧ Region.wanted o (yielded ops a.tmps) = true ∧ ∀ K : Act → World → Prop, (∀ a' w', Q .normal a' w' → K a' w') → o.wp P a w K Q
  | .late i j, a, w => ∃ o, ops[i]? = some o ∧ Region.wanted o (yielded ops a.tmps) = true ∧ ∀ K : Act → World → Prop, (∀ a' w', (∃ o2, ops[j]? = some o2 ∧ Region.wanted o2 (yielded ops a'.tmps) = true ∧ ∀ K2 : Act → World → Prop, (∀ a2 w2, Q .normal a2 w2 → K2 a2 w2) → o2.wp P a' w' K2 Q) → K a' w') → o.wp P a w K Q
  | .pure i t, a, w => ∃ o v, ops[i]? = some o ∧ YieldsIf P ops (fun _ => True) o v a ∧ wpT P ops S Q t (a.put o.dst v) w
/-- is it a tree of orders that may be taken? -/
def ordT (md : Region.Mode) (ops : Array Oper) (L : Nat) : OrdT → Array Bool → Bool
  | .done, listed => (Region.ready md ops listed).isEmpty
  | .take i t, listed => Region.free md ops listed i && (Region.ready md ops listed).contains i && waits md ops L i && (decide (i ≠ L) && !(listed.getD L false)) && ordT md ops L t (listed.setIfInBounds i true)
  | .one i t, listed => decide (Region.ready md ops listed = [i]) && ordT md ops L t (listed.setIfInBounds i true)
  | .two i t j u, listed => decide (Region.ready md ops listed = [i, j]) && ordT md ops L t (listed.setIfInBounds i true) && ordT md ops L u (listed.setIfInBounds j true)
  | .last i, listed => decide (Region.ready md ops listed = [i]) && decide (i = L) && (Region.ready md ops (listed.setIfInBounds i true)).isEmpty
  | .pure i t, listed => Region.free md ops listed i && (Region.ready md ops listed).contains i && decide (i ≠ L) && ordT md ops L t (listed.setIfInBounds i true)
  | .late i j, listed => decide (Region.ready md ops listed = [i]) && decide (i = L) && decide (i < listed.size) && decide (Region.ready md ops (listed.setIfInBounds i true) = [j]) && (Region.ready md ops ((listed.setIfInBounds i true).setIfInBounds j true)).isEmpty
theorem wpTill_done {L : Nat} {u : Array Bool} {a : Act} {w : World} (hr : Region.ready md ops u = []) (h : Q .normal a w) : ∀ n, wpTill P md ops Q S L n u a w
  | 0 => ⟨hr, h⟩
  | _ + 1 => ⟨fun _ => h, by rw [hr]; simp⟩
theorem step_wpOp {i : Nat} {o : Oper} {a : Act} {w : World} {K : Act → World → Prop} (hi : ops[i]? = some o) (hw : Region.wanted o (yielded ops a.tmps) = true) (h : o.wp P a w K Q) : wpOp P ops Q i K a w := by
  unfold wpOp
  simp only [hi, hw, if_true]
  exact .inl h
theorem wpTill_ordT {L : Nat} (hs : Region.noSelect ops = true) (hQ : ∀ c a d v w, Q (.panic c) (Act.put a d v) w → Q (.panic c) a w) : ∀ (l : OrdT) (fuel : Nat) (listed : Array Bool) (a : Act) (w : World), l.size ≤ fuel → ordT md ops L l listed = true → S w →
    wpT P ops S Q l a w → wpTill P md ops Q S L fuel listed a w
  | .done, fuel, listed, a, w, _, hB, _, h => wpTill_done (by simpa [ordT] using hB) h fuel
  | .take i t, fuel, listed, a, w, hf, hB, hS, h => by
    obtain ⟨o, v, hi, hy, hr⟩ := h
    simp only [ordT, Bool.and_eq_true] at hB
    obtain ⟨⟨⟨⟨b1, b2⟩, b4⟩, b5, b6⟩, b3⟩ := hB
    cases fuel with
    | zero => simp [OrdT.size] at hf
    | succ fuel => exact wpTill.take hi hs b4 (of_decide_eq_true b5) (fun c a w h => hQ c a _ _ w h) fuel listed a w (by simpa using b6) (Region.free_spec hi b1) (by simpa using b2) hy hS (wpTill_ordT hs hQ t fuel _ _ w (by simpa [OrdT.size] using hf) b3 hS hr)
  | .one i t, fuel, listed, a, w, hf, hB, hS, h => by
    obtain ⟨o, hi, hw, hK⟩ := h
    simp only [ordT, Bool.and_eq_true, decide_eq_true_eq] at hB
    obtain ⟨b1, b3⟩ := hB
    cases fuel with
    | zero => simp [OrdT.size] at hf
    | succ fuel =>
      refine ⟨(fun e => by rw [b1] at e; cases e), fun j hj => ?_⟩
      rw [b1, List.mem_singleton] at hj
      subst hj
      exact step_wpOp hi hw (hK _ (fun a' w' hS' hr => ⟨fun _ _ => hS', wpTill_ordT hs hQ t fuel _ a' w' (by simpa [OrdT.size] using hf) b3 hS' hr⟩))
  | .two i t j u, fuel, listed, a, w, hf, hB, hS, h => by
    obtain ⟨⟨o, hi, hw, hK⟩, ⟨o2, hi2, hw2, hK2⟩⟩ := h
    simp only [ordT, Bool.and_eq_true, decide_eq_true_eq] at hB
    obtain ⟨⟨b1, b3⟩, b4⟩ := hB
    cases fuel with
    | zero => simp [OrdT.size] at hf
    | succ fuel =>
      have hf1 : t.size ≤ fuel := by simp only [OrdT.size] at hf; omega
      have hf2 : u.size ≤ fuel := by simp only [OrdT.size] at hf; omega
      refine ⟨(fun e => by rw [b1] at e; cases e), fun k hk => ?_⟩
      rw [b1, List.mem_cons, List.mem_singleton] at hk
      rcases hk with rfl | rfl
      · exact step_wpOp hi hw (hK _ (fun a' w' hS' hr => ⟨fun _ _ => hS', wpTill_ordT hs hQ t fuel _ a' w' hf1 b3 hS' hr⟩))
      · exact step_wpOp hi2 hw2 (hK2 _ (fun a' w' hS' hr => ⟨fun _ _ => hS', wpTill_ordT hs hQ u fuel _ a' w' hf2 b4 hS' hr⟩))
  | .last i, fuel, listed, a, w, hf, hB, hS, h => by
    obtain ⟨o, hi, hw, hK⟩ := h
    simp only [ordT, Bool.and_eq_true, decide_eq_true_eq] at hB
    obtain ⟨⟨b1, b2⟩, b3⟩ := hB
    cases fuel with
    | zero => simp [OrdT.size] at hf
    | succ fuel =>
      refine ⟨(fun e => by rw [b1] at e; cases e), fun j hj => ?_⟩
      rw [b1, List.mem_singleton] at hj
      subst hj
      exact step_wpOp hi hw (hK _ (fun a' w' hr => ⟨fun _ e => absurd b2 e, wpTill_done (by simpa using b3) hr fuel⟩))
  | .pure i t, fuel, listed, a, w, hf, hB, hS, h => by
    obtain ⟨o, v, hi, hy, hr⟩ := h
    simp only [ordT, Bool.and_eq_true] at hB
    obtain ⟨⟨⟨b1, b2⟩, b5⟩, b3⟩ := hB
    cases fuel with
    | zero => simp [OrdT.size] at hf
    | succ fuel => exact wpTill.pure hi hs (of_decide_eq_true b5) (fun c a w h => hQ c a _ _ w h) fuel listed a w (Region.free_spec hi b1) (by simpa using b2) hy (fun _ => hS) (wpTill_ordT hs hQ t fuel _ _ w (by simpa [OrdT.size] using hf) b3 hS hr)
  | .late i j, fuel, listed, a, w, hf, hB, hS, h => by
    obtain ⟨o, hi, hw, hK⟩ := h
    simp only [ordT, Bool.and_eq_true, decide_eq_true_eq] at hB
    obtain ⟨⟨⟨⟨b1, b2⟩, b3⟩, b4⟩, b5⟩ := hB
    cases fuel with
    | zero => simp [OrdT.size] at hf
    | succ fuel =>
      cases fuel with
      | zero => simp [OrdT.size] at hf
      | succ fuel =>
        refine ⟨(fun e => by rw [b1] at e; cases e), fun k hk => ?_⟩
        rw [b1, List.mem_singleton] at hk
        subst hk
        refine step_wpOp hi hw (hK _ (fun a' w' h2 => ⟨fun _ e => absurd b2 e, ⟨(fun e => by rw [b4] at e; cases e), fun m hm => ?_⟩⟩))
        rw [b4, List.mem_singleton] at hm
        subst hm
        obtain ⟨o2, hj, hw2, hK2⟩ := h2
        refine step_wpOp hj hw2 (hK2 _ (fun a2 w2 hq => ⟨fun hu => ?_, wpTill_done (by simpa using b5) hq fuel⟩))
        subst b2
        simp [b3] at hu
theorem wp_region_ordT {id : Nat} {a : Act} {w : World} {l : List Oper} (S : World → Prop) (t : OrdT) (hm : P.follows .mixedOrders = true)
    (hs : (Region.noSelect l.toArray && ordT .any l.toArray (t.lst l.length) t (Array.replicate l.length false) && decide (t.size ≤ l.length)) = true) (hS : S w.drew) (h : wpT P l.toArray S (NoPanic Q) t a w.drew) : (Code.region id l.toArray true).wp P Q a w := by
  simp only [Bool.and_eq_true, decide_eq_true_eq] at hs
  refine wp_region_noPanic (wp_region_any hm (wpTill.any _ _ _ _ (wpTill_ordT (S := S) (L := t.lst l.length) hs.1.1 (fun _ _ _ _ _ h => h) t _ _ a _ (by simpa using hs.2) (by simpa using hs.1.2) hS h)))
theorem t_last {i : Nat} {a : Act} {w : World} {o : Oper} (hi : ops[i]? = some o) (hw : Region.wanted o (yielded ops a.tmps) = true)
    (h : ∀ K : Act → World → Prop, (∀ a' w', Q .normal a' w' → K a' w') → o.wp P a w K Q) : wpT P ops S Q (.last i) a w := ⟨o, hi, hw, h⟩
theorem t_takes {i : Nat} {r : List Nat} {t : OrdT} {a : Act} {w : World} (h : wpT P ops S Q (.take i (OrdT.takes r t)) a w) : wpT P ops S Q (OrdT.takes (i :: r) t) a w := h
theorem t_late {i j : Nat} {a : Act} {w : World} {o o2 : Oper} (hi : ops[i]? = some o) (hw : Region.wanted o (yielded ops a.tmps) = true) (hj : ops[j]? = some o2)
    (h : ∀ K : Act → World → Prop, (∀ a' w', Region.wanted o2 (yielded ops a'.tmps) = true → (∀ K2 : Act → World → Prop, (∀ a2 w2, Q .normal a2 w2 → K2 a2 w2) → o2.wp P a' w' K2 Q) → K a' w') → o.wp P a w K Q) : wpT P ops S Q (.late i j) a w :=
  ⟨o, hi, hw, fun K hK => h K (fun a' w' hw2 h2 => hK a' w' ⟨o2, hj, hw2, h2⟩)⟩
theorem t_pure {i d : Nat} {t : OrdT} {a : Act} {w : World} {o : Oper} (v : Value) (hi : ops[i]? = some o) (hd : o.dst = some d) (hw : Region.wanted o (yielded ops a.tmps) = true) (hy : ∀ w', (execOp a.eval o).run P w' = .ok (.value v) w')
    (h : wpT P ops S Q t (a.put (some d) v) w) : wpT P ops S Q (.pure i t) a w := ⟨o, v, hi, .inl ⟨hw, fun w' _ => hy w'⟩, by rw [hd]; exact h⟩
/-- a value that the operation yields under S -/
theorem t_yield {i d : Nat} {t : OrdT} {a : Act} {w : World} {o : Oper} (v : Value) (hi : ops[i]? = some o) (hd : o.dst = some d) (hw : Region.wanted o (yielded ops a.tmps) = true) (hy : ∀ w', S w' → (execOp a.eval o).run P w' = .ok (.value v) w')
    (h : wpT P ops S Q t (a.put (some d) v) w) : wpT P ops S Q (.take i t) a w := ⟨o, v, hi, .inl ⟨hw, hy⟩, by rw [hd]; exact h⟩
theorem t_move {i d : Nat} {t : OrdT} {a : Act} {w : World} {o : Oper} (x : Operand) (v : Value) (hi : ops[i]? = some o) (hd : o.dst = some d) (hw : Region.wanted o (yielded ops a.tmps) = true) (ho : o.op = .move x) (hv : a.eval x = v)
    (h : wpT P ops S Q t (a.put (some d) v) w) : wpT P ops S Q (.take i t) a w := ⟨o, v, hi, .inl ⟨hw, fun w' _ => by rw [← hv]; exact BigFrame.run_move x ho w'⟩, by rw [hd]; exact h⟩
/-- an operation that is passed over -/
theorem t_skip {i d : Nat} {t : OrdT} {a : Act} {w : World} {o : Oper} (hi : ops[i]? = some o) (hd : o.dst = some d) (hw : Region.wanted o (yielded ops a.tmps) = false)
    (h : wpT P ops S Q t (a.put (some d) undef) w) : wpT P ops S Q (.take i t) a w := ⟨o, undef, hi, .inr ⟨hw, rfl⟩, by rw [hd]; exact h⟩
theorem t_load {i d : Nat} {t : OrdT} {a : Act} {w : World} {o : Oper} (b off : Nat) (cs : List Value) (ty : TypeId) (x : Operand) (ds : TypeDesc)
    (hi : ops[i]? = some o) (hd : o.dst = some d) (hw : Region.wanted o (yielded ops a.tmps) = true) (ho : o.op = .load ty x) (hx : a.eval x = .pointer (some ⟨b, off, none⟩)) (hr : ∀ w', S w' → w'.rangeAt b off cs)
    (hu : P.underlying ty = some ds) (hds : ds.isRow = true) (hn : (P.info? ty).map (·.size) = some cs.length) (h : wpT P ops S Q t (a.put (some d) (.agg cs.toArray)) w) : wpT P ops S Q (.take i t) a w :=
  ⟨o, _, hi, .inl ⟨hw, fun w' hw' => by
    unfold execOp
    simp only [ho, hx, Instr.loadAt, Instr.sureAddr, Sem.run_bind, Sem.run_pure, Result.andThen_ok, run_loadVar_mid w' b off ty cs ds (hr w' hw') hu hds hn]; rfl⟩, by rw [hd]; exact h⟩
theorem t_one {i : Nat} {t : OrdT} {a : Act} {w : World} {o : Oper} (hi : ops[i]? = some o) (hw : Region.wanted o (yielded ops a.tmps) = true)
    (h : ∀ K : Act → World → Prop, (∀ a' w', S w' → wpT P ops S Q t a' w' → K a' w') → o.wp P a w K Q) : wpT P ops S Q (.one i t) a w := ⟨o, hi, hw, h⟩
theorem t_two {i j : Nat} {t u : OrdT} {a : Act} {w : World} {o o2 : Oper} (hi : ops[i]? = some o) (hw : Region.wanted o (yielded ops a.tmps) = true) (hj : ops[j]? = some o2) (hw2 : Region.wanted o2 (yielded ops a.tmps) = true)
    (h : ∀ K : Act → World → Prop, (∀ a' w', S w' → wpT P ops S Q t a' w' → K a' w') → o.wp P a w K Q) (h2 : ∀ K : Act → World → Prop, (∀ a' w', S w' → wpT P ops S Q u a' w' → K a' w') → o2.wp P a w K Q) : wpT P ops S Q (.two i t j u) a w := ⟨⟨o, hi, hw, h⟩, ⟨o2, hj, hw2, h2⟩⟩
theorem t_done {a : Act} {w : World} (h : Q .normal a w) : wpT P ops S (NoPanic Q) .done a w := NoPanic.normal h
end
section
variable {o : Oper} {a : Act} {w : World} {K : Act → World → Prop} {Q : Exit → Act → World → Prop}
/-- a new sector -/
theorem wp_alloc_sec {d : Nat} (hd : o.dst = some d) (ho : o.op = .alloc 64) (h : K (a.put (some d) (.pointer (some ⟨w.heap.size, 0, none⟩))) (w.alloc (.cells (sec zsec) 64))) : o.wp Tryd.prog a w K Q := by
  unfold Oper.wp execOp
  simp only [ho, Sem.run_bind, run_alloc_sector, Result.andThen_ok, Sem.run_pure]
  have h' : K (a.put o.dst (.pointer (some ⟨w.heap.size, 0, none⟩))) (w.alloc (.cells (sec zsec) 64)) := by rw [hd]; exact h
  exact h'
/-- a sector is stored -/
theorem wp_store_sec (x y : Operand) (hd : o.dst = none) (ho : o.op = .store 64 x y) (g : Nat) (s s0 : Sector) (hx : a.eval x = .pointer (some ⟨g, 0, none⟩)) (hy : a.eval y = .agg (sec s)) (hg : w.heap[g]? = some (.cells (sec s0) 64 (0, 0)))
    (h : K a (w.setRow g (sec s))) : o.wp Tryd.prog a w K Q := by
  refine wp_store_row _ x y ho g _ hx hy _ _ hg (by rw [sec_size]; exact sector_size) (by rw [sec_size, sec_size]) (Array.all_eq_true_iff_forall_mem.2 (sec_one s)) ?_
  rw [hd]; exact h
end
end Go.Proofs.YtfbkfdoekgnldaaDoor
