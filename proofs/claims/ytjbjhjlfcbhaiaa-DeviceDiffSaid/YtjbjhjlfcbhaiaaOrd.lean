/- A region that draws its order, walked in one order that the prover gives: what yields under S is taken first, a step is taken where nothing else may come up. -/
import Derived.Test.YtjbjhjlfcbhaiaaKeep
import Derived.Deep.RegionHeld3
import Derived.BigFrame
namespace Go.Proofs.Ytjbjhjlfcbhaiaa
open Go.RowKit
section
variable {P : Program} {ops : Array Oper} {Q : Exit → Act → World → Prop} {md : Region.Mode} {S : World → Prop}
/-- the walk: (number, is it a step?) -/
def wpOrd (P : Program) (ops : Array Oper) (S : World → Prop) (Q : Exit → Act → World → Prop) : List (Nat × Bool) → Act → World → Prop
  | [], a, w => Q .normal a w
  | (i, false) :: r, a, w => ∃ o v, ops[i]? = some o ∧ YieldsIf P ops S o v a ∧ wpOrd P ops S Q r (a.put o.dst v) w
  | (i, true) :: r, a, w => ∃ o, ops[i]? = some o ∧ Region.wanted o (yielded ops a.tmps) = true ∧ ∀ K : Act → World → Prop, (∀ a' w', S w' → wpOrd P ops S Q r a' w' → K a' w') → o.wp P a w K Q
/-- is it an order that may be taken? -/
def ordB (md : Region.Mode) (ops : Array Oper) : List (Nat × Bool) → Array Bool → Bool
  | [], listed => (Region.ready md ops listed).isEmpty
  | (i, false) :: r, listed => Region.free md ops listed i && (Region.ready md ops listed).contains i && ordB md ops r (listed.setIfInBounds i true)
  | (i, true) :: r, listed => decide (Region.ready md ops listed = [i]) && ordB md ops r (listed.setIfInBounds i true)
theorem wpAnyH_ord (hs : Region.noSelect ops = true) (hQ : ∀ c a d v w, Q (.panic c) (Act.put a d v) w → Q (.panic c) a w) : ∀ (l : List (Nat × Bool)) (fuel : Nat) (listed : Array Bool) (a : Act) (w : World), l.length ≤ fuel → ordB md ops l listed = true → S w →
    wpOrd P ops S Q l a w → wpAnyH P md ops Q S fuel listed a w
  | [], fuel, listed, a, w, _, hB, _, h => wpAnyH_done (by simpa [ordB] using hB) h fuel
  | (i, false) :: r, fuel, listed, a, w, hf, hB, hS, h => by
    obtain ⟨o, v, hi, hy, hr⟩ := h
    simp only [ordB, Bool.and_eq_true] at hB
    obtain ⟨⟨b1, b2⟩, b3⟩ := hB
    cases fuel with
    | zero => simp at hf
    | succ fuel => exact wpAnyH_take hi hs b1 b2 (fun c a w h => hQ c a _ _ w h) hy hS (wpAnyH_ord hs hQ r fuel _ _ w (by simpa using hf) b3 hS hr)
  | (i, true) :: r, fuel, listed, a, w, hf, hB, hS, h => by
    obtain ⟨o, hi, hw, hK⟩ := h
    simp only [ordB, Bool.and_eq_true, decide_eq_true_eq] at hB
    obtain ⟨b1, b3⟩ := hB
    cases fuel with
    | zero => simp at hf
    | succ fuel =>
      refine wpAnyH_ready b1 (by simp) (AllReadyH.cons hi (fun K' hK' => ?_) AllReadyH.nil)
      rw [if_pos hw]
      exact hK K' (fun a' w' hS' hr => hK'.out a' w' hS' (fun _ => wpAnyH_ord hs hQ r fuel _ a' w' (by simpa using hf) b3 hS' hr))
theorem wp_region_ord {id : Nat} {a : Act} {w : World} {l : List Oper} (S : World → Prop) (ord : List (Nat × Bool)) (hm : P.follows .mixedOrders = true)
    (hs : (Region.noSelect l.toArray && ordB .any l.toArray ord (Array.replicate l.length false) && decide (ord.length ≤ l.length)) = true) (hS : S w.drew) (h : wpOrd P l.toArray S (NoPanic Q) ord a w.drew) : (Code.region id l.toArray true).wp P Q a w := by
  simp only [Bool.and_eq_true, decide_eq_true_eq] at hs
  refine wp_region_noPanic (wp_region_held_drew (S := S) hm hS (fun _ => ?_))
  exact wpAnyH_ord hs.1.1 (fun _ _ _ _ _ h => h) ord _ _ a _ (by simpa using hs.2) (by simpa using hs.1.2) hS h
/-- a value that the operation yields under S -/
theorem ord_yield {i d : Nat} {r : List (Nat × Bool)} {a : Act} {w : World} {o : Oper} (v : Value) (hi : ops[i]? = some o) (hd : o.dst = some d) (hw : Region.wanted o (yielded ops a.tmps) = true) (hy : ∀ w', S w' → (execOp a.eval o).run P w' = .ok (.value v) w')
    (h : wpOrd P ops S Q r (a.put (some d) v) w) : wpOrd P ops S Q ((i, false) :: r) a w := ⟨o, v, hi, .inl ⟨hw, hy⟩, by rw [hd]; exact h⟩
theorem ord_move {i d : Nat} {r : List (Nat × Bool)} {a : Act} {w : World} {o : Oper} (x : Operand) (hi : ops[i]? = some o) (hd : o.dst = some d) (hw : Region.wanted o (yielded ops a.tmps) = true) (ho : o.op = .move x)
    (h : wpOrd P ops S Q r (a.put (some d) (a.eval x)) w) : wpOrd P ops S Q ((i, false) :: r) a w := ⟨o, _, hi, .inl ⟨hw, fun w' _ => BigFrame.run_move x ho w'⟩, by rw [hd]; exact h⟩
/-- an operation that is passed over -/
theorem ord_skip {i d : Nat} {r : List (Nat × Bool)} {a : Act} {w : World} {o : Oper} (hi : ops[i]? = some o) (hd : o.dst = some d) (hw : Region.wanted o (yielded ops a.tmps) = false)
    (h : wpOrd P ops S Q r (a.put (some d) undef) w) : wpOrd P ops S Q ((i, false) :: r) a w := ⟨o, undef, hi, .inr ⟨hw, rfl⟩, by rw [hd]; exact h⟩
theorem ord_step {i : Nat} {r : List (Nat × Bool)} {a : Act} {w : World} {o : Oper} (hi : ops[i]? = some o) (hw : Region.wanted o (yielded ops a.tmps) = true)
    (h : ∀ K : Act → World → Prop, (∀ a' w', S w' → wpOrd P ops S Q r a' w' → K a' w') → o.wp P a w K Q) : wpOrd P ops S Q ((i, true) :: r) a w := ⟨o, hi, hw, h⟩
theorem ord_done {a : Act} {w : World} (h : Q .normal a w) : wpOrd P ops S (NoPanic Q) [] a w := NoPanic.normal h
end
end Go.Proofs.Ytjbjhjlfcbhaiaa
