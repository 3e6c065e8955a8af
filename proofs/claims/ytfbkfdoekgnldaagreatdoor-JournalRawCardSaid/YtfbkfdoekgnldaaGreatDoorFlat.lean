/- Rows whose elements are several cells long: an element read, written, one more behind. -/
import Derived.Test.YtfbkfdoekgnldaaGreatDoorHas
import Derived.Deep.MidRow
import Derived.Maps.AppendAt
namespace Go.Proofs.YtfbkfdoekgnldaaGreatDoor
open Go.RowKit
section
variable {α : Type} {c : α → List Value} {m : Nat}
/-- the cells of a list -/
def flat (c : α → List Value) (l : List α) : List Value := l.flatMap c
theorem flat_nil : flat c [] = [] := rfl
theorem flat_cons (x : α) (l : List α) : flat c (x :: l) = c x ++ flat c l := rfl
theorem flat_append (l k : List α) : flat c (l ++ k) = flat c l ++ flat c k := by simp [flat]
theorem flat_one (x : α) : flat c [x] = c x := by simp [flat]
theorem flat_length (hm : ∀ x, (c x).length = m) (l : List α) : (flat c l).length = l.length * m := by
  induction l with
  | nil => simp [flat]
  | cons x l ih => rw [flat_cons, List.length_append, hm, ih, List.length_cons, Nat.succ_mul]; omega
theorem flat_cell (hm : ∀ x, (c x).length = m) (l : List α) (i : Nat) (x : α) (hx : l[i]? = some x) (j : Nat) (hj : j < m) : (flat c l)[i * m + j]? = (c x)[j]? := by
  induction l generalizing i with
  | nil => simp at hx
  | cons y l ih =>
    rw [flat_cons]
    cases i with
    | zero =>
      simp at hx; subst hx
      rw [Nat.zero_mul, Nat.zero_add, List.getElem?_append_left (by rw [hm]; exact hj)]
    | succ i =>
      simp at hx
      have e : (i + 1) * m + j = m + (i * m + j) := by rw [Nat.succ_mul]; omega
      rw [e, List.getElem?_append_right (by rw [hm]; omega), hm, Nat.add_sub_cancel_left]
      exact ih i hx
theorem flat_set (hm : ∀ x, (c x).length = m) (l : List α) (i : Nat) (x : α) (hi : i < l.length) :
    flat c (l.set i x) = (flat c l).take (i * m) ++ c x ++ (flat c l).drop (i * m + m) := by
  induction l generalizing i with
  | nil => simp at hi
  | cons y l ih =>
    cases i with
    | zero =>
      simp only [List.set_cons_zero, flat_cons, Nat.zero_mul, List.take_zero, List.nil_append, Nat.zero_add]
      rw [show List.drop m (c y ++ flat c l) = flat c l from by rw [← hm y, List.drop_left]]
    | succ i =>
      simp only [List.set_cons_succ, flat_cons]
      have hi' : i < l.length := by simpa using hi
      rw [ih i hi']
      have e1 : (i + 1) * m = (c y).length + i * m := by rw [hm, Nat.succ_mul]; omega
      rw [e1, List.take_length_add_append, show (c y).length + i * m + m = (c y).length + (i * m + m) by omega, List.drop_length_add_append]
      simp [List.append_assoc]
theorem flat_take (hm : ∀ x, (c x).length = m) (l : List α) (k : Nat) (hk : k ≤ l.length) : flat c (l.take k) = (flat c l).take (k * m) := by
  have e : (flat c (l.take k)).length = k * m := by rw [flat_length hm, List.length_take, Nat.min_eq_left hk]
  conv => rhs; rw [← List.take_append_drop k l, flat_append]
  rw [List.take_append_of_le_length (Nat.le_of_eq e.symm), List.take_of_length_le (Nat.le_of_eq e)]
theorem flat_replicate (x : α) (n : Nat) : flat c (List.replicate n x) = (List.replicate n (c x)).flatten := by simp [flat, List.flatMap_replicate]
end
/-- what setCells does to a block that is known whole -/
theorem setCells_block (W : World) (b : Nat) : ∀ (vs : List Value) (o : Nat) (C : Array Value) (t : TypeId), W.heap[b]? = some (.cells C t (0, 0)) → o + vs.length ≤ C.size →
    (W.setCells b o vs).heap[b]? = some (.cells (C.toList.take o ++ vs ++ C.toList.drop (o + vs.length)).toArray t (0, 0))
  | [], o, C, t, h, _ => by
    simp only [World.setCells, h, List.append_nil, List.length_nil, Nat.add_zero, List.take_append_drop]
  | v :: r, o, C, t, h, hs => by
    have hs' : o < C.size := by simp at hs; omega
    rw [World.setCells, setCells_block (W.setCell ⟨b, o, none⟩ v) b r (o + 1) (C.setIfInBounds o v) t (heap_setCell_same W b o _ _ _ h) (by simp at hs ⊢; omega)]
    congr 3
    rw [Array.toList_setIfInBounds]
    apply List.ext_getElem?
    intro j
    simp only [List.length_cons]
    have hCl : C.toList.length = C.size := by simp
    by_cases h1 : j < o
    · simp [List.getElem?_append, hCl, h1, show j < o + 1 by omega, show o ≠ j by omega, show min o C.size = o by omega, show min (o+1) C.size = o + 1 by omega]
    · by_cases h2 : j = o
      · subst h2
        simp [List.getElem?_append, show min j C.size = j by omega, show min (j+1) C.size = j + 1 by omega]
      · simp only [List.getElem?_append, List.getElem?_take, List.getElem?_set, List.length_append, List.length_take, List.length_set, hCl, show min o C.size = o by omega, show min (o+1) C.size = o + 1 by omega, List.length_cons, List.getElem?_drop]
        by_cases h3 : j < o + 1 + r.length
        · rw [if_pos h3, if_pos (show j < o + (r.length + 1) by omega), if_neg (show ¬ j < o + 1 by omega), if_neg h1]
          rw [show j - o = (j - (o + 1)) + 1 by omega, List.getElem?_cons_succ]
        · rw [if_neg h3, if_neg (show ¬ j < o + (r.length + 1) by omega)]
          rw [show o + 1 + r.length + (j - (o + 1 + r.length)) = o + (r.length + 1) + (j - (o + (r.length + 1))) by omega]
          rw [if_neg (show ¬ o = o + (r.length + 1) + (j - (o + (r.length + 1))) by omega)]
section
variable {α : Type} {c : α → List Value} {m : Nat} {W : World} {base : Nat} {e : TypeId} {v : Value} {l : List α}
/-- the slice v has this list; its row is its own -/
abbrev OwnL (W : World) (e : TypeId) (m : Nat) (c : α → List Value) (v : Value) (l : List α) : Prop := W.ownsRow 0 e m v l.length (flat c l)
/-- the blocks of a value that is a slice -/
def blks (v : Value) : List Nat := v.ownBlock.toList
theorem OwnL.lt (h : OwnL W e m c v l) : ∀ k ∈ blks v, k < W.heap.size := by
  intro k hk
  exact (World.ownsRow.lt h k (by simpa [blks] using hk)).2
theorem OwnL.stay {W' : World} (h : OwnL W e m c v l) (hs : ∀ k ∈ blks v, W'.heap[k]? = W.heap[k]?) : OwnL W' e m c v l := by
  obtain ⟨h1, h2⟩ := h
  refine ⟨h1, ?_⟩
  rcases h2 with h | ⟨g, cap, cur, rfl, hb, hc, r⟩
  · exact .inl h
  · exact .inr ⟨g, cap, cur, rfl, hb, (hs g (by simp [blks, Value.ownBlock])).trans hc, r⟩
theorem OwnL.cases (h : OwnL W e m c v l) : (v = .slice none 0 0 ∧ l = []) ∨ ∃ g cap cur, v = .slice (some ⟨g, 0, none⟩) l.length cap ∧ W.heap[g]? = some (.cells cur e (0, 0)) ∧ l.length ≤ cap ∧ cap ≤ maxLen ∧ cur.size = cap * m ∧ cur.toList.take (l.length * m) = flat c l ∧ blks v = [g] := by
  rcases h.2 with ⟨rfl, h0⟩ | ⟨g, cap, cur, rfl, _, r1, r2, r3, r4, r5⟩
  · exact .inl ⟨rfl, List.eq_nil_of_length_eq_zero h0⟩
  · exact .inr ⟨g, cap, cur, rfl, r1, r2, r3, r4, r5, rfl⟩
theorem OwnL.shape (h : OwnL W e m c v l) : ∃ a cap, v = .slice a l.length cap ∧ l.length ≤ cap ∧ cap ≤ maxLen := by
  rcases h.cases with ⟨rfl, rfl⟩ | ⟨g, cap, cur, rfl, _, h2, h3, _⟩
  · exact ⟨none, 0, rfl, Nat.le_refl _, Nat.zero_le _⟩
  · exact ⟨_, _, rfl, h2, h3⟩
theorem OwnL.range (h : OwnL W e m c v l) (hm : ∀ x, (c x).length = m) (i : Nat) (x : α) (hx : l[i]? = some x) : ∃ g cap, v = .slice (some ⟨g, 0, none⟩) l.length cap ∧ blks v = [g] ∧ W.rangeAt g (i * m) (c x) := by
  rcases h.cases with ⟨_, rfl⟩ | ⟨g, cap, cur, rfl, hc, h2, h3, h4, h5, h6⟩
  · simp at hx
  · refine ⟨g, cap, rfl, h6, fun j u hu => ?_⟩
    have hj : j < m := by have := (List.getElem?_eq_some_iff.1 hu).1; rwa [hm] at this
    have hi : i < l.length := (List.getElem?_eq_some_iff.1 hx).1
    have hcell := flat_cell hm l i x hx j hj
    rw [hu, ← h5, List.getElem?_take] at hcell
    split at hcell
    · rw [cell_of_row W g _ _ _ _ hc]; simpa using hcell
    · cases hcell
theorem OwnL.there (h : OwnL W e m c v l) (i : Nat) (hi : i < l.length) : ∃ g cap, v = .slice (some ⟨g, 0, none⟩) l.length cap ∧ blks v = [g] ∧ W.there g (i * m) m := by
  rcases h.cases with ⟨_, rfl⟩ | ⟨g, cap, cur, rfl, hc, h2, h3, h4, h5, h6⟩
  · simp at hi
  · refine ⟨g, cap, rfl, h6, fun j hj => ?_⟩
    have hlt : i * m + j < cur.size := by
      rw [h4]
      have : (i + 1) * m ≤ cap * m := Nat.mul_le_mul_right _ (by omega)
      rw [Nat.succ_mul] at this; omega
    rw [cell_of_row W g _ _ _ _ hc]
    exact ⟨by simp [hlt], frozen_of_row W g _ _ _ hc⟩
theorem OwnL.put (h : OwnL W e m c v l) (hm : ∀ x, (c x).length = m) (i : Nat) (x : α) (hi : i < l.length) : ∃ g cap, v = .slice (some ⟨g, 0, none⟩) l.length cap ∧ blks v = [g] ∧ OwnL (W.setCells g (i * m) (c x)) e m c v (l.set i x) := by
  have h1 := h.1
  rcases h.cases with ⟨_, rfl⟩ | ⟨g, cap, cur, rfl, hc, h2, h3, h4, h5, h6⟩
  · simp at hi
  · have hle : i * m + m ≤ l.length * m := by
      have : (i + 1) * m ≤ l.length * m := Nat.mul_le_mul_right _ (by omega)
      rw [Nat.succ_mul] at this; exact this
    have hle2 : l.length * m ≤ cap * m := Nat.mul_le_mul_right _ h2
    refine ⟨g, cap, rfl, h6, ⟨by rw [flat_length hm], .inr ⟨g, cap, _, by rw [List.length_set], Nat.zero_le _, setCells_block W g (c x) (i * m) cur e hc (by rw [hm, h4]; omega), by rw [List.length_set]; exact h2, h3, ?_, ?_⟩⟩⟩
    · have hcl : cur.toList.length = cap * m := by simpa using h4
      simp only [List.size_toArray, List.length_append, List.length_take, List.length_drop, hm, hcl]; omega
    · rw [flat_set hm l i x hi, List.length_set, hm]
      have hcl : cur.toList.length = cap * m := by simpa using h4
      have e1 : (flat c l).take (i * m) = cur.toList.take (i * m) := by rw [← h5, List.take_take, Nat.min_eq_left (by omega)]
      have e2 : (flat c l).drop (i * m + m) = (cur.toList.take (l.length * m)).drop (i * m + m) := by rw [h5]
      rw [e1, e2, List.drop_take]
      have e3 : l.length * m = (cur.toList.take (i * m) ++ c x).length + (l.length * m - (i * m + m)) := by simp only [List.length_append, List.length_take, hm, hcl]; omega
      rw [List.toList_toArray]
      conv => lhs; rw [e3]
      rw [List.take_length_add_append]
end
end Go.Proofs.YtfbkfdoekgnldaaGreatDoor
