/- Lists that a walk makes: append([]T{}, l...), make([]int, n), one cell of an element written. -/
import Derived.Test.YtfbkfdoekgnldaaGreatDoorOwnR
import Derived.OwnWalk
namespace Go.Proofs.YtfbkfdoekgnldaaGreatDoor
open Go.RowKit
section
variable {α : Type} {c : α → List Value} {m : Nat}
set_option maxRecDepth 10000 in
/-- 'append([]T{}, v...)' -/
theorem run_copy_app (hm : ∀ x, (c x).length = m) (h1 : ∀ x, ∀ u ∈ c x, u.oneCell' = true) (t e : TypeId) (z : Value) (bytes : Nat)
    (ht : Tryz.prog.underlying t = some (.slice e)) (hi : (Tryz.prog.info? e).map (fun i => (i.zero, i.size, i.bytes)) = some (some z, m, bytes)) (hz : z.cells.size = m) (hm0 : 0 < m) (hby : bytes ≤ 1000)
    (W : World) (a : Option Addr) (l : List α) (cap : Nat) (ty : TypeId) (h : RdL W m c (.slice a l.length cap) l) (hl : l.length ≤ 1000000) :
    ∃ v' W', (Builtin.append_ #[t, t] ty #[.slice (some ⟨W.heap.size, 0, none⟩) 0 0, .slice a l.length cap]).run Tryz.prog (W.alloc (.cells #[] e)) = .ok v' W' ∧ OwnL W' e m c v' l ∧ (∀ k ∈ blks v', W.heap.size ≤ k) ∧ Below W.heap.size W W' := by
  cases a with
  | some ad => exact run_clone_app hm h1 t e z bytes ht hi hz hm0 hby W ad l cap ty h hl
  | none =>
    have hl0 : l = [] := by
      obtain ⟨a, cap', hv, h | ⟨b, o, h, _⟩⟩ := h
      · exact h
      · injection hv with hv; rw [← hv] at h; cases h
    subst hl0
    obtain ⟨i0, hi, hz0, hz1, hz2⟩ := info_parts hi
    refine ⟨.slice (some ⟨W.heap.size, 0, none⟩) 0 0, W.alloc (.cells #[] e), ?_, ⟨by simp [flat], .inr ⟨W.heap.size, 0, #[], rfl, Nat.zero_le _, heap_alloc_new _ _, by simp, by unfold maxLen; omega, by simp, by simp [flat]⟩⟩, by simp [blks, Value.ownBlock], (Below.refl _ _).alloc (Nat.le_refl _) _⟩
    simp [Builtin.append_, run_underlying ht, sizeOf, typeInfo, hi, Builtin.lenOf, Builtin.firstCells, storeCells]
theorem run_buildSlice0 (t e : TypeId) (ht : Tryz.prog.underlying t = some (.slice e)) (hs : ∀ w, ∃ n, (sizeOf e).run Tryz.prog w = .ok n w) (w : World) : (Instr.buildSlice t 0 #[]).run Tryz.prog w = .ok (.slice (some ⟨w.heap.size, 0, none⟩) 0 0) (w.alloc (.cells #[] e)) := by
  obtain ⟨n, hs⟩ := hs w
  simp [Instr.buildSlice, Sem.run_bind, run_underlying ht, Result.andThen_ok, Instr.fill, newRow, range0_map, hs]
theorem flat_set1 (hm : ∀ x, (c x).length = m) (l : List α) (k j : Nat) (x x' : α) (u : Value) (hx : l[k]? = some x) (hj : j < m) (hc : c x' = (c x).set j u) : flat c (l.set k x') = (flat c l).set (k * m + j) u := by
  induction l generalizing k with
  | nil => simp at hx
  | cons y l ih =>
    cases k with
    | zero =>
      simp at hx; subst hx
      rw [List.set_cons_zero, flat_cons, flat_cons, hc, Nat.zero_mul, Nat.zero_add, List.set_append_left _ _ (by rw [hm]; exact hj)]
    | succ k =>
      simp at hx
      rw [List.set_cons_succ, flat_cons, flat_cons, ih k hx, List.set_append_right _ _ (by rw [hm, Nat.succ_mul]; omega)]
      congr 2
      rw [hm, Nat.succ_mul]; omega
/-- one cell of an element is written -/
theorem OwnL.set1 {W : World} {e : TypeId} {v : Value} {l : List α} (h : OwnL W e m c v l) (hm : ∀ x, (c x).length = m) (k j : Nat) (x x' : α) (u : Value) (hx : l[k]? = some x) (hj : j < m) (hc : c x' = (c x).set j u) :
    ∃ g cap, v = .slice (some ⟨g, 0, none⟩) l.length cap ∧ blks v = [g] ∧ W.cell? ⟨g, k * m + j, none⟩ = (c x)[j]? ∧ W.frozen? ⟨g, k * m + j, none⟩ = false ∧ OwnL (W.setCell ⟨g, k * m + j, none⟩ u) e m c v (l.set k x') := by
  have hk : k < l.length := (List.getElem?_eq_some_iff.1 hx).1
  have h1 := h.1
  rcases h.cases with ⟨_, rfl⟩ | ⟨g, cap, cur, rfl, hcu, h2, h3, h4, h5, h6⟩
  · simp at hk
  · have hle : k * m + m ≤ l.length * m := by
      have : (k + 1) * m ≤ l.length * m := Nat.mul_le_mul_right _ (by omega)
      rw [Nat.succ_mul] at this; exact this
    have hle2 : l.length * m ≤ cap * m := Nat.mul_le_mul_right _ h2
    have hcell := flat_cell hm l k x hx j hj
    refine ⟨g, cap, rfl, h6, ?_, frozen_of_row W g _ _ _ hcu, ⟨by rw [flat_length hm], .inr ⟨g, cap, _, by rw [List.length_set], Nat.zero_le _, heap_setCell_same W g _ _ _ _ hcu, by rw [List.length_set]; exact h2, h3, by simpa using h4, ?_⟩⟩⟩
    · rw [cell_of_row W g _ _ _ _ hcu, ← hcell, ← h5, List.getElem?_take, if_pos (by omega)]; simp
    · rw [List.length_set, flat_set1 hm l k j x x' u hx hj hc, ← h5, Array.toList_setIfInBounds, List.take_set]
end
/-- one cell of an element of a slice that is owned is written -/
theorem Has.set1 {w W : World} {α : Type} {c : α → List Value} {m : Nat} {e : TypeId} {v : Value} {l : List α} (l1 : List (Res w.heap.size)) {l2 : List (Res w.heap.size)} (h : Has w W (l1 ++ OwnR _ e m c v l :: l2)) (hm : ∀ x, (c x).length = m) (k j : Nat) (x x' : α) (u : Value) (hx : l[k]? = some x) (hj : j < m) (hc : c x' = (c x).set j u) :
    ∃ g cap, v = .slice (some ⟨g, 0, none⟩) l.length cap ∧ W.cell? ⟨g, k * m + j, none⟩ = (c x)[j]? ∧ W.frozen? ⟨g, k * m + j, none⟩ = false ∧ Has w (W.setCell ⟨g, k * m + j, none⟩ u) (l1 ++ OwnR _ e m c v (l.set k x') :: l2) := by
  have h0 := h.perm List.perm_middle
  obtain ⟨F, ⟨hO, rfl⟩, hF, _, hT⟩ := h0.focus
  obtain ⟨g, cap, rfl, hb, h3, h4, h5⟩ := hO.set1 hm k j x x' u hx hj hc
  refine ⟨g, cap, rfl, h3, h4, ?_⟩
  exact (hT _ (OwnR _ e m c _ (l.set k x')) _ ((Only.refl _ _).setCell _ _ (.inl (by rw [hb]; simp))) ⟨h5, rfl⟩ (fun k hk => .inl hk)).perm List.perm_middle.symm
/-- numbers that are filled in from the front -/
def upI (n k : Nat) : List Int := (List.range n).map fun i => if i < k then (i : Int) else 0
theorem upI_len (n k : Nat) : (upI n k).length = n := by simp [upI]
theorem upI_set (n k : Nat) : (upI n k).set k (k : Int) = upI n (k + 1) := by
  apply List.ext_getElem
  · simp [upI]
  · intro i h1 h2
    simp only [List.getElem_set, upI, List.getElem_map, List.getElem_range]
    by_cases h : k = i
    · subst h; simp
    · rw [if_neg h]
      by_cases h3 : i < k
      · rw [if_pos h3, if_pos (by omega)]
      · rw [if_neg h3, if_neg (by omega)]
theorem upI_get (n k i : Nat) (hi : i < n) : (upI n k)[i]? = some (if i < k then (i : Int) else 0) := by simp [upI, hi]
theorem upI_all (n : Nat) : upI n n = (List.range n).map Int.ofNat := by
  apply List.map_congr_left
  intro i hi
  rw [if_pos (by simpa using hi)]; rfl
/-- 'make([]int, n)' -/
theorem Has.makeInts {w W : World} {rs : List (Res w.heap.size)} (h : Has w W rs) (kl kc : IntKind) (n : Nat) (hn : n ≤ 1000000) :
    ∃ v W', (Instr.makeSlice 82 (.int kl (n : Int)) (.int kc (n : Int))).run Tryz.prog W = .ok v W' ∧ (∃ a cap, v = .slice a n cap) ∧ Has w W' (OwnR _ 3 1 intL v (upI n 0) :: rs) := by
  obtain ⟨i0, hi, hz0, hz1, hz2⟩ := info_parts int_info
  obtain ⟨W', hrun, hO, hg⟩ := run_makeSlice_full (P := Tryz.prog) (w := W) 0 82 3 i0 (.int .i64 0) 1 Tryz.underlying82 hi hz0 hz1 kl kc n (by omega) (by rw [hz2]; omega) (by unfold maxLen; omega) (Nat.zero_le _)
  have hB : Below W.heap.size W W' := (Below.refl _ _).grown hg (Nat.le_refl _) (by simp)
  refine ⟨_, W', hrun, ⟨_, _, rfl⟩, h.more hB _ [W.heap.size] ⟨?_, rfl⟩ (by simp)⟩
  have e : (madeCells (Value.int .i64 0).cells (n * 1)).toList = flat intL (upI n 0) := by
    apply List.ext_getElem?
    intro i
    by_cases hi : i < n
    · have hc := flat_cell (c := intL) intL_len (upI n 0) i 0 (by rw [upI_get n 0 i hi]; rfl) 0 (by decide)
      rw [Nat.mul_one, Nat.add_zero] at hc
      rw [hc]
      simp [madeCells, Value.cells, hi, intL, Nat.mod_one]
    · rw [List.getElem?_eq_none (by simp [madeCells]; omega), List.getElem?_eq_none (by rw [flat_length intL_len, upI_len]; omega)]
  rw [e] at hO
  unfold OwnL
  rw [upI_len]
  exact hO
end Go.Proofs.YtfbkfdoekgnldaaGreatDoor
