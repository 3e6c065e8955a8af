/- Blocks that a walk has made and still reads: carried over calls and new blocks. -/
import Derived.Test.YtfbkfdoekgnldaaGreatDoorBase
namespace Go.Proofs.YtfbkfdoekgnldaaGreatDoor
open Go.RowKit
structure Keep (w W : World) (bs : List (Nat × Obj)) : Prop where
  hB : Below w.heap.size w W
  hb : ∀ x ∈ bs, W.heap[x.1]? = some x.2
theorem Keep.start (w : World) : Keep w w [] := ⟨Below.refl _ _, fun _ h => by cases h⟩
theorem Keep.at {w W : World} {bs : List (Nat × Obj)} (h : Keep w W bs) (n : Nat) (x : Nat × Obj) (hx : bs[n]? = some x) : W.heap[x.1]? = some x.2 :=
  h.hb x (List.mem_of_getElem? hx)
theorem Keep.lt {w W : World} {bs : List (Nat × Obj)} (h : Keep w W bs) (n : Nat) (x : Nat × Obj) (hx : bs[n]? = some x) : x.1 < W.heap.size :=
  (Array.getElem?_eq_some_iff.1 (h.at n x hx)).1
theorem Keep.below {w W W' : World} {bs : List (Nat × Obj)} (h : Keep w W bs) (hb : Below W.heap.size W W') : Keep w W' bs :=
  ⟨h.hB.trans (hb.mono h.hB.size), fun x hx => (hb.block x.1 (Array.getElem?_eq_some_iff.1 (h.hb x hx)).1).trans (h.hb x hx)⟩
theorem Keep.alloc {w W : World} {bs : List (Nat × Obj)} (h : Keep w W bs) (o : Obj) : Keep w (W.alloc o) ((W.heap.size, o) :: bs) := by
  have h1 := h.below ((Below.refl _ _).alloc (Nat.le_refl _) o)
  refine ⟨h1.hB, fun x hx => ?_⟩
  rcases List.mem_cons.1 hx with rfl | hx
  · exact heap_alloc_new _ _
  · exact h1.hb x hx
theorem Keep.allocAt {w W : World} {bs : List (Nat × Obj)} (h : Keep w W bs) (o : Obj) (n : Nat) (hn : n = W.heap.size) : Keep w (W.alloc o) ((n, o) :: bs) := by subst hn; exact h.alloc o
theorem Keep.drew {w W : World} {bs : List (Nat × Obj)} (h : Keep w W bs) : Keep w W.drew bs := ⟨h.hB.drew, h.hb⟩
theorem Keep.drewN {w W : World} {bs : List (Nat × Obj)} (h : Keep w W bs) (n : Nat) : Keep w (W.drewN n) bs := ⟨h.hB.trans ⟨rfl, rfl, rfl, Nat.le_refl _, fun _ _ => rfl⟩, h.hb⟩
/-- a block of the walk's own that is written anew: the first one of the list -/
theorem Keep.setRow {w W : World} {bs : List (Nat × Obj)} {g : Nat} {cs : Array Value} {t : TypeId} (h : Keep w W ((g, .cells cs t (0, 0)) :: bs)) (hg : w.heap.size ≤ g) (hn : ∀ x ∈ bs, x.1 ≠ g) (cs' : Array Value) :
    Keep w (W.setRow g cs') ((g, .cells cs' t (0, 0)) :: bs) := by
  refine ⟨h.hB.trans ⟨rfl, rfl, rfl, by simp, fun k hk => setRow_other W _ _ _ (by omega)⟩, fun x hx => ?_⟩
  rcases List.mem_cons.1 hx with rfl | hx
  · exact setRow_heap W _ _ _ _ _ (h.at 0 _ rfl)
  · exact (setRow_other W _ _ _ (hn x hx)).trans (h.hb x (List.mem_cons_of_mem _ hx))
theorem Keep.setCell {w W : World} {bs : List (Nat × Obj)} {g : Nat} {cs : Array Value} {t : TypeId} (h : Keep w W ((g, .cells cs t (0, 0)) :: bs)) (hg : w.heap.size ≤ g) (hn : ∀ x ∈ bs, x.1 ≠ g) (i : Nat) (v : Value) :
    Keep w (W.setCell ⟨g, i, none⟩ v) ((g, .cells (cs.setIfInBounds i v) t (0, 0)) :: bs) := by
  rw [setCell_eq_setRow W _ _ _ _ _ _ (h.at 0 _ rfl)]; exact h.setRow hg hn _
theorem Keep.cell {w W : World} {bs : List (Nat × Obj)} (h : Keep w W bs) (n g : Nat) (cs : Array Value) (t : TypeId) (hx : bs[n]? = some (g, .cells cs t (0, 0))) (i : Nat) (v : Value) (hv : cs[i]? = some v) : W.cell? ⟨g, i, none⟩ = some v :=
  (cell_of_row W g i _ _ _ (h.at n _ hx)).trans hv
theorem Keep.frozen {w W : World} {bs : List (Nat × Obj)} (h : Keep w W bs) (n g : Nat) (cs : Array Value) (t : TypeId) (hx : bs[n]? = some (g, .cells cs t (0, 0))) (i : Nat) : W.frozen? ⟨g, i, none⟩ = false :=
  frozen_of_row W g _ _ _ (h.at n _ hx)
theorem Keep.drop {w W : World} {bs : List (Nat × Obj)} {x : Nat × Obj} (h : Keep w W (x :: bs)) : Keep w W bs := ⟨h.hB, fun y hy => h.hb y (List.mem_cons_of_mem _ hy)⟩
theorem Keep.swap {w W : World} {bs cs : List (Nat × Obj)} (h : Keep w W bs) (hp : ∀ x ∈ cs, x ∈ bs) : Keep w W cs := ⟨h.hB, fun x hx => h.hb x (hp x hx)⟩
/-- a block of the walk's own that is written, wherever it stands in the list -/
theorem Keep.put {w W : World} (l1 : List (Nat × Obj)) {l2 : List (Nat × Obj)} {g : Nat} {cs : Array Value} {t : TypeId} (h : Keep w W (l1 ++ (g, .cells cs t (0, 0)) :: l2)) (hg : w.heap.size ≤ g) (hn : ∀ x ∈ l1 ++ l2, x.1 ≠ g) (i : Nat) (v : Value) :
    Keep w (W.setCell ⟨g, i, none⟩ v) (l1 ++ (g, .cells (cs.setIfInBounds i v) t (0, 0)) :: l2) := by
  have h1 := (h.swap (cs := (g, .cells cs t (0, 0)) :: (l1 ++ l2)) (by intro x hx; simp at hx ⊢; rcases hx with h | h | h <;> simp [h])).setCell hg hn i v
  exact h1.swap (by intro x hx; simp at hx ⊢; rcases hx with h | h | h <;> simp [h])
theorem Keep.putRow {w W : World} (l1 : List (Nat × Obj)) {l2 : List (Nat × Obj)} {g : Nat} {cs : Array Value} {t : TypeId} (h : Keep w W (l1 ++ (g, .cells cs t (0, 0)) :: l2)) (hg : w.heap.size ≤ g) (hn : ∀ x ∈ l1 ++ l2, x.1 ≠ g) (cs' : Array Value) :
    Keep w (W.setRow g cs') (l1 ++ (g, .cells cs' t (0, 0)) :: l2) := by
  have h1 := (h.swap (cs := (g, .cells cs t (0, 0)) :: (l1 ++ l2)) (by intro x hx; simp at hx ⊢; rcases hx with h | h | h <;> simp [h])).setRow hg hn cs'
  exact h1.swap (by intro x hx; simp at hx ⊢; rcases hx with h | h | h <;> simp [h])
end Go.Proofs.YtfbkfdoekgnldaaGreatDoor
