/- A slice as the row hands it in, its elements of several cells: read as a list. -/
import Derived.Test.YtfbkfdoekgnldaaGreatDoorClone
import Derived.Deep.SlicePairs
import Derived.ProofKit
import Derived.OpenShut
import Derived.ChangeOld
import Derived.Lib.SmallJoins
namespace Go.Proofs.YtfbkfdoekgnldaaGreatDoor
open Go.ChangeShapes Go.WideShapes Go.ChangeAt Go.RowKit Go.Joins Go.Deep
theorem addr_flat {w : World} {a : Addr} {v : Value} (h : w.cell? a = some v) : a = ⟨a.block, a.off, none⟩ ∧ a.block < w.heap.size := by
  unfold World.cell? at h
  cases hb : w.heap[a.block]? with
  | none => simp [hb] at h
  | some o =>
    have hlt := (Array.getElem?_eq_some_iff.1 hb).1
    refine ⟨?_, hlt⟩
    cases o with
    | cells c t z =>
      simp only [hb] at h
      split at h
      · cases h
      · rename_i hs
        obtain ⟨x, y, z⟩ := a
        cases z with
        | none => rfl
        | some _ => simp at hs
    | _ => simp [hb] at h
section
variable {H : Type} {enc : TypeId × Value → H} {w : World} {base : Nat} {spare : Nat → Bool} {held : Bool}
/-- the list that a slice's cells are -/
theorem open_rdl {α : Type} [Inhabited α] {c : α → List Value} {m : Nat} (hm : ∀ x, (c x).length = m) (hm0 : 0 < m) {t e : TypeId} (ht : Tryz.prog.underlying t = some (.slice e)) (ce : Tryz.prog.cellsOf e = m)
    (each : ∀ (n : Nat) (cs : List Value) (y : DataW H × List MemPlace), cs.length = m → DataW.trod enc Tryz.prog w base spare held n e cs = some y → ∃ x, cs = c x)
    {fuel : Nat} {v : Value} {x : DataW H × List MemPlace} (h : DataW.trod enc Tryz.prog w base spare held fuel t [v] = some x) : ∃ l : List α, RdL w m c v l ∧ l.length ≤ maxLen := by
  rcases open_slice ht h with ⟨hc, _⟩ | ⟨a, len, cap, mm, n, D, Pl, hc, hb, hl, hmx, hmm, _, hi⟩
  · simp only [List.cons.injEq, and_true] at hc
    subst hc
    exact ⟨[], ⟨none, 0, rfl, .inl rfl⟩, by simp⟩
  · simp only [List.cons.injEq, and_true] at hc
    subst hc
    have hlm : len ≤ mm := by rw [hmm]; split <;> omega
    have hall : ∀ i, i < len → ∃ q : α, w.cells? base (a.add (i * m)) m = some (c q) := by
      intro i h
      obtain ⟨cs', h1, h2⟩ := hi i (by omega)
      rw [ce] at h1
      obtain ⟨_, hlen, _⟩ := World.cells?_some h1
      obtain ⟨q, rfl⟩ := each n cs' _ hlen h2
      exact ⟨q, h1⟩
    obtain ⟨Q, hQ⟩ := choose_lt hall
    refine ⟨(List.range len).map Q, ⟨some a, cap, by simp, ?_⟩, by simp; omega⟩
    by_cases h0 : len = 0
    · subst h0; exact .inl rfl
    · right
      have hcell : ∀ i, i < len → ∀ j, j < m → w.cell? ((a.add (i * m)).add j) = (c (Q i))[j]? := fun i hi => (World.cells?_some (hQ i hi)).2.2
      have h00 := hcell 0 (by omega) 0 hm0
      have hq0 : (c (Q 0))[0]? = some ((c (Q 0))[0]'(by rw [hm]; exact hm0)) := List.getElem?_eq_getElem _
      rw [hq0, Nat.zero_mul, show (a.add 0).add 0 = a from rfl] at h00
      have hp := addr_flat h00
      refine ⟨a.block, a.off, by rw [← hp.1], fun j u hu => ?_⟩
      have hj : j < len * m := by have := (List.getElem?_eq_some_iff.1 hu).1; rw [flat_length hm] at this; simpa using this
      have hi : j / m < len := (Nat.div_lt_iff_lt_mul hm0).2 hj
      have hr : j % m < m := Nat.mod_lt _ hm0
      have he : j / m * m + j % m = j := by rw [Nat.mul_comm]; exact Nat.div_add_mod j m
      have hf := flat_cell hm ((List.range len).map Q) (j / m) (Q (j / m)) (by simp [hi]) (j % m) hr
      rw [he, hu] at hf
      have hc := hcell (j / m) hi (j % m) hr
      rw [hp.1, Addr.add_lit, Addr.add_lit] at hc
      rw [show a.off + j = a.off + j / m * m + j % m by omega, hc, ← hf]
end
end Go.Proofs.YtfbkfdoekgnldaaGreatDoor
