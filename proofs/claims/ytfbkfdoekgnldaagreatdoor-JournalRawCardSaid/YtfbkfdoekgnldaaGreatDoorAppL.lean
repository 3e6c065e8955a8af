/- Appends of whole lists to a slice that a walk owns. -/
import Derived.Test.YtfbkfdoekgnldaaGreatDoorCopyL
namespace Go.Proofs.YtfbkfdoekgnldaaGreatDoor
open Go.RowKit
set_option maxRecDepth 10000 in
theorem own_append_list {α : Type} {c : α → List Value} {m : Nat} (hm : ∀ x, (c x).length = m) (h1 : ∀ x, ∀ u ∈ c x, u.oneCell' = true) (t e : TypeId) (z : Value) (bytes : Nat)
    (ht : Tryz.prog.underlying t = some (.slice e)) (hi : (Tryz.prog.info? e).map (fun i => (i.zero, i.size, i.bytes)) = some (some z, m, bytes)) (hz : z.cells.size = m) (hm0 : 0 < m) (hby : bytes ≤ 1000)
    (W : World) (g cp : Nat) (l : List α) (ty : TypeId) (h : OwnL W e m c (.slice (some ⟨g, 0, none⟩) l.length cp) l) (a : Option Addr) (k : List α) (cap : Nat) (hk : RdL W m c (.slice a k.length cap) k) (hl : l.length + k.length ≤ 1000000) :
    ∃ v' W', (Builtin.append_ #[t, t] ty #[.slice (some ⟨g, 0, none⟩) l.length cp, .slice a k.length cap]).run Tryz.prog W = .ok v' W' ∧ OwnL W' e m c v' (l ++ k) ∧ (∀ x ∈ blks v', x = g ∨ x = W.heap.size) ∧ Only [g] W W' ∧ v' ≠ .slice none 0 0 := by
  obtain ⟨i, hi1, hi2, hi3, hi4⟩ := info_parts hi
  cases a with
  | none =>
    have hl0 : k = [] := by
      obtain ⟨a, cap', hv, h | ⟨b, o, h, _⟩⟩ := hk
      · exact h
      · injection hv with hv; rw [← hv] at h; cases h
    subst hl0
    obtain ⟨_, cap', hsh, hle, _⟩ := h.shape
    injection hsh with _ _ hsh
    subst hsh
    refine ⟨.slice (some ⟨g, 0, none⟩) l.length cp, W, ?_, by rw [List.append_nil]; exact h, by simp [blks, Value.ownBlock], Only.refl _ _, by simp⟩
    simp [Builtin.append_, run_underlying ht, sizeOf, typeInfo, hi1, Builtin.lenOf, Builtin.firstCells, hle, storeCells]
  | some ad =>
    have hc : ∀ j u, (flat c k)[j]? = some u → W.cell? (ad.add j) = some u := by
      intro j u hu
      obtain ⟨a, cap', hv, hl0 | ⟨b, o, rfl, hr⟩⟩ := hk
      · subst hl0; simp [flat] at hu
      · injection hv with hv
        obtain rfl := Option.some.inj hv
        rw [Addr.add_lit]; exact hr j u hu
    have hone : ∀ u ∈ flat c k, u.oneCell' = true := by
      intro u hu
      obtain ⟨x, _, hx⟩ := List.mem_flatMap.1 hu
      exact h1 x u hx
    obtain ⟨v', W', hrun, h2, h3, h4, h5⟩ := run_append_own_at (P := Tryz.prog) W 0 t ty e i z m bytes ht hi1 hi2 hi3 hi4 hz hm0 _ l.length (flat c l) h ad k.length cap (flat c k) (flat_length hm k) hc hone (by unfold maxLen; omega)
      (Nat.le_trans (Nat.mul_le_mul (show l.length + k.length ≤ 1000000 from hl) hby) (by decide)) (Nat.zero_le _)
    refine ⟨v', W', hrun, ?_, ?_, ?_, ?_⟩
    · unfold OwnL
      rw [List.length_append, flat_append]
      exact h2
    · intro x hx
      rcases h5 with h5 | h5
      · left; unfold blks at hx; rw [h5] at hx; simpa [Value.ownBlock] using hx
      · right; unfold blks at hx; rw [h5] at hx; simpa using hx
    · exact (Only.refl _ _).grown h3 (fun x hx => .inl (by simp [Value.ownBlock] at hx; simp [hx]))
    · intro e; have := (h4.1 e).1; simp at this
set_option maxRecDepth 10000 in
/-- an empty slice in a block that was just made -/
theorem Has.empty {w W : World} {rs : List (Res w.heap.size)} (h : Has w W rs) {α : Type} (e : TypeId) (m : Nat) (c : α → List Value) : Has w (W.alloc (.cells #[] e)) (OwnR _ e m c (.slice (some ⟨W.heap.size, 0, none⟩) 0 0) [] :: rs) :=
  h.more ((Below.refl _ _).alloc (Nat.le_refl _) _) _ [W.heap.size] ⟨⟨by simp [flat], .inr ⟨W.heap.size, 0, #[], rfl, Nat.zero_le _, heap_alloc_new _ _, by simp, by unfold maxLen; omega, by simp, by simp [flat]⟩⟩, rfl⟩ (by simp)
set_option maxRecDepth 10000 in
theorem Has.appendL {w W : World} {α : Type} {c : α → List Value} {m : Nat} (hm : ∀ x, (c x).length = m) (h1 : ∀ x, ∀ u ∈ c x, u.oneCell' = true) (t e : TypeId) (z : Value) (bytes : Nat)
    (ht : Tryz.prog.underlying t = some (.slice e)) (hi : (Tryz.prog.info? e).map (fun i => (i.zero, i.size, i.bytes)) = some (some z, m, bytes)) (hz : z.cells.size = m) (hm0 : 0 < m) (hby : bytes ≤ 1000)
    (l1 : List (Res w.heap.size)) {l2 : List (Res w.heap.size)} {g cp : Nat} {l : List α} (ty : TypeId) (h : Has w W (l1 ++ OwnR _ e m c (.slice (some ⟨g, 0, none⟩) l.length cp) l :: l2)) (a : Option Addr) (k : List α) (cap : Nat) (hk : RdL W m c (.slice a k.length cap) k) (hl : l.length + k.length ≤ 1000000) :
    ∃ g' cp' W', (Builtin.append_ #[t, t] ty #[.slice (some ⟨g, 0, none⟩) l.length cp, .slice a k.length cap]).run Tryz.prog W = .ok (.slice (some ⟨g', 0, none⟩) (l ++ k).length cp') W' ∧ Has w W' (l1 ++ OwnR _ e m c (.slice (some ⟨g', 0, none⟩) (l ++ k).length cp') (l ++ k) :: l2) := by
  have h0 := h.perm List.perm_middle
  obtain ⟨F, ⟨hO, rfl⟩, hF, _, hT⟩ := h0.focus
  obtain ⟨v', W', hrun, h2, h3, h4, h5⟩ := own_append_list hm h1 t e z bytes ht hi hz hm0 hby W g cp l ty hO a k cap hk hl
  rcases h2.cases with ⟨e, _⟩ | ⟨g', cp', _, rfl, _⟩
  · exact absurd e h5
  refine ⟨g', cp', W', hrun, (hT W' (OwnR _ e m c (.slice (some ⟨g', 0, none⟩) (l ++ k).length cp') (l ++ k)) _ (h4.mono (by intro x hx; simpa [blks, Value.ownBlock] using hx)) ⟨h2, rfl⟩ (fun x hx => ?_)).perm List.perm_middle.symm⟩
  rcases h3 x hx with h | h
  · left; simp [blks, Value.ownBlock, h]
  · right; omega
set_option maxRecDepth 10000 in
/-- a list's cells in a block of their own, read as a list -/
theorem rdl_block {α : Type} {c : α → List Value} {m : Nat} {W : World} {b : Nat} {cs : Array Value} {t : TypeId} (h : W.heap[b]? = some (.cells cs t (0, 0))) (l : List α) (hc : cs.toList = flat c l) (cap : Nat) : RdL W m c (.slice (some ⟨b, 0, none⟩) l.length cap) l :=
  ⟨_, _, rfl, .inr ⟨b, 0, rfl, rangeAt_row h _ _ (fun j v hv => by rw [Nat.zero_add, ← Array.getElem?_toList, hc]; exact hv)⟩⟩
end Go.Proofs.YtfbkfdoekgnldaaGreatDoor
