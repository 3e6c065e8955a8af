/- slices.Clone of sectors and of writes: a slice of its own that has the same. -/
import Derived.Test.YtfbkfdoekgnldaaGreatDoorWrV
namespace Go.Proofs.YtfbkfdoekgnldaaGreatDoor
open Go.RowKit
attribute [local go_sem] Oper.semAt_some
/-- a slice that can be read -/
def RdL {α : Type} (W : World) (_m : Nat) (c : α → List Value) (v : Value) (l : List α) : Prop :=
  ∃ a cap, v = .slice a l.length cap ∧ (l = [] ∨ ∃ b o, a = some ⟨b, o, none⟩ ∧ W.rangeAt b o (flat c l))
theorem OwnL.rd {α : Type} {c : α → List Value} {m : Nat} {W : World} {e : TypeId} {v : Value} {l : List α} (h : OwnL W e m c v l) : RdL W m c v l := by
  rcases h.cases with ⟨rfl, rfl⟩ | ⟨g, cap, cur, rfl, hc, _, _, _, h5, _⟩
  · exact ⟨none, 0, rfl, .inl rfl⟩
  · refine ⟨_, _, rfl, .inr ⟨g, 0, rfl, rangeAt_row hc _ _ (fun j v hv => ?_)⟩⟩
    rw [Nat.zero_add]
    rw [← h5, List.getElem?_take] at hv
    split at hv
    · simpa using hv
    · cases hv
theorem RdL.stay {α : Type} {c : α → List Value} {m : Nat} {W W' : World} {v : Value} {l : List α} (h : RdL W m c v l) (hs : ∀ k ∈ blks v, W'.heap[k]? = W.heap[k]?) : RdL W' m c v l := by
  obtain ⟨a, cap, rfl, h⟩ := h
  refine ⟨a, cap, rfl, h.imp_right ?_⟩
  rintro ⟨b, o, rfl, hr⟩
  refine ⟨b, o, rfl, fun j v hv => ?_⟩
  have := hr j v hv
  unfold World.cell? at this ⊢
  rwa [hs b (by simp [blks, Value.ownBlock])]
theorem RdL.below {α : Type} {c : α → List Value} {m : Nat} {W W' : World} {v : Value} {l : List α} (h : RdL W m c v l) (hb : Below W.heap.size W W') : RdL W' m c v l := by
  obtain ⟨a, cap, rfl, h⟩ := h
  refine ⟨a, cap, rfl, h.imp_right ?_⟩
  rintro ⟨b, o, rfl, hr⟩
  exact ⟨b, o, rfl, rangeAt_below hr hb⟩
/-- element i of a slice that can be read -/
theorem RdL.elem {α : Type} {c : α → List Value} {m : Nat} {W : World} {v : Value} {l : List α} (h : RdL W m c v l) (hm : ∀ x, (c x).length = m) (i : Nat) (x : α) (hx : l[i]? = some x) :
    ∃ b o cap, v = .slice (some ⟨b, o, none⟩) l.length cap ∧ W.rangeAt b (o + i * m) (c x) := by
  obtain ⟨a, cap, rfl, h | ⟨b, o, rfl, hr⟩⟩ := h
  · subst h; simp at hx
  · refine ⟨b, o, cap, rfl, fun j v hv => ?_⟩
    have hj : j < m := by have := (List.getElem?_eq_some_iff.1 hv).1; rwa [hm] at this
    have := hr (i * m + j) v (by rw [flat_cell hm l i x hx j hj]; exact hv)
    rwa [← Nat.add_assoc] at this
/-- the append that a clone does, and what it leaves -/
theorem run_clone_app {α : Type} {c : α → List Value} {m : Nat} (hm : ∀ x, (c x).length = m) (h1 : ∀ x, ∀ u ∈ c x, u.oneCell' = true) (t e : TypeId) (z : Value) (bytes : Nat)
    (ht : Tryz.prog.underlying t = some (.slice e)) (hi : (Tryz.prog.info? e).map (fun i => (i.zero, i.size, i.bytes)) = some (some z, m, bytes)) (hz : z.cells.size = m) (hm0 : 0 < m) (hby : bytes ≤ 1000)
    (W : World) (ad : Addr) (l : List α) (cap : Nat) (ty : TypeId) (h : RdL W m c (.slice (some ad) l.length cap) l) (hl : l.length ≤ 1000000) :
    ∃ v' W', (Builtin.append_ #[t, t] ty #[.slice (some ⟨W.heap.size, 0, none⟩) 0 0, .slice (some ad) l.length cap]).run Tryz.prog (W.alloc (.cells #[] e)) = .ok v' W' ∧ OwnL W' e m c v' l ∧ (∀ k ∈ blks v', W.heap.size ≤ k) ∧ Below W.heap.size W W' := by
  obtain ⟨i, hi1, hi2, hi3, hi4⟩ := info_parts hi
  have hB : Below W.heap.size W (W.alloc (.cells #[] e)) := (Below.refl _ _).alloc (Nat.le_refl _) _
  have hc : ∀ j u, (flat c l)[j]? = some u → (W.alloc (.cells #[] e)).cell? (ad.add j) = some u := by
    intro j u hu
    obtain ⟨a, cap', hv, hl0 | ⟨b, o, rfl, hr⟩⟩ := h
    · subst hl0; simp [flat] at hu
    · obtain ⟨hv, _⟩ : some ad = some ⟨b, o, none⟩ ∧ True := ⟨(Value.slice.inj hv).1, trivial⟩
      obtain rfl := Option.some.inj hv
      rw [Addr.add_lit]
      exact rangeAt_below hr hB j u hu
  have hone : ∀ u ∈ flat c l, u.oneCell' = true := by
    intro u hu
    obtain ⟨x, _, hx⟩ := List.mem_flatMap.1 hu
    exact h1 x u hx
  have hown : (W.alloc (.cells #[] e)).ownsRow W.heap.size e m (.slice (some ⟨W.heap.size, 0, none⟩) 0 0) 0 [] :=
    World.ownsRow_made W #[] 0 (Nat.le_refl _) (Nat.zero_le _) (by simp)
  obtain ⟨v', W', hrun, h2, h3, _, h5⟩ := run_append_own_at (P := Tryz.prog) _ W.heap.size t ty e i z m bytes ht hi1 hi2 hi3 hi4 hz hm0 _ 0 [] hown ad l.length cap (flat c l) (flat_length hm l) hc hone (by unfold maxLen; omega)
    (by rw [Nat.zero_add]; exact Nat.le_trans (Nat.mul_le_mul hl hby) (by decide)) (by simp)
  rw [Nat.zero_add, List.nil_append] at h2
  refine ⟨v', W', hrun, ⟨h2.1, ?_⟩, ?_, ?_⟩
  · rcases h2.2 with h | ⟨g, cap, cur, r1, _, r2⟩
    · exact .inl h
    · exact .inr ⟨g, cap, cur, r1, Nat.zero_le _, r2⟩
  · intro k hk
    rcases h2.2 with ⟨rfl, _⟩ | ⟨g, cap, cur, rfl, hb, _⟩
    · simp [blks, Value.ownBlock] at hk
    · simp [blks, Value.ownBlock] at hk; omega
  · exact hB.grown h3 (by simp) (fun k e => by cases e; exact Nat.le_refl _)
theorem sector_info3 : (Tryz.prog.info? 53).map (fun i => (i.zero, i.size, i.bytes)) = some (some (.agg (sec zsec)), 128, 128) := by kernel_rfl
theorem run_buildSlice0_sec (w : World) : (Instr.buildSlice 31 0 #[]).run Tryz.prog w = .ok (.slice (some ⟨w.heap.size, 0, none⟩) 0 0) (w.alloc (.cells #[] 53)) := by
  simp [Instr.buildSlice, Sem.run_bind, run_underlying Tryz.underlying31, Result.andThen_ok, Instr.fill, newRow, range0_map]
theorem run_buildSlice0_wr (w : World) : (Instr.buildSlice 32 0 #[]).run Tryz.prog w = .ok (.slice (some ⟨w.heap.size, 0, none⟩) 0 0) (w.alloc (.cells #[] 87)) := by
  simp [Instr.buildSlice, Sem.run_bind, run_underlying Tryz.underlying32, Result.andThen_ok, Instr.fill, newRow, range0_map]
theorem eql_nilS (w : World) (t e : TypeId) (a : Option Addr) (n c : Nat) (h : Tryz.prog.underlying t = some (.slice e)) : (binOp .eql t (.slice a n c) (.slice none 0 0)).run Tryz.prog w = .ok (.bool a.isNone) w := by
  simp only [binOp]
  simp [Op.equal, Op.maxDepth, Lib.run_equalIn_slice_nil w 9999 t e a n c 0 0 h]
/-- what a clone is -/
def CloneV {α : Type} (W : World) (e : TypeId) (m : Nat) (c : α → List Value) (l : List α) (en : Ending) (W' : World) : Prop :=
  ∃ v', en = .returned v' ∧ OwnL W' e m c v' l ∧ (∀ k ∈ blks v', W.heap.size ≤ k) ∧ Below W.heap.size W W'
set_option maxRecDepth 100000 in
theorem clone_sec {W : World} {v : Value} {l : List Sector} (h : RdL W 128 secL v l) (hl : l.length ≤ 1000000) :
    Calls Tryz.prog 41 #[v] W (CloneV W 53 128 secL l) := by
  have hh := h
  obtain ⟨a, cap, rfl, ha⟩ := hh
  have hq := eql_nilS W 31 53 a l.length cap Tryz.underlying31
  cases a with
  | none =>
    have hl0 : l = [] := by rcases ha with h | ⟨b, o, h, _⟩; exact h; cases h
    clear ha h
    subst hl0
    simp only [List.length_nil, Option.isNone_none] at hq
    go_enter Tryz.func41, Tryz.ntmps41
    go_wp2
    go_ret
    exact ⟨_, rfl, World.ownsRow_nil _ _ _ _, by simp [blks, Value.ownBlock], Below.refl _ _⟩
  | some ad =>
    obtain ⟨v', W', hrun, hr⟩ := run_clone_app secL_len secL_one 31 53 _ 128 Tryz.underlying31 sector_info3 (sec_size _) (by decide) (by decide) W ad l cap 31 h hl
    have HR := Lib.hid hr
    have hr' := hq
    simp only [Option.isNone_some] at hq
    have hbs := run_buildSlice0_sec
    clear ha h hr hr'
    go_enter Tryz.func41, Tryz.ntmps41
    go_wp2_with (at_builtin; (with_reducible refine wpList_append_eq rfl _ _ _ rfl _ _ _ _ ?_ ?_ hrun ?_); rfl; rfl)
    go_ret
    exact ⟨v', rfl, HR.out⟩
set_option maxRecDepth 100000 in
theorem clone_wr {W : World} {v : Value} {l : List Wr} (h : RdL W 129 wrL v l) (hl : l.length ≤ 1000000) :
    Calls Tryz.prog 42 #[v] W (CloneV W 87 129 wrL l) := by
  have hh := h
  obtain ⟨a, cap, rfl, ha⟩ := hh
  have hq := eql_nilS W 32 87 a l.length cap Tryz.underlying32
  cases a with
  | none =>
    have hl0 : l = [] := by rcases ha with h | ⟨b, o, h, _⟩; exact h; cases h
    clear ha h
    subst hl0
    simp only [List.length_nil, Option.isNone_none] at hq
    go_enter Tryz.func42, Tryz.ntmps42
    go_wp2
    go_ret
    exact ⟨_, rfl, World.ownsRow_nil _ _ _ _, by simp [blks, Value.ownBlock], Below.refl _ _⟩
  | some ad =>
    obtain ⟨v', W', hrun, hr⟩ := run_clone_app wrL_len wrL_one 32 87 _ 136 Tryz.underlying32 wr_info (wr_size _) (by decide) (by decide) W ad l cap 32 h hl
    have HR := Lib.hid hr
    have hr' := hq
    simp only [Option.isNone_some] at hq
    have hbs := run_buildSlice0_wr
    clear ha h hr hr'
    go_enter Tryz.func42, Tryz.ntmps42
    go_wp2_with (at_builtin; (with_reducible refine wpList_append_eq rfl _ _ _ rfl _ _ _ _ ?_ ?_ hrun ?_); rfl; rfl)
    go_ret
    exact ⟨v', rfl, HR.out⟩
end Go.Proofs.YtfbkfdoekgnldaaGreatDoor
