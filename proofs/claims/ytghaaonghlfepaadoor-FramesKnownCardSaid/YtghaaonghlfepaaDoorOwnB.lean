/- Slices of bytes that the walk has made itself: appended to, written, read. -/
import Derived.Test.YtghaaonghlfepaaDoorCrcW
import Derived.Test.YtghaaonghlfepaaDoorKeep
import Derived.Maps.AppendAt
import Derived.OwnWalk
namespace Go.Proofs.YtghaaonghlfepaaDoor
open Go.RowKit
open Lime
def bvals (l : List UInt8) : List Value := l.map fun c => Value.int .u8 (vb c)
theorem bvals_length (l : List UInt8) : (bvals l).length = l.length := by simp [bvals]
theorem bvals_append (l m : List UInt8) : bvals (l ++ m) = bvals l ++ bvals m := by simp [bvals]
theorem bvals_one (l : List UInt8) : ∀ u ∈ bvals l, u.oneCell' = true := by
  intro u hu
  simp only [bvals, List.mem_map] at hu
  obtain ⟨c, _, rfl⟩ := hu
  rfl
/-- block g holds these bytes at its head -/
def OwnB (base : Nat) (W : World) (g : Nat) (l : List UInt8) : Prop :=
  base ≤ g ∧ ∃ cur, W.heap[g]? = some (.cells cur 5 (0, 0)) ∧ l.length ≤ cur.size ∧ ∀ i, i < l.length → cur[i]? = some (.int .u8 (vb (at8 l i)))
theorem OwnB.lt {base g : Nat} {W : World} {l : List UInt8} (h : OwnB base W g l) : g < W.heap.size := by
  obtain ⟨_, cur, hc, _⟩ := h
  exact (Array.getElem?_eq_some_iff.1 hc).1
theorem OwnB.below {base g : Nat} {W W' : World} {l : List UInt8} (h : OwnB base W g l) (hb : Below W.heap.size W W') : OwnB base W' g l := by
  have hlt := h.lt
  obtain ⟨h1, cur, hc, h2⟩ := h
  exact ⟨h1, cur, (hb.block g hlt).trans hc, h2⟩
theorem OwnB.drew {base g : Nat} {W : World} {l : List UInt8} (h : OwnB base W g l) : OwnB base W.drew g l := h
theorem OwnB.cell {base g : Nat} {W : World} {l : List UInt8} (h : OwnB base W g l) (i : Nat) (hi : i < l.length) : W.cell? ⟨g, i, none⟩ = some (.int .u8 (vb (at8 l i))) := by
  obtain ⟨_, cur, hc, _, hx⟩ := h
  exact (cell_of_row W g i _ _ _ hc).trans (hx i hi)
theorem OwnB.frozen {base g : Nat} {W : World} {l : List UInt8} (h : OwnB base W g l) (i : Nat) : W.frozen? ⟨g, i, none⟩ = false := by
  obtain ⟨_, cur, hc, _⟩ := h
  exact frozen_of_row W g i _ _ hc
theorem OwnB.bytes {base g : Nat} {W : World} {l : List UInt8} (h : OwnB base W g l) (hl : l.length ≤ 9223372036854775807) : BytesAt W (some ⟨g, 0, none⟩) l :=
  ⟨hl, .inr ⟨g, 0, rfl, fun i hi => by rw [Nat.zero_add]; exact h.cell i hi⟩⟩
theorem at8_set (l : List UInt8) (i j : Nat) (c : UInt8) (hi : i < l.length) : at8 (l.set i c) j = if j = i then c else at8 l j := by
  unfold at8
  simp only [List.getD_eq_getElem?_getD, List.getElem?_set]
  by_cases h : i = j
  · subst h; simp [hi]
  · have h' : ¬ j = i := fun e => h e.symm
    simp [h, h']
theorem OwnB.set {base g : Nat} {W : World} {l : List UInt8} (h : OwnB base W g l) (i : Nat) (c : UInt8) (hi : i < l.length) : OwnB base (W.setCell ⟨g, i, none⟩ (.int .u8 (vb c))) g (l.set i c) := by
  obtain ⟨h1, cur, hc, h2, h3⟩ := h
  refine ⟨h1, cur.setIfInBounds i (.int .u8 (vb c)), heap_setCell_same W g i _ _ _ hc, by simpa using h2, fun j hj => ?_⟩
  rw [List.length_set] at hj
  rw [at8_set l i j c hi, Array.getElem?_setIfInBounds]
  by_cases e : i = j
  · subst e; simp; omega
  · rw [if_neg e, if_neg (fun e' => e e'.symm)]; exact h3 j hj
theorem OwnB.far {base g : Nat} {W : World} {l : List UInt8} (h : OwnB base W g l) (p : Addr) (hp : g ≠ p.block) (v : Value) : OwnB base (W.setCell p v) g l := by
  obtain ⟨h1, cur, hc, h2⟩ := h
  exact ⟨h1, cur, (Below.heap_setCell W p v g hp).trans hc, h2⟩
theorem own_of_row {base : Nat} {W : World} {g cap : Nat} {l : List UInt8} (h : W.ownsRow base 5 1 (.slice (some ⟨g, 0, none⟩) l.length cap) l.length (bvals l)) : OwnB base W g l := by
  rcases h.2 with ⟨e, _⟩ | ⟨g', cap', cur, e, hb, hc, hle, _, hsz, htk⟩
  · cases e
  · have e1 : g' = g := by injection e with e; injection e with e; injection e with e; exact e.symm
    subst e1
    refine ⟨hb, cur, hc, by omega, fun i hi => ?_⟩
    have : (bvals l)[i]? = some (.int .u8 (vb (at8 l i))) := by simp [bvals, at8, hi]
    rw [← htk, List.getElem?_take, if_pos (by omega)] at this
    simpa using this
theorem byte_info : (Tryd.prog.info? 5).map (fun i => (i.zero, i.size, i.bytes)) = some (some (.int .u8 0), 1, 1) := by kernel_rfl
theorem bytes_cells {W : World} {a : Addr} {l : List UInt8} (h : BytesAt W (some a) l) : ∀ j u, (bvals l)[j]? = some u → W.cell? (a.add j) = some u := by
  intro j u hu
  rcases h.2 with h0 | ⟨b, off, e, hc⟩
  · rw [List.eq_nil_of_length_eq_zero h0] at hu; simp [bvals] at hu
  · cases e
    have hj : j < l.length := by
      have := (List.getElem?_eq_some_iff.1 hu).1; rwa [bvals_length] at this
    rw [Addr.add_lit, hc j hj, ← hu]
    simp [bvals, at8, hj]
theorem run_append_bytes (W : World) (base : Nat) (ty : TypeId) (g0 c0 : Nat) (l m : List UInt8) (a : Option Addr) (cap : Nat)
    (hown : W.ownsRow base 5 1 (.slice (some ⟨g0, 0, none⟩) l.length c0) l.length (bvals l)) (hb : BytesAt W a m) (hlen : l.length + m.length ≤ 1000000) (hbase : base ≤ W.heap.size) :
    ∃ g cap' W', (Builtin.append_ #[44, 44] ty #[.slice (some ⟨g0, 0, none⟩) l.length c0, .slice a m.length cap]).run Tryd.prog W = .ok (.slice (some ⟨g, 0, none⟩) (l ++ m).length cap') W' ∧
      W'.ownsRow base 5 1 (.slice (some ⟨g, 0, none⟩) (l ++ m).length cap') (l ++ m).length (bvals (l ++ m)) ∧ W.grownBy W' (some g0) ∧ (g = g0 ∨ g = W.heap.size) ∧ (l ++ m).length ≤ cap' := by
  obtain ⟨i0, hi, hz0, hz1, hz2⟩ := info_parts byte_info
  have hcap : ∀ (v : Value) (n : Nat) (xs : List Value) (W : World) (g c : Nat), v = .slice (some ⟨g, 0, none⟩) n c → W.ownsRow base 5 1 v n xs → n ≤ c := by
    intro v n xs W g c hv ho
    rcases ho.2 with ⟨e, _⟩ | ⟨g', cap', cur, e, _, _, hle, _⟩
    · rw [hv] at e; cases e
    · rw [hv] at e; cases e; exact hle
  cases a with
  | none =>
    have hm0 : m.length = 0 := by
      rcases hb.2 with h | ⟨b, off, e, _⟩
      · exact h
      · cases e
    have hm1 : m = [] := List.eq_nil_of_length_eq_zero hm0
    subst hm1
    refine ⟨g0, c0, W, ?_, by simpa using hown, World.grownBy.refl W _, .inl rfl, by simpa using hcap _ _ _ _ _ _ rfl hown⟩
    have hle := hcap _ _ _ _ _ _ rfl hown
    simp [Builtin.append_, run_underlying Tryd.underlying44, sizeOf, typeInfo, hi, Builtin.lenOf, Builtin.firstCells, hle, storeCells]
  | some ad =>
    obtain ⟨v', W', hrun, h2, h3, h4, h5⟩ := run_append_own_at (P := Tryd.prog) W base 44 ty 5 i0 (.int .u8 0) 1 1 Tryd.underlying44 hi hz0 hz1 hz2 rfl (by decide) (.slice (some ⟨g0, 0, none⟩) l.length c0) l.length (bvals l) hown
      ad m.length cap (bvals m) (by rw [bvals_length]; omega) (bytes_cells hb) (bvals_one m) (by unfold maxLen; omega) (by omega) hbase
    rcases h2.2 with ⟨e, _⟩ | ⟨g, cap', cur, rfl, _⟩
    · have := h4.1 e; cases this.1
    · refine ⟨g, cap', W', by rw [hrun, List.length_append], by rw [List.length_append, bvals_append]; exact h2, h3, ?_, by rw [List.length_append]; exact hcap _ _ _ _ _ _ rfl h2⟩
      rcases h5 with h | h
      · left; simpa [Value.ownBlock] using h
      · right; simpa [Value.ownBlock] using h
theorem wpList_append_bytes {ops : Array Oper} {rest : List Oper} {o : Oper} {a : Act} {Q : Exit → Act → World → Prop} (W : World) (hgd : o.guard = none) (s x : Operand)
    (ho : o.op = .call { callee := .builtin .append, args := #[s, x], argTypes := #[44, 44] }) (base g0 c0 : Nat) (l m : List UInt8) (ax : Option Addr) (cap : Nat)
    (hs : a.eval s = .slice (some ⟨g0, 0, none⟩) l.length c0) (hx : a.eval x = .slice ax m.length cap)
    (hown : W.ownsRow base 5 1 (.slice (some ⟨g0, 0, none⟩) l.length c0) l.length (bvals l)) (hb : BytesAt W ax m) (hlen : l.length + m.length ≤ 1000000) (hbase : base ≤ W.heap.size)
    (h : ∀ g cap' W', W'.ownsRow base 5 1 (.slice (some ⟨g, 0, none⟩) (l ++ m).length cap') (l ++ m).length (bvals (l ++ m)) → W.grownBy W' (some g0) → (g = g0 ∨ g = W.heap.size) → (l ++ m).length ≤ cap' →
      wpList Tryd.prog ops Q rest (a.put o.dst (.slice (some ⟨g, 0, none⟩) (l ++ m).length cap')) W') : wpList Tryd.prog ops Q (o :: rest) a W :=
  wpList_plain hgd fun _ hK => by
    obtain ⟨g, cap', W', hrun, h2, h3, h4, h5⟩ := run_append_bytes W base o.type g0 c0 l m ax cap hown hb hlen hbase
    unfold Oper.wp execOp
    simp only [ho, resolve, invoke, builtin, Sem.run_bind, Sem.run_pure, Result.andThen_ok, List.map_toArray, List.map_cons, List.map_nil, hs, hx, hrun]
    exact hK _ _ (h g cap' W' h2 h3 h4 h5)
/-- a row of no bytes that was just made -/
theorem own_empty (w : World) (base : Nat) (hb : base ≤ w.heap.size) : (w.alloc (.cells #[] 5)).ownsRow base 5 1 (.slice (some ⟨w.heap.size, 0, none⟩) ([] : List UInt8).length 0) ([] : List UInt8).length (bvals []) :=
  ⟨by simp [bvals], .inr ⟨w.heap.size, 0, #[], rfl, hb, heap_alloc_new _ _, by simp, by unfold maxLen; omega, by simp, by simp [bvals]⟩⟩
/-- 'append([]byte{}, b...)': a copy -/
theorem wpList_copy_bytes {ops : Array Oper} {rest : List Oper} {o : Oper} {a : Act} {Q : Exit → Act → World → Prop} (w : World) (hgd : o.guard = none) (s x : Operand)
    (ho : o.op = .call { callee := .builtin .append, args := #[s, x], argTypes := #[44, 44] }) (base : Nat) (l : List UInt8) (ax : Option Addr) (cap : Nat)
    (hs : a.eval s = .slice (some ⟨w.heap.size, 0, none⟩) 0 0) (hx : a.eval x = .slice ax l.length cap) (hb : BytesAt w ax l) (hlen : l.length ≤ 1000000) (hbase : base ≤ w.heap.size)
    (h : ∀ g cap' W', OwnB base W' g l → w.heap.size ≤ g → Below w.heap.size w W' → l.length ≤ cap' → wpList Tryd.prog ops Q rest (a.put o.dst (.slice (some ⟨g, 0, none⟩) l.length cap')) W') :
    wpList Tryd.prog ops Q (o :: rest) a (w.alloc (.cells #[] 5)) := by
  have hB1 : Below w.heap.size w (w.alloc (.cells #[] 5)) := (Below.refl _ _).alloc (Nat.le_refl _) _
  refine wpList_append_bytes _ hgd s x ho base w.heap.size 0 [] l ax cap hs hx (own_empty w base hbase) (hb.below hB1) (by simpa using hlen) (by simp; omega) ?_
  intro g cap' W' h1 h2 h3 h4
  rw [List.nil_append] at h1 h4 ⊢
  refine h g cap' W' (own_of_row h1) (by rcases h3 with rfl | rfl <;> simp) (hB1.grown h2 (by simp) (fun k e => by cases e; exact Nat.le_refl _)) h4
end Go.Proofs.YtghaaonghlfepaaDoor
