/- The memory behind a write's map entry and its append. -/
import Derived.Test.YtfbkfdoekgnldaaGreatDoorDevSt
import Derived.Test.YtfbkfdoekgnldaaGreatDoorClone
namespace Go.Proofs.YtfbkfdoekgnldaaGreatDoor
open Go.RowKit
theorem flat_snoc {α : Type} {c : α → List Value} (l : List α) (x : α) : flat c (l ++ [x]) = flat c l ++ c x := by rw [flat_append, flat_one]
/-- a slice of its own, appended to by the slice of one element that stands in another block -/
theorem own_append_one {α : Type} {c : α → List Value} {m : Nat} (hm : ∀ x, (c x).length = m) (h1 : ∀ x, ∀ u ∈ c x, u.oneCell' = true) (t e : TypeId) (z : Value) (bytes : Nat)
    (ht : Tryz.prog.underlying t = some (.slice e)) (hi : (Tryz.prog.info? e).map (fun i => (i.zero, i.size, i.bytes)) = some (some z, m, bytes)) (hz : z.cells.size = m) (hm0 : 0 < m) (hby : bytes ≤ 1000)
    (W : World) (v : Value) (l : List α) (ty : TypeId) (h : OwnL W e m c v l) (x : α) (b o cap : Nat) (hx : W.rangeAt b o (c x)) (hl : l.length ≤ 1000000) :
    ∃ v' W', (Builtin.append_ #[t, t] ty #[v, .slice (some ⟨b, o, none⟩) 1 cap]).run Tryz.prog W = .ok v' W' ∧ OwnL W' e m c v' (l ++ [x]) ∧ (∀ k ∈ blks v', k ∈ blks v ∨ k = W.heap.size) ∧ Only (blks v) W W' := by
  obtain ⟨i, hi1, hi2, hi3, hi4⟩ := info_parts hi
  obtain ⟨v', W', hrun, h2, h3, h4, h5⟩ := run_append_own_at (P := Tryz.prog) W 0 t ty e i z m bytes ht hi1 hi2 hi3 hi4 hz hm0 v l.length (flat c l) h ⟨b, o, none⟩ 1 cap (c x) (by rw [hm]; omega)
    (fun j u hu => by rw [Addr.add_lit]; exact hx j u hu) (h1 x) (by unfold maxLen; omega) (Nat.le_trans (Nat.mul_le_mul (show l.length + 1 ≤ 1000001 by omega) hby) (by decide)) (Nat.zero_le _)
  refine ⟨v', W', hrun, ?_, ?_, ?_⟩
  · unfold OwnL
    rw [List.length_append, flat_snoc]
    exact h2
  · intro k hk
    rcases h5 with h5 | h5
    · left; unfold blks at hk ⊢; rwa [h5] at hk
    · right; unfold blks at hk; rw [h5] at hk; simpa using hk
  · exact (Only.refl _ _).grown h3 (fun k hk => .inl (by simp [blks, hk]))
theorem newM_push (ca : List Wr) (n : Int) (x : Sector) : newM (ca ++ [(n, x)]) = fun j => if j = n then some (ca.length : Int) else newM ca j := by
  funext j
  unfold newM
  rw [newest_snoc]
  dsimp only
  by_cases h : n = j
  · subst h; simp
  · rw [if_neg h, if_neg (fun e => h e.symm)]
/-- the worlds of a write: behind the map's entry, behind the append -/
theorem push_worlds {W : World} {g mb : Nat} {R : Dv} {vS vC : Value} (h : DevIn W g R vS vC mb) (n : Int) (x : Sector) (hn : 0 ≤ n ∧ n < R.st.length) (ys : Array Value) (hys : ys = wrV (n, x)) :
    ∃ W2, (Instr.mapUpdate 88 (.map (some mb)) (.int .i64 n) (.int .i64 R.ca.length)).run Tryz.prog W.drew = .ok () W2 ∧ Only [mb] W W2 ∧ MapI W2 mb (R.ca.length + 1) (newM (R.ca ++ [(n, x)])) ∧
    ∃ v' W3, (Builtin.append_ #[32, 32] 32 #[vC, .slice (some ⟨W2.heap.size, 0, none⟩) 1 1]).run Tryz.prog (W2.alloc (.cells ys 87)).drew = .ok v' W3 ∧
      OwnC W3 v' (R.ca ++ [(n, x)]) ∧ (∀ k ∈ blks v', k ∈ blks vC ∨ W.heap.size ≤ k) ∧ Only (mb :: blks vC) W W3 ∧ W3.heap[mb]? = W2.heap[mb]? ∧ W3.heap[g]? = some (.cells (devCells vS vC R mb) 90 (0, 0)) ∧ OwnS W3 vS R.st := by
  have ap := h.apart
  have s2 := h.ok.s2
  have c1 := h.ok.c1
  have hlt := h.lt
  obtain ⟨W2, hrun, hM, hO⟩ := (h.drew.hM).store (by unfold maxLen; omega) n R.ca.length (wf_small _ (by omega) (by omega)) (wf_small _ (by omega) (by omega))
  have hO' : Only [mb] W W2 := ⟨hO.os, hO.tape, hO.output, hO.size, hO.block⟩
  refine ⟨W2, hrun, hO', by rw [newM_push]; exact hM, ?_⟩
  have hC2 : OwnC W2 vC R.ca := h.hC.stay (fun k hk => hO'.block k (hlt k (by simp [hk])) (by simp; rintro rfl; exact ap.2.2.2.2.1 hk))
  have hB : Below W2.heap.size W2 (W2.alloc (.cells ys 87)).drew := ((Below.refl _ _).alloc (Nat.le_refl _) _).drew
  have hlt2 : ∀ k ∈ blks vC, k < W2.heap.size := fun k hk => Nat.lt_of_lt_of_le (hlt k (by simp [hk])) hO'.size
  have hC3 : OwnC (W2.alloc (.cells ys 87)).drew vC R.ca := hC2.stay (fun k hk => hB.block k (hlt2 k hk))
  have hx : (W2.alloc (.cells ys 87)).drew.rangeAt W2.heap.size 0 (wrL (n, x)) := by
    refine rangeAt_row (heap_alloc_new W2 _) _ _ (fun j v hv => ?_)
    rw [hys, Nat.zero_add]; simpa [wrV] using hv
  obtain ⟨v', W3, hrun3, hC4, hf, hO3⟩ := own_append_one wrL_len wrL_one 32 87 _ 136 Tryz.underlying32 wr_info (wr_size _) (by decide) (by decide) _ vC R.ca 32 hC3 (n, x) W2.heap.size 0 1 hx (by omega)
  have hO2 : Only (blks vC) W2 W3 := (Only.of_below hB).step hO3
  refine ⟨v', W3, hrun3, hC4, ?_, ?_, ?_, ?_, ?_⟩
  · intro k hk
    rcases hf k hk with h | rfl
    · exact .inl h
    · right; have := hO'.size; simp; omega
  · exact (hO'.mono (by simp)).trans (hO2.mono (G := mb :: blks vC) (by intro k hk; simp [hk])) (fun k hk => .inl hk)
  · exact hO2.block mb (Nat.lt_of_lt_of_le (hlt mb (by simp)) hO'.size) ap.2.2.2.2.1
  · rw [hO2.block g (Nat.lt_of_lt_of_le (hlt g (by simp)) hO'.size) ap.2.2.1, hO'.block g (hlt g (by simp)) (by simpa using ap.1)]; exact h.hg
  · refine h.hS.stay (fun k hk => ?_)
    rw [hO2.block k (Nat.lt_of_lt_of_le (hlt k (by simp [hk])) hO'.size) (ap.2.2.2.2.2 k hk), hO'.block k (hlt k (by simp [hk])) (by simp; rintro rfl; exact ap.2.2.2.1 hk)]
end Go.Proofs.YtfbkfdoekgnldaaGreatDoor
