/- The walk of a device's Save. -/
import Derived.Test.YtfbkfdoekgnldaaGreatDoorClone
import Derived.Deep.RegionWith
namespace Go.Proofs.YtfbkfdoekgnldaaGreatDoor
open Go.RowKit
attribute [local go_sem] Oper.semAt_some
/-- the state as a value -/
def stCells (uS uC : Value) (S : Dv) : Array Value := #[uS, uC, .int .i64 S.taken, .int .i64 S.power, .bool S.off]
/-- a state of slices of its own -/
def NewSt (W : World) (S : Dv) (e : Ending) (W' : World) : Prop := ∃ uS uC, e = .returned (.agg (stCells uS uC S)) ∧ OwnS W' uS S.st ∧ OwnC W' uC S.ca ∧ (∀ k ∈ blks uS, W.heap.size ≤ k) ∧ (∀ k ∈ blks uC, W.heap.size ≤ k) ∧ Below W.heap.size W W'
theorem st_size : (Tryz.prog.info? 34).map (·.size) = some 5 := by kernel_rfl
theorem results_st {fn : Func} {p : Tmp} (h : fn.results = #[.cell p 34]) (tmps : Array Value) (w : World) (g : Nat) (cs : Array Value)
    (hp : tmps.getD p undef = .pointer (some ⟨g, 0, none⟩)) (hg : w.heap[g]? = some (.cells cs 34 (0, 0))) (hc : cs.size = 5) :
    (results fn tmps).run Tryz.prog w = .ok (.agg cs) w := by
  have hp' : tmps[p]?.getD undef = .pointer (some ⟨g, 0, none⟩) := by simpa using hp
  have hl := run_loadVar_row (P := Tryz.prog) w g _ _ _ _ _ hg Tryz.underlying34 rfl (by rw [hc]; exact st_size)
  simp [results, h, hp', asAddr, hl]
theorem CloneV.out {α : Type} {W : World} {e : TypeId} {m : Nat} {c : α → List Value} {l : List α} {en : Ending} {W' : World} (h : CloneV W e m c l en W') :
    ∃ a cap, en = .returned (.slice a l.length cap) ∧ OwnL W' e m c (.slice a l.length cap) l ∧ (∀ k ∈ blks (.slice a l.length cap), W.heap.size ≤ k) ∧ Below W.heap.size W W' := by
  obtain ⟨v, rfl, ho, hf, hB⟩ := h
  obtain ⟨a, cap, rfl, _, _⟩ := ho.shape
  exact ⟨a, cap, rfl, ho, hf, hB⟩
set_option maxRecDepth 100000 in
set_option maxHeartbeats 2000000 in
theorem dev_save0 {W : World} {g mb : Nat} {S : Dv} {vS vC : Value} (hg : W.heap[g]? = some (.cells (devCells vS vC S mb) 90 (0, 0))) (hS : RdL W 128 secL vS S.st) (hC : RdL W 129 wrL vC S.ca)
    (s2 : S.st.length ≤ 1000) (cc : S.ca.length ≤ 1000) :
    Calls Tryz.prog 11 #[pv g] W (NewSt W S) := by
  have hS' := hS
  have hC' := hC
  obtain ⟨aS, capS, hvS, _⟩ := hS'
  obtain ⟨aC, capC, hvC, _⟩ := hC'
  subst hvS hvC
  have hg0 : g < W.heap.size := (Array.getElem?_eq_some_iff.1 hg).1
  have c0 : W.cell? ⟨g, 0, none⟩ = some (.slice aS S.st.length capS) := cell_of_row W g 0 _ _ _ hg
  have c1 : W.cell? ⟨g, 1, none⟩ = some (.slice aC S.ca.length capC) := cell_of_row W g 1 _ _ _ hg
  have c2 : W.cell? ⟨g, 2, none⟩ = some (.int .i64 S.taken) := cell_of_row W g 2 _ _ _ hg
  have c3 : W.cell? ⟨g, 3, none⟩ = some (.int .i64 S.power) := cell_of_row W g 3 _ _ _ hg
  have c4 : W.cell? ⟨g, 4, none⟩ = some (.bool S.off) := cell_of_row W g 4 _ _ _ hg
  have hga := fun o => (heap_alloc_old (w := W) o hg0).trans hg
  have H := Lib.hid (dev_ok0 (mb := mb) (cell_of_row _ g 5 _ _ _ (hga (.cells #[.slice none 0 0, .slice none 0 0, .int .i64 0, .int .i64 0, .bool false] 34))))
  have HS : Hid (∀ W', Below W.heap.size W W' → RdL W' 128 secL (.slice aS S.st.length capS) S.st) := fun W' hb => hS.below hb
  have HC : Hid (∀ W', Below W.heap.size W W' → RdL W' 129 wrL (.slice aC S.ca.length capC) S.ca) := fun W' hb => hC.below hb
  clear hS hC hg hga
  go_enter Tryz.func11, Tryz.ntmps11
  go_wp2_with (go_at_call 40; refine H.out.mono ?_; rintro e w' ⟨rfl, rfl⟩)
  have hB2 : Below W.heap.size W ((W.alloc (.cells #[.slice none 0 0, .slice none 0 0, .int .i64 0, .int .i64 0, .bool false] 34)).alloc (.cells #[.slice aS S.st.length capS, .slice aC S.ca.length capC, .int .i64 S.taken, .int .i64 S.power, .bool S.off] 34)).drew :=
    (((Below.refl _ _).alloc (Nat.le_refl _) _).alloc (by simp) _).drew
  have hb2 : ((W.alloc (.cells #[.slice none 0 0, .slice none 0 0, .int .i64 0, .int .i64 0, .bool false] 34)).alloc (.cells #[.slice aS S.st.length capS, .slice aC S.ca.length capC, .int .i64 S.taken, .int .i64 S.power, .bool S.off] 34)).drew.heap[W.heap.size]? = some (.cells #[.slice none 0 0, .slice none 0 0, .int .i64 0, .int .i64 0, .bool false] 34 (0, 0)) := heap_alloc2_old _ _ _
  have hb3 : ((W.alloc (.cells #[.slice none 0 0, .slice none 0 0, .int .i64 0, .int .i64 0, .bool false] 34)).alloc (.cells #[.slice aS S.st.length capS, .slice aC S.ca.length capC, .int .i64 S.taken, .int .i64 S.power, .bool S.off] 34)).drew.heap[W.heap.size + 1]? = some (.cells #[.slice aS S.st.length capS, .slice aC S.ca.length capC, .int .i64 S.taken, .int .i64 S.power, .bool S.off] 34 (0, 0)) := heap_alloc2_new _ _ _
  have hsz : ((W.alloc (.cells #[.slice none 0 0, .slice none 0 0, .int .i64 0, .int .i64 0, .bool false] 34)).alloc (.cells #[.slice aS S.st.length capS, .slice aC S.ca.length capC, .int .i64 S.taken, .int .i64 S.power, .bool S.off] 34)).drew.heap.size = W.heap.size + 2 := by simp
  go_region_with (first | (go_at_call 41; refine (clone_sec (HS.out _ hB2) (by omega)).mono ?_; intro e w4 hcl; obtain ⟨a4, cap4, rfl, ho4, hf4, hB4⟩ := hcl.out; have hB24 := hB2.trans (hB4.mono (by rw [hsz]; omega)); have hc4 := HC.out w4 hB24; have hb34 := (hB4.block (W.heap.size + 1) (by rw [hsz]; omega)).trans hb3; have cc1 : w4.cell? ⟨W.heap.size + 1, 1, none⟩ = some (.slice aC S.ca.length capC) := cell_of_row w4 _ 1 _ _ _ hb34; have cc0 : w4.cell? ⟨W.heap.size + 1, 0, none⟩ = some (.slice aS S.st.length capS) := cell_of_row w4 _ 0 _ _ _ hb34; have cf0 : w4.frozen? ⟨W.heap.size + 1, 0, none⟩ = false := frozen_of_row w4 _ _ _ _ hb34) | (go_at_call 42; refine (clone_wr hc4 (by omega)).mono ?_; intro e w5 hcl; obtain ⟨a5, cap5, rfl, ho5, hf5, hB5⟩ := hcl.out; have hlt3 := (Array.getElem?_eq_some_iff.1 hb34).1; have hB25 := hB24.trans (hB5.mono (by omega)); have hb35 := (hB5.block (W.heap.size + 1) hlt3).trans hb34; have hb25 := (hB5.block W.heap.size (by omega)).trans ((hB4.block W.heap.size (by rw [hsz]; omega)).trans hb2); have ho4' := ho4.stay (fun k hk => hB5.block k (ho4.lt k hk)); have cc1 : w5.cell? ⟨W.heap.size + 1, 1, none⟩ = some (.slice aC S.ca.length capC) := cell_of_row w5 _ 1 _ _ _ hb35; have cc0 : w5.cell? ⟨W.heap.size + 1, 0, none⟩ = some (.slice aS S.st.length capS) := cell_of_row w5 _ 0 _ _ _ hb35; have cf0 : w5.frozen? ⟨W.heap.size + 1, 0, none⟩ = false := frozen_of_row w5 _ _ _ _ hb35; have cf1 : w5.frozen? ⟨W.heap.size + 1, 1, none⟩ = false := frozen_of_row w5 _ _ _ _ hb35; have cc2 : w5.cell? ⟨W.heap.size + 1, 2, none⟩ = some (.int .i64 S.taken) := cell_of_row w5 _ 2 _ _ _ hb35; have cc3 : w5.cell? ⟨W.heap.size + 1, 3, none⟩ = some (.int .i64 S.power) := cell_of_row w5 _ 3 _ _ _ hb35; have cc4 : w5.cell? ⟨W.heap.size + 1, 4, none⟩ = some (.bool S.off) := cell_of_row w5 _ 4 _ _ _ hb35; have cd0 : w5.cell? ⟨W.heap.size, 0, none⟩ = some (.slice none 0 0) := cell_of_row w5 _ 0 _ _ _ hb25; have cd1 : w5.cell? ⟨W.heap.size, 1, none⟩ = some (.slice none 0 0) := cell_of_row w5 _ 1 _ _ _ hb25; have cd2 : w5.cell? ⟨W.heap.size, 2, none⟩ = some (.int .i64 0) := cell_of_row w5 _ 2 _ _ _ hb25; have cd3 : w5.cell? ⟨W.heap.size, 3, none⟩ = some (.int .i64 0) := cell_of_row w5 _ 3 _ _ _ hb25; have cd4 : w5.cell? ⟨W.heap.size, 4, none⟩ = some (.bool false) := cell_of_row w5 _ 4 _ _ _ hb25; have ce0 : w5.frozen? ⟨W.heap.size, 0, none⟩ = false := frozen_of_row w5 _ _ _ _ hb25; have ce1 : w5.frozen? ⟨W.heap.size, 1, none⟩ = false := frozen_of_row w5 _ _ _ _ hb25; have ce2 : w5.frozen? ⟨W.heap.size, 2, none⟩ = false := frozen_of_row w5 _ _ _ _ hb25; have ce3 : w5.frozen? ⟨W.heap.size, 3, none⟩ = false := frozen_of_row w5 _ _ _ _ hb25; have ce4 : w5.frozen? ⟨W.heap.size, 4, none⟩ = false := frozen_of_row w5 _ _ _ _ hb25))
  all_goals go_wp2
  all_goals
    have hs4 := hB4.size
    rw [hsz] at hf4 hs4
    have hoth : ∀ k, k ≠ W.heap.size → k ≠ W.heap.size + 1 → (((((((w5.setCell ⟨W.heap.size + 1, 0, none⟩ (.slice a4 S.st.length cap4)).setCell ⟨W.heap.size + 1, 1, none⟩ (.slice a5 S.ca.length cap5)).setCell ⟨W.heap.size, 0, none⟩ (.slice a4 S.st.length cap4)).setCell ⟨W.heap.size, 1, none⟩ (.slice a5 S.ca.length cap5)).setCell
        ⟨W.heap.size, 2, none⟩ (.int .i64 S.taken)).setCell ⟨W.heap.size, 3, none⟩ (.int .i64 S.power)).setCell ⟨W.heap.size, 4, none⟩ (.bool S.off)).heap[k]? = w5.heap[k]? := fun k h1 h2 => by
      rw [Below.heap_setCell _ _ _ k h1, Below.heap_setCell _ _ _ k h1, Below.heap_setCell _ _ _ k h1, Below.heap_setCell _ _ _ k h1, Below.heap_setCell _ _ _ k h1, Below.heap_setCell _ _ _ k h2, Below.heap_setCell _ _ _ k h2]
    have hb26 : ((w5.setCell ⟨W.heap.size + 1, 0, none⟩ (.slice a4 S.st.length cap4)).setCell ⟨W.heap.size + 1, 1, none⟩ (.slice a5 S.ca.length cap5)).heap[W.heap.size]? = some _ :=
      ((Below.heap_setCell _ ⟨W.heap.size + 1, 1, none⟩ _ W.heap.size (by simp)).trans (Below.heap_setCell _ ⟨W.heap.size + 1, 0, none⟩ _ W.heap.size (by simp))).trans hb25
    refine bodyPost_ret (results_st rfl _ _ W.heap.size _ rfl (heap_setCell_same _ _ 4 _ _ _ (heap_setCell_same _ _ 3 _ _ _ (heap_setCell_same _ _ 2 _ _ _ (heap_setCell_same _ _ 1 _ _ _ (heap_setCell_same _ _ 0 _ _ _ hb26))))) rfl) rfl ⟨.slice a4 S.st.length cap4, .slice a5 S.ca.length cap5, rfl, ?_, ?_, ?_, ?_, ?_⟩
    · exact ho4'.stay (fun k hk => hoth k (by have := hf4 k hk; omega) (by have := hf4 k hk; omega))
    · exact ho5.stay (fun k hk => hoth k (by have := hf5 k hk; omega) (by have := hf5 k hk; omega))
    · intro k hk; have := hf4 k hk; omega
    · intro k hk; have := hf5 k hk; omega
    · exact ((((((hB25.setCell (by simp) _).setCell (by simp) _).setCell (by simp) _).setCell (by simp) _).setCell (by simp) _).setCell (by simp) _).setCell (by simp) _
theorem dev_save {W : World} {g mb : Nat} {S : Dv} {vS vC : Value} (h : DevIn W g S vS vC mb) :
    Calls Tryz.prog 11 #[pv g] W (NewSt W S) := dev_save0 h.hg h.hS.rd h.hC.rd (by have := h.ok.s2; omega) (by have := h.ok.c1; omega)
end Go.Proofs.YtfbkfdoekgnldaaGreatDoor
