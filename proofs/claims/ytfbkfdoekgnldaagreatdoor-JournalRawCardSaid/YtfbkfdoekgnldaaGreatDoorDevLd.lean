/- The walks of Load and New. -/
import Derived.Test.YtfbkfdoekgnldaaGreatDoorDevLd1
import Derived.Test.YtfbkfdoekgnldaaGreatDoorDevPush
namespace Go.Proofs.YtfbkfdoekgnldaaGreatDoor
open Go.RowKit
attribute [local go_sem] Oper.semAt_some
/-- the error of Load -/
def Dv.rangeB (S : Dv) : Bool := decide (S.st.length < 64) || decide (256 < S.st.length) || decide (S.taken < 0) || decide (1000000000000 < S.taken) || decide (S.power < -1) || decide (1000000000000 < S.power) || S.ca.any (oddW S.st.length)
def Dv.checkE (S : Dv) : Int := if S.rangeB then 7 else if 400 < S.ca.length then 3 else 0
theorem Dv.check_ok {S : Dv} (h : S.checkE = 0) : S.Ok := by
  unfold checkE at h
  split at h
  · simp at h
  · rename_i h1
    split at h
    · simp at h
    · rename_i h2
      simp only [rangeB, Bool.or_eq_true, decide_eq_true_eq, not_or, Bool.not_eq_true] at h1
      obtain ⟨⟨⟨⟨⟨⟨a, b⟩, c⟩, d⟩, e⟩, f⟩, k⟩ := h1
      refine ⟨by omega, by omega, by omega, ?_, by omega, by omega, by omega, by omega⟩
      intro x hx
      have := List.any_eq_false.1 k x hx
      simp [oddW] at this
      omega
theorem Dv.ok_check {S : Dv} (h : S.Ok) : S.checkE = 0 := by
  obtain ⟨a, b, c, d, e, f, k, l⟩ := h
  have : S.rangeB = false := by
    simp only [rangeB, Bool.or_eq_false_iff, decide_eq_false_iff_not]
    refine ⟨⟨⟨⟨⟨⟨by omega, by omega⟩, by omega⟩, by omega⟩, by omega⟩, by omega⟩, ?_⟩
    rw [List.any_eq_false]
    intro x hx
    have := d x hx
    simp [oddW]; omega
  unfold checkE
  rw [this, if_neg (by simp), if_neg (by omega)]
attribute [local go_sem] setRow_alloc_at
/-- Load's memory while the newest writes are noted -/
structure LoadInv (W wr : World) (g mb : Nat) (vS vC : Value) (S : Dv) (k : Nat) : Prop where
  hg : wr.heap[g]? = some (.cells (devCells vS vC S mb) 90 (0, 0))
  hS : OwnS wr vS S.st
  hC : OwnC wr vC S.ca
  hM : MapI wr mb k (newM (S.ca.take k))
  hB : Below W.heap.size W wr
  lg : W.heap.size ≤ g
  lm : W.heap.size ≤ mb
  lS : ∀ j ∈ blks vS, W.heap.size ≤ j
  lC : ∀ j ∈ blks vC, W.heap.size ≤ j
theorem LoadInv.only {W w1 w2 : World} {g mb : Nat} {vS vC : Value} {S : Dv} {k j : Nat} (h : LoadInv W w1 g mb vS vC S k) (hO : Only [mb] w1 w2) (hM : MapI w2 mb j (newM (S.ca.take j))) : LoadInv W w2 g mb vS vC S j := by
  have hlm : ∃ es clock, w1.heap[mb]? = some (.map es clock) := by obtain ⟨D, ⟨es, clock, hb, _⟩, _⟩ := h.hM; exact ⟨es, clock, hb⟩
  obtain ⟨es, clock, hb⟩ := hlm
  have hg := h.hg
  have e1 : g ≠ mb := by rintro rfl; rw [hb] at hg; cases hg
  have e2 : ∀ k ∈ blks vS, k ≠ mb := by rintro k hk rfl; obtain ⟨cur, hc⟩ := h.hS.typed _ hk; rw [hb] at hc; cases hc
  have e3 : ∀ k ∈ blks vC, k ≠ mb := by rintro k hk rfl; obtain ⟨cur, hc⟩ := h.hC.typed _ hk; rw [hb] at hc; cases hc
  have hk : ∀ k, k < w1.heap.size → k ≠ mb → w2.heap[k]? = w1.heap[k]? := fun k h1 h2 => hO.block k h1 (by simpa using h2)
  exact ⟨(hk g (Array.getElem?_eq_some_iff.1 hg).1 e1).trans hg, h.hS.stay (fun k h1 => hk k (h.hS.lt k h1) (e2 k h1)), h.hC.stay (fun k h1 => hk k (h.hC.lt k h1) (e3 k h1)), hM,
    h.hB.trans (hO.below h.hB.size (by simpa using h.lm)), h.lg, h.lm, h.lS, h.lC⟩
theorem LoadInv.below {W w1 w2 : World} {g mb : Nat} {vS vC : Value} {S : Dv} {k : Nat} (h : LoadInv W w1 g mb vS vC S k) (hb : Below w1.heap.size w1 w2) : LoadInv W w2 g mb vS vC S k :=
  h.only (Only.of_below hb) (h.hM.stay (hb.block mb h.hM.lt))
/-- what Load leaves -/
def LoadV (W : World) (S : Dv) (e : Ending) (W' : World) : Prop :=
  (S.checkE ≠ 0 ∧ e = .returned (.tuple #[.pointer none, .int .i64 S.checkE]) ∨ S.checkE = 0 ∧ ∃ g F, e = .returned (.tuple #[pv g, .int .i64 0]) ∧ DevAt W' g S F ∧ ∀ k ∈ F, W.heap.size ≤ k) ∧ Below W.heap.size W W'
set_option maxRecDepth 100000 in
set_option maxHeartbeats 4000000 in
theorem load_any {W : World} {S : Dv} {uS uC : Value} (hS : RdL W 128 secL uS S.st) (hC : RdL W 129 wrL uC S.ca) (s2 : S.st.length ≤ 1000) (cc : S.ca.length ≤ 1000) :
    Calls Tryz.prog 14 #[.agg (stCells uS uC S)] W (LoadV W S) := by
  have hS' := hS
  have hC' := hC
  obtain ⟨aS, capS, hvS, _⟩ := hS'
  obtain ⟨aC, capC, hvC, _⟩ := hC'
  subst hvS hvC
  have hB1 : Below W.heap.size W ((W.alloc (.cells #[.slice aS S.st.length capS, .slice aC S.ca.length capC, .int .i64 S.taken, .int .i64 S.power, .bool S.off] 34)).alloc (.cells #[.int .i64 S.st.length] 3)) :=
    ((Below.refl _ _).alloc (Nat.le_refl _) _).alloc (by simp) _
  have HCT := Lib.hid (contains_wr (.slice aC S.ca.length capC) S.ca (W.heap.size + 1) S.st.length _ (hC.below hB1) (by omega) (cell_of_row _ _ 0 _ _ _ (heap_alloc2_new _ _ _)))
  have hb1 : ((W.alloc (.cells #[.slice aS S.st.length capS, .slice aC S.ca.length capC, .int .i64 S.taken, .int .i64 S.power, .bool S.off] 34)).alloc (.cells #[.int .i64 S.st.length] 3)).heap[W.heap.size]? = some (.cells #[.slice aS S.st.length capS, .slice aC S.ca.length capC, .int .i64 S.taken, .int .i64 S.power, .bool S.off] 34 (0, 0)) := heap_alloc2_old _ _ _
  have HS := Lib.hid hS
  have HC := Lib.hid hC
  clear hS hC
  unfold stCells
  have hmm := @run_makeMap Tryz.prog
  go_enter Tryz.func14, Tryz.ntmps14
  go_wp2_with (go_at_call 45; refine HCT.out.mono ?_; rintro e w2 ⟨rfl, hB2⟩; have hb2 := (hB2.block W.heap.size (by simp; omega)).trans hb1; have k0 : w2.cell? ⟨W.heap.size, 0, none⟩ = some (.slice aS S.st.length capS) := cell_of_row w2 _ 0 _ _ _ hb2; have k1 : w2.cell? ⟨W.heap.size, 1, none⟩ = some (.slice aC S.ca.length capC) := cell_of_row w2 _ 1 _ _ _ hb2; have k2 : w2.cell? ⟨W.heap.size, 2, none⟩ = some (.int .i64 S.taken) := cell_of_row w2 _ 2 _ _ _ hb2; have k3 : w2.cell? ⟨W.heap.size, 3, none⟩ = some (.int .i64 S.power) := cell_of_row w2 _ 3 _ _ _ hb2; have k4 : w2.cell? ⟨W.heap.size, 4, none⟩ = some (.bool S.off) := cell_of_row w2 _ 4 _ _ _ hb2; have hz2 := (Array.getElem?_eq_some_iff.1 hb2).1; have hBw := hB1.trans (hB2.mono (by simp; omega)))
  all_goals first
    | (go_ret2
       refine ⟨.inl ?_, by first | exact hB1 | exact hBw⟩
       first
         | (have hE : S.checkE = 7 := by
              unfold Dv.checkE
              rw [if_pos]
              unfold Dv.rangeB
              simp only [Bool.or_eq_true, decide_eq_true_eq]
              first | (left; omega) | (right; assumption)
            rw [hE]; exact ⟨by decide, rfl⟩)
         | (have hE : S.checkE = 3 := by
              unfold Dv.checkE
              rw [if_neg, if_pos (by omega)]
              unfold Dv.rangeB
              simp only [Bool.or_eq_true, decide_eq_true_eq, not_or]
              refine ⟨⟨⟨⟨⟨⟨by omega, by omega⟩, by omega⟩, by omega⟩, by omega⟩, by omega⟩, by simp [*]⟩
            rw [hE]; exact ⟨by decide, rfl⟩))
    | skip
  have hE : S.checkE = 0 := by
    unfold Dv.checkE
    rw [if_neg, if_neg (by omega)]
    unfold Dv.rangeB
    simp only [Bool.or_eq_true, decide_eq_true_eq, not_or]
    refine ⟨⟨⟨⟨⟨⟨by omega, by omega⟩, by omega⟩, by omega⟩, by omega⟩, by omega⟩, by simp [*]⟩
  have HE := Lib.hid hE
  have hB3w : Below W.heap.size W ((w2.alloc (.map #[] 0)).alloc (.cells (devCells (.slice aS S.st.length capS) (.slice aC S.ca.length capC) S w2.heap.size) 90)) := (hBw.alloc hBw.size _).alloc (by have := hBw.size; simp; omega) _
  have hws := hBw.size
  refine (dev_save0 (g := w2.heap.size + 1) (mb := w2.heap.size) (S := S) (heap_alloc2_new w2 _ _) (HS.out.below hB3w) (HC.out.below hB3w) s2 cc).mono ?_
  rintro e w3 ⟨wS, wC, rfl, oS, oC, fS, fC, hB3⟩
  obtain ⟨bS, dS, hwS, _, _⟩ := oS.shape
  obtain ⟨bC, dC, hwC, _, _⟩ := oC.shape
  subst hwS hwC
  have hsz3 : ((w2.alloc (.map #[] 0)).alloc (.cells (devCells (.slice aS S.st.length capS) (.slice aC S.ca.length capC) S w2.heap.size) 90)).heap.size = w2.heap.size + 2 := by simp
  have hg3 : w3.heap[w2.heap.size + 1]? = some (.cells (devCells (.slice aS S.st.length capS) (.slice aC S.ca.length capC) S w2.heap.size) 90 (0, 0)) := (hB3.block _ (by rw [hsz3]; omega)).trans (heap_alloc2_new w2 _ _)
  have hm3 : w3.heap[w2.heap.size]? = some (.map #[] 0) := (hB3.block _ (by rw [hsz3]; omega)).trans (heap_alloc2_old w2 _ _)
  have hb3 : w3.heap[W.heap.size]? = some _ := (hB3.block _ (by rw [hsz3]; omega)).trans ((Below.heap_alloc _ _ _ (by simp; omega)).trans ((Below.heap_alloc _ _ _ (by omega)).trans hb2))
  have hB3W : Below W.heap.size W w3 := hB3w.trans (hB3.mono (by rw [hsz3]; omega))
  have p0 : w3.cell? ⟨w2.heap.size + 1, 0, none⟩ = some (.slice aS S.st.length capS) := cell_of_row w3 _ 0 _ _ _ hg3
  have p1 : w3.cell? ⟨w2.heap.size + 1, 1, none⟩ = some (.slice aC S.ca.length capC) := cell_of_row w3 _ 1 _ _ _ hg3
  have p2 : w3.cell? ⟨w2.heap.size + 1, 2, none⟩ = some (.int .i64 S.taken) := cell_of_row w3 _ 2 _ _ _ hg3
  have p3 : w3.cell? ⟨w2.heap.size + 1, 3, none⟩ = some (.int .i64 S.power) := cell_of_row w3 _ 3 _ _ _ hg3
  have p4 : w3.cell? ⟨w2.heap.size + 1, 4, none⟩ = some (.bool S.off) := cell_of_row w3 _ 4 _ _ _ hg3
  have pf : ∀ i, w3.frozen? ⟨w2.heap.size + 1, i, none⟩ = false := fun i => frozen_of_row w3 _ i _ _ hg3
  have q1 : w3.cell? ⟨W.heap.size, 1, none⟩ = some (.slice aC S.ca.length capC) := cell_of_row w3 _ 1 _ _ _ hb3
  unfold stCells
  go_wp2
  have hoth : ∀ k, k ≠ w2.heap.size + 1 → (((((w3.setCell ⟨w2.heap.size + 1, 0, none⟩ (.slice bS S.st.length dS)).setCell ⟨w2.heap.size + 1, 1, none⟩ (.slice bC S.ca.length dC)).setCell ⟨w2.heap.size + 1, 2, none⟩ (.int .i64 S.taken)).setCell ⟨w2.heap.size + 1, 3, none⟩ (.int .i64 S.power)).setCell ⟨w2.heap.size + 1, 4, none⟩ (.bool S.off)).heap[k]? = w3.heap[k]? := fun k h1 => by
    rw [Below.heap_setCell _ _ _ k h1, Below.heap_setCell _ _ _ k h1, Below.heap_setCell _ _ _ k h1, Below.heap_setCell _ _ _ k h1, Below.heap_setCell _ _ _ k h1]
  have hsz3' := hB3.size
  rw [hsz3] at hsz3' fS fC
  have hI0 : LoadInv W (((((w3.setCell ⟨w2.heap.size + 1, 0, none⟩ (.slice bS S.st.length dS)).setCell ⟨w2.heap.size + 1, 1, none⟩ (.slice bC S.ca.length dC)).setCell ⟨w2.heap.size + 1, 2, none⟩ (.int .i64 S.taken)).setCell ⟨w2.heap.size + 1, 3, none⟩ (.int .i64 S.power)).setCell ⟨w2.heap.size + 1, 4, none⟩ (.bool S.off))
      (w2.heap.size + 1) w2.heap.size (.slice bS S.st.length dS) (.slice bC S.ca.length dC) S 0 := by
    refine ⟨?_, oS.stay (fun k hk => hoth k (by have := fS k hk; omega)), oC.stay (fun k hk => hoth k (by have := fC k hk; omega)), ?_, ?_, by omega, by omega, fun j hj => by have := fS j hj; omega, fun j hj => by have := fC j hj; omega⟩
    · exact heap_setCell_same _ _ 4 _ _ _ (heap_setCell_same _ _ 3 _ _ _ (heap_setCell_same _ _ 2 _ _ _ (heap_setCell_same _ _ 1 _ _ _ (heap_setCell_same _ _ 0 _ _ _ hg3))))
    · have hm0 : MapI w3 w2.heap.size 0 (fun _ => none) := (MapI.made w2).stay (hm3.trans (heap_alloc_new w2 _).symm)
      exact hm0.stay (hoth _ (by omega))
    · exact ((((hB3W.setCell (by simp; omega) _).setCell (by simp; omega) _).setCell (by simp; omega) _).setCell (by simp; omega) _).setCell (by simp; omega) _
  revert hI0
  generalize (((((w3.setCell ⟨w2.heap.size + 1, 0, none⟩ (.slice bS S.st.length dS)).setCell ⟨w2.heap.size + 1, 1, none⟩ (.slice bC S.ca.length dC)).setCell ⟨w2.heap.size + 1, 2, none⟩ (.int .i64 S.taken)).setCell ⟨w2.heap.size + 1, 3, none⟩ (.int .i64 S.power)).setCell ⟨w2.heap.size + 1, 4, none⟩ (.bool S.off)) = W4
  intro hI0
  clear hoth p0 p1 p2 p3 p4 pf q1 hg3 hm3 hb3 fS fC oS oC hB3 hB3W hB3w hE hB2 hb2 k0 k1 k2 k3 k4 hz2 hBw hb1 hB1 HCT hsz3
  obtain ⟨g, hg⟩ : ∃ g, g = w2.heap.size + 1 := ⟨_, rfl⟩
  rw [← hg] at hI0 ⊢
  clear hg
  go_loopw [55] (fun i wr => ∃ k : Nat, k ≤ S.ca.length ∧ i = .int .i64 k ∧ LoadInv W wr g w2.heap.size (.slice bS S.st.length dS) (.slice bC S.ca.length dC) S k) (fun i _ => S.ca.length - (intOf i).toNat)
  case atStart => exact ⟨0, Nat.zero_le _, rfl, hI0⟩
  case round =>
    obtain ⟨k, hk, rfl, hI⟩ := hrel
    clear hI0
    by_cases hlt : k < S.ca.length
    · obtain ⟨⟨x, s⟩, hx⟩ : ∃ x, S.ca[k]? = some x := ⟨_, List.getElem?_eq_getElem hlt⟩
      obtain ⟨b, o, cap', hvb, hr⟩ := HC.out.elem wrL_len k _ hx
      injection hvb with hvb _ hcap
      subst hcap
      subst hvb
      have hr' := rangeAt_below hr hI.hB
      have hix : ∀ w, (Instr.indexAt 32 (.slice (some ⟨b, o, none⟩) S.ca.length capC) (.int .i64 (k : Int))).run Tryz.prog w = .ok (.pointer (some ⟨b, o + k * 129, none⟩)) w := fun w => run_index_wr' b o S.ca.length capC k hlt w
      have hO := (Dv.check_ok HE.out).c2 _ (List.mem_of_getElem? hx)
      have hO2 := (Dv.check_ok HE.out).s2
      dsimp only at hO
      have hI1 := hI.below (((Below.refl _ wr).alloc (Nat.le_refl _) (.cells (wrV (x, s)) 87)).drew)
      obtain ⟨w5, hrun, hM5, hO5⟩ := hI1.hM.store (by unfold maxLen; omega) x k (wf_small _ (by omega) (by omega)) (wf_small _ (by omega) (by omega))
      have hI5 := hI1.only (j := k + 1) hO5 (by rw [List.take_add_one, hx]; simp only [Option.toList_some]; rw [newM_push]; rw [List.length_take, Nat.min_eq_left hk]; exact hM5)
      have e5 : (wr.alloc (.cells (wrV (x, s)) 87)).drew.cell? ⟨g, 5, none⟩ = some (.map (some w2.heap.size)) := cell_of_row _ g 5 _ _ _ hI1.hg
      have hblk : (wr.alloc (.cells (wrV (x, s)) 87)).drew.heap[wr.heap.size]? = some (.cells (wrV (x, s)) 87 (0, 0)) := heap_alloc_new _ _
      have d0 : (wr.alloc (.cells (wrV (x, s)) 87)).drew.cell? ⟨wr.heap.size, 0, none⟩ = some (.int .i64 x) := wr_at hblk
      have e5' : w5.cell? ⟨g, 5, none⟩ = some (.map (some w2.heap.size)) := cell_of_row _ g 5 _ _ _ hI5.hg
      have hne : wr.heap.size ≠ w2.heap.size := by
        have := hI.hM.lt
        omega
      have d0' : w5.cell? ⟨wr.heap.size, 0, none⟩ = some (.int .i64 x) := by
        unfold World.cell?
        rw [hO5.block wr.heap.size (by simp) (by simpa using hne)]
        exact d0
      have hki : (k : Int) < (S.ca.length : Int) := by omega
      have HI5 := Lib.hid hI5
      clear hI5 hI1 hM5 hO5 hI hx hr hblk hne hO
      go_wp2_with (first | ((with_reducible refine wpList_load_wrmid rfl _ rfl b (o + k * 129) (x, s) ?_ hr' ?_); rfl) | (with_reducible refine wpList_alloc_wr rfl rfl ?_) | ((with_reducible refine wpList_store_wr rfl _ _ rfl wr.heap.size (x, s) zwr ?_ ?_ ?_ ?_); rfl; rfl; exact heap_alloc_new _ _))
      go_region_held3 (fun w' => w'.cell? ⟨g, 5, none⟩ = some (.map (some w2.heap.size)) ∧ w'.cell? ⟨wr.heap.size, 0, none⟩ = some (.int .i64 x)) (first | exact ⟨e5, d0⟩ | exact ⟨e5', d0'⟩) (fail)
      go_wp2
      go_roundw
      case rel => exact ⟨k + 1, by omega, by go_num, HI5.out⟩
      case measure => simp [intOf]; omega
    · have hkk : k = S.ca.length := by omega
      have HI := Lib.hid hI
      clear hI
      go_wp2
      go_ret2
      have hI := HI.out
      refine ⟨.inr ⟨HE.out, g, _, rfl, ⟨_, _, _, ⟨hI.hg, hI.hS, hI.hC, ?_, Dv.check_ok HE.out⟩, rfl⟩, ?_⟩, hI.hB⟩
      · have := hI.hM
        rw [hkk, List.take_length] at this
        exact this
      · intro j hj
        simp only [List.mem_cons, List.mem_append] at hj
        rcases hj with rfl | rfl | hj | hj
        · exact hI.lg
        · exact hI.lm
        · exact hI.lS j hj
        · exact hI.lC j hj
end Go.Proofs.YtfbkfdoekgnldaaGreatDoor
