/- The reference's device: Crash. The reference's device: Crash, of numbers that do not rise. The reference's device: Crash, of numbers that rise. -/
import Derived.Test.YtfbkfdoekgnldaaGreatDoorRefLim
import Derived.Test.YtfbkfdoekgnldaaGreatDoorDevCr
import Derived.Test.YtfbkfdoekgnldaaGreatDoorOrdT
namespace Go.Proofs.YtfbkfdoekgnldaaGreatDoor
open Go.RowKit
attribute [local go_sem] Oper.semAt_some setRow_alloc_at setRow_alloc_past setRow_drew
theorem drewN_below (W : World) (n : Nat) : Below W.heap.size W (W.drewN n) := ⟨rfl, rfl, rfl, Nat.le_refl _, fun _ _ => rfl⟩
set_option maxRecDepth 100000 in
set_option maxHeartbeats 4000000 in
/-- numbers one of which is of no write -/
theorem ref_crash_odd {W : World} {S : Dv} {uS uC v : Value} (h : StIn W S uS uC) (keep : List Int) (hv : RdL W 1 intL v keep) (hl : keep.length ≤ 1000000) (hodd : keep.any S.odd = true) :
    Calls Tryz.prog 38 #[.agg (stCells uS uC S), v] W (StRes W S uS uC (S.crash keep) (S.crashE keep)) := by
  have hE : S.crashE keep = 7 := by unfold Dv.crashE; rw [if_pos hodd]
  have hC : S.crash keep = S := by unfold Dv.crash; rw [hE, if_neg (by decide)]
  have HH := Lib.hid h
  have HV := Lib.hid hv
  have HE := Lib.hid (And.intro hE hC)
  have HO := Lib.hid hodd
  have l2 := h.l2
  obtain ⟨av, cv, rfl, _⟩ := hv
  obtain ⟨⟨aS, cS, rfl, _⟩, ⟨aC, cC, rfl, _⟩, _, _⟩ := h
  have hb := box2 W (.slice aS S.st.length cS) (.slice aC S.ca.length cC) (.int .i64 S.taken) (.int .i64 S.power) (.bool S.off)
  have HB := Lib.hid hb
  unfold stCells
  clear hE hC hodd hb
  go_enter Tryz.func38, Tryz.ntmps38
  go_wp2_with fail
  go_loopw [6] (fun i wr => ∃ k : Nat, k ≤ keep.length ∧ i = .int .i64 (k : Int) ∧ (keep.take k).any S.odd = false ∧ Has W wr [Blk _ (W.heap.size + 1) (.cells #[.slice none 0 0, .slice none 0 0, .int .i64 0, .int .i64 0, .bool false] 34), Blk _ W.heap.size (.cells #[.slice aS S.st.length cS, .slice aC S.ca.length cC, .int .i64 S.taken, .int .i64 S.power, .bool S.off] 34)]) (fun i _ => keep.length - (intOf i).toNat)
  case atStart => exact ⟨0, Nat.zero_le _, rfl, rfl, HB.out⟩
  case round =>
    obtain ⟨k, hk, rfl, hno, hH⟩ := hrel
    clear HB
    by_cases hlt : k < keep.length
    · obtain ⟨x, hx⟩ : ∃ x, keep[k]? = some x := ⟨_, List.getElem?_eq_getElem hlt⟩
      obtain ⟨b, o, cap, hvb, ck⟩ := (HV.out.below hH.hB).int k x hx
      injection hvb with hvb _ hcap
      subst hcap
      subst hvb
      have hT := any_take_succ' S.odd keep k x hx
      have c1 := hH.cell 1 _ _ _ rfl 1 _ rfl
      have hki : (k : Int) < (keep.length : Int) := by omega
      have HH2 := Lib.hid hH
      have HT := Lib.hid hT
      have HN := Lib.hid hno
      by_cases hneg : x < 0
      · skip
        clear hx hno hT hH
        go_wp2_with fail
        refine wp_region_ordT (fun w' => w'.cell? ⟨b, o + k, none⟩ = some (.int .i64 x) ∧ w'.cell? ⟨W.heap.size, 1, none⟩ = some (.slice aC S.ca.length cC) ∧ True) (OrdT.takes [0, 1, 2, 3, 4, 5, 6, 7, 8, 9, 10, 11, 12, 13, 14] .done) (by kernel_rfl) (by kernel_rfl) ⟨ck, c1, trivial⟩ ?_
        unfold OrdT.takes
        --ordt mmyyymssssssssy
        iterate 2 (refine' t_move _ _ rfl rfl rfl rfl _ _; rotate_left; (go_simp; with_reducible rfl); simp only [Act.put, List.setIfInBounds_toArray, List.set_cons_zero, List.set_cons_succ])
        iterate 3 (refine' t_yield _ rfl rfl rfl _ _; rotate_left; (intro w' hSw; obtain ⟨s0, s1, s2⟩ := hSw; go_simp; with_reducible rfl); simp only [Act.put, List.setIfInBounds_toArray, List.set_cons_zero, List.set_cons_succ])
        (refine' t_move _ _ rfl rfl rfl rfl _ _; rotate_left; (go_simp; with_reducible rfl); simp only [Act.put, List.setIfInBounds_toArray, List.set_cons_zero, List.set_cons_succ])
        iterate 8 (refine t_skip rfl rfl rfl ?_; simp only [Act.put, List.setIfInBounds_toArray, List.set_cons_zero, List.set_cons_succ])
        (refine' t_yield _ rfl rfl rfl _ _; rotate_left; (intro w' hSw; obtain ⟨s0, s1, s2⟩ := hSw; go_simp; with_reducible rfl); simp only [Act.put, List.setIfInBounds_toArray, List.set_cons_zero, List.set_cons_succ])
        --end
        refine t_done ?_
        have y0 := HH2.out.cell 1 _ _ _ rfl 0 _ rfl
        have y1 := HH2.out.cell 1 _ _ _ rfl 1 _ rfl
        have y2 := HH2.out.cell 1 _ _ _ rfl 2 _ rfl
        have y3 := HH2.out.cell 1 _ _ _ rfl 3 _ rfl
        have y4 := HH2.out.cell 1 _ _ _ rfl 4 _ rfl
        have z0 := HH2.out.cell 0 _ _ _ rfl 0 _ rfl
        have z1 := HH2.out.cell 0 _ _ _ rfl 1 _ rfl
        have z2 := HH2.out.cell 0 _ _ _ rfl 2 _ rfl
        have z3 := HH2.out.cell 0 _ _ _ rfl 3 _ rfl
        have z4 := HH2.out.cell 0 _ _ _ rfl 4 _ rfl
        have r0 := HH2.out.frozen 0 _ _ _ rfl 0
        have r1 := HH2.out.frozen 0 _ _ _ rfl 1
        have r2 := HH2.out.frozen 0 _ _ _ rfl 2
        have r3 := HH2.out.frozen 0 _ _ _ rfl 3
        have r4 := HH2.out.frozen 0 _ _ _ rfl 4
        go_wp2
        have h8 := (HH2.out.drew).store5 [] (.slice aS S.st.length cS) (.slice aC S.ca.length cC) (.int .i64 S.taken) (.int .i64 S.power) (.bool S.off)
        refine bodyPost_ret (results_st2 rfl _ _ (W.heap.size + 1) _ rfl (h8.blk 0 _ _ rfl).1 rfl) rfl ?_
        rw [HE.out.1, HE.out.2]
        exact HH.out.res h8.hB rfl rfl
      · by_cases hbig : (S.ca.length : Int) ≤ x
        · have hnb : decide (x < 0) = false := by simp; omega
          have hbt : decide ((S.ca.length : Int) ≤ x) = true := by simp; omega
          clear hx hno hT hH
          go_wp2_with fail
          refine wp_region_ordT (fun w' => w'.cell? ⟨b, o + k, none⟩ = some (.int .i64 x) ∧ w'.cell? ⟨W.heap.size, 1, none⟩ = some (.slice aC S.ca.length cC) ∧ True) (OrdT.takes [0, 1, 2, 3, 4, 5, 6, 7, 8, 9, 10, 11, 12, 13, 14] .done) (by kernel_rfl) (by kernel_rfl) ⟨ck, c1, trivial⟩ ?_
          unfold OrdT.takes
          --ordt mmyyymmmyyyyyyy
          iterate 2 (refine' t_move _ _ rfl rfl rfl rfl _ _; rotate_left; (go_simp; with_reducible rfl); simp only [Act.put, List.setIfInBounds_toArray, List.set_cons_zero, List.set_cons_succ])
          iterate 3 (refine' t_yield _ rfl rfl rfl _ _; rotate_left; (intro w' hSw; obtain ⟨s0, s1, s2⟩ := hSw; go_simp; with_reducible rfl); simp only [Act.put, List.setIfInBounds_toArray, List.set_cons_zero, List.set_cons_succ])
          iterate 3 (refine' t_move _ _ rfl rfl rfl rfl _ _; rotate_left; (go_simp; with_reducible rfl); simp only [Act.put, List.setIfInBounds_toArray, List.set_cons_zero, List.set_cons_succ])
          iterate 7 (refine' t_yield _ rfl rfl rfl _ _; rotate_left; (intro w' hSw; obtain ⟨s0, s1, s2⟩ := hSw; go_simp; with_reducible rfl); simp only [Act.put, List.setIfInBounds_toArray, List.set_cons_zero, List.set_cons_succ])
          --end
          refine t_done ?_
          have y0 := HH2.out.cell 1 _ _ _ rfl 0 _ rfl
          have y1 := HH2.out.cell 1 _ _ _ rfl 1 _ rfl
          have y2 := HH2.out.cell 1 _ _ _ rfl 2 _ rfl
          have y3 := HH2.out.cell 1 _ _ _ rfl 3 _ rfl
          have y4 := HH2.out.cell 1 _ _ _ rfl 4 _ rfl
          have z0 := HH2.out.cell 0 _ _ _ rfl 0 _ rfl
          have z1 := HH2.out.cell 0 _ _ _ rfl 1 _ rfl
          have z2 := HH2.out.cell 0 _ _ _ rfl 2 _ rfl
          have z3 := HH2.out.cell 0 _ _ _ rfl 3 _ rfl
          have z4 := HH2.out.cell 0 _ _ _ rfl 4 _ rfl
          have r0 := HH2.out.frozen 0 _ _ _ rfl 0
          have r1 := HH2.out.frozen 0 _ _ _ rfl 1
          have r2 := HH2.out.frozen 0 _ _ _ rfl 2
          have r3 := HH2.out.frozen 0 _ _ _ rfl 3
          have r4 := HH2.out.frozen 0 _ _ _ rfl 4
          go_wp2
          have h8 := (HH2.out.drew).store5 [] (.slice aS S.st.length cS) (.slice aC S.ca.length cC) (.int .i64 S.taken) (.int .i64 S.power) (.bool S.off)
          refine bodyPost_ret (results_st2 rfl _ _ (W.heap.size + 1) _ rfl (h8.blk 0 _ _ rfl).1 rfl) rfl ?_
          rw [HE.out.1, HE.out.2]
          exact HH.out.res h8.hB rfl rfl
        · have hodd : S.odd x = false := by unfold Dv.odd; simp; omega
          have hn2 : (keep.take (k + 1)).any S.odd = false := by rw [hT, hno, hodd]; rfl
          have hnb : decide (x < 0) = false := by simp; omega
          have hbb : decide ((S.ca.length : Int) ≤ x) = false := by simp; omega
          have H9 := Lib.hid hn2
          clear hx hno hT hH hn2 hodd
          go_wp2_with fail
          refine wp_region_ordT (fun w' => w'.cell? ⟨b, o + k, none⟩ = some (.int .i64 x) ∧ w'.cell? ⟨W.heap.size, 1, none⟩ = some (.slice aC S.ca.length cC) ∧ True) (OrdT.takes [0, 1, 2, 3, 4, 5, 6, 7, 8, 9, 10, 11, 12, 13, 14] .done) (by kernel_rfl) (by kernel_rfl) ⟨ck, c1, trivial⟩ ?_
          unfold OrdT.takes
          --ordt mmyyymmmyyyyyyy
          iterate 2 (refine' t_move _ _ rfl rfl rfl rfl _ _; rotate_left; (go_simp; with_reducible rfl); simp only [Act.put, List.setIfInBounds_toArray, List.set_cons_zero, List.set_cons_succ])
          iterate 3 (refine' t_yield _ rfl rfl rfl _ _; rotate_left; (intro w' hSw; obtain ⟨s0, s1, s2⟩ := hSw; go_simp; with_reducible rfl); simp only [Act.put, List.setIfInBounds_toArray, List.set_cons_zero, List.set_cons_succ])
          iterate 3 (refine' t_move _ _ rfl rfl rfl rfl _ _; rotate_left; (go_simp; with_reducible rfl); simp only [Act.put, List.setIfInBounds_toArray, List.set_cons_zero, List.set_cons_succ])
          iterate 7 (refine' t_yield _ rfl rfl rfl _ _; rotate_left; (intro w' hSw; obtain ⟨s0, s1, s2⟩ := hSw; go_simp; with_reducible rfl); simp only [Act.put, List.setIfInBounds_toArray, List.set_cons_zero, List.set_cons_succ])
          --end
          refine t_done ?_
          have h9 := HH2.out.drew
          clear HH2
          go_wp2
          go_roundw
          case rel => exact ⟨k + 1, by omega, by go_num, H9.out, h9⟩
          case measure => simp [intOf]; omega
    · have hkk : k = keep.length := by omega
      rw [hkk, List.take_length, HO.out] at hno
      cases hno
end Go.Proofs.YtfbkfdoekgnldaaGreatDoor
namespace Go.Proofs.YtfbkfdoekgnldaaGreatDoor
open Go.RowKit
attribute [local go_sem] Oper.semAt_some setRow_alloc_at setRow_alloc_past setRow_drew
theorem rises_bad {l : List Int} (h : risesI l = false) : ∃ j, j + 1 < l.length ∧ l.getD (j + 1) 0 ≤ l.getD j 0 := by
  apply Classical.byContradiction
  intro hc
  have : risesI l = true := (risesI_iff l).2 (fun i hi => by
    apply Classical.byContradiction
    intro hn
    exact hc ⟨i, hi, by omega⟩)
  rw [this] at h; cases h
set_option maxRecDepth 100000 in
set_option maxHeartbeats 4000000 in
theorem ref_crash_form {W : World} {S : Dv} {uS uC v : Value} (h : StIn W S uS uC) (keep : List Int) (hv : RdL W 1 intL v keep) (hl : keep.length ≤ 1000000) (hodd : keep.any S.odd = false) (hri : risesI keep = false) :
    Calls Tryz.prog 38 #[.agg (stCells uS uC S), v] W (StRes W S uS uC (S.crash keep) (S.crashE keep)) := by
  have hE : S.crashE keep = 6 := by unfold Dv.crashE; rw [if_neg (by rw [hodd]; simp), if_neg (by rw [hri]; simp)]
  have hC : S.crash keep = S := by unfold Dv.crash; rw [hE, if_neg (by decide)]
  have HH := Lib.hid h
  have HV := Lib.hid hv
  have HE := Lib.hid (And.intro hE hC)
  have HO := Lib.hid hodd
  have HR := Lib.hid (rises_bad hri)
  have l2 := h.l2
  obtain ⟨av, cv, rfl, _⟩ := hv
  obtain ⟨⟨aS, cS, rfl, _⟩, ⟨aC, cC, rfl, _⟩, _, _⟩ := h
  have hb := box2 W (.slice aS S.st.length cS) (.slice aC S.ca.length cC) (.int .i64 S.taken) (.int .i64 S.power) (.bool S.off)
  have HB := Lib.hid hb
  unfold stCells
  clear hE hC hodd hb hri
  go_enter Tryz.func38, Tryz.ntmps38
  go_wp2_with fail
  go_loopw [6] (fun i wr => ∃ k : Nat, k ≤ keep.length ∧ i = .int .i64 (k : Int) ∧ Has W wr [Blk _ (W.heap.size + 1) (.cells #[.slice none 0 0, .slice none 0 0, .int .i64 0, .int .i64 0, .bool false] 34), Blk _ W.heap.size (.cells #[.slice aS S.st.length cS, .slice aC S.ca.length cC, .int .i64 S.taken, .int .i64 S.power, .bool S.off] 34)]) (fun i _ => keep.length - (intOf i).toNat)
  case atStart => exact ⟨0, Nat.zero_le _, rfl, HB.out⟩
  case round =>
    obtain ⟨k, hk, rfl, hH⟩ := hrel
    clear HB
    by_cases hlt : k < keep.length
    · obtain ⟨x, hx⟩ : ∃ x, keep[k]? = some x := ⟨_, List.getElem?_eq_getElem hlt⟩
      obtain ⟨b, o, cap, hvb, ck⟩ := (HV.out.below hH.hB).int k x hx
      injection hvb with hvb _ hcap
      subst hcap
      subst hvb
      have hodd : S.odd x = false := by
        have hm := List.any_eq_false.1 HO.out x (List.mem_of_getElem? hx)
        simpa using hm
      have c1 := hH.cell 1 _ _ _ rfl 1 _ rfl
      have hki : (k : Int) < (keep.length : Int) := by omega
      have HH2 := Lib.hid hH
      unfold Dv.odd at hodd
      rw [Bool.or_eq_false_iff] at hodd
      obtain ⟨hnb, hbb⟩ := hodd
      clear hx hH
      go_wp2_with fail
      refine wp_region_ordT (fun w' => w'.cell? ⟨b, o + k, none⟩ = some (.int .i64 x) ∧ w'.cell? ⟨W.heap.size, 1, none⟩ = some (.slice aC S.ca.length cC) ∧ True) (OrdT.takes [0, 1, 2, 3, 4, 5, 6, 7, 8, 9, 10, 11, 12, 13, 14] .done) (by kernel_rfl) (by kernel_rfl) ⟨ck, c1, trivial⟩ ?_
      unfold OrdT.takes
      --ordt mmyyymmmyyyyyyy
      iterate 2 (refine' t_move _ _ rfl rfl rfl rfl _ _; rotate_left; (go_simp; with_reducible rfl); simp only [Act.put, List.setIfInBounds_toArray, List.set_cons_zero, List.set_cons_succ])
      iterate 3 (refine' t_yield _ rfl rfl rfl _ _; rotate_left; (intro w' hSw; obtain ⟨s0, s1, s2⟩ := hSw; go_simp; with_reducible rfl); simp only [Act.put, List.setIfInBounds_toArray, List.set_cons_zero, List.set_cons_succ])
      iterate 3 (refine' t_move _ _ rfl rfl rfl rfl _ _; rotate_left; (go_simp; with_reducible rfl); simp only [Act.put, List.setIfInBounds_toArray, List.set_cons_zero, List.set_cons_succ])
      iterate 7 (refine' t_yield _ rfl rfl rfl _ _; rotate_left; (intro w' hSw; obtain ⟨s0, s1, s2⟩ := hSw; go_simp; with_reducible rfl); simp only [Act.put, List.setIfInBounds_toArray, List.set_cons_zero, List.set_cons_succ])
      --end
      refine t_done ?_
      have h9 := HH2.out.drew
      clear HH2 ck c1 hnb hbb
      go_wp2
      go_roundw
      case rel => exact ⟨k + 1, by omega, by go_num, h9⟩
      case measure => simp [intOf]; omega
    · have hkk : k = keep.length := by omega
      subst hkk
      obtain ⟨W4, rfl⟩ : ∃ W4, W4 = wr := ⟨_, rfl⟩
      have HH3 := Lib.hid hH
      clear hH
      go_wp2
      go_loopw [7] (fun i wr => ∃ j : Nat, j ≤ keep.length ∧ i = .int .i64 ((j : Int) + 1) ∧ (∀ i, i < j → keep.getD i 0 < keep.getD (i + 1) 0) ∧ Has W wr [Blk _ (W.heap.size + 1) (.cells #[.slice none 0 0, .slice none 0 0, .int .i64 0, .int .i64 0, .bool false] 34), Blk _ W.heap.size (.cells #[.slice aS S.st.length cS, .slice aC S.ca.length cC, .int .i64 S.taken, .int .i64 S.power, .bool S.off] 34)]) (fun i _ => keep.length + 1 - (intOf i).toNat)
      case atStart => exact ⟨0, Nat.zero_le _, by go_num, fun i hi => absurd hi (by omega), HH3.out⟩
      case round =>
        obtain ⟨j, hj, rfl, hup, hH⟩ := hrel
        have HUP := Lib.hid hup
        have HHj := Lib.hid hH
        clear HH3 hup hH
        by_cases hlt2 : j + 1 < keep.length
        · obtain ⟨x, hx⟩ : ∃ x, keep[j]? = some x := ⟨_, List.getElem?_eq_getElem (by omega)⟩
          obtain ⟨y, hy⟩ : ∃ y, keep[j + 1]? = some y := ⟨_, List.getElem?_eq_getElem hlt2⟩
          obtain ⟨b, o, cap, hvb, cx⟩ := (HV.out.below HHj.out.hB).int j x hx
          injection hvb with hvb _ hcap
          subst hcap
          subst hvb
          obtain ⟨b', o', cap', hvb, cy⟩ := (HV.out.below HHj.out.hB).int (j + 1) y hy
          injection hvb with hvb _ hcap
          injection hvb with hvb
          injection hvb with e1 e2
          subst e1 e2
          have hki : (j : Int) + 1 < (keep.length : Int) := by omega
          have hj0 : (0 : Int) ≤ (j : Int) + 1 := by omega
          have hjl : (j : Int) < (keep.length : Int) := by omega
          have hwr : IntKind.i64.wrap (j : Int) = (j : Int) := IntWalk.i64_in _ (by omega)
          have hxy : keep.getD j 0 = x ∧ keep.getD (j + 1) 0 = y := ⟨by rw [List.getD_eq_getElem?_getD, hx]; rfl, by rw [List.getD_eq_getElem?_getD, hy]; rfl⟩
          have HXY := Lib.hid hxy
          clear hx hy hxy hcap
          by_cases hle : y ≤ x
          · go_wp2_with fail
            refine wp_region_ordT (fun w' => w'.cell? ⟨b, o + j, none⟩ = some (.int .i64 x) ∧ w'.cell? ⟨b, o + (j + 1), none⟩ = some (.int .i64 y) ∧ True) (OrdT.takes [0, 1, 2, 3, 4, 5, 6, 7, 8, 9] .done) (by kernel_rfl) (by kernel_rfl) ⟨cx, cy, trivial⟩ ?_
            unfold OrdT.takes
            --ordt mmyymmyyyy
            iterate 2 (refine' t_move _ _ rfl rfl rfl rfl _ _; rotate_left; (go_simp; with_reducible rfl); simp only [Act.put, List.setIfInBounds_toArray, List.set_cons_zero, List.set_cons_succ])
            iterate 2 (refine' t_yield _ rfl rfl rfl _ _; rotate_left; (intro w' hSw; obtain ⟨s0, s1, s2⟩ := hSw; go_simp; with_reducible rfl); simp only [Act.put, List.setIfInBounds_toArray, List.set_cons_zero, List.set_cons_succ])
            iterate 2 (refine' t_move _ _ rfl rfl rfl rfl _ _; rotate_left; (go_simp; with_reducible rfl); simp only [Act.put, List.setIfInBounds_toArray, List.set_cons_zero, List.set_cons_succ])
            iterate 4 (refine' t_yield _ rfl rfl rfl _ _; rotate_left; (intro w' hSw; obtain ⟨s0, s1, s2⟩ := hSw; go_simp; with_reducible rfl); simp only [Act.put, List.setIfInBounds_toArray, List.set_cons_zero, List.set_cons_succ])
            --end
            refine t_done ?_
            have h9 := HHj.out.drew
            clear cx cy
            have y0 := HHj.out.cell 1 _ _ _ rfl 0 _ rfl
            have y1 := HHj.out.cell 1 _ _ _ rfl 1 _ rfl
            have y2 := HHj.out.cell 1 _ _ _ rfl 2 _ rfl
            have y3 := HHj.out.cell 1 _ _ _ rfl 3 _ rfl
            have y4 := HHj.out.cell 1 _ _ _ rfl 4 _ rfl
            have z0 := HHj.out.cell 0 _ _ _ rfl 0 _ rfl
            have z1 := HHj.out.cell 0 _ _ _ rfl 1 _ rfl
            have z2 := HHj.out.cell 0 _ _ _ rfl 2 _ rfl
            have z3 := HHj.out.cell 0 _ _ _ rfl 3 _ rfl
            have z4 := HHj.out.cell 0 _ _ _ rfl 4 _ rfl
            have r0 := HHj.out.frozen 0 _ _ _ rfl 0
            have r1 := HHj.out.frozen 0 _ _ _ rfl 1
            have r2 := HHj.out.frozen 0 _ _ _ rfl 2
            have r3 := HHj.out.frozen 0 _ _ _ rfl 3
            have r4 := HHj.out.frozen 0 _ _ _ rfl 4
            have h8 := h9.store5 [] (.slice aS S.st.length cS) (.slice aC S.ca.length cC) (.int .i64 S.taken) (.int .i64 S.power) (.bool S.off)
            have H8 := Lib.hid h8
            clear h8 h9
            go_wp2
            refine bodyPost_ret (results_st2 rfl _ _ (W.heap.size + 1) _ rfl (H8.out.blk 0 _ _ rfl).1 rfl) rfl ?_
            rw [HE.out.1, HE.out.2]
            exact HH.out.res H8.out.hB rfl rfl
          · have hnle : decide (y ≤ x) = false := by simp; omega
            go_wp2_with fail
            refine wp_region_ordT (fun w' => w'.cell? ⟨b, o + j, none⟩ = some (.int .i64 x) ∧ w'.cell? ⟨b, o + (j + 1), none⟩ = some (.int .i64 y) ∧ True) (OrdT.takes [0, 1, 2, 3, 4, 5, 6, 7, 8, 9] .done) (by kernel_rfl) (by kernel_rfl) ⟨cx, cy, trivial⟩ ?_
            unfold OrdT.takes
            --ordt mmyymmyyyy
            iterate 2 (refine' t_move _ _ rfl rfl rfl rfl _ _; rotate_left; (go_simp; with_reducible rfl); simp only [Act.put, List.setIfInBounds_toArray, List.set_cons_zero, List.set_cons_succ])
            iterate 2 (refine' t_yield _ rfl rfl rfl _ _; rotate_left; (intro w' hSw; obtain ⟨s0, s1, s2⟩ := hSw; go_simp; with_reducible rfl); simp only [Act.put, List.setIfInBounds_toArray, List.set_cons_zero, List.set_cons_succ])
            iterate 2 (refine' t_move _ _ rfl rfl rfl rfl _ _; rotate_left; (go_simp; with_reducible rfl); simp only [Act.put, List.setIfInBounds_toArray, List.set_cons_zero, List.set_cons_succ])
            iterate 4 (refine' t_yield _ rfl rfl rfl _ _; rotate_left; (intro w' hSw; obtain ⟨s0, s1, s2⟩ := hSw; go_simp; with_reducible rfl); simp only [Act.put, List.setIfInBounds_toArray, List.set_cons_zero, List.set_cons_succ])
            --end
            refine t_done ?_
            have h9 := HHj.out.drew
            have hup2 : ∀ i, i < j + 1 → keep.getD i 0 < keep.getD (i + 1) 0 := fun i hi => by
              by_cases e : i = j
              · subst e; rw [HXY.out.1, HXY.out.2]; omega
              · exact HUP.out i (by omega)
            have HUP2 := Lib.hid hup2
            clear cx cy hup2
            go_wp2
            go_roundw
            case rel => exact ⟨j + 1, by omega, by go_num, HUP2.out, h9⟩
            case measure => simp [intOf]; omega
        · exfalso
          obtain ⟨i, hi, hle⟩ := HR.out
          have := HUP.out i (by omega)
          omega
end Go.Proofs.YtfbkfdoekgnldaaGreatDoor
namespace Go.Proofs.YtfbkfdoekgnldaaGreatDoor
open Go.RowKit
attribute [local go_sem] Oper.semAt_some setRow_alloc_at setRow_alloc_past setRow_drew
set_option maxRecDepth 100000 in
set_option maxHeartbeats 4000000 in
theorem ref_crash_go {W : World} {S : Dv} {uS uC v : Value} (h : StIn W S uS uC) (keep : List Int) (hv : RdL W 1 intL v keep) (hl : keep.length ≤ 1000000) (ok : S.Ok) (hodd : keep.any S.odd = false) (hri : risesI keep = true) :
    Calls Tryz.prog 38 #[.agg (stCells uS uC S), v] W (StRes W S uS uC (S.crash keep) (S.crashE keep)) := by
  have hE : S.crashE keep = 0 := by unfold Dv.crashE; rw [if_neg (by rw [hodd]; simp), if_pos hri]
  have hC : S.crash keep = { st := S.keepL keep, ca := [], taken := S.taken, power := -1, off := false } := by unfold Dv.crash; rw [hE, if_pos rfl]
  have hc2 := Lib.hid ok.c2
  have HUPA := Lib.hid ((risesI_iff keep).1 hri)
  have l1 := h.l1
  have HH := Lib.hid h
  have HV := Lib.hid hv
  have HE := Lib.hid (And.intro hE hC)
  have HO := Lib.hid hodd
  have l2 := h.l2
  obtain ⟨av, cv, rfl, _⟩ := hv
  obtain ⟨⟨aS, cS, rfl, _⟩, ⟨aC, cC, rfl, _⟩, _, _⟩ := h
  have hb := box2 W (.slice aS S.st.length cS) (.slice aC S.ca.length cC) (.int .i64 S.taken) (.int .i64 S.power) (.bool S.off)
  have HB := Lib.hid hb
  unfold stCells
  clear hE hC hodd hb hri ok
  go_enter Tryz.func38, Tryz.ntmps38
  go_wp2_with fail
  go_loopw [6] (fun i wr => ∃ k : Nat, k ≤ keep.length ∧ i = .int .i64 (k : Int) ∧ Has W wr [Blk _ (W.heap.size + 1) (.cells #[.slice none 0 0, .slice none 0 0, .int .i64 0, .int .i64 0, .bool false] 34), Blk _ W.heap.size (.cells #[.slice aS S.st.length cS, .slice aC S.ca.length cC, .int .i64 S.taken, .int .i64 S.power, .bool S.off] 34)]) (fun i _ => keep.length - (intOf i).toNat)
  case atStart => exact ⟨0, Nat.zero_le _, rfl, HB.out⟩
  case round =>
    obtain ⟨k, hk, rfl, hH⟩ := hrel
    clear HB
    by_cases hlt : k < keep.length
    · obtain ⟨x, hx⟩ : ∃ x, keep[k]? = some x := ⟨_, List.getElem?_eq_getElem hlt⟩
      obtain ⟨b, o, cap, hvb, ck⟩ := (HV.out.below hH.hB).int k x hx
      injection hvb with hvb _ hcap
      subst hcap
      subst hvb
      have hodd : S.odd x = false := by
        have hm := List.any_eq_false.1 HO.out x (List.mem_of_getElem? hx)
        simpa using hm
      have c1 := hH.cell 1 _ _ _ rfl 1 _ rfl
      have hki : (k : Int) < (keep.length : Int) := by omega
      have HH2 := Lib.hid hH
      unfold Dv.odd at hodd
      rw [Bool.or_eq_false_iff] at hodd
      obtain ⟨hnb, hbb⟩ := hodd
      clear hx hH
      go_wp2_with fail
      refine wp_region_ordT (fun w' => w'.cell? ⟨b, o + k, none⟩ = some (.int .i64 x) ∧ w'.cell? ⟨W.heap.size, 1, none⟩ = some (.slice aC S.ca.length cC) ∧ True) (OrdT.takes [0, 1, 2, 3, 4, 5, 6, 7, 8, 9, 10, 11, 12, 13, 14] .done) (by kernel_rfl) (by kernel_rfl) ⟨ck, c1, trivial⟩ ?_
      unfold OrdT.takes
      --ordt mmyyymmmyyyyyyy
      iterate 2 (refine' t_move _ _ rfl rfl rfl rfl _ _; rotate_left; (go_simp; with_reducible rfl); simp only [Act.put, List.setIfInBounds_toArray, List.set_cons_zero, List.set_cons_succ])
      iterate 3 (refine' t_yield _ rfl rfl rfl _ _; rotate_left; (intro w' hSw; obtain ⟨s0, s1, s2⟩ := hSw; go_simp; with_reducible rfl); simp only [Act.put, List.setIfInBounds_toArray, List.set_cons_zero, List.set_cons_succ])
      iterate 3 (refine' t_move _ _ rfl rfl rfl rfl _ _; rotate_left; (go_simp; with_reducible rfl); simp only [Act.put, List.setIfInBounds_toArray, List.set_cons_zero, List.set_cons_succ])
      iterate 7 (refine' t_yield _ rfl rfl rfl _ _; rotate_left; (intro w' hSw; obtain ⟨s0, s1, s2⟩ := hSw; go_simp; with_reducible rfl); simp only [Act.put, List.setIfInBounds_toArray, List.set_cons_zero, List.set_cons_succ])
      --end
      refine t_done ?_
      have h9 := HH2.out.drew
      clear HH2 ck c1 hnb hbb
      go_wp2
      go_roundw
      case rel => exact ⟨k + 1, by omega, by go_num, h9⟩
      case measure => simp [intOf]; omega
    · have hkk : k = keep.length := by omega
      subst hkk
      obtain ⟨W4, rfl⟩ : ∃ W4, W4 = wr := ⟨_, rfl⟩
      have HH3 := Lib.hid hH
      clear hH
      go_wp2
      go_loopw [7] (fun i wr => ∃ j : Nat, j ≤ keep.length ∧ i = .int .i64 ((j : Int) + 1) ∧ Has W wr [Blk _ (W.heap.size + 1) (.cells #[.slice none 0 0, .slice none 0 0, .int .i64 0, .int .i64 0, .bool false] 34), Blk _ W.heap.size (.cells #[.slice aS S.st.length cS, .slice aC S.ca.length cC, .int .i64 S.taken, .int .i64 S.power, .bool S.off] 34)]) (fun i _ => keep.length + 1 - (intOf i).toNat)
      case atStart => exact ⟨0, Nat.zero_le _, by go_num, HH3.out⟩
      case round =>
        obtain ⟨j, hj, rfl, hH⟩ := hrel
        have HHj := Lib.hid hH
        clear HH3 hH
        by_cases hlt2 : j + 1 < keep.length
        · obtain ⟨x, hx⟩ : ∃ x, keep[j]? = some x := ⟨_, List.getElem?_eq_getElem (by omega)⟩
          obtain ⟨y, hy⟩ : ∃ y, keep[j + 1]? = some y := ⟨_, List.getElem?_eq_getElem hlt2⟩
          obtain ⟨b, o, cap, hvb, cx⟩ := (HV.out.below HHj.out.hB).int j x hx
          injection hvb with hvb _ hcap
          subst hcap
          subst hvb
          obtain ⟨b', o', cap', hvb, cy⟩ := (HV.out.below HHj.out.hB).int (j + 1) y hy
          injection hvb with hvb _ hcap
          injection hvb with hvb
          injection hvb with e1 e2
          subst e1 e2
          have hki : (j : Int) + 1 < (keep.length : Int) := by omega
          have hj0 : (0 : Int) ≤ (j : Int) + 1 := by omega
          have hjl : (j : Int) < (keep.length : Int) := by omega
          have hwr : IntKind.i64.wrap (j : Int) = (j : Int) := IntWalk.i64_in _ (by omega)
          have hxy : keep.getD j 0 = x ∧ keep.getD (j + 1) 0 = y := ⟨by rw [List.getD_eq_getElem?_getD, hx]; rfl, by rw [List.getD_eq_getElem?_getD, hy]; rfl⟩
          have HXY := Lib.hid hxy
          clear hx hy hxy hcap
          have hnle : decide (y ≤ x) = false := by have := HUPA.out j hlt2; rw [HXY.out.1, HXY.out.2] at this; simp; omega
          go_wp2_with fail
          refine wp_region_ordT (fun w' => w'.cell? ⟨b, o + j, none⟩ = some (.int .i64 x) ∧ w'.cell? ⟨b, o + (j + 1), none⟩ = some (.int .i64 y) ∧ True) (OrdT.takes [0, 1, 2, 3, 4, 5, 6, 7, 8, 9] .done) (by kernel_rfl) (by kernel_rfl) ⟨cx, cy, trivial⟩ ?_
          unfold OrdT.takes
          --ordt mmyymmyyyy
          iterate 2 (refine' t_move _ _ rfl rfl rfl rfl _ _; rotate_left; (go_simp; with_reducible rfl); simp only [Act.put, List.setIfInBounds_toArray, List.set_cons_zero, List.set_cons_succ])
          iterate 2 (refine' t_yield _ rfl rfl rfl _ _; rotate_left; (intro w' hSw; obtain ⟨s0, s1, s2⟩ := hSw; go_simp; with_reducible rfl); simp only [Act.put, List.setIfInBounds_toArray, List.set_cons_zero, List.set_cons_succ])
          iterate 2 (refine' t_move _ _ rfl rfl rfl rfl _ _; rotate_left; (go_simp; with_reducible rfl); simp only [Act.put, List.setIfInBounds_toArray, List.set_cons_zero, List.set_cons_succ])
          iterate 4 (refine' t_yield _ rfl rfl rfl _ _; rotate_left; (intro w' hSw; obtain ⟨s0, s1, s2⟩ := hSw; go_simp; with_reducible rfl); simp only [Act.put, List.setIfInBounds_toArray, List.set_cons_zero, List.set_cons_succ])
          --end
          refine t_done ?_
          have h9 := HHj.out.drew
          clear cx cy
          go_wp2
          go_roundw
          case rel => exact ⟨j + 1, by omega, by go_num, h9⟩
          case measure => simp [intOf]; omega
        · have HCP := Lib.hid (ref_copy (HH.out.below HHj.out.hB))
          have y0 := HHj.out.cell 1 _ _ _ rfl 0 _ rfl
          have y1 := HHj.out.cell 1 _ _ _ rfl 1 _ rfl
          have y2 := HHj.out.cell 1 _ _ _ rfl 2 _ rfl
          have y3 := HHj.out.cell 1 _ _ _ rfl 3 _ rfl
          have y4 := HHj.out.cell 1 _ _ _ rfl 4 _ rfl
          unfold stCells at HCP
          go_wp2_with fail
          refine HCP.out.mono ?_
          rintro e w3 hn
          obtain ⟨bS, kS, bC, kC, rfl, h3⟩ := hn.has HHj.out
          clear hn HCP y0 y1 y2 y3 y4
          unfold stCells
          have h4 := h3.alloc (.cells #[.slice bS S.st.length kS, .slice bC S.ca.length kC, .int .i64 S.taken, .int .i64 S.power, .bool S.off] 34)
          have H4 := Lib.hid h4
          clear h3 h4
          go_wp2_with fail
          obtain ⟨tb, htb⟩ : ∃ tb, tb = w3.heap.size := ⟨_, rfl⟩
          have hf0 : flushL S.st ((keep.take 0).map fun i => S.ca.getD i.toNat (0, zsec)) = S.st := rfl
          rw [← hf0, ← htb] at H4
          clear hf0
          rw [← htb]
          clear htb
          go_loopw [9] (fun i wr => ∃ k : Nat, k ≤ keep.length ∧ i = .int .i64 (k : Int) ∧ Has W wr [Blk _ tb (.cells #[.slice bS S.st.length kS, .slice bC S.ca.length kC, .int .i64 S.taken, .int .i64 S.power, .bool S.off] 34), OwnR _ 53 128 secL (.slice bS S.st.length kS) (flushL S.st ((keep.take k).map fun i => S.ca.getD i.toNat (0, zsec))), OwnR _ 87 129 wrL (.slice bC S.ca.length kC) S.ca, Blk _ (W.heap.size + 1) (.cells #[.slice none 0 0, .slice none 0 0, .int .i64 0, .int .i64 0, .bool false] 34), Blk _ W.heap.size (.cells #[.slice aS S.st.length cS, .slice aC S.ca.length cC, .int .i64 S.taken, .int .i64 S.power, .bool S.off] 34)]) (fun i _ => keep.length - (intOf i).toNat)
          case atStart => exact ⟨0, Nat.zero_le _, rfl, by simpa [flushL] using H4.out⟩
          case round =>
            obtain ⟨k, hk3, rfl, hH⟩ := hrel
            clear H4
            have c0 := hH.cell 0 _ _ _ rfl 0 _ rfl
            have c1 := hH.cell 4 _ _ _ rfl 1 _ rfl
            by_cases hlt3 : k < keep.length
            · obtain ⟨x, hx⟩ : ∃ x, keep[k]? = some x := ⟨_, List.getElem?_eq_getElem hlt3⟩
              have hodd : S.odd x = false := by
                have hm := List.any_eq_false.1 HO.out x (List.mem_of_getElem? hx)
                simpa using hm
              unfold Dv.odd at hodd
              simp only [Bool.or_eq_false_iff, decide_eq_false_iff_not] at hodd
              obtain ⟨n, rfl⟩ : ∃ n : Nat, x = n := ⟨x.toNat, by omega⟩
              have hn : n < S.ca.length := by omega
              obtain ⟨px, hpx⟩ : ∃ y, S.ca[n]? = some y := ⟨_, List.getElem?_eq_getElem hn⟩
              obtain ⟨p, X⟩ := px
              have hp := hc2.out (p, X) (List.mem_of_getElem? hpx)
              obtain ⟨m, rfl⟩ : ∃ m : Nat, p = m := ⟨p.toNat, by have := hp.1; simp at this; omega⟩
              have hm : m < S.st.length := by have := hp.2; simp at this; omega
              have hkv := HV.out
              obtain ⟨b, o, cap, hvb, ck⟩ := (HV.out.below hH.hB).int k (n : Int) hx
              injection hvb with hvb _ hcap
              subst hcap
              subst hvb
              obtain ⟨bc, oc, cc, hvc, rC⟩ := (HH.out.hC.below hH.hB).elem wrL_len n _ hpx
              injection hvc with hvc _ hcap
              subst hcap
              subst hvc
              have hlen : (flushL S.st ((keep.take k).map fun i => S.ca.getD i.toNat (0, zsec))).length = S.st.length := flushL_length _ _
              obtain ⟨gS, cS', hvS, hth, h5⟩ := hH.drew.putL [_] secL_len m X (by rw [hlen]; exact hm)
              rw [hlen] at hvS
              injection hvS with hvS _ hcap
              subst hcap
              subst hvS
              have hFL0 : (flushL S.st ((keep.take (k + 1)).map fun i => S.ca.getD i.toNat (0, zsec)) = (flushL S.st ((keep.take k).map fun i => S.ca.getD i.toNat (0, zsec))).set m X) := by
                have := flushL_take S keep k (n : Int) (m : Int) X hx (by simpa using hpx)
                simpa using this
              have hFL := Lib.hid hFL0
              have cat : wr.cell? ⟨bc, oc + n * 129, none⟩ = some (.int .i64 (m : Int)) := by have := rC 0 (.int .i64 (m : Int)) rfl; simpa using this
              have rX : wr.rangeAt bc (oc + n * 129 + 1) (secL X) := fun j v hv => by
                have := rC (j + 1) v (by simpa [wrL] using hv)
                rwa [show oc + n * 129 + (j + 1) = oc + n * 129 + 1 + j by omega] at this
              have hixC := fun w => run_index_wr' bc oc S.ca.length cC n hn w
              have hixS := fun w => run_index_sec gS S.st.length kS m hm w
              have hki : (k : Int) < (keep.length : Int) := by omega
              have hu := Tryz.underlying53
              have H5 := Lib.hid h5
              clear hx hpx hp hodd hH h5 hlen rC hFL0
              go_wp2_with fail
              refine wp_region_ordT (fun w' => (w'.cell? ⟨tb, 0, none⟩ = some (.slice (some ⟨gS, 0, none⟩) S.st.length kS) ∧ w'.cell? ⟨W.heap.size, 1, none⟩ = some (.slice (some ⟨bc, oc, none⟩) S.ca.length cC)) ∧ (w'.cell? ⟨b, o + k, none⟩ = some (.int .i64 (n : Int)) ∧ w'.cell? ⟨bc, oc + n * 129, none⟩ = some (.int .i64 (m : Int))) ∧ w'.rangeAt bc (oc + n * 129 + 1) (secL X)) (OrdT.takes [0, 1, 2, 3, 4, 5, 6, 7, 8, 9, 10, 11, 12, 13, 14, 15, 16, 17, 18, 19, 20] (.last 21)) (by kernel_rfl) (by kernel_rfl) ⟨⟨c0, c1⟩, ⟨ck, cat⟩, rX⟩ ?_
              unfold OrdT.takes
              --ordt yyyymmyyyyyyymmyyyy
              iterate 4 (refine' t_yield _ rfl rfl rfl _ _; rotate_left; (intro w' hSw; obtain ⟨s0, s1, s2⟩ := hSw; go_simp; with_reducible rfl); simp only [Act.put, List.setIfInBounds_toArray, List.set_cons_zero, List.set_cons_succ])
              iterate 2 (refine' t_move _ _ rfl rfl rfl rfl _ _; rotate_left; (go_simp; with_reducible rfl); simp only [Act.put, List.setIfInBounds_toArray, List.set_cons_zero, List.set_cons_succ])
              iterate 7 (refine' t_yield _ rfl rfl rfl _ _; rotate_left; (intro w' hSw; obtain ⟨s0, s1, s2⟩ := hSw; go_simp; with_reducible rfl); simp only [Act.put, List.setIfInBounds_toArray, List.set_cons_zero, List.set_cons_succ])
              iterate 2 (refine' t_move _ _ rfl rfl rfl rfl _ _; rotate_left; (go_simp; with_reducible rfl); simp only [Act.put, List.setIfInBounds_toArray, List.set_cons_zero, List.set_cons_succ])
              iterate 4 (refine' t_yield _ rfl rfl rfl _ _; rotate_left; (intro w' hSw; obtain ⟨s0, s1, s2⟩ := hSw; go_simp; with_reducible rfl); simp only [Act.put, List.setIfInBounds_toArray, List.set_cons_zero, List.set_cons_succ])
              --end
              refine t_load bc (oc + n * 129 + 1) (secL X) _ _ _ rfl rfl rfl rfl rfl (fun w' hSw => hSw.2.2) hu rfl (secL_size X) ?_
              simp only [Act.put, List.setIfInBounds_toArray, List.set_cons_zero, List.set_cons_succ, secL_arr]
              --ordt y
              (refine' t_yield _ rfl rfl rfl _ _; rotate_left; (intro w' hSw; obtain ⟨s0, s1, s2⟩ := hSw; go_simp; with_reducible rfl); simp only [Act.put, List.setIfInBounds_toArray, List.set_cons_zero, List.set_cons_succ])
              --end
              refine t_last rfl rfl (fun K hK => wp_store_mid _ _ _ rfl gS (m * 128) (sec X) rfl rfl (by rw [sec_size]; exact hth) (by rw [sec_size]; exact sector_size) (Array.all_eq_true_iff_forall_mem.2 (sec_one X)) (hK _ _ (NoPanic.normal ?_)))
              clear c0 c1 ck cat rX hth
              go_wp2
              go_roundw
              case rel => exact ⟨k + 1, by omega, by go_num, by rw [hFL.out]; exact H5.out⟩
              case measure => simp [intOf]; omega
            · have hkk3 : k = keep.length := by omega
              rw [hkk3, List.take_length] at hH
              have y0 := hH.cell 0 _ _ _ rfl 0 _ rfl
              have y1 := hH.cell 0 _ _ _ rfl 1 _ rfl
              have y2 := hH.cell 0 _ _ _ rfl 2 _ rfl
              have y3 := hH.cell 0 _ _ _ rfl 3 _ rfl
              have y4 := hH.cell 0 _ _ _ rfl 4 _ rfl
              have f1 := hH.frozen 0 _ _ _ rfl 1
              have f3 := hH.frozen 0 _ _ _ rfl 3
              have f4 := hH.frozen 0 _ _ _ rfl 4
              have h11 := ((hH.setCell [] 1 (.slice none 0 0)).setCell [] 3 (.int .i64 (-1))).setCell [] 4 (.bool false)
              have z0 := h11.cell 3 _ _ _ rfl 0 _ rfl
              have z1 := h11.cell 3 _ _ _ rfl 1 _ rfl
              have z2 := h11.cell 3 _ _ _ rfl 2 _ rfl
              have z3 := h11.cell 3 _ _ _ rfl 3 _ rfl
              have z4 := h11.cell 3 _ _ _ rfl 4 _ rfl
              have r0 := h11.frozen 3 _ _ _ rfl 0
              have r1 := h11.frozen 3 _ _ _ rfl 1
              have r2 := h11.frozen 3 _ _ _ rfl 2
              have r3 := h11.frozen 3 _ _ _ rfl 3
              have r4 := h11.frozen 3 _ _ _ rfl 4
              have h12 := h11.store5 [_, _, _] (.slice bS S.st.length kS) (.slice none 0 0) (.int .i64 S.taken) (.int .i64 (-1)) (.bool false)
              have H12 := Lib.hid (OwnR.nil h12 87 129 wrL)
              clear h11 h12 hH c0 c1
              go_wp2
              refine bodyPost_ret (results_st2 rfl _ _ (W.heap.size + 1) _ rfl (H12.out.blk 4 _ _ rfl).1 rfl) rfl ?_
              rw [HE.out.1, HE.out.2]
              exact NewSt.res (S := { st := S.keepL keep, ca := [], taken := S.taken, power := -1, off := false }) H12.out (.tail _ (.tail _ (.head _))) (.head _) (by show (flushL _ _).length ≤ _; rw [flushL_length]; exact l1) (by simp)
end Go.Proofs.YtfbkfdoekgnldaaGreatDoor
