/- The reference's device: Check, the error of a state. -/
import Derived.Test.YtjbjhjlfcbhaiaaRefLim
import Derived.Test.YtjbjhjlfcbhaiaaDevLd
namespace Go.Proofs.Ytjbjhjlfcbhaiaa
open Go.RowKit
attribute [local go_sem] Oper.semAt_some setRow_alloc_at setRow_alloc_past setRow_drew
set_option maxRecDepth 100000 in
set_option maxHeartbeats 4000000 in
theorem ref_check {W : World} {S : Dv} {uS uC : Value} (h : StIn W S uS uC) :
    Calls Try.prog 33 #[.agg (stCells uS uC S)] W fun e w' => e = .returned (.int .i64 S.checkE) ∧ Below W.heap.size W w' := by
  have HH := Lib.hid h
  have l1 := h.l1
  have l2 := h.l2
  obtain ⟨⟨aS, cS, rfl, _⟩, ⟨aC, cC, rfl, _⟩, _, _⟩ := h
  have hb := (Has.start W).alloc (.cells #[.slice aS S.st.length cS, .slice aC S.ca.length cC, .int .i64 S.taken, .int .i64 S.power, .bool S.off] 57)
  have HB := Lib.hid hb
  have HR : Hid (S.rangeB = true → S.checkE = 7) := fun hr => by unfold Dv.checkE; rw [if_pos hr]
  unfold stCells
  clear hb
  by_cases q0 : (S.st.length : Int) < 64
  · have HV := Lib.hid (HR.out (by unfold Dv.rangeB; simp only [Bool.or_eq_true, decide_eq_true_eq]; omega))
    clear HR
    go_enter Try.func33, Try.ntmps33
    go_wp2
    go_ret
    exact ⟨by rw [HV.out]; rfl, HB.out.hB⟩
  by_cases q1 : 256 < (S.st.length : Int)
  · have HV := Lib.hid (HR.out (by unfold Dv.rangeB; simp only [Bool.or_eq_true, decide_eq_true_eq]; omega))
    clear HR
    go_enter Try.func33, Try.ntmps33
    go_wp2
    go_ret
    exact ⟨by rw [HV.out]; rfl, HB.out.hB⟩
  by_cases q2 : S.taken < 0
  · have HV := Lib.hid (HR.out (by unfold Dv.rangeB; simp only [Bool.or_eq_true, decide_eq_true_eq]; omega))
    clear HR
    go_enter Try.func33, Try.ntmps33
    go_wp2
    go_ret
    exact ⟨by rw [HV.out]; rfl, HB.out.hB⟩
  by_cases q3 : 1000000000000 < S.taken
  · have HV := Lib.hid (HR.out (by unfold Dv.rangeB; simp only [Bool.or_eq_true, decide_eq_true_eq]; omega))
    clear HR
    go_enter Try.func33, Try.ntmps33
    go_wp2
    go_ret
    exact ⟨by rw [HV.out]; rfl, HB.out.hB⟩
  by_cases q4 : S.power < -1
  · have HV := Lib.hid (HR.out (by unfold Dv.rangeB; simp only [Bool.or_eq_true, decide_eq_true_eq]; omega))
    clear HR
    go_enter Try.func33, Try.ntmps33
    go_wp2
    go_ret
    exact ⟨by rw [HV.out]; rfl, HB.out.hB⟩
  by_cases q5 : 1000000000000 < S.power
  · have HV := Lib.hid (HR.out (by unfold Dv.rangeB; simp only [Bool.or_eq_true, decide_eq_true_eq]; omega))
    clear HR
    go_enter Try.func33, Try.ntmps33
    go_wp2
    go_ret
    exact ⟨by rw [HV.out]; rfl, HB.out.hB⟩
  have HV : Hid (S.ca.any (oddW S.st.length) = false → S.checkE = if 400 < S.ca.length then 3 else 0) := fun hr => by
    have : S.rangeB = false := by
      simp only [Dv.rangeB, Bool.or_eq_false_iff, decide_eq_false_iff_not]
      refine ⟨⟨⟨⟨⟨⟨by omega, by omega⟩, q2⟩, q3⟩, q4⟩, q5⟩, hr⟩
    unfold Dv.checkE
    rw [this, if_neg (by simp)]
  go_enter Try.func33, Try.ntmps33
  go_wp2_with fail
  go_loopw [3] (fun i wr => ∃ k : Nat, k ≤ S.ca.length ∧ i = .int .i64 (k : Int) ∧ Hid ((S.ca.take k).any (oddW S.st.length) = false) ∧ Has W wr [Blk _ W.heap.size (.cells #[.slice aS S.st.length cS, .slice aC S.ca.length cC, .int .i64 S.taken, .int .i64 S.power, .bool S.off] 57)]) (fun i _ => S.ca.length - (intOf i).toNat)
  case atStart => exact ⟨0, Nat.zero_le _, rfl, Lib.hid rfl, HB.out⟩
  case round =>
    obtain ⟨k, hk, rfl, HA, hH⟩ := hrel
    clear HB
    have c0 := hH.cell 0 _ _ _ rfl 0 _ rfl
    have c1 := hH.cell 0 _ _ _ rfl 1 _ rfl
    by_cases hlt : k < S.ca.length
    · obtain ⟨x, hx⟩ : ∃ x, S.ca[k]? = some x := ⟨_, List.getElem?_eq_getElem hlt⟩
      obtain ⟨ba, oa, cap2, hv, r⟩ := (HH.out.hC.below hH.hB).elem wrL_len k x hx
      injection hv with hv _ hcap
      subst hcap
      subst hv
      have ck : wr.cell? ⟨ba, oa + k * 129, none⟩ = some (.int .i64 x.1) := r 0 _ rfl
      have hix := fun w => run_index_wr' ba oa S.ca.length cC k hlt w
      have hki : (k : Int) < (S.ca.length : Int) := by omega
      have Hh := Lib.hid hH
      have HX := Lib.hid hx
      clear hx hH r
      by_cases n0 : x.1 < 0
      · have HE := Lib.hid (HR.out (by
          unfold Dv.rangeB
          rw [Bool.or_eq_true]; right
          rw [List.any_eq_true]
          exact ⟨x, List.mem_of_getElem? HX.out, by simp [oddW]; omega⟩))
        go_wp2_with fail
        refine wp_region_ordT (fun w' => w'.cell? ⟨ba, oa + k * 129, none⟩ = some (.int .i64 x.1) ∧ w'.cell? ⟨W.heap.size, 0, none⟩ = some (.slice aS S.st.length cS) ∧ w'.cell? ⟨W.heap.size, 1, none⟩ = some (.slice (some ⟨ba, oa, none⟩) S.ca.length cC)) (OrdT.takes [0, 1, 2, 3, 4, 5, 6, 7, 8, 9, 10, 11, 12, 13, 14, 15, 16, 17, 18] .done) (by kernel_rfl) (by kernel_rfl) ⟨ck, c0, c1⟩ ?_
        unfold OrdT.takes
        --ordt yymyyyym ssssssssss y
        iterate 2 (refine' t_yield _ rfl rfl rfl _ _; rotate_left; (intro w' hSw; obtain ⟨s0, s1, s2⟩ := hSw; go_simp; with_reducible rfl); simp only [Act.put, List.setIfInBounds_toArray, List.set_cons_zero, List.set_cons_succ])
        (refine' t_move _ _ rfl rfl rfl rfl _ _; rotate_left; (go_simp; with_reducible rfl); simp only [Act.put, List.setIfInBounds_toArray, List.set_cons_zero, List.set_cons_succ])
        iterate 4 (refine' t_yield _ rfl rfl rfl _ _; rotate_left; (intro w' hSw; obtain ⟨s0, s1, s2⟩ := hSw; go_simp; with_reducible rfl); simp only [Act.put, List.setIfInBounds_toArray, List.set_cons_zero, List.set_cons_succ])
        (refine' t_move _ _ rfl rfl rfl rfl _ _; rotate_left; (go_simp; with_reducible rfl); simp only [Act.put, List.setIfInBounds_toArray, List.set_cons_zero, List.set_cons_succ])
        iterate 10 (refine t_skip rfl rfl rfl ?_; simp only [Act.put, List.setIfInBounds_toArray, List.set_cons_zero, List.set_cons_succ])
        (refine' t_yield _ rfl rfl rfl _ _; rotate_left; (intro w' hSw; obtain ⟨s0, s1, s2⟩ := hSw; go_simp; with_reducible rfl); simp only [Act.put, List.setIfInBounds_toArray, List.set_cons_zero, List.set_cons_succ])
        --end
        refine t_done ?_
        go_wp2
        go_ret
        exact ⟨by rw [HE.out]; rfl, Hh.out.drew.hB⟩
      · have n0' : decide (x.1 < 0) = false := decide_eq_false n0
        by_cases n1 : (S.st.length : Int) ≤ x.1
        · have HE := Lib.hid (HR.out (by
            unfold Dv.rangeB
            rw [Bool.or_eq_true]; right
            rw [List.any_eq_true]
            exact ⟨x, List.mem_of_getElem? HX.out, by simp [oddW]; omega⟩))
          go_wp2_with fail
          refine wp_region_ordT (fun w' => w'.cell? ⟨ba, oa + k * 129, none⟩ = some (.int .i64 x.1) ∧ w'.cell? ⟨W.heap.size, 0, none⟩ = some (.slice aS S.st.length cS) ∧ w'.cell? ⟨W.heap.size, 1, none⟩ = some (.slice (some ⟨ba, oa, none⟩) S.ca.length cC)) (OrdT.takes [0, 1, 2, 3, 4, 5, 6, 7, 8, 9, 10, 11, 12, 13, 14, 15, 16, 17, 18] .done) (by kernel_rfl) (by kernel_rfl) ⟨ck, c0, c1⟩ ?_
          unfold OrdT.takes
          --ordt yymyyyym yymyyyyyyy y
          iterate 2 (refine' t_yield _ rfl rfl rfl _ _; rotate_left; (intro w' hSw; obtain ⟨s0, s1, s2⟩ := hSw; go_simp; with_reducible rfl); simp only [Act.put, List.setIfInBounds_toArray, List.set_cons_zero, List.set_cons_succ])
          (refine' t_move _ _ rfl rfl rfl rfl _ _; rotate_left; (go_simp; with_reducible rfl); simp only [Act.put, List.setIfInBounds_toArray, List.set_cons_zero, List.set_cons_succ])
          iterate 4 (refine' t_yield _ rfl rfl rfl _ _; rotate_left; (intro w' hSw; obtain ⟨s0, s1, s2⟩ := hSw; go_simp; with_reducible rfl); simp only [Act.put, List.setIfInBounds_toArray, List.set_cons_zero, List.set_cons_succ])
          (refine' t_move _ _ rfl rfl rfl rfl _ _; rotate_left; (go_simp; with_reducible rfl); simp only [Act.put, List.setIfInBounds_toArray, List.set_cons_zero, List.set_cons_succ])
          iterate 2 (refine' t_yield _ rfl rfl rfl _ _; rotate_left; (intro w' hSw; obtain ⟨s0, s1, s2⟩ := hSw; go_simp; with_reducible rfl); simp only [Act.put, List.setIfInBounds_toArray, List.set_cons_zero, List.set_cons_succ])
          (refine' t_move _ _ rfl rfl rfl rfl _ _; rotate_left; (go_simp; with_reducible rfl); simp only [Act.put, List.setIfInBounds_toArray, List.set_cons_zero, List.set_cons_succ])
          iterate 8 (refine' t_yield _ rfl rfl rfl _ _; rotate_left; (intro w' hSw; obtain ⟨s0, s1, s2⟩ := hSw; go_simp; with_reducible rfl); simp only [Act.put, List.setIfInBounds_toArray, List.set_cons_zero, List.set_cons_succ])
          --end
          refine t_done ?_
          go_wp2
          go_ret
          exact ⟨by rw [HE.out]; rfl, Hh.out.drew.hB⟩
        · have n1' : decide ((S.st.length : Int) ≤ x.1) = false := decide_eq_false n1
          have HA' : Hid ((S.ca.take (k + 1)).any (oddW S.st.length) = false) := Lib.hid (by
            rw [List.take_add_one, HX.out, List.any_append, HA.out]; simp [oddW]; omega)
          go_wp2_with fail
          refine wp_region_ordT (fun w' => w'.cell? ⟨ba, oa + k * 129, none⟩ = some (.int .i64 x.1) ∧ w'.cell? ⟨W.heap.size, 0, none⟩ = some (.slice aS S.st.length cS) ∧ w'.cell? ⟨W.heap.size, 1, none⟩ = some (.slice (some ⟨ba, oa, none⟩) S.ca.length cC)) (OrdT.takes [0, 1, 2, 3, 4, 5, 6, 7, 8, 9, 10, 11, 12, 13, 14, 15, 16, 17, 18] .done) (by kernel_rfl) (by kernel_rfl) ⟨ck, c0, c1⟩ ?_
          unfold OrdT.takes
          --ordt yymyyyym yymyyyyyyy y
          iterate 2 (refine' t_yield _ rfl rfl rfl _ _; rotate_left; (intro w' hSw; obtain ⟨s0, s1, s2⟩ := hSw; go_simp; with_reducible rfl); simp only [Act.put, List.setIfInBounds_toArray, List.set_cons_zero, List.set_cons_succ])
          (refine' t_move _ _ rfl rfl rfl rfl _ _; rotate_left; (go_simp; with_reducible rfl); simp only [Act.put, List.setIfInBounds_toArray, List.set_cons_zero, List.set_cons_succ])
          iterate 4 (refine' t_yield _ rfl rfl rfl _ _; rotate_left; (intro w' hSw; obtain ⟨s0, s1, s2⟩ := hSw; go_simp; with_reducible rfl); simp only [Act.put, List.setIfInBounds_toArray, List.set_cons_zero, List.set_cons_succ])
          (refine' t_move _ _ rfl rfl rfl rfl _ _; rotate_left; (go_simp; with_reducible rfl); simp only [Act.put, List.setIfInBounds_toArray, List.set_cons_zero, List.set_cons_succ])
          iterate 2 (refine' t_yield _ rfl rfl rfl _ _; rotate_left; (intro w' hSw; obtain ⟨s0, s1, s2⟩ := hSw; go_simp; with_reducible rfl); simp only [Act.put, List.setIfInBounds_toArray, List.set_cons_zero, List.set_cons_succ])
          (refine' t_move _ _ rfl rfl rfl rfl _ _; rotate_left; (go_simp; with_reducible rfl); simp only [Act.put, List.setIfInBounds_toArray, List.set_cons_zero, List.set_cons_succ])
          iterate 8 (refine' t_yield _ rfl rfl rfl _ _; rotate_left; (intro w' hSw; obtain ⟨s0, s1, s2⟩ := hSw; go_simp; with_reducible rfl); simp only [Act.put, List.setIfInBounds_toArray, List.set_cons_zero, List.set_cons_succ])
          --end
          refine t_done ?_
          go_wp2
          go_roundw
          case rel => exact ⟨k + 1, by omega, by go_num, HA', Hh.out.drew⟩
          case measure => simp [intOf]; omega
    · have hkk : k = S.ca.length := by omega
      have HE := Lib.hid (HV.out (by have := HA.out; rwa [hkk, List.take_length] at this))
      have Hh := Lib.hid hH
      clear hH
      by_cases n0 : 400 < (S.ca.length : Int)
      · go_wp2
        go_ret
        exact ⟨by rw [HE.out, if_pos (by omega)]; rfl, Hh.out.hB⟩
      · go_wp2
        go_ret
        exact ⟨by rw [HE.out, if_neg (by omega)]; rfl, Hh.out.hB⟩
end Go.Proofs.Ytjbjhjlfcbhaiaa
