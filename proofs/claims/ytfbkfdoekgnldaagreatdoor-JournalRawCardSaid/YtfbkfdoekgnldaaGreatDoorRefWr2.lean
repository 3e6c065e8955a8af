/- The reference's device: Write. The reference's device: a write that is taken. -/
import Derived.Test.YtfbkfdoekgnldaaGreatDoorRefLim
import Derived.Test.YtfbkfdoekgnldaaGreatDoorAppL
import Derived.Deep.DeepCutAuto
namespace Go.Proofs.YtfbkfdoekgnldaaGreatDoor
open Go.RowKit
attribute [local go_sem] Oper.semAt_some setRow_alloc_at setRow_alloc_past setRow_drew
section
variable {P : Program} {ops : Array Oper} {Q : Exit → Act → World → Prop} {S : World → Prop} {t : OrdT} {a : Act} {w : World} {o : Oper} {K : Act → World → Prop}
theorem t_build_wr {i d : Nat} (n : Int) (X : Sector) (x y : Operand) (hi : ops[i]? = some o) (hd : o.dst = some d) (hw : Region.wanted o (yielded ops a.tmps) = true) (ho : o.op = .build 87 #[(0, x), (1, y)]) (hx : a.eval x = .int .i64 n) (hy : a.eval y = .agg (sec X))
    (h : wpT Tryz.prog ops S Q t (a.put (some d) (.agg (wrV (n, X)))) w) : wpT Tryz.prog ops S Q (.take i t) a w :=
  ⟨o, .agg (wrV (n, X)), hi, .inl ⟨hw, fun w' _ => by
    unfold execOp
    simp only [ho, List.map_toArray, List.map_cons, List.map_nil, hx, hy, Sem.run_bind, run_build_wr, Result.andThen_ok, Sem.run_pure]⟩, by rw [hd]; exact h⟩
theorem wp_buildSlice0 {d : Nat} (hd : o.dst = some d) (ty e : TypeId) (ht : Tryz.prog.underlying ty = some (.slice e)) (hs : ∀ w, ∃ n, (sizeOf e).run Tryz.prog w = .ok n w) (ho : o.op = .buildSlice ty 0 #[])
    (h : K (a.put (some d) (.slice (some ⟨w.heap.size, 0, none⟩) 0 0)) (w.alloc (.cells #[] e))) : o.wp Tryz.prog a w K Q := by
  have h' : K (a.put o.dst (.slice (some ⟨w.heap.size, 0, none⟩) 0 0)) (w.alloc (.cells #[] e)) := by rw [hd]; exact h
  unfold Oper.wp execOp
  simp only [ho, List.map_toArray, List.map_nil, Sem.run_bind, run_buildSlice0 ty e ht hs, Result.andThen_ok, Sem.run_pure]
  exact h'
theorem wp_append_d {d : Nat} (hd : o.dst = some d) (s x : Operand) (ts : Array TypeId) (ho : o.op = .call { callee := .builtin .append, args := #[s, x], argTypes := ts }) (vs vx v : Value) (w' : World) (hs : a.eval s = vs) (hx : a.eval x = vx)
    (hrun : (Builtin.append_ ts o.type #[vs, vx]).run Tryz.prog w = .ok v w') (h : K (a.put (some d) v) w') : o.wp Tryz.prog a w K Q :=
  wp_append_eq s x ts ho vs vx v w' hs hx hrun (by rw [hd]; exact h)
theorem wp_buildSlice_wr {d : Nat} (hd : o.dst = some d) (x : Operand) (y : Wr) (ho : o.op = .buildSlice 32 1 #[(0, x)]) (hx : a.eval x = .agg (wrV y))
    (h : K (a.put (some d) (.slice (some ⟨w.heap.size, 0, none⟩) 1 1)) (w.alloc (.cells (wrV y) 87))) : o.wp Tryz.prog a w K Q := by
  have h' : K (a.put o.dst (.slice (some ⟨w.heap.size, 0, none⟩) 1 1)) (w.alloc (.cells (wrV y) 87)) := by rw [hd]; exact h
  unfold Oper.wp execOp
  simp only [ho, List.map_toArray, List.map_cons, List.map_nil, hx, Sem.run_bind, run_buildSlice_wr, Result.andThen_ok, Sem.run_pure]
  exact h'
end
/-- a state in the box of a walk, beside a sector and an empty state -/
def wrBox (W : World) (u0 u1 u2 u3 u4 : Value) (X : Sector) : World := ((W.alloc (.cells #[u0, u1, u2, u3, u4] 34)).alloc (.cells (sec X) 53)).alloc (.cells #[.slice none 0 0, .slice none 0 0, .int .i64 0, .int .i64 0, .bool false] 34)
theorem wrBox_has (W : World) (u0 u1 u2 u3 u4 : Value) (X : Sector) : Has W (wrBox W u0 u1 u2 u3 u4 X) [Blk _ (W.heap.size + 1 + 1) (.cells #[.slice none 0 0, .slice none 0 0, .int .i64 0, .int .i64 0, .bool false] 34), Blk _ (W.heap.size + 1) (.cells (sec X) 53), Blk _ W.heap.size (.cells #[u0, u1, u2, u3, u4] 34)] :=
  (((Has.start W).alloc _).allocAt _ (W.heap.size + 1) (by simp)).allocAt _ (W.heap.size + 1 + 1) (by simp)
set_option maxRecDepth 100000 in
set_option maxHeartbeats 2000000 in
/-- a write that is not taken -/
theorem ref_write_no {W : World} {S : Dv} {uS uC : Value} (h : StIn W S uS uC) (n : Int) (X : Sector) (hno : S.writeE n ≠ 0) :
    Calls Tryz.prog 74 #[.agg (stCells uS uC S), .int .i64 n, .agg (sec X)] W (StRes W S uS uC (S.write n X) (S.writeE n)) := by
  have HH := Lib.hid h
  obtain ⟨⟨aS, cS, rfl, _⟩, ⟨aC, cC, rfl, _⟩, _, _⟩ := h
  have hB3 : ∀ (A B C : Obj), Below W.heap.size W (((W.alloc A).alloc B).alloc C) := fun A B C => ((((Below.refl _ _).alloc (Nat.le_refl _) _).alloc (by simp) _).alloc (by simp; omega) _)
  have HB3 := Lib.hid hB3
  have hbx := run_box_sector
  unfold stCells
  clear hB3
  cases hoff : S.off
  · by_cases h1 : n < 0
    · have hat : S.at n = 7 := by unfold Dv.at; rw [hoff, if_neg (by simp), if_pos (.inl h1)]
      have HV := Lib.hid (show S.writeE n = 7 ∧ S.write n X = S by unfold Dv.writeE Dv.write; rw [hat]; exact ⟨rfl, rfl⟩)
      have hr := fun W' hB => HH.out.res (S' := S) (code := 7) (W' := W') hB rfl rfl
      simp only [stCells, hoff] at hr
      have HR := Lib.hid hr
      clear hat hoff hno hr
      go_enter Tryz.func74, Tryz.ntmps74
      go_wp2
      refine bodyPost_ret (results_st2 rfl _ _ (W.heap.size + 1 + 1) _ rfl (heap_alloc_eq _ _ _ (by simp)) rfl) rfl ?_
      rw [HV.out.1, HV.out.2]
      exact HR.out _ (HB3.out _ _ _)
    · by_cases h2 : (S.st.length : Int) ≤ n
      · have hat : S.at n = 7 := by unfold Dv.at; rw [hoff, if_neg (by simp), if_pos (.inr h2)]
        have HV := Lib.hid (show S.writeE n = 7 ∧ S.write n X = S by unfold Dv.writeE Dv.write; rw [hat]; exact ⟨rfl, rfl⟩)
        have hr := fun W' hB => HH.out.res (S' := S) (code := 7) (W' := W') hB rfl rfl
        simp only [stCells, hoff] at hr
        have HR := Lib.hid hr
        clear hat hoff hno hr
        go_enter Tryz.func74, Tryz.ntmps74
        go_wp2
        refine bodyPost_ret (results_st2 rfl _ _ (W.heap.size + 1 + 1) _ rfl (heap_alloc_eq _ _ _ (by simp)) rfl) rfl ?_
        rw [HV.out.1, HV.out.2]
        exact HR.out _ (HB3.out _ _ _)
      · have hat : S.at n = 0 := Dv.at_ok hoff (by omega) (by omega)
        have hW : S.power = 0 ∨ 1000000000000 ≤ S.taken := by
          unfold Dv.writeE at hno
          rw [if_neg (by simp [hat])] at hno
          by_cases hc : S.power = 0 ∨ 1000000000000 ≤ S.taken
          · exact hc
          · rw [if_neg hc] at hno; exact absurd rfl hno
        have HV := Lib.hid (show S.writeE n = 13 ∧ S.write n X = { S with off := true } from ⟨by unfold Dv.writeE; rw [if_neg (by simp [hat]), if_pos hW], by unfold Dv.write; rw [if_neg (by simp [hat]), if_pos hW]⟩)
        by_cases h3 : S.power = 0
        · have h3b : (S.power == 0) = true := by simpa using h3
          have hr := fun W' hB => HH.out.res (S' := { S with off := true }) (code := 13) (W' := W') hB rfl rfl
          simp only [stCells] at hr
          have HR := Lib.hid hr
          clear hat hoff hW h3 hno hr
          go_enter Tryz.func74, Tryz.ntmps74
          go_wp2
          refine bodyPost_ret (results_st2 rfl _ _ (W.heap.size + 1 + 1) _ rfl (heap_alloc_eq _ _ _ (by simp)) rfl) rfl ?_
          rw [HV.out.1, HV.out.2]
          exact HR.out _ (HB3.out _ _ _)
        · have h3b : (S.power == 0) = false := by simpa using h3
          have h4 : 1000000000000 ≤ S.taken := by omega
          have hr := fun W' hB => HH.out.res (S' := { S with off := true }) (code := 13) (W' := W') hB rfl rfl
          simp only [stCells] at hr
          have HR := Lib.hid hr
          clear hat hoff hW h3 hno hr
          go_enter Tryz.func74, Tryz.ntmps74
          go_wp2
          refine bodyPost_ret (results_st2 rfl _ _ (W.heap.size + 1 + 1) _ rfl (heap_alloc_eq _ _ _ (by simp)) rfl) rfl ?_
          rw [HV.out.1, HV.out.2]
          exact HR.out _ (HB3.out _ _ _)
  · have hat : S.at n = 13 := by unfold Dv.at; rw [hoff, if_pos rfl]
    have HV := Lib.hid (show S.writeE n = 13 ∧ S.write n X = S by unfold Dv.writeE Dv.write; rw [hat]; exact ⟨rfl, rfl⟩)
    have hr := fun W' hB => HH.out.res (S' := S) (code := 13) (W' := W') hB rfl rfl
    simp only [stCells, hoff] at hr
    have HR := Lib.hid hr
    clear hat hoff hno hr
    go_enter Tryz.func74, Tryz.ntmps74
    go_wp2
    refine bodyPost_ret (results_st2 rfl _ _ (W.heap.size + 1 + 1) _ rfl (heap_alloc_eq _ _ _ (by simp)) rfl) rfl ?_
    rw [HV.out.1, HV.out.2]
    exact HR.out _ (HB3.out _ _ _)
end Go.Proofs.YtfbkfdoekgnldaaGreatDoor
namespace Go.Proofs.YtfbkfdoekgnldaaGreatDoor
open Go.RowKit
attribute [local go_sem] Oper.semAt_some setRow_alloc_at setRow_alloc_past setRow_drew
theorem writeE_zero {S : Dv} {n : Int} (h : S.writeE n = 0) : S.off = false ∧ 0 ≤ n ∧ n < S.st.length ∧ S.power ≠ 0 ∧ S.taken < 1000000000000 ∧ ∀ X, S.write n X = S.roomy.push n X := by
  have hat : S.at n = 0 := by
    unfold Dv.writeE at h
    by_cases hc : S.at n ≠ 0
    · rw [if_pos hc] at h; exact absurd h hc
    · exact Decidable.not_not.1 hc
  have hp : ¬(S.power = 0 ∨ 1000000000000 ≤ S.taken) := by
    unfold Dv.writeE at h
    rw [if_neg (by simp [hat])] at h
    intro hc; rw [if_pos hc] at h; exact absurd h (by decide)
  have hoff : S.off = false := by
    unfold Dv.at at hat
    cases ho : S.off
    · rfl
    · rw [ho, if_pos rfl] at hat; exact absurd hat (by decide)
  have hn : ¬(n < 0 ∨ (S.st.length : Int) ≤ n) := by
    unfold Dv.at at hat
    rw [hoff, if_neg (by simp)] at hat
    intro hc; rw [if_pos hc] at hat; exact absurd hat (by decide)
  refine ⟨hoff, by omega, by omega, fun e => hp (.inl e), by omega, fun X => ?_⟩
  unfold Dv.write
  rw [if_neg (by simp [hat]), if_neg hp]
set_option maxRecDepth 100000 in
set_option maxHeartbeats 4000000 in
theorem ref_write_yes {W : World} {S : Dv} {uS uC : Value} (h : StIn W S uS uC) (ok : S.Ok) (n : Int) (X : Sector) (hyes : S.writeE n = 0) :
    Calls Tryz.prog 74 #[.agg (stCells uS uC S), .int .i64 n, .agg (sec X)] W (StRes W S uS uC (S.write n X) 0) := by
  obtain ⟨hoff, hn0, hn1, hpw, htk, hw⟩ := writeE_zero hyes
  have hok := ok.c2
  have ht1 := ok.t1
  have hp1 := ok.p1
  have hp2 := ok.p2
  have hsl := ok.s2
  have HW := Lib.hid (hw X)
  have HH := Lib.hid h
  have hbx := wrBox_has W uS uC (.int .i64 S.taken) (.int .i64 S.power) (.bool S.off) X
  have hA := (hbx.addRd h.hS secL_len (by decide)).addRd h.hC wrL_len (by decide)
  have hst := ref_stable (h.below hbx.hB) hok
  obtain ⟨⟨aS, cS, rfl, _⟩, ⟨aC, cC, rfl, _⟩, _, _⟩ := h
  unfold stCells at hst ⊢
  unfold wrBox at hbx hA hst
  rw [hoff] at hbx hA hst ⊢
  have HA := Lib.hid hA
  have HX := Lib.hid hbx
  have HST := Lib.hid hst
  have hpb : (S.power == 0) = false := by simpa using hpw
  have hbs := run_box_sector
  have HOF := Lib.hid hoff
  clear hbx hA hst hw hyes hpw hoff hok ok
  go_enter Tryz.func74, Tryz.ntmps74
  go_upto_if 34 with fail
  go_cut [] (fun wx => ∃ bS kS bC kC, Has W wx [RdR _ 129 wrL (.slice bC S.roomy.ca.length kC) S.roomy.ca, RdR _ 128 secL (.slice bS S.roomy.st.length kS) S.roomy.st, Blk _ (W.heap.size + 1 + 1) (.cells #[.slice none 0 0, .slice none 0 0, .int .i64 0, .int .i64 0, .bool false] 34), Blk _ (W.heap.size + 1) (.cells (sec X) 53), Blk _ W.heap.size (.cells #[.slice bS S.roomy.st.length kS, .slice bC S.roomy.ca.length kC, .int .i64 S.roomy.taken, .int .i64 S.roomy.power, .bool S.roomy.off] 34)] ∧ ∀ k ∈ blksL (.slice bS S.roomy.st.length kS) S.roomy.st, k ∈ blksL (.slice aS S.st.length cS) S.st ∨ W.heap.size ≤ k)
  case first =>
    by_cases hfull : 400 ≤ S.ca.length
    · have hf : (400 : Int) ≤ (S.ca.length : Int) := by omega
      have hR : S.roomy = S.stable := by unfold Dv.roomy; rw [if_pos hfull]
      have HR := Lib.hid hR
      clear hfull hR
      go_wp2_with fail
      refine HST.out.mono ?_
      rintro e w3 hn
      obtain ⟨bS, kS, bC, kC, rfl, h3⟩ := hn.has HX.out
      clear hn
      have c0 := h3.cell 4 _ _ _ rfl 0 _ rfl
      have c1 := h3.cell 4 _ _ _ rfl 1 _ rfl
      have c2 := h3.cell 4 _ _ _ rfl 2 _ rfl
      have c3 := h3.cell 4 _ _ _ rfl 3 _ rfl
      have c4 := h3.cell 4 _ _ _ rfl 4 _ rfl
      have f0 := h3.frozen 4 _ _ _ rfl 0
      have f1 := h3.frozen 4 _ _ _ rfl 1
      have f2 := h3.frozen 4 _ _ _ rfl 2
      have f3 := h3.frozen 4 _ _ _ rfl 3
      have f4 := h3.frozen 4 _ _ _ rfl 4
      have h4 := h3.store5 [_, _, _, _] (.slice bS S.stable.st.length kS) (.slice bC S.stable.ca.length kC) (.int .i64 S.stable.taken) (.int .i64 S.stable.power) (.bool S.stable.off)
      have H4 := Lib.hid h4
      clear h3 h4
      unfold stCells
      go_wp2_with fail
      go_meet
      rw [HR.out]
      obtain ⟨F, ⟨_, rfl⟩, hF⟩ := H4.out.head
      have h5 := (H4.out.asRd.perm (List.Perm.swap _ _ _)).asRd
      exact ⟨bS, kS, bC, kC, h5, fun k hk => .inr (hF k (blksL_sub _ _ k hk))⟩
    · have hf : (S.ca.length : Int) < 400 := by omega
      have hR : S.roomy = S := by unfold Dv.roomy; rw [if_neg hfull]
      have HR := Lib.hid hR
      clear hfull hR
      go_wp2_with fail
      go_meet
      rw [HR.out, HOF.out]
      exact ⟨aS, cS, aC, cC, HA.out, fun k hk => .inl hk⟩
  case rest =>
    obtain ⟨bS, kS, bC, kC, h5, hbk⟩ := hcut
    have hRl : S.roomy.ca.length < 400 := Dv.roomy_lt
    have HBK := Lib.hid hbk
    obtain ⟨R, hR⟩ : ∃ R, R = S.roomy := ⟨_, rfl⟩
    have hRt : R.taken = S.taken := by rw [hR]; exact Dv.roomy_taken
    have hRp : R.power = S.power := by rw [hR]; exact Dv.roomy_power
    have hRs : R.st.length = S.st.length := by rw [hR]; exact Dv.roomy_len
    have hRo : R.off = false := by rw [hR, ← HOF.out]; unfold Dv.roomy; split <;> rfl
    rw [← hR] at h5 HBK hRl HW
    have HRF := Lib.hid (And.intro hRt (And.intro hRp (And.intro hRs hRo)))
    have hRl' : (R.ca.length : Int) < 400 := by omega
    clear hR hRt hRp hRs hRo hbk HST HX HA HOF
    have c1 := h5.cell 4 _ _ _ rfl 1 _ rfl
    have x1 := (h5.blk 3 _ _ rfl).1
    have rX := rangeAt_row x1 (secL X) 0 (fun j v hv => by rw [Nat.zero_add]; simpa [secL] using hv)
    have f1 := h5.frozen 4 _ _ _ rfl 1
    have hu := Tryz.underlying53
    have HSK : Hid (∀ {l1 l2 : List (Res W.heap.size)} W', Has W W' (l1 ++ Blk _ (W.heap.size + 1) (.cells (sec X) 53) :: Blk _ W.heap.size (.cells #[.slice bS R.st.length kS, .slice bC R.ca.length kC, .int .i64 R.taken, .int .i64 R.power, .bool R.off] 34) :: l2) → W'.cell? ⟨W.heap.size, 1, none⟩ = some (.slice bC R.ca.length kC) ∧ W'.rangeAt (W.heap.size + 1) 0 (secL X) ∧ True) := fun W' h => by
      obtain ⟨F, ⟨_, hb⟩, _⟩ := h.mem (List.mem_append_right _ (.tail _ (.head _)))
      obtain ⟨F, ⟨_, hx⟩, _⟩ := h.mem (List.mem_append_right _ (.head _))
      exact ⟨cell_of_row _ _ 1 _ _ _ hb, rangeAt_row hx (secL X) 0 (fun j v hv => by rw [Nat.zero_add]; simpa [secL] using hv), trivial⟩
    have H5 := Lib.hid h5
    clear h5 x1
    go_wp2_with fail
    go_upto_region 11 with fail
    go_cut [] (fun wx => ∃ g9 k9, Has W wx [OwnR _ 87 129 wrL (.slice (some ⟨g9, 0, none⟩) (R.ca.length + 1) k9) (R.ca ++ [(n, X)]), RdR _ 129 wrL (.slice bC R.ca.length kC) R.ca, RdR _ 128 secL (.slice bS R.st.length kS) R.st, Blk _ (W.heap.size + 1 + 1) (.cells #[.slice none 0 0, .slice none 0 0, .int .i64 0, .int .i64 0, .bool false] 34), Blk _ (W.heap.size + 1) (.cells (sec X) 53), Blk _ W.heap.size (.cells #[.slice bS R.st.length kS, .slice (some ⟨g9, 0, none⟩) (R.ca.length + 1) k9, .int .i64 R.taken, .int .i64 R.power, .bool R.off] 34)])
    case first =>
      have hln : (R.ca ++ [(n, X)]).length = R.ca.length + 1 := by simp
      refine wp_region_ordT (fun w' => w'.cell? ⟨W.heap.size, 1, none⟩ = some (.slice bC R.ca.length kC) ∧ w'.rangeAt (W.heap.size + 1) 0 (secL X) ∧ True) (OrdT.takes [1, 2, 4, 5, 6] (.two 0 (.two 3 (.one 7 (.one 8 (.take 9 (.last 10)))) 7 (.one 3 (.one 8 (.take 9 (.last 10))))) 7 (.one 0 (.one 3 (.one 8 (.take 9 (.last 10))))))) (by kernel_rfl) (by kernel_rfl) (HSK.out (l1 := [_, _, _]) (l2 := []) _ H5.out.drew) ?_
      unfold OrdT.takes
      --ordt yym
      iterate 2 (refine' t_yield _ rfl rfl rfl _ _; rotate_left; (intro w' hSw; obtain ⟨s0, s1, s2⟩ := hSw; go_simp; with_reducible rfl); simp only [Act.put, List.setIfInBounds_toArray, List.set_cons_zero, List.set_cons_succ])
      (refine' t_move _ _ rfl rfl rfl rfl _ _; rotate_left; (go_simp; with_reducible rfl); simp only [Act.put, List.setIfInBounds_toArray, List.set_cons_zero, List.set_cons_succ])
      --end
      refine t_load (W.heap.size + 1) 0 (secL X) _ _ _ rfl rfl rfl rfl rfl (fun w' hSw => hSw.2.1) hu rfl (secL_size X) ?_
      simp only [Act.put, List.setIfInBounds_toArray, List.set_cons_zero, List.set_cons_succ, secL_arr]
      refine t_build_wr n X _ _ rfl rfl rfl rfl rfl rfl ?_
      simp only [Act.put, List.setIfInBounds_toArray, List.set_cons_zero, List.set_cons_succ]
      have hszC := Tryz.underlying32
      refine t_two rfl rfl rfl rfl (fun K hK => ?_) (fun K hK => ?_)
      · have h6 := H5.out.drew.empty 87 129 wrL
        refine wp_buildSlice0 rfl _ _ hszC (fun w => ⟨_, wr_sz w⟩) rfl (hK _ _ (HSK.out (l1 := [_, _, _, _]) (l2 := []) _ h6) ?_)
        clear hK
        simp only [Act.put, List.setIfInBounds_toArray, List.set_cons_zero, List.set_cons_succ]
        refine t_two rfl rfl rfl rfl (fun K hK => ?_) (fun K hK => ?_)
        · obtain ⟨g7, k7, W7, hrun7, h7⟩ := h6.appendL wrL_len wrL_one 32 87 _ 136 hszC wr_info (wr_size _) (by decide) (by decide) [] 32 bC R.ca kC (h6.rd (.tail _ (.head _))) (by simp; omega)
          simp only [List.nil_append] at hrun7 h7
          refine wp_append_d rfl _ _ _ rfl _ _ _ _ rfl rfl hrun7 (hK _ _ (HSK.out (l1 := [_, _, _, _]) (l2 := []) _ h7) ?_)
          clear hK hrun7
          simp only [Act.put, List.setIfInBounds_toArray, List.set_cons_zero, List.set_cons_succ]
          have h8 := h7.alloc (.cells (wrV (n, X)) 87)
          refine t_one rfl rfl (fun K hK => wp_buildSlice_wr rfl _ (n, X) rfl rfl (hK _ _ (HSK.out (l1 := [_, _, _, _, _]) (l2 := []) _ h8) ?_))
          clear hK
          simp only [Act.put, List.setIfInBounds_toArray, List.set_cons_zero, List.set_cons_succ]
          obtain ⟨g9, k9, W9, hrun9, h9⟩ := h8.appendL wrL_len wrL_one 32 87 _ 136 hszC wr_info (wr_size _) (by decide) (by decide) [_] 32 (some ⟨W7.heap.size, 0, none⟩) [(n, X)] 1 (rdl_block (h8.blk 0 _ _ rfl).1 [(n, X)] (by simp [wrV, flat]) 1) (by simp; omega)
          rw [hln] at hrun9 h9
          refine t_one rfl rfl (fun K hK => wp_append_d rfl _ _ _ rfl _ _ _ _ rfl rfl hrun9 (hK _ _ (HSK.out (l1 := [_, _, _, _, _]) (l2 := []) _ h9) ?_))
          clear hK hrun9
          simp only [Act.put, List.setIfInBounds_toArray, List.set_cons_zero, List.set_cons_succ]
          --ordt y
          (refine' t_yield _ rfl rfl rfl _ _; rotate_left; (intro w' hSw; obtain ⟨s0, s1, s2⟩ := hSw; go_simp; with_reducible rfl); simp only [Act.put, List.setIfInBounds_toArray, List.set_cons_zero, List.set_cons_succ])
          --end
          have y1 := h9.cell 6 _ _ _ rfl 1 _ rfl
          have q1 := h9.frozen 6 _ _ _ rfl 1
          have h10 := (h9.setCell [_, _, _, _, _, _] 1 (.slice (some ⟨g9, 0, none⟩) (R.ca.length + 1) k9)).drop
          refine t_last rfl rfl (fun K hK => ?_)
          go_simp
          refine hK _ _ (NoPanic.normal ?_)
          go_wp2_with fail
          go_meet
          exact ⟨g9, k9, h10⟩
        · have h7 := h6.alloc (.cells (wrV (n, X)) 87)
          refine wp_buildSlice_wr rfl _ (n, X) rfl rfl (hK _ _ (HSK.out (l1 := [_, _, _, _, _]) (l2 := []) _ h7) ?_)
          clear hK
          simp only [Act.put, List.setIfInBounds_toArray, List.set_cons_zero, List.set_cons_succ]
          obtain ⟨g7, k7, W7, hrun7, h8⟩ := h7.appendL wrL_len wrL_one 32 87 _ 136 hszC wr_info (wr_size _) (by decide) (by decide) [_] 32 bC R.ca kC (h7.rd (.tail _ (.tail _ (.head _)))) (by simp; omega)
          simp only [List.nil_append] at hrun7 h8
          refine t_one rfl rfl (fun K hK => wp_append_d rfl _ _ _ rfl _ _ _ _ rfl rfl hrun7 (hK _ _ (HSK.out (l1 := [_, _, _, _, _]) (l2 := []) _ h8) ?_))
          clear hK hrun7
          simp only [Act.put, List.setIfInBounds_toArray, List.set_cons_zero, List.set_cons_succ]
          obtain ⟨g9, k9, W9, hrun9, h9⟩ := h8.appendL wrL_len wrL_one 32 87 _ 136 hszC wr_info (wr_size _) (by decide) (by decide) [_] 32 (some ⟨(wc.drew.alloc (.cells #[] 87)).heap.size, 0, none⟩) [(n, X)] 1 (rdl_block (h8.blk 0 _ _ rfl).1 [(n, X)] (by simp [wrV, flat]) 1) (by simp; omega)
          rw [hln] at hrun9 h9
          refine t_one rfl rfl (fun K hK => wp_append_d rfl _ _ _ rfl _ _ _ _ rfl rfl hrun9 (hK _ _ (HSK.out (l1 := [_, _, _, _, _]) (l2 := []) _ h9) ?_))
          clear hK hrun9
          simp only [Act.put, List.setIfInBounds_toArray, List.set_cons_zero, List.set_cons_succ]
          --ordt y
          (refine' t_yield _ rfl rfl rfl _ _; rotate_left; (intro w' hSw; obtain ⟨s0, s1, s2⟩ := hSw; go_simp; with_reducible rfl); simp only [Act.put, List.setIfInBounds_toArray, List.set_cons_zero, List.set_cons_succ])
          --end
          have y1 := h9.cell 6 _ _ _ rfl 1 _ rfl
          have q1 := h9.frozen 6 _ _ _ rfl 1
          have h10 := (h9.setCell [_, _, _, _, _, _] 1 (.slice (some ⟨g9, 0, none⟩) (R.ca.length + 1) k9)).drop
          refine t_last rfl rfl (fun K hK => ?_)
          go_simp
          refine hK _ _ (NoPanic.normal ?_)
          go_wp2_with fail
          go_meet
          exact ⟨g9, k9, h10⟩
      · have h6 := H5.out.drew.alloc (.cells (wrV (n, X)) 87)
        refine wp_buildSlice_wr rfl _ (n, X) rfl rfl (hK _ _ (HSK.out (l1 := [_, _, _, _]) (l2 := []) _ h6) ?_)
        clear hK
        simp only [Act.put, List.setIfInBounds_toArray, List.set_cons_zero, List.set_cons_succ]
        have h7 := h6.empty 87 129 wrL
        refine t_one rfl rfl (fun K hK => wp_buildSlice0 rfl _ _ hszC (fun w => ⟨_, wr_sz w⟩) rfl (hK _ _ (HSK.out (l1 := [_, _, _, _, _]) (l2 := []) _ h7) ?_))
        clear hK
        simp only [Act.put, List.setIfInBounds_toArray, List.set_cons_zero, List.set_cons_succ]
        obtain ⟨g7, k7, W7, hrun7, h8'⟩ := h7.appendL wrL_len wrL_one 32 87 _ 136 hszC wr_info (wr_size _) (by decide) (by decide) [] 32 bC R.ca kC (h7.rd (.tail _ (.tail _ (.head _)))) (by simp; omega)
        simp only [List.nil_append] at hrun7 h8'
        have h8 := h8'.perm (List.Perm.swap _ _ _)
        refine t_one rfl rfl (fun K hK => wp_append_d rfl _ _ _ rfl _ _ _ _ rfl rfl hrun7 (hK _ _ (HSK.out (l1 := [_, _, _, _, _]) (l2 := []) _ h8) ?_))
        clear hK hrun7
        simp only [Act.put, List.setIfInBounds_toArray, List.set_cons_zero, List.set_cons_succ]
        obtain ⟨g9, k9, W9, hrun9, h9⟩ := h8.appendL wrL_len wrL_one 32 87 _ 136 hszC wr_info (wr_size _) (by decide) (by decide) [_] 32 (some ⟨wc.drew.heap.size, 0, none⟩) [(n, X)] 1 (rdl_block (h8.blk 0 _ _ rfl).1 [(n, X)] (by simp [wrV, flat]) 1) (by simp; omega)
        rw [hln] at hrun9 h9
        refine t_one rfl rfl (fun K hK => wp_append_d rfl _ _ _ rfl _ _ _ _ rfl rfl hrun9 (hK _ _ (HSK.out (l1 := [_, _, _, _, _]) (l2 := []) _ h9) ?_))
        clear hK hrun9
        simp only [Act.put, List.setIfInBounds_toArray, List.set_cons_zero, List.set_cons_succ]
        --ordt y
        (refine' t_yield _ rfl rfl rfl _ _; rotate_left; (intro w' hSw; obtain ⟨s0, s1, s2⟩ := hSw; go_simp; with_reducible rfl); simp only [Act.put, List.setIfInBounds_toArray, List.set_cons_zero, List.set_cons_succ])
        --end
        have y1 := h9.cell 6 _ _ _ rfl 1 _ rfl
        have q1 := h9.frozen 6 _ _ _ rfl 1
        have h10 := (h9.setCell [_, _, _, _, _, _] 1 (.slice (some ⟨g9, 0, none⟩) (R.ca.length + 1) k9)).drop
        refine t_last rfl rfl (fun K hK => ?_)
        go_simp
        refine hK _ _ (NoPanic.normal ?_)
        go_wp2_with fail
        go_meet
        exact ⟨g9, k9, h10⟩
    case rest =>
      obtain ⟨g9, k9, h10⟩ := hcut
      have y0 := h10.cell 5 _ _ _ rfl 0 _ rfl
      have y1 := h10.cell 5 _ _ _ rfl 1 _ rfl
      have y2 := h10.cell 5 _ _ _ rfl 2 _ rfl
      have y3 := h10.cell 5 _ _ _ rfl 3 _ rfl
      have y4 := h10.cell 5 _ _ _ rfl 4 _ rfl
      have q2 := h10.frozen 5 _ _ _ rfl 2
      have q3 := h10.frozen 5 _ _ _ rfl 3
      have z0 := h10.cell 3 _ _ _ rfl 0 _ rfl
      have z1 := h10.cell 3 _ _ _ rfl 1 _ rfl
      have z2 := h10.cell 3 _ _ _ rfl 2 _ rfl
      have z3 := h10.cell 3 _ _ _ rfl 3 _ rfl
      have z4 := h10.cell 3 _ _ _ rfl 4 _ rfl
      have r0 := h10.frozen 3 _ _ _ rfl 0
      have r1 := h10.frozen 3 _ _ _ rfl 1
      have r2 := h10.frozen 3 _ _ _ rfl 2
      have r3 := h10.frozen 3 _ _ _ rfl 3
      have r4 := h10.frozen 3 _ _ _ rfl 4
      have hRt1 : 0 ≤ R.taken := by rw [HRF.out.1]; exact ht1
      have hRt2 : R.taken < 1000000000000 := by rw [HRF.out.1]; exact htk
      have hRp1 : -1 ≤ R.power := by rw [HRF.out.2.1]; exact hp1
      have hRp2 : R.power ≤ 1000000000000 := by rw [HRF.out.2.1]; exact hp2
      have h11 := h10.setCell [_, _, _, _, _] 2 (.int .i64 (R.taken + 1))
      by_cases hp : 0 < R.power
      · skip
        have h12 := h11.setCell [_, _, _, _, _] 3 (.int .i64 (R.power - 1))
        have h13 := h12.store5 [_, _, _] (.slice bS R.st.length kS) (.slice (some ⟨g9, 0, none⟩) (R.ca.length + 1) k9) (.int .i64 (R.taken + 1)) (.int .i64 (R.power - 1)) (.bool R.off)
        have H13 := Lib.hid h13
        clear h11 h12 h13 h10
        go_wp2
        refine bodyPost_ret (results_st2 rfl _ _ (W.heap.size + 1 + 1) _ rfl (H13.out.blk 3 _ _ rfl).1 rfl) rfl ?_
        rw [HW.out]
        have hps : R.push n X = { st := R.st, ca := R.ca ++ [(n, X)], taken := R.taken + 1, power := R.power - 1, off := R.off } := by
          unfold Dv.push; rw [if_pos (by omega)]
        rw [hps]
        obtain ⟨F, ⟨hOw, rfl⟩, hF⟩ := H13.out.head
        refine ⟨_, _, rfl, ⟨H13.out.rd (.tail _ (.tail _ (.head _))), ?_, ?_, ?_⟩, ?_, H13.out.hB⟩
        · have := hOw.rd
          exact this
        · show R.st.length ≤ 100000
          have := HRF.out.2.2.1; omega
        · show (R.ca ++ [(n, X)]).length ≤ 100000
          simp; omega
        · intro k hk
          rcases List.mem_append.1 hk with hk | hk
          · rcases HBK.out k hk with h | h
            · exact .inl (List.mem_append_left _ h)
            · exact .inr h
          · exact .inr (hF k (blksL_sub _ _ k hk))
      · have hpn : R.power ≤ 0 := by omega
        have h12 := h11
        have h13 := h12.store5 [_, _, _] (.slice bS R.st.length kS) (.slice (some ⟨g9, 0, none⟩) (R.ca.length + 1) k9) (.int .i64 (R.taken + 1)) (.int .i64 R.power) (.bool R.off)
        have H13 := Lib.hid h13
        clear h11 h12 h13 h10
        go_wp2
        refine bodyPost_ret (results_st2 rfl _ _ (W.heap.size + 1 + 1) _ rfl (H13.out.blk 3 _ _ rfl).1 rfl) rfl ?_
        rw [HW.out]
        have hps : R.push n X = { st := R.st, ca := R.ca ++ [(n, X)], taken := R.taken + 1, power := R.power, off := R.off } := by
          unfold Dv.push; rw [if_neg (by omega)]
        rw [hps]
        obtain ⟨F, ⟨hOw, rfl⟩, hF⟩ := H13.out.head
        refine ⟨_, _, rfl, ⟨H13.out.rd (.tail _ (.tail _ (.head _))), ?_, ?_, ?_⟩, ?_, H13.out.hB⟩
        · have := hOw.rd
          exact this
        · show R.st.length ≤ 100000
          have := HRF.out.2.2.1; omega
        · show (R.ca ++ [(n, X)]).length ≤ 100000
          simp; omega
        · intro k hk
          rcases List.mem_append.1 hk with hk | hk
          · rcases HBK.out k hk with h | h
            · exact .inl (List.mem_append_left _ h)
            · exact .inr h
          · exact .inr (hF k (blksL_sub _ _ k hk))
end Go.Proofs.YtfbkfdoekgnldaaGreatDoor
