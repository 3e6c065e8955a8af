/- law09's do; what is in common. law09's do: Commit. law09's do: Log. law09's do: Clear. law09's do: Format. law09's do: Limit. law09's do: Crash. law09's do: Apply. law09's do: Replay. law09's do: Look and Head. law09's do, whatever the step. The walk of law09's long. What a walk over steps needs. -/
import Derived.Test.YtfbkfdoekgnldaaGreatDoorJnRefs
import Derived.Test.YtfbkfdoekgnldaaGreatDoorJnComB
import Derived.Test.YtfbkfdoekgnldaaGreatDoorOpenRunS
import Derived.Test.YtfbkfdoekgnldaaGreatDoorRefCrA
namespace Go.Proofs.YtfbkfdoekgnldaaGreatDoor
open Go.RowKit
def layL (l : Lay) : List Value := [.int .i64 l.first, .int .i64 l.size]
theorem layL_size (l : Lay) : (Tryz.prog.info? 23).map (·.size) = some (layL l).length := by kernel_rfl
theorem layL_arr (l : Lay) : (layL l).toArray = #[.int .i64 l.first, .int .i64 l.size] := rfl
theorem lay_row {W : World} {b : Nat} {l : Lay} {t : TypeId} (h : W.heap[b]? = some (.cells #[.int .i64 l.first, .int .i64 l.size] t (0, 0))) : W.rangeAt b 0 (layL l) :=
  rangeAt_row h (layL l) 0 (fun j v hv => by rw [Nat.zero_add]; simpa [layL] using hv)
/-- what `do` leaves -/
def DoV (w : World) (rs : List (Res w.heap.size)) (g : Nat) (S' : Dv) (e : Ending) (w' : World) : Prop := ∃ vS vC, e = .returned (.tuple #[.agg (stCells vS vC S'), .bool true]) ∧ Has w w' (DevR _ g S' :: StR _ vS vC S' :: rs)
theorem Has.dropL {w W : World} {rs : List (Res w.heap.size)} (l1 : List (Res w.heap.size)) (h : Has w W (l1 ++ rs)) : Has w W rs := by
  induction l1 with
  | nil => exact h
  | cons r l1 ih => exact ih h.drop
theorem DoV.of {w W : World} {rs : List (Res w.heap.size)} {g : Nat} {S' : Dv} (l1 : List (Res w.heap.size)) {vS vC : Value} (h : Has w W (l1 ++ DevR _ g S' :: StR _ vS vC S' :: rs)) : DoV w rs g S' (.returned (.tuple #[.agg #[vS, vC, .int .i64 S'.taken, .int .i64 S'.power, .bool S'.off], .bool true])) W :=
  ⟨vS, vC, rfl, h.dropL l1⟩
theorem ref_crash {W : World} {S : Dv} {uS uC v : Value} (h : StIn W S uS uC) (keep : List Int) (hv : RdL W 1 intL v keep) (hl : keep.length ≤ 1000000) (ok : S.Ok) :
    Calls Tryz.prog 38 #[.agg (stCells uS uC S), v] W (StRes W S uS uC (S.crash keep) (S.crashE keep)) := by
  cases h1 : keep.any S.odd
  · cases h2 : risesI keep
    · exact ref_crash_form h keep hv hl h1 h2
    · exact ref_crash_go h keep hv hl ok h1 h2
  · exact ref_crash_odd h keep hv hl h1
theorem flush_at9 {w W : World} (l1 : List (Res w.heap.size)) {l2 : List (Res w.heap.size)} {g : Nat} {S : Dv} (h : Has w W (l1 ++ DevR _ g S :: l2)) (n : Int) :
    Calls Tryz.prog 36 #[pv g, .int .i64 n] W fun e w' => e = .returned (.int .i64 (limitE n)) ∧ Has w w' (l1 ++ DevR _ g (S.limit n) :: l2) :=
  (limit_has (h.perm List.perm_middle) n).mono fun _ _ ⟨he, h'⟩ => ⟨he, h'.perm List.perm_middle.symm⟩
theorem crash_at9 {w W : World} {l1 l2 : List (Res w.heap.size)} {g : Nat} {S : Dv} {v : Value} {keep : List Int} (h : Has w W (l1 ++ DevR _ g S :: l2)) (hv : OwnR _ 3 1 intL v keep ∈ l1 ++ l2) (hl : keep.length ≤ 1000000) :
    Calls Tryz.prog 39 #[pv g, v] W fun e w' => e = .returned (.int .i64 (S.crashE keep)) ∧ Has w w' (l1 ++ DevR _ g (S.crash keep) :: l2) := by
  have h2 := h.perm List.perm_middle
  refine (crash_has h2 v keep (h2.ownRd (.tail _ hv)).rd hl (fun k hk => .inr ⟨OwnR _ 3 1 intL v keep, hv, fun F2 hF => by obtain ⟨_, rfl⟩ := hF; exact hk⟩)).mono ?_
  rintro e w' ⟨he, h'⟩
  exact ⟨he, h'.perm List.perm_middle.symm⟩
end Go.Proofs.YtfbkfdoekgnldaaGreatDoor
namespace Go.Proofs.YtfbkfdoekgnldaaGreatDoor
open Go.RowKit
open Lime
attribute [local go_sem] Oper.semAt_some setRow_alloc_at setRow_alloc_past setRow_drew g_same32 g_eq32 g_ne32
set_option maxRecDepth 100000 in
set_option maxHeartbeats 4000000 in
theorem do9_commit0 {w W : World} {rs : List (Res w.heap.size)} {g : Nat} {S : Dv} {uS uC : Value} (h : Has w W (DevR _ g S :: StR _ uS uC S :: rs)) (l : Lay) (x : StepD) (hx : StepOk w x) (hh : HalfLaid w) (hm : (vb x.what).tmod 10 = 0) :
    Calls Tryz.prog 9 #[pv g, .agg (stCells uS uC S), .agg #[.int .i64 l.first, .int .i64 l.size], .agg (stepL x).toArray] W (DoV w rs g (commitM S l x.run).1) := by
  have ok := ok_has h (.head _)
  have hin := h.st (.tail _ (.head _))
  obtain ⟨⟨aS, akS, rfl, -⟩, ⟨aC, akC, rfl, -⟩, -, -⟩ := hin
  obtain ⟨hn0, hn1, hk0, hk1, hR⟩ := hx
  obtain ⟨what, n, keep, rv, run⟩ := x
  dsimp only at hm hR hn0 hn1 hk0 hk1
  obtain ⟨hL, hlen, hd, hroom⟩ := hR
  have hL' := hL
  obtain ⟨a, cap, rfl, -⟩ := hL'
  have hcap := hroom a cap rfl
  unfold stCells stepL
  have h1 := ((((h.addRd hL recL_len (by decide)).alloc (.cells #[.slice aS S.st.length akS, .slice aC S.ca.length akC, .int .i64 S.taken, .int .i64 S.power, .bool S.off] 34)).allocAt (.cells #[.int .i64 l.first, .int .i64 l.size] 23) (W.heap.size + 1) (by simp)).allocAt (.cells #[.int .u8 (vb what), .int .i64 n, .int .u64 keep, .slice a run.length cap] 42) (W.heap.size + 1 + 1) (by simp)).allocAt (.cells #[.slice none 0 0, .slice none 0 0, .int .i64 0, .int .i64 0, .bool false] 34) (W.heap.size + 1 + 1 + 1) (by simp)
  try dsimp only
  have hF := refcommit (h1.st (.tail _ (.tail _ (.tail _ (.tail _ (.tail _ (.tail _ (.head _)))))))) ok l (h1.rd (.tail _ (.tail _ (.tail _ (.tail _ (.head _)))))) hd hlen hcap
  obtain ⟨D, hD⟩ : ∃ D, D = (commitM S l run).1 := ⟨_, rfl⟩
  obtain ⟨c, hc⟩ : ∃ c, c = (commitM S l run).2 := ⟨_, rfl⟩
  rw [← hD, ← hc] at hF
  have HDV : Hid (D = (commitM S l run).1 ∧ c = (commitM S l run).2) := Lib.hid ⟨hD, hc⟩
  rw [← hD]
  have HF := Lib.hid hF
  have H1 := Lib.hid h1
  have HHL := Lib.hid hh
  have HD := Lib.hid hd
  clear h hF h1 ok hD hc hL hh hd hroom
  go_enter Tryz.func9, Tryz.ntmps9
  go_wp2_with fail
  refine HF.out.mono ?_
  clear HF
  rintro e w4 hr
  obtain ⟨bS, bkS, bC, bkC, rfl, h4⟩ := H1.out.stMid [_, _, _, _, _, _] hr
  have H5 := Lib.hid (h4.alloc (.cells #[.slice bS D.st.length bkS, .slice bC D.ca.length bkC, .int .i64 D.taken, .int .i64 D.power, .bool D.off] 34))
  clear h4 hr H1
  go_wp2_with fail
  have HSZ : Hid (∀ (w' : World) (z0 : Res w.heap.size) (rest : List (Res w.heap.size)), Has w w' (Blk _ w4.heap.size (.cells #[.slice bS D.st.length bkS, .slice bC D.ca.length bkC, .int .i64 D.taken, .int .i64 D.power, .bool D.off] 34) :: z0 :: Blk _ (W.heap.size + 1 + 1) (.cells #[.int .u8 (vb what), .int .i64 n, .int .u64 keep, .slice a run.length cap] 42) :: Blk _ (W.heap.size + 1) (.cells #[.int .i64 l.first, .int .i64 l.size] 23) :: rest) → w'.rangeAt w4.heap.size 0 (stL (.slice bS D.st.length bkS) (.slice bC D.ca.length bkC) D) ∧ w'.rangeAt (W.heap.size + 1) 0 (layL l) ∧ w'.cell? ⟨W.heap.size + 1 + 1, 3, none⟩ = some (.slice a run.length cap)) := fun w' z0 rest h => ⟨st_row (h.blk 0 _ _ rfl).1, lay_row (h.blk 3 _ _ rfl).1, h.cell 2 _ _ _ rfl 3 _ rfl⟩
  refine wp_region_ordZ (fun w' => w'.rangeAt w4.heap.size 0 (stL (.slice bS D.st.length bkS) (.slice bC D.ca.length bkC) D) ∧ w'.rangeAt (W.heap.size + 1) 0 (layL l) ∧ w'.cell? ⟨W.heap.size + 1 + 1, 3, none⟩ = some (.slice a run.length cap)) (OrdT.takes [0, 1, 2, 3, 4, 6] (.one 5 (.take 7 (.one 8 (.take 9 .done))))) (by kernel_rfl) (by kernel_rfl) (HSZ.out _ _ _ H5.out.drew) (fun wz hz => ?_)
  have h6 := H5.out.drew
  rw [← hz] at h6
  have H6 := Lib.hid h6
  clear hz h6 H5
  unfold OrdT.takes
  refine t_load w4.heap.size 0 (stL (.slice bS D.st.length bkS) (.slice bC D.ca.length bkC) D) _ _ _ rfl rfl rfl rfl rfl (fun w' hSw => hSw.1) Tryz.underlying34 rfl (stL_size _ _ _) ?_
  simp only [Act.put, List.setIfInBounds_toArray, List.set_cons_zero, List.set_cons_succ, stL_arr]
  --ordt m
  (refine' t_move _ _ rfl rfl rfl rfl _ _; rotate_left; (go_simp; with_reducible rfl); simp only [Act.put, List.setIfInBounds_toArray, List.set_cons_zero, List.set_cons_succ])
  --end
  refine t_load (W.heap.size + 1) 0 (layL l) _ _ _ rfl rfl rfl rfl rfl (fun w' hSw => hSw.2.1) Tryz.underlying23 rfl (layL_size _) ?_
  simp only [Act.put, List.setIfInBounds_toArray, List.set_cons_zero, List.set_cons_succ, layL_arr]
  --ordt yym
  iterate 2 (refine' t_yield _ rfl rfl rfl _ _; rotate_left; (intro w' hSw; obtain ⟨s0, s1, s2⟩ := hSw; go_simp; with_reducible rfl); simp only [Act.put, List.setIfInBounds_toArray, List.set_cons_zero, List.set_cons_succ])
  (refine' t_move _ _ rfl rfl rfl rfl _ _; rotate_left; (go_simp; with_reducible rfl); simp only [Act.put, List.setIfInBounds_toArray, List.set_cons_zero, List.set_cons_succ])
  --end
  refine t_one rfl rfl (fun K hK => ?_)
  go_simp
  have hdv := commit_at [_, _, _, _, _, _] H6.out l (.tail _ (.tail _ (.tail _ (.tail _ (.tail _ (.head _)))))) HD.out hlen HHL.out
  rw [← HDV.out.1, ← HDV.out.2] at hdv
  refine hdv.mono ?_
  clear hdv
  rintro e w6 ⟨rfl, h6⟩
  dsimp only
  refine hK _ _ (HSZ.out _ _ _ h6) ?_
  clear hK
  --ordt y
  (refine' t_yield _ rfl rfl rfl _ _; rotate_left; (intro w' hSw; obtain ⟨s0, s1, s2⟩ := hSw; go_simp; with_reducible rfl); simp only [Act.put, List.setIfInBounds_toArray, List.set_cons_zero, List.set_cons_succ])
  --end
  refine t_one rfl rfl (fun K hK => ?_)
  obtain ⟨p0, p1, p2, p3, p4, pf0, pf1, pf2, pf3, pf4, pz⟩ := h6.cells5 1 _ _ _ _ _ _ _ rfl
  have H7 := Lib.hid (Has.store5 [_] h6 (.slice bS D.st.length bkS) (.slice bC D.ca.length bkC) (.int .i64 D.taken) (.int .i64 D.power) (.bool D.off))
  clear h6 H6
  go_simp
  refine hK _ _ (HSZ.out _ _ _ H7.out) ?_
  clear hK
  --ordt y
  (refine' t_yield _ rfl rfl rfl _ _; rotate_left; (intro w' hSw; obtain ⟨s0, s1, s2⟩ := hSw; go_simp; with_reducible rfl); simp only [Act.put, List.setIfInBounds_toArray, List.set_cons_zero, List.set_cons_succ])
  --end
  refine t_done ?_
  go_wp2_with fail
  refine bodyPost_ret (results_st2 rfl _ _ (W.heap.size + 1 + 1 + 1) _ rfl (H7.out.blk 1 _ _ rfl).1 rfl) rfl ?_
  exact DoV.of [_, _, _, _, _, _] H7.out
set_option maxRecDepth 100000 in
set_option maxHeartbeats 4000000 in
theorem do9_commit1 {w W : World} {rs : List (Res w.heap.size)} {g : Nat} {S : Dv} {uS uC : Value} (h : Has w W (DevR _ g S :: StR _ uS uC S :: rs)) (l : Lay) (x : StepD) (hx : StepOk w x) (hh : HalfLaid w) (hm : (vb x.what).tmod 10 = 1) :
    Calls Tryz.prog 9 #[pv g, .agg (stCells uS uC S), .agg #[.int .i64 l.first, .int .i64 l.size], .agg (stepL x).toArray] W (DoV w rs g (commitM S l x.run).1) := by
  have ok := ok_has h (.head _)
  have hin := h.st (.tail _ (.head _))
  obtain ⟨⟨aS, akS, rfl, -⟩, ⟨aC, akC, rfl, -⟩, -, -⟩ := hin
  obtain ⟨hn0, hn1, hk0, hk1, hR⟩ := hx
  obtain ⟨what, n, keep, rv, run⟩ := x
  dsimp only at hm hR hn0 hn1 hk0 hk1
  obtain ⟨hL, hlen, hd, hroom⟩ := hR
  have hL' := hL
  obtain ⟨a, cap, rfl, -⟩ := hL'
  have hcap := hroom a cap rfl
  unfold stCells stepL
  have h1 := ((((h.addRd hL recL_len (by decide)).alloc (.cells #[.slice aS S.st.length akS, .slice aC S.ca.length akC, .int .i64 S.taken, .int .i64 S.power, .bool S.off] 34)).allocAt (.cells #[.int .i64 l.first, .int .i64 l.size] 23) (W.heap.size + 1) (by simp)).allocAt (.cells #[.int .u8 (vb what), .int .i64 n, .int .u64 keep, .slice a run.length cap] 42) (W.heap.size + 1 + 1) (by simp)).allocAt (.cells #[.slice none 0 0, .slice none 0 0, .int .i64 0, .int .i64 0, .bool false] 34) (W.heap.size + 1 + 1 + 1) (by simp)
  try dsimp only
  have hF := refcommit (h1.st (.tail _ (.tail _ (.tail _ (.tail _ (.tail _ (.tail _ (.head _)))))))) ok l (h1.rd (.tail _ (.tail _ (.tail _ (.tail _ (.head _)))))) hd hlen hcap
  obtain ⟨D, hD⟩ : ∃ D, D = (commitM S l run).1 := ⟨_, rfl⟩
  obtain ⟨c, hc⟩ : ∃ c, c = (commitM S l run).2 := ⟨_, rfl⟩
  rw [← hD, ← hc] at hF
  have HDV : Hid (D = (commitM S l run).1 ∧ c = (commitM S l run).2) := Lib.hid ⟨hD, hc⟩
  rw [← hD]
  have HF := Lib.hid hF
  have H1 := Lib.hid h1
  have HHL := Lib.hid hh
  have HD := Lib.hid hd
  clear h hF h1 ok hD hc hL hh hd hroom
  go_enter Tryz.func9, Tryz.ntmps9
  go_wp2_with fail
  refine HF.out.mono ?_
  clear HF
  rintro e w4 hr
  obtain ⟨bS, bkS, bC, bkC, rfl, h4⟩ := H1.out.stMid [_, _, _, _, _, _] hr
  have H5 := Lib.hid (h4.alloc (.cells #[.slice bS D.st.length bkS, .slice bC D.ca.length bkC, .int .i64 D.taken, .int .i64 D.power, .bool D.off] 34))
  clear h4 hr H1
  go_wp2_with fail
  have HSZ : Hid (∀ (w' : World) (z0 : Res w.heap.size) (rest : List (Res w.heap.size)), Has w w' (Blk _ w4.heap.size (.cells #[.slice bS D.st.length bkS, .slice bC D.ca.length bkC, .int .i64 D.taken, .int .i64 D.power, .bool D.off] 34) :: z0 :: Blk _ (W.heap.size + 1 + 1) (.cells #[.int .u8 (vb what), .int .i64 n, .int .u64 keep, .slice a run.length cap] 42) :: Blk _ (W.heap.size + 1) (.cells #[.int .i64 l.first, .int .i64 l.size] 23) :: rest) → w'.rangeAt w4.heap.size 0 (stL (.slice bS D.st.length bkS) (.slice bC D.ca.length bkC) D) ∧ w'.rangeAt (W.heap.size + 1) 0 (layL l) ∧ w'.cell? ⟨W.heap.size + 1 + 1, 3, none⟩ = some (.slice a run.length cap)) := fun w' z0 rest h => ⟨st_row (h.blk 0 _ _ rfl).1, lay_row (h.blk 3 _ _ rfl).1, h.cell 2 _ _ _ rfl 3 _ rfl⟩
  refine wp_region_ordZ (fun w' => w'.rangeAt w4.heap.size 0 (stL (.slice bS D.st.length bkS) (.slice bC D.ca.length bkC) D) ∧ w'.rangeAt (W.heap.size + 1) 0 (layL l) ∧ w'.cell? ⟨W.heap.size + 1 + 1, 3, none⟩ = some (.slice a run.length cap)) (OrdT.takes [0, 1, 2, 3, 4, 6] (.one 5 (.take 7 (.one 8 (.take 9 .done))))) (by kernel_rfl) (by kernel_rfl) (HSZ.out _ _ _ H5.out.drew) (fun wz hz => ?_)
  have h6 := H5.out.drew
  rw [← hz] at h6
  have H6 := Lib.hid h6
  clear hz h6 H5
  unfold OrdT.takes
  refine t_load w4.heap.size 0 (stL (.slice bS D.st.length bkS) (.slice bC D.ca.length bkC) D) _ _ _ rfl rfl rfl rfl rfl (fun w' hSw => hSw.1) Tryz.underlying34 rfl (stL_size _ _ _) ?_
  simp only [Act.put, List.setIfInBounds_toArray, List.set_cons_zero, List.set_cons_succ, stL_arr]
  --ordt m
  (refine' t_move _ _ rfl rfl rfl rfl _ _; rotate_left; (go_simp; with_reducible rfl); simp only [Act.put, List.setIfInBounds_toArray, List.set_cons_zero, List.set_cons_succ])
  --end
  refine t_load (W.heap.size + 1) 0 (layL l) _ _ _ rfl rfl rfl rfl rfl (fun w' hSw => hSw.2.1) Tryz.underlying23 rfl (layL_size _) ?_
  simp only [Act.put, List.setIfInBounds_toArray, List.set_cons_zero, List.set_cons_succ, layL_arr]
  --ordt yym
  iterate 2 (refine' t_yield _ rfl rfl rfl _ _; rotate_left; (intro w' hSw; obtain ⟨s0, s1, s2⟩ := hSw; go_simp; with_reducible rfl); simp only [Act.put, List.setIfInBounds_toArray, List.set_cons_zero, List.set_cons_succ])
  (refine' t_move _ _ rfl rfl rfl rfl _ _; rotate_left; (go_simp; with_reducible rfl); simp only [Act.put, List.setIfInBounds_toArray, List.set_cons_zero, List.set_cons_succ])
  --end
  refine t_one rfl rfl (fun K hK => ?_)
  go_simp
  have hdv := commit_at [_, _, _, _, _, _] H6.out l (.tail _ (.tail _ (.tail _ (.tail _ (.tail _ (.head _)))))) HD.out hlen HHL.out
  rw [← HDV.out.1, ← HDV.out.2] at hdv
  refine hdv.mono ?_
  clear hdv
  rintro e w6 ⟨rfl, h6⟩
  dsimp only
  refine hK _ _ (HSZ.out _ _ _ h6) ?_
  clear hK
  --ordt y
  (refine' t_yield _ rfl rfl rfl _ _; rotate_left; (intro w' hSw; obtain ⟨s0, s1, s2⟩ := hSw; go_simp; with_reducible rfl); simp only [Act.put, List.setIfInBounds_toArray, List.set_cons_zero, List.set_cons_succ])
  --end
  refine t_one rfl rfl (fun K hK => ?_)
  obtain ⟨p0, p1, p2, p3, p4, pf0, pf1, pf2, pf3, pf4, pz⟩ := h6.cells5 1 _ _ _ _ _ _ _ rfl
  have H7 := Lib.hid (Has.store5 [_] h6 (.slice bS D.st.length bkS) (.slice bC D.ca.length bkC) (.int .i64 D.taken) (.int .i64 D.power) (.bool D.off))
  clear h6 H6
  go_simp
  refine hK _ _ (HSZ.out _ _ _ H7.out) ?_
  clear hK
  --ordt y
  (refine' t_yield _ rfl rfl rfl _ _; rotate_left; (intro w' hSw; obtain ⟨s0, s1, s2⟩ := hSw; go_simp; with_reducible rfl); simp only [Act.put, List.setIfInBounds_toArray, List.set_cons_zero, List.set_cons_succ])
  --end
  refine t_done ?_
  go_wp2_with fail
  refine bodyPost_ret (results_st2 rfl _ _ (W.heap.size + 1 + 1 + 1) _ rfl (H7.out.blk 1 _ _ rfl).1 rfl) rfl ?_
  exact DoV.of [_, _, _, _, _, _] H7.out
end Go.Proofs.YtfbkfdoekgnldaaGreatDoor
namespace Go.Proofs.YtfbkfdoekgnldaaGreatDoor
open Go.RowKit
open Lime
attribute [local go_sem] Oper.semAt_some setRow_alloc_at setRow_alloc_past setRow_drew g_same32 g_eq32 g_ne32
set_option maxRecDepth 100000 in
set_option maxHeartbeats 4000000 in
theorem do9_log {w W : World} {rs : List (Res w.heap.size)} {g : Nat} {S : Dv} {uS uC : Value} (h : Has w W (DevR _ g S :: StR _ uS uC S :: rs)) (l : Lay) (x : StepD) (hx : StepOk w x) (hh : HalfLaid w) (hm : (vb x.what).tmod 10 = 2) :
    Calls Tryz.prog 9 #[pv g, .agg (stCells uS uC S), .agg #[.int .i64 l.first, .int .i64 l.size], .agg (stepL x).toArray] W (DoV w rs g (logM S l x.run).1) := by
  have ok := ok_has h (.head _)
  have hin := h.st (.tail _ (.head _))
  obtain ⟨⟨aS, akS, rfl, -⟩, ⟨aC, akC, rfl, -⟩, -, -⟩ := hin
  obtain ⟨hn0, hn1, hk0, hk1, hR⟩ := hx
  obtain ⟨what, n, keep, rv, run⟩ := x
  dsimp only at hm hR hn0 hn1 hk0 hk1
  obtain ⟨hL, hlen, hd, hroom⟩ := hR
  have hL' := hL
  obtain ⟨a, cap, rfl, -⟩ := hL'
  have hcap := hroom a cap rfl
  unfold stCells stepL
  have h1 := ((((h.addRd hL recL_len (by decide)).alloc (.cells #[.slice aS S.st.length akS, .slice aC S.ca.length akC, .int .i64 S.taken, .int .i64 S.power, .bool S.off] 34)).allocAt (.cells #[.int .i64 l.first, .int .i64 l.size] 23) (W.heap.size + 1) (by simp)).allocAt (.cells #[.int .u8 (vb what), .int .i64 n, .int .u64 keep, .slice a run.length cap] 42) (W.heap.size + 1 + 1) (by simp)).allocAt (.cells #[.slice none 0 0, .slice none 0 0, .int .i64 0, .int .i64 0, .bool false] 34) (W.heap.size + 1 + 1 + 1) (by simp)
  try dsimp only
  have hF := reflog (h1.st (.tail _ (.tail _ (.tail _ (.tail _ (.tail _ (.tail _ (.head _)))))))) ok l (h1.rd (.tail _ (.tail _ (.tail _ (.tail _ (.head _)))))) hd hlen hcap
  obtain ⟨D, hD⟩ : ∃ D, D = (logM S l run).1 := ⟨_, rfl⟩
  obtain ⟨c, hc⟩ : ∃ c, c = (logM S l run).2 := ⟨_, rfl⟩
  rw [← hD, ← hc] at hF
  have HDV : Hid (D = (logM S l run).1 ∧ c = (logM S l run).2) := Lib.hid ⟨hD, hc⟩
  rw [← hD]
  have HF := Lib.hid hF
  have H1 := Lib.hid h1
  have HHL := Lib.hid hh
  have HD := Lib.hid hd
  clear h hF h1 ok hD hc hL hh hd hroom
  go_enter Tryz.func9, Tryz.ntmps9
  go_wp2_with fail
  refine HF.out.mono ?_
  clear HF
  rintro e w4 hr
  obtain ⟨bS, bkS, bC, bkC, rfl, h4⟩ := H1.out.stMid [_, _, _, _, _, _] hr
  have H5 := Lib.hid (h4.alloc (.cells #[.slice bS D.st.length bkS, .slice bC D.ca.length bkC, .int .i64 D.taken, .int .i64 D.power, .bool D.off] 34))
  clear h4 hr H1
  go_wp2_with fail
  have HSZ : Hid (∀ (w' : World) (z0 : Res w.heap.size) (rest : List (Res w.heap.size)), Has w w' (Blk _ w4.heap.size (.cells #[.slice bS D.st.length bkS, .slice bC D.ca.length bkC, .int .i64 D.taken, .int .i64 D.power, .bool D.off] 34) :: z0 :: Blk _ (W.heap.size + 1 + 1) (.cells #[.int .u8 (vb what), .int .i64 n, .int .u64 keep, .slice a run.length cap] 42) :: Blk _ (W.heap.size + 1) (.cells #[.int .i64 l.first, .int .i64 l.size] 23) :: rest) → w'.rangeAt w4.heap.size 0 (stL (.slice bS D.st.length bkS) (.slice bC D.ca.length bkC) D) ∧ w'.rangeAt (W.heap.size + 1) 0 (layL l) ∧ w'.cell? ⟨W.heap.size + 1 + 1, 3, none⟩ = some (.slice a run.length cap)) := fun w' z0 rest h => ⟨st_row (h.blk 0 _ _ rfl).1, lay_row (h.blk 3 _ _ rfl).1, h.cell 2 _ _ _ rfl 3 _ rfl⟩
  refine wp_region_ordZ (fun w' => w'.rangeAt w4.heap.size 0 (stL (.slice bS D.st.length bkS) (.slice bC D.ca.length bkC) D) ∧ w'.rangeAt (W.heap.size + 1) 0 (layL l) ∧ w'.cell? ⟨W.heap.size + 1 + 1, 3, none⟩ = some (.slice a run.length cap)) (OrdT.takes [0, 1, 2, 3, 4, 6] (.one 5 (.take 7 (.one 8 (.take 9 .done))))) (by kernel_rfl) (by kernel_rfl) (HSZ.out _ _ _ H5.out.drew) (fun wz hz => ?_)
  have h6 := H5.out.drew
  rw [← hz] at h6
  have H6 := Lib.hid h6
  clear hz h6 H5
  unfold OrdT.takes
  refine t_load w4.heap.size 0 (stL (.slice bS D.st.length bkS) (.slice bC D.ca.length bkC) D) _ _ _ rfl rfl rfl rfl rfl (fun w' hSw => hSw.1) Tryz.underlying34 rfl (stL_size _ _ _) ?_
  simp only [Act.put, List.setIfInBounds_toArray, List.set_cons_zero, List.set_cons_succ, stL_arr]
  --ordt m
  (refine' t_move _ _ rfl rfl rfl rfl _ _; rotate_left; (go_simp; with_reducible rfl); simp only [Act.put, List.setIfInBounds_toArray, List.set_cons_zero, List.set_cons_succ])
  --end
  refine t_load (W.heap.size + 1) 0 (layL l) _ _ _ rfl rfl rfl rfl rfl (fun w' hSw => hSw.2.1) Tryz.underlying23 rfl (layL_size _) ?_
  simp only [Act.put, List.setIfInBounds_toArray, List.set_cons_zero, List.set_cons_succ, layL_arr]
  --ordt yym
  iterate 2 (refine' t_yield _ rfl rfl rfl _ _; rotate_left; (intro w' hSw; obtain ⟨s0, s1, s2⟩ := hSw; go_simp; with_reducible rfl); simp only [Act.put, List.setIfInBounds_toArray, List.set_cons_zero, List.set_cons_succ])
  (refine' t_move _ _ rfl rfl rfl rfl _ _; rotate_left; (go_simp; with_reducible rfl); simp only [Act.put, List.setIfInBounds_toArray, List.set_cons_zero, List.set_cons_succ])
  --end
  refine t_one rfl rfl (fun K hK => ?_)
  go_simp
  have hdv := log_at [_, _, _, _, _, _] H6.out l (.tail _ (.tail _ (.tail _ (.tail _ (.tail _ (.head _)))))) HD.out hlen HHL.out
  rw [← HDV.out.1, ← HDV.out.2] at hdv
  refine hdv.mono ?_
  clear hdv
  rintro e w6 ⟨rfl, h6⟩
  dsimp only
  refine hK _ _ (HSZ.out _ _ _ h6) ?_
  clear hK
  --ordt y
  (refine' t_yield _ rfl rfl rfl _ _; rotate_left; (intro w' hSw; obtain ⟨s0, s1, s2⟩ := hSw; go_simp; with_reducible rfl); simp only [Act.put, List.setIfInBounds_toArray, List.set_cons_zero, List.set_cons_succ])
  --end
  refine t_one rfl rfl (fun K hK => ?_)
  obtain ⟨p0, p1, p2, p3, p4, pf0, pf1, pf2, pf3, pf4, pz⟩ := h6.cells5 1 _ _ _ _ _ _ _ rfl
  have H7 := Lib.hid (Has.store5 [_] h6 (.slice bS D.st.length bkS) (.slice bC D.ca.length bkC) (.int .i64 D.taken) (.int .i64 D.power) (.bool D.off))
  clear h6 H6
  go_simp
  refine hK _ _ (HSZ.out _ _ _ H7.out) ?_
  clear hK
  --ordt y
  (refine' t_yield _ rfl rfl rfl _ _; rotate_left; (intro w' hSw; obtain ⟨s0, s1, s2⟩ := hSw; go_simp; with_reducible rfl); simp only [Act.put, List.setIfInBounds_toArray, List.set_cons_zero, List.set_cons_succ])
  --end
  refine t_done ?_
  go_wp2_with fail
  refine bodyPost_ret (results_st2 rfl _ _ (W.heap.size + 1 + 1 + 1) _ rfl (H7.out.blk 1 _ _ rfl).1 rfl) rfl ?_
  exact DoV.of [_, _, _, _, _, _] H7.out
end Go.Proofs.YtfbkfdoekgnldaaGreatDoor
namespace Go.Proofs.YtfbkfdoekgnldaaGreatDoor
open Go.RowKit
open Lime
attribute [local go_sem] Oper.semAt_some setRow_alloc_at setRow_alloc_past setRow_drew g_same32 g_eq32 g_ne32
set_option maxRecDepth 100000 in
set_option maxHeartbeats 4000000 in
theorem do9_clear {w W : World} {rs : List (Res w.heap.size)} {g : Nat} {S : Dv} {uS uC : Value} (h : Has w W (DevR _ g S :: StR _ uS uC S :: rs)) (l : Lay) (x : StepD) (hx : StepOk w x) (hh : HalfLaid w) (hm : (vb x.what).tmod 10 = 4) :
    Calls Tryz.prog 9 #[pv g, .agg (stCells uS uC S), .agg #[.int .i64 l.first, .int .i64 l.size], .agg (stepL x).toArray] W (DoV w rs g (clearM S l).1) := by
  have ok := ok_has h (.head _)
  have hin := h.st (.tail _ (.head _))
  obtain ⟨⟨aS, akS, rfl, -⟩, ⟨aC, akC, rfl, -⟩, -, -⟩ := hin
  obtain ⟨hn0, hn1, hk0, hk1, hR⟩ := hx
  obtain ⟨what, n, keep, rv, run⟩ := x
  dsimp only at hm hR hn0 hn1 hk0 hk1
  obtain ⟨hL, hlen, hd, hroom⟩ := hR
  have hL' := hL
  obtain ⟨a, cap, rfl, -⟩ := hL'
  have hcap := hroom a cap rfl
  unfold stCells stepL
  have h1 := ((((h.addRd hL recL_len (by decide)).alloc (.cells #[.slice aS S.st.length akS, .slice aC S.ca.length akC, .int .i64 S.taken, .int .i64 S.power, .bool S.off] 34)).allocAt (.cells #[.int .i64 l.first, .int .i64 l.size] 23) (W.heap.size + 1) (by simp)).allocAt (.cells #[.int .u8 (vb what), .int .i64 n, .int .u64 keep, .slice a run.length cap] 42) (W.heap.size + 1 + 1) (by simp)).allocAt (.cells #[.slice none 0 0, .slice none 0 0, .int .i64 0, .int .i64 0, .bool false] 34) (W.heap.size + 1 + 1 + 1) (by simp)
  try dsimp only
  have hF := refclear (h1.st (.tail _ (.tail _ (.tail _ (.tail _ (.tail _ (.tail _ (.head _)))))))) ok l
  obtain ⟨D, hD⟩ : ∃ D, D = (clearM S l).1 := ⟨_, rfl⟩
  obtain ⟨c, hc⟩ : ∃ c, c = (clearM S l).2 := ⟨_, rfl⟩
  rw [← hD, ← hc] at hF
  have HDV : Hid (D = (clearM S l).1 ∧ c = (clearM S l).2) := Lib.hid ⟨hD, hc⟩
  rw [← hD]
  have HF := Lib.hid hF
  have H1 := Lib.hid h1
  have HHL := Lib.hid hh
  have HD := Lib.hid hd
  clear h hF h1 ok hD hc hL hh hd hroom
  go_enter Tryz.func9, Tryz.ntmps9
  go_wp2_with fail
  refine HF.out.mono ?_
  clear HF
  rintro e w4 hr
  obtain ⟨bS, bkS, bC, bkC, rfl, h4⟩ := H1.out.stMid [_, _, _, _, _, _] hr
  have H5 := Lib.hid (h4.alloc (.cells #[.slice bS D.st.length bkS, .slice bC D.ca.length bkC, .int .i64 D.taken, .int .i64 D.power, .bool D.off] 34))
  clear h4 hr H1
  go_wp2_with fail
  have HSZ : Hid (∀ (w' : World) (z0 : Res w.heap.size) (rest : List (Res w.heap.size)), Has w w' (Blk _ w4.heap.size (.cells #[.slice bS D.st.length bkS, .slice bC D.ca.length bkC, .int .i64 D.taken, .int .i64 D.power, .bool D.off] 34) :: z0 :: Blk _ (W.heap.size + 1 + 1) (.cells #[.int .u8 (vb what), .int .i64 n, .int .u64 keep, .slice a run.length cap] 42) :: Blk _ (W.heap.size + 1) (.cells #[.int .i64 l.first, .int .i64 l.size] 23) :: rest) → w'.rangeAt w4.heap.size 0 (stL (.slice bS D.st.length bkS) (.slice bC D.ca.length bkC) D) ∧ w'.rangeAt (W.heap.size + 1) 0 (layL l) ∧ w'.cell? ⟨W.heap.size + 1 + 1, 3, none⟩ = some (.slice a run.length cap)) := fun w' z0 rest h => ⟨st_row (h.blk 0 _ _ rfl).1, lay_row (h.blk 3 _ _ rfl).1, h.cell 2 _ _ _ rfl 3 _ rfl⟩
  refine wp_region_ordZ (fun w' => w'.rangeAt w4.heap.size 0 (stL (.slice bS D.st.length bkS) (.slice bC D.ca.length bkC) D) ∧ w'.rangeAt (W.heap.size + 1) 0 (layL l) ∧ w'.cell? ⟨W.heap.size + 1 + 1, 3, none⟩ = some (.slice a run.length cap)) (OrdT.takes [0, 1, 2, 4] (.one 3 (.take 5 (.one 6 (.take 7 .done))))) (by kernel_rfl) (by kernel_rfl) (HSZ.out _ _ _ H5.out.drew) (fun wz hz => ?_)
  have h6 := H5.out.drew
  rw [← hz] at h6
  have H6 := Lib.hid h6
  clear hz h6 H5
  unfold OrdT.takes
  refine t_load w4.heap.size 0 (stL (.slice bS D.st.length bkS) (.slice bC D.ca.length bkC) D) _ _ _ rfl rfl rfl rfl rfl (fun w' hSw => hSw.1) Tryz.underlying34 rfl (stL_size _ _ _) ?_
  simp only [Act.put, List.setIfInBounds_toArray, List.set_cons_zero, List.set_cons_succ, stL_arr]
  --ordt m
  (refine' t_move _ _ rfl rfl rfl rfl _ _; rotate_left; (go_simp; with_reducible rfl); simp only [Act.put, List.setIfInBounds_toArray, List.set_cons_zero, List.set_cons_succ])
  --end
  refine t_load (W.heap.size + 1) 0 (layL l) _ _ _ rfl rfl rfl rfl rfl (fun w' hSw => hSw.2.1) Tryz.underlying23 rfl (layL_size _) ?_
  simp only [Act.put, List.setIfInBounds_toArray, List.set_cons_zero, List.set_cons_succ, layL_arr]
  --ordt m
  (refine' t_move _ _ rfl rfl rfl rfl _ _; rotate_left; (go_simp; with_reducible rfl); simp only [Act.put, List.setIfInBounds_toArray, List.set_cons_zero, List.set_cons_succ])
  --end
  refine t_one rfl rfl (fun K hK => ?_)
  go_simp
  have hdv := clear_at [_, _, _, _, _, _] H6.out l HHL.out
  rw [← HDV.out.1, ← HDV.out.2] at hdv
  refine hdv.mono ?_
  clear hdv
  rintro e w6 ⟨rfl, h6⟩
  dsimp only
  refine hK _ _ (HSZ.out _ _ _ h6) ?_
  clear hK
  --ordt y
  (refine' t_yield _ rfl rfl rfl _ _; rotate_left; (intro w' hSw; obtain ⟨s0, s1, s2⟩ := hSw; go_simp; with_reducible rfl); simp only [Act.put, List.setIfInBounds_toArray, List.set_cons_zero, List.set_cons_succ])
  --end
  refine t_one rfl rfl (fun K hK => ?_)
  obtain ⟨p0, p1, p2, p3, p4, pf0, pf1, pf2, pf3, pf4, pz⟩ := h6.cells5 1 _ _ _ _ _ _ _ rfl
  have H7 := Lib.hid (Has.store5 [_] h6 (.slice bS D.st.length bkS) (.slice bC D.ca.length bkC) (.int .i64 D.taken) (.int .i64 D.power) (.bool D.off))
  clear h6 H6
  go_simp
  refine hK _ _ (HSZ.out _ _ _ H7.out) ?_
  clear hK
  --ordt y
  (refine' t_yield _ rfl rfl rfl _ _; rotate_left; (intro w' hSw; obtain ⟨s0, s1, s2⟩ := hSw; go_simp; with_reducible rfl); simp only [Act.put, List.setIfInBounds_toArray, List.set_cons_zero, List.set_cons_succ])
  --end
  refine t_done ?_
  go_wp2_with fail
  refine bodyPost_ret (results_st2 rfl _ _ (W.heap.size + 1 + 1 + 1) _ rfl (H7.out.blk 1 _ _ rfl).1 rfl) rfl ?_
  exact DoV.of [_, _, _, _, _, _] H7.out
end Go.Proofs.YtfbkfdoekgnldaaGreatDoor
namespace Go.Proofs.YtfbkfdoekgnldaaGreatDoor
open Go.RowKit
open Lime
attribute [local go_sem] Oper.semAt_some setRow_alloc_at setRow_alloc_past setRow_drew g_same32 g_eq32 g_ne32
set_option maxRecDepth 100000 in
set_option maxHeartbeats 4000000 in
theorem do9_format {w W : World} {rs : List (Res w.heap.size)} {g : Nat} {S : Dv} {uS uC : Value} (h : Has w W (DevR _ g S :: StR _ uS uC S :: rs)) (l : Lay) (x : StepD) (hx : StepOk w x) (hh : HalfLaid w) (hm : (vb x.what).tmod 10 = 7) :
    Calls Tryz.prog 9 #[pv g, .agg (stCells uS uC S), .agg #[.int .i64 l.first, .int .i64 l.size], .agg (stepL x).toArray] W (DoV w rs g (formatM S l).1) := by
  have ok := ok_has h (.head _)
  have hin := h.st (.tail _ (.head _))
  obtain ⟨⟨aS, akS, rfl, -⟩, ⟨aC, akC, rfl, -⟩, -, -⟩ := hin
  obtain ⟨hn0, hn1, hk0, hk1, hR⟩ := hx
  obtain ⟨what, n, keep, rv, run⟩ := x
  dsimp only at hm hR hn0 hn1 hk0 hk1
  obtain ⟨hL, hlen, hd, hroom⟩ := hR
  have hL' := hL
  obtain ⟨a, cap, rfl, -⟩ := hL'
  have hcap := hroom a cap rfl
  unfold stCells stepL
  have h1 := ((((h.addRd hL recL_len (by decide)).alloc (.cells #[.slice aS S.st.length akS, .slice aC S.ca.length akC, .int .i64 S.taken, .int .i64 S.power, .bool S.off] 34)).allocAt (.cells #[.int .i64 l.first, .int .i64 l.size] 23) (W.heap.size + 1) (by simp)).allocAt (.cells #[.int .u8 (vb what), .int .i64 n, .int .u64 keep, .slice a run.length cap] 42) (W.heap.size + 1 + 1) (by simp)).allocAt (.cells #[.slice none 0 0, .slice none 0 0, .int .i64 0, .int .i64 0, .bool false] 34) (W.heap.size + 1 + 1 + 1) (by simp)
  try dsimp only
  have hF := refformat (h1.st (.tail _ (.tail _ (.tail _ (.tail _ (.tail _ (.tail _ (.head _)))))))) ok l
  obtain ⟨D, hD⟩ : ∃ D, D = (formatM S l).1 := ⟨_, rfl⟩
  obtain ⟨c, hc⟩ : ∃ c, c = (formatM S l).2 := ⟨_, rfl⟩
  rw [← hD, ← hc] at hF
  have HDV : Hid (D = (formatM S l).1 ∧ c = (formatM S l).2) := Lib.hid ⟨hD, hc⟩
  rw [← hD]
  have HF := Lib.hid hF
  have H1 := Lib.hid h1
  have HHL := Lib.hid hh
  have HD := Lib.hid hd
  clear h hF h1 ok hD hc hL hh hd hroom
  go_enter Tryz.func9, Tryz.ntmps9
  go_wp2_with fail
  refine HF.out.mono ?_
  clear HF
  rintro e w4 hr
  obtain ⟨bS, bkS, bC, bkC, rfl, h4⟩ := H1.out.stMid [_, _, _, _, _, _] hr
  have H5 := Lib.hid (h4.alloc (.cells #[.slice bS D.st.length bkS, .slice bC D.ca.length bkC, .int .i64 D.taken, .int .i64 D.power, .bool D.off] 34))
  clear h4 hr H1
  go_wp2_with fail
  have HSZ : Hid (∀ (w' : World) (z0 : Res w.heap.size) (rest : List (Res w.heap.size)), Has w w' (Blk _ w4.heap.size (.cells #[.slice bS D.st.length bkS, .slice bC D.ca.length bkC, .int .i64 D.taken, .int .i64 D.power, .bool D.off] 34) :: z0 :: Blk _ (W.heap.size + 1 + 1) (.cells #[.int .u8 (vb what), .int .i64 n, .int .u64 keep, .slice a run.length cap] 42) :: Blk _ (W.heap.size + 1) (.cells #[.int .i64 l.first, .int .i64 l.size] 23) :: rest) → w'.rangeAt w4.heap.size 0 (stL (.slice bS D.st.length bkS) (.slice bC D.ca.length bkC) D) ∧ w'.rangeAt (W.heap.size + 1) 0 (layL l) ∧ w'.cell? ⟨W.heap.size + 1 + 1, 3, none⟩ = some (.slice a run.length cap)) := fun w' z0 rest h => ⟨st_row (h.blk 0 _ _ rfl).1, lay_row (h.blk 3 _ _ rfl).1, h.cell 2 _ _ _ rfl 3 _ rfl⟩
  refine wp_region_ordZ (fun w' => w'.rangeAt w4.heap.size 0 (stL (.slice bS D.st.length bkS) (.slice bC D.ca.length bkC) D) ∧ w'.rangeAt (W.heap.size + 1) 0 (layL l) ∧ w'.cell? ⟨W.heap.size + 1 + 1, 3, none⟩ = some (.slice a run.length cap)) (OrdT.takes [0, 1, 2, 4] (.one 3 (.take 5 (.one 6 (.take 7 .done))))) (by kernel_rfl) (by kernel_rfl) (HSZ.out _ _ _ H5.out.drew) (fun wz hz => ?_)
  have h6 := H5.out.drew
  rw [← hz] at h6
  have H6 := Lib.hid h6
  clear hz h6 H5
  unfold OrdT.takes
  refine t_load w4.heap.size 0 (stL (.slice bS D.st.length bkS) (.slice bC D.ca.length bkC) D) _ _ _ rfl rfl rfl rfl rfl (fun w' hSw => hSw.1) Tryz.underlying34 rfl (stL_size _ _ _) ?_
  simp only [Act.put, List.setIfInBounds_toArray, List.set_cons_zero, List.set_cons_succ, stL_arr]
  --ordt m
  (refine' t_move _ _ rfl rfl rfl rfl _ _; rotate_left; (go_simp; with_reducible rfl); simp only [Act.put, List.setIfInBounds_toArray, List.set_cons_zero, List.set_cons_succ])
  --end
  refine t_load (W.heap.size + 1) 0 (layL l) _ _ _ rfl rfl rfl rfl rfl (fun w' hSw => hSw.2.1) Tryz.underlying23 rfl (layL_size _) ?_
  simp only [Act.put, List.setIfInBounds_toArray, List.set_cons_zero, List.set_cons_succ, layL_arr]
  --ordt m
  (refine' t_move _ _ rfl rfl rfl rfl _ _; rotate_left; (go_simp; with_reducible rfl); simp only [Act.put, List.setIfInBounds_toArray, List.set_cons_zero, List.set_cons_succ])
  --end
  refine t_one rfl rfl (fun K hK => ?_)
  go_simp
  have hdv := format_at [_, _, _, _, _, _] H6.out l HHL.out
  rw [← HDV.out.1, ← HDV.out.2] at hdv
  refine hdv.mono ?_
  clear hdv
  rintro e w6 ⟨rfl, h6⟩
  dsimp only
  refine hK _ _ (HSZ.out _ _ _ h6) ?_
  clear hK
  --ordt y
  (refine' t_yield _ rfl rfl rfl _ _; rotate_left; (intro w' hSw; obtain ⟨s0, s1, s2⟩ := hSw; go_simp; with_reducible rfl); simp only [Act.put, List.setIfInBounds_toArray, List.set_cons_zero, List.set_cons_succ])
  --end
  refine t_one rfl rfl (fun K hK => ?_)
  obtain ⟨p0, p1, p2, p3, p4, pf0, pf1, pf2, pf3, pf4, pz⟩ := h6.cells5 1 _ _ _ _ _ _ _ rfl
  have H7 := Lib.hid (Has.store5 [_] h6 (.slice bS D.st.length bkS) (.slice bC D.ca.length bkC) (.int .i64 D.taken) (.int .i64 D.power) (.bool D.off))
  clear h6 H6
  go_simp
  refine hK _ _ (HSZ.out _ _ _ H7.out) ?_
  clear hK
  --ordt y
  (refine' t_yield _ rfl rfl rfl _ _; rotate_left; (intro w' hSw; obtain ⟨s0, s1, s2⟩ := hSw; go_simp; with_reducible rfl); simp only [Act.put, List.setIfInBounds_toArray, List.set_cons_zero, List.set_cons_succ])
  --end
  refine t_done ?_
  go_wp2_with fail
  refine bodyPost_ret (results_st2 rfl _ _ (W.heap.size + 1 + 1 + 1) _ rfl (H7.out.blk 1 _ _ rfl).1 rfl) rfl ?_
  exact DoV.of [_, _, _, _, _, _] H7.out
end Go.Proofs.YtfbkfdoekgnldaaGreatDoor
namespace Go.Proofs.YtfbkfdoekgnldaaGreatDoor
open Go.RowKit
open Lime
attribute [local go_sem] Oper.semAt_some setRow_alloc_at setRow_alloc_past setRow_drew g_same32 g_eq32 g_ne32
set_option maxRecDepth 100000 in
set_option maxHeartbeats 4000000 in
theorem do9_limit0 {w W : World} {rs : List (Res w.heap.size)} {g : Nat} {S : Dv} {uS uC : Value} (h : Has w W (DevR _ g S :: StR _ uS uC S :: rs)) (l : Lay) (x : StepD) (hx : StepOk w x) (hlt : x.n < -1) (hm : (vb x.what).tmod 10 = 8) :
    Calls Tryz.prog 9 #[pv g, .agg (stCells uS uC S), .agg #[.int .i64 l.first, .int .i64 l.size], .agg (stepL x).toArray] W (DoV w rs g (S.limit (-1))) := by
  have ok := ok_has h (.head _)
  have hin := h.st (.tail _ (.head _))
  obtain ⟨⟨aS, akS, rfl, -⟩, ⟨aC, akC, rfl, -⟩, -, -⟩ := hin
  obtain ⟨hn0, hn1, hk0, hk1, hR⟩ := hx
  obtain ⟨what, n, keep, rv, run⟩ := x
  dsimp only at hlt hm hR hn0 hn1 hk0 hk1
  obtain ⟨hL, hlen, hd, hroom⟩ := hR
  have hL' := hL
  obtain ⟨a, cap, rfl, -⟩ := hL'
  have hcap := hroom a cap rfl
  unfold stCells stepL
  have h1 := ((((h.addRd hL recL_len (by decide)).alloc (.cells #[.slice aS S.st.length akS, .slice aC S.ca.length akC, .int .i64 S.taken, .int .i64 S.power, .bool S.off] 34)).allocAt (.cells #[.int .i64 l.first, .int .i64 l.size] 23) (W.heap.size + 1) (by simp)).allocAt (.cells #[.int .u8 (vb what), .int .i64 n, .int .u64 keep, .slice a run.length cap] 42) (W.heap.size + 1 + 1) (by simp)).allocAt (.cells #[.slice none 0 0, .slice none 0 0, .int .i64 0, .int .i64 0, .bool false] 34) (W.heap.size + 1 + 1 + 1) (by simp)
  try dsimp only
  have hF := ref_limit (h1.st (.tail _ (.tail _ (.tail _ (.tail _ (.tail _ (.tail _ (.head _)))))))) (-1)
  unfold stCells at hF
  obtain ⟨D, hD⟩ : ∃ D, D = S.limit (-1) := ⟨_, rfl⟩
  obtain ⟨c, hc⟩ : ∃ c, c = limitE (-1) := ⟨_, rfl⟩
  rw [← hD, ← hc] at hF
  have HDV : Hid (c = limitE (-1) ∧ D = S.limit (-1)) := Lib.hid ⟨hc, hD⟩
  rw [← hD]
  have HF := Lib.hid hF
  have H1 := Lib.hid h1
  clear h hF h1 ok hD hc hL hd hroom
  go_enter Tryz.func9, Tryz.ntmps9
  go_wp2_with fail
  refine HF.out.mono ?_
  clear HF
  rintro e w4 hr
  obtain ⟨bS, bkS, bC, bkC, rfl, h4⟩ := H1.out.stMid [_, _, _, _, _, _] hr
  have H5 := Lib.hid (h4.alloc (.cells #[.slice bS D.st.length bkS, .slice bC D.ca.length bkC, .int .i64 D.taken, .int .i64 D.power, .bool D.off] 34))
  clear h4 hr H1
  go_wp2_with fail
  have HSZ : Hid (∀ (w' : World) (z0 : Res w.heap.size) (rest : List (Res w.heap.size)), Has w w' (Blk _ w4.heap.size (.cells #[.slice bS D.st.length bkS, .slice bC D.ca.length bkC, .int .i64 D.taken, .int .i64 D.power, .bool D.off] 34) :: z0 :: Blk _ (W.heap.size + 1 + 1) (.cells #[.int .u8 (vb what), .int .i64 n, .int .u64 keep, .slice a run.length cap] 42) :: Blk _ (W.heap.size + 1) (.cells #[.int .i64 l.first, .int .i64 l.size] 23) :: rest) → w'.rangeAt w4.heap.size 0 (stL (.slice bS D.st.length bkS) (.slice bC D.ca.length bkC) D) ∧ w'.rangeAt (W.heap.size + 1) 0 (layL l) ∧ w'.cell? ⟨W.heap.size + 1 + 1, 3, none⟩ = some (.slice a run.length cap)) := fun w' z0 rest h => ⟨st_row (h.blk 0 _ _ rfl).1, lay_row (h.blk 3 _ _ rfl).1, h.cell 2 _ _ _ rfl 3 _ rfl⟩
  refine wp_region_ordZ (fun w' => w'.rangeAt w4.heap.size 0 (stL (.slice bS D.st.length bkS) (.slice bC D.ca.length bkC) D) ∧ w'.rangeAt (W.heap.size + 1) 0 (layL l) ∧ w'.cell? ⟨W.heap.size + 1 + 1, 3, none⟩ = some (.slice a run.length cap)) (OrdT.takes [0, 1, 2, 4] (.one 3 (.take 5 (.one 6 (.take 7 .done))))) (by kernel_rfl) (by kernel_rfl) (HSZ.out _ _ _ H5.out.drew) (fun wz hz => ?_)
  have h6 := H5.out.drew
  rw [← hz] at h6
  have H6 := Lib.hid h6
  clear hz h6 H5
  unfold OrdT.takes
  refine t_load w4.heap.size 0 (stL (.slice bS D.st.length bkS) (.slice bC D.ca.length bkC) D) _ _ _ rfl rfl rfl rfl rfl (fun w' hSw => hSw.1) Tryz.underlying34 rfl (stL_size _ _ _) ?_
  simp only [Act.put, List.setIfInBounds_toArray, List.set_cons_zero, List.set_cons_succ, stL_arr]
  --ordt mmm
  iterate 3 (refine' t_move _ _ rfl rfl rfl rfl _ _; rotate_left; (go_simp; with_reducible rfl); simp only [Act.put, List.setIfInBounds_toArray, List.set_cons_zero, List.set_cons_succ])
  --end
  refine t_one rfl rfl (fun K hK => ?_)
  go_simp
  have hdv := flush_at9 [_, _, _, _, _, _] H6.out (-1)
  rw [← HDV.out.1, ← HDV.out.2] at hdv
  refine hdv.mono ?_
  clear hdv
  rintro e w6 ⟨rfl, h6⟩
  dsimp only
  refine hK _ _ (HSZ.out _ _ _ h6) ?_
  clear hK
  --ordt y
  (refine' t_yield _ rfl rfl rfl _ _; rotate_left; (intro w' hSw; obtain ⟨s0, s1, s2⟩ := hSw; go_simp; with_reducible rfl); simp only [Act.put, List.setIfInBounds_toArray, List.set_cons_zero, List.set_cons_succ])
  --end
  refine t_one rfl rfl (fun K hK => ?_)
  obtain ⟨p0, p1, p2, p3, p4, pf0, pf1, pf2, pf3, pf4, pz⟩ := h6.cells5 1 _ _ _ _ _ _ _ rfl
  have H7 := Lib.hid (Has.store5 [_] h6 (.slice bS D.st.length bkS) (.slice bC D.ca.length bkC) (.int .i64 D.taken) (.int .i64 D.power) (.bool D.off))
  clear h6 H6
  go_simp
  refine hK _ _ (HSZ.out _ _ _ H7.out) ?_
  clear hK
  --ordt y
  (refine' t_yield _ rfl rfl rfl _ _; rotate_left; (intro w' hSw; obtain ⟨s0, s1, s2⟩ := hSw; go_simp; with_reducible rfl); simp only [Act.put, List.setIfInBounds_toArray, List.set_cons_zero, List.set_cons_succ])
  --end
  refine t_done ?_
  go_wp2_with fail
  refine bodyPost_ret (results_st2 rfl _ _ (W.heap.size + 1 + 1 + 1) _ rfl (H7.out.blk 1 _ _ rfl).1 rfl) rfl ?_
  exact DoV.of [_, _, _, _, _, _] H7.out
set_option maxRecDepth 100000 in
set_option maxHeartbeats 4000000 in
theorem do9_limit1 {w W : World} {rs : List (Res w.heap.size)} {g : Nat} {S : Dv} {uS uC : Value} (h : Has w W (DevR _ g S :: StR _ uS uC S :: rs)) (l : Lay) (x : StepD) (hx : StepOk w x) (hlt : -1 ≤ x.n) (hm : (vb x.what).tmod 10 = 8) :
    Calls Tryz.prog 9 #[pv g, .agg (stCells uS uC S), .agg #[.int .i64 l.first, .int .i64 l.size], .agg (stepL x).toArray] W (DoV w rs g (S.limit x.n)) := by
  have ok := ok_has h (.head _)
  have hin := h.st (.tail _ (.head _))
  obtain ⟨⟨aS, akS, rfl, -⟩, ⟨aC, akC, rfl, -⟩, -, -⟩ := hin
  obtain ⟨hn0, hn1, hk0, hk1, hR⟩ := hx
  obtain ⟨what, n, keep, rv, run⟩ := x
  dsimp only at hlt hm hR hn0 hn1 hk0 hk1
  obtain ⟨hL, hlen, hd, hroom⟩ := hR
  have hL' := hL
  obtain ⟨a, cap, rfl, -⟩ := hL'
  have hcap := hroom a cap rfl
  unfold stCells stepL
  have h1 := ((((h.addRd hL recL_len (by decide)).alloc (.cells #[.slice aS S.st.length akS, .slice aC S.ca.length akC, .int .i64 S.taken, .int .i64 S.power, .bool S.off] 34)).allocAt (.cells #[.int .i64 l.first, .int .i64 l.size] 23) (W.heap.size + 1) (by simp)).allocAt (.cells #[.int .u8 (vb what), .int .i64 n, .int .u64 keep, .slice a run.length cap] 42) (W.heap.size + 1 + 1) (by simp)).allocAt (.cells #[.slice none 0 0, .slice none 0 0, .int .i64 0, .int .i64 0, .bool false] 34) (W.heap.size + 1 + 1 + 1) (by simp)
  try dsimp only
  have hF := ref_limit (h1.st (.tail _ (.tail _ (.tail _ (.tail _ (.tail _ (.tail _ (.head _)))))))) n
  unfold stCells at hF
  obtain ⟨D, hD⟩ : ∃ D, D = S.limit n := ⟨_, rfl⟩
  obtain ⟨c, hc⟩ : ∃ c, c = limitE n := ⟨_, rfl⟩
  rw [← hD, ← hc] at hF
  have HDV : Hid (c = limitE n ∧ D = S.limit n) := Lib.hid ⟨hc, hD⟩
  rw [← hD]
  have HF := Lib.hid hF
  have H1 := Lib.hid h1
  clear h hF h1 ok hD hc hL hd hroom
  go_enter Tryz.func9, Tryz.ntmps9
  go_wp2_with fail
  refine HF.out.mono ?_
  clear HF
  rintro e w4 hr
  obtain ⟨bS, bkS, bC, bkC, rfl, h4⟩ := H1.out.stMid [_, _, _, _, _, _] hr
  have H5 := Lib.hid (h4.alloc (.cells #[.slice bS D.st.length bkS, .slice bC D.ca.length bkC, .int .i64 D.taken, .int .i64 D.power, .bool D.off] 34))
  clear h4 hr H1
  go_wp2_with fail
  have HSZ : Hid (∀ (w' : World) (z0 : Res w.heap.size) (rest : List (Res w.heap.size)), Has w w' (Blk _ w4.heap.size (.cells #[.slice bS D.st.length bkS, .slice bC D.ca.length bkC, .int .i64 D.taken, .int .i64 D.power, .bool D.off] 34) :: z0 :: Blk _ (W.heap.size + 1 + 1) (.cells #[.int .u8 (vb what), .int .i64 n, .int .u64 keep, .slice a run.length cap] 42) :: Blk _ (W.heap.size + 1) (.cells #[.int .i64 l.first, .int .i64 l.size] 23) :: rest) → w'.rangeAt w4.heap.size 0 (stL (.slice bS D.st.length bkS) (.slice bC D.ca.length bkC) D) ∧ w'.rangeAt (W.heap.size + 1) 0 (layL l) ∧ w'.cell? ⟨W.heap.size + 1 + 1, 3, none⟩ = some (.slice a run.length cap)) := fun w' z0 rest h => ⟨st_row (h.blk 0 _ _ rfl).1, lay_row (h.blk 3 _ _ rfl).1, h.cell 2 _ _ _ rfl 3 _ rfl⟩
  refine wp_region_ordZ (fun w' => w'.rangeAt w4.heap.size 0 (stL (.slice bS D.st.length bkS) (.slice bC D.ca.length bkC) D) ∧ w'.rangeAt (W.heap.size + 1) 0 (layL l) ∧ w'.cell? ⟨W.heap.size + 1 + 1, 3, none⟩ = some (.slice a run.length cap)) (OrdT.takes [0, 1, 2, 4] (.one 3 (.take 5 (.one 6 (.take 7 .done))))) (by kernel_rfl) (by kernel_rfl) (HSZ.out _ _ _ H5.out.drew) (fun wz hz => ?_)
  have h6 := H5.out.drew
  rw [← hz] at h6
  have H6 := Lib.hid h6
  clear hz h6 H5
  unfold OrdT.takes
  refine t_load w4.heap.size 0 (stL (.slice bS D.st.length bkS) (.slice bC D.ca.length bkC) D) _ _ _ rfl rfl rfl rfl rfl (fun w' hSw => hSw.1) Tryz.underlying34 rfl (stL_size _ _ _) ?_
  simp only [Act.put, List.setIfInBounds_toArray, List.set_cons_zero, List.set_cons_succ, stL_arr]
  --ordt mmm
  iterate 3 (refine' t_move _ _ rfl rfl rfl rfl _ _; rotate_left; (go_simp; with_reducible rfl); simp only [Act.put, List.setIfInBounds_toArray, List.set_cons_zero, List.set_cons_succ])
  --end
  refine t_one rfl rfl (fun K hK => ?_)
  go_simp
  have hdv := flush_at9 [_, _, _, _, _, _] H6.out n
  rw [← HDV.out.1, ← HDV.out.2] at hdv
  refine hdv.mono ?_
  clear hdv
  rintro e w6 ⟨rfl, h6⟩
  dsimp only
  refine hK _ _ (HSZ.out _ _ _ h6) ?_
  clear hK
  --ordt y
  (refine' t_yield _ rfl rfl rfl _ _; rotate_left; (intro w' hSw; obtain ⟨s0, s1, s2⟩ := hSw; go_simp; with_reducible rfl); simp only [Act.put, List.setIfInBounds_toArray, List.set_cons_zero, List.set_cons_succ])
  --end
  refine t_one rfl rfl (fun K hK => ?_)
  obtain ⟨p0, p1, p2, p3, p4, pf0, pf1, pf2, pf3, pf4, pz⟩ := h6.cells5 1 _ _ _ _ _ _ _ rfl
  have H7 := Lib.hid (Has.store5 [_] h6 (.slice bS D.st.length bkS) (.slice bC D.ca.length bkC) (.int .i64 D.taken) (.int .i64 D.power) (.bool D.off))
  clear h6 H6
  go_simp
  refine hK _ _ (HSZ.out _ _ _ H7.out) ?_
  clear hK
  --ordt y
  (refine' t_yield _ rfl rfl rfl _ _; rotate_left; (intro w' hSw; obtain ⟨s0, s1, s2⟩ := hSw; go_simp; with_reducible rfl); simp only [Act.put, List.setIfInBounds_toArray, List.set_cons_zero, List.set_cons_succ])
  --end
  refine t_done ?_
  go_wp2_with fail
  refine bodyPost_ret (results_st2 rfl _ _ (W.heap.size + 1 + 1 + 1) _ rfl (H7.out.blk 1 _ _ rfl).1 rfl) rfl ?_
  exact DoV.of [_, _, _, _, _, _] H7.out
theorem do9_limit {w W : World} {rs : List (Res w.heap.size)} {g : Nat} {S : Dv} {uS uC : Value} (h : Has w W (DevR _ g S :: StR _ uS uC S :: rs)) (l : Lay) (x : StepD) (hx : StepOk w x) (hm : (vb x.what).tmod 10 = 8) :
    Calls Tryz.prog 9 #[pv g, .agg (stCells uS uC S), .agg #[.int .i64 l.first, .int .i64 l.size], .agg (stepL x).toArray] W (DoV w rs g (S.limit (max x.n (-1)))) := by
  by_cases hlt : x.n < -1
  · rw [show max x.n (-1) = -1 by omega]; exact do9_limit0 h l x hx hlt hm
  · rw [show max x.n (-1) = x.n by omega]; exact do9_limit1 h l x hx (by omega) hm
end Go.Proofs.YtfbkfdoekgnldaaGreatDoor
namespace Go.Proofs.YtfbkfdoekgnldaaGreatDoor
open Go.RowKit
open Lime
attribute [local go_sem] Oper.semAt_some setRow_alloc_at setRow_alloc_past setRow_drew g_same32 g_eq32 g_ne32
set_option maxRecDepth 100000 in
set_option maxHeartbeats 4000000 in
theorem do9_crash {w W : World} {rs : List (Res w.heap.size)} {g : Nat} {S : Dv} {uS uC : Value} (h : Has w W (DevR _ g S :: StR _ uS uC S :: rs)) (l : Lay) (x : StepD) (hx : StepOk w x) (hm : (vb x.what).tmod 10 = 9) :
    Calls Tryz.prog 9 #[pv g, .agg (stCells uS uC S), .agg #[.int .i64 l.first, .int .i64 l.size], .agg (stepL x).toArray] W (DoV w rs g (S.crash (keptL x.keep S.ca.length))) := by
  have ok := ok_has h (.head _)
  have hin := h.st (.tail _ (.head _))
  obtain ⟨⟨aS, akS, rfl, -⟩, ⟨aC, akC, rfl, -⟩, -, -⟩ := hin
  obtain ⟨hn0, hn1, hk0, hk1, hR⟩ := hx
  obtain ⟨what, n, keep, rv, run⟩ := x
  dsimp only at hm hR hn0 hn1 hk0 hk1
  obtain ⟨hL, hlen, hd, hroom⟩ := hR
  have hL' := hL
  obtain ⟨a, cap, rfl, -⟩ := hL'
  have hcap := hroom a cap rfl
  unfold stCells stepL
  have h1 := ((((h.addRd hL recL_len (by decide)).alloc (.cells #[.slice aS S.st.length akS, .slice aC S.ca.length akC, .int .i64 S.taken, .int .i64 S.power, .bool S.off] 34)).allocAt (.cells #[.int .i64 l.first, .int .i64 l.size] 23) (W.heap.size + 1) (by simp)).allocAt (.cells #[.int .u8 (vb what), .int .i64 n, .int .u64 keep, .slice a run.length cap] 42) (W.heap.size + 1 + 1) (by simp)).allocAt (.cells #[.slice none 0 0, .slice none 0 0, .int .i64 0, .int .i64 0, .bool false] 34) (W.heap.size + 1 + 1 + 1) (by simp)
  try dsimp only
  have hck := ok.c1
  obtain ⟨ks, hks⟩ : ∃ ks, ks = keptL keep S.ca.length := ⟨_, rfl⟩
  obtain ⟨D, hD⟩ : ∃ D, D = S.crash ks := ⟨_, rfl⟩
  obtain ⟨c, hc⟩ : ∃ c, c = S.crashE ks := ⟨_, rfl⟩
  rw [← hks, ← hD]
  have HDV : Hid (c = S.crashE ks ∧ D = S.crash ks) := Lib.hid ⟨hc, hD⟩
  have HKS := Lib.hid hks
  have HOK := Lib.hid ok
  have H1 := Lib.hid h1
  have HKP := Lib.hid (kept_has h1 S.ca.length keep (by omega) hk0 hk1)
  clear h h1 ok hL hd hroom hks hD hc
  go_enter Tryz.func9, Tryz.ntmps9
  go_wp2_with fail
  refine HKP.out.mono ?_
  clear HKP
  rintro e w3 ⟨kv, rfl, h3⟩
  obtain ⟨ak, ck, rfl, _⟩ := (h3.ownRd (.head _)).shape
  have hkl := keptL_len keep S.ca.length
  have hF := ref_crash (h3.st (.tail _ (.tail _ (.tail _ (.tail _ (.tail _ (.tail _ (.tail _ (.head _))))))))) (keptL keep S.ca.length) (h3.ownRd (.head _)).rd (by omega) HOK.out
  unfold stCells at hF
  rw [← HKS.out] at hF h3 hkl
  rw [← HDV.out.1, ← HDV.out.2] at hF
  rw [← HKS.out]
  obtain ⟨q0, q1, q2, q3, q4, qf0, qf1, qf2, qf3, qf4, qz⟩ := h3.cells5 4 _ _ _ _ _ _ _ rfl
  have HF := Lib.hid hF
  clear H1
  have H1 := Lib.hid h3
  clear h3 hF HOK
  go_wp2_with fail
  refine HF.out.mono ?_
  clear HF
  rintro e w4 hr
  obtain ⟨bS, bkS, bC, bkC, rfl, h4⟩ := H1.out.stMid [_, _, _, _, _, _, _] hr
  have H5 := Lib.hid (h4.alloc (.cells #[.slice bS D.st.length bkS, .slice bC D.ca.length bkC, .int .i64 D.taken, .int .i64 D.power, .bool D.off] 34))
  clear h4 hr H1
  go_wp2_with fail
  have HSZ : Hid (∀ (w' : World) (z0 z1 : Res w.heap.size) (rest : List (Res w.heap.size)), Has w w' (Blk _ w4.heap.size (.cells #[.slice bS D.st.length bkS, .slice bC D.ca.length bkC, .int .i64 D.taken, .int .i64 D.power, .bool D.off] 34) :: z0 :: z1 :: Blk _ (W.heap.size + 1 + 1) (.cells #[.int .u8 (vb what), .int .i64 n, .int .u64 keep, .slice a run.length cap] 42) :: Blk _ (W.heap.size + 1) (.cells #[.int .i64 l.first, .int .i64 l.size] 23) :: rest) → w'.rangeAt w4.heap.size 0 (stL (.slice bS D.st.length bkS) (.slice bC D.ca.length bkC) D) ∧ w'.rangeAt (W.heap.size + 1) 0 (layL l) ∧ w'.cell? ⟨W.heap.size + 1 + 1, 3, none⟩ = some (.slice a run.length cap)) := fun w' z0 z1 rest h => ⟨st_row (h.blk 0 _ _ rfl).1, lay_row (h.blk 4 _ _ rfl).1, h.cell 3 _ _ _ rfl 3 _ rfl⟩
  refine wp_region_ordZ (fun w' => w'.rangeAt w4.heap.size 0 (stL (.slice bS D.st.length bkS) (.slice bC D.ca.length bkC) D) ∧ w'.rangeAt (W.heap.size + 1) 0 (layL l) ∧ w'.cell? ⟨W.heap.size + 1 + 1, 3, none⟩ = some (.slice a run.length cap)) (OrdT.takes [0, 1, 2, 4] (.one 3 (.take 5 (.one 6 (.take 7 .done))))) (by kernel_rfl) (by kernel_rfl) (HSZ.out _ _ _ _ H5.out.drew) (fun wz hz => ?_)
  have h6 := H5.out.drew
  rw [← hz] at h6
  have H6 := Lib.hid h6
  clear hz h6 H5
  unfold OrdT.takes
  refine t_load w4.heap.size 0 (stL (.slice bS D.st.length bkS) (.slice bC D.ca.length bkC) D) _ _ _ rfl rfl rfl rfl rfl (fun w' hSw => hSw.1) Tryz.underlying34 rfl (stL_size _ _ _) ?_
  simp only [Act.put, List.setIfInBounds_toArray, List.set_cons_zero, List.set_cons_succ, stL_arr]
  --ordt mmm
  iterate 3 (refine' t_move _ _ rfl rfl rfl rfl _ _; rotate_left; (go_simp; with_reducible rfl); simp only [Act.put, List.setIfInBounds_toArray, List.set_cons_zero, List.set_cons_succ])
  --end
  refine t_one rfl rfl (fun K hK => ?_)
  go_simp
  have hdv := crash_at9 (l1 := [_, _, _, _, _, _, _]) H6.out (.tail _ (.head _)) (by omega)
  rw [← HDV.out.1, ← HDV.out.2] at hdv
  refine hdv.mono ?_
  clear hdv
  rintro e w6 ⟨rfl, h6⟩
  dsimp only
  refine hK _ _ (HSZ.out _ _ _ _ h6) ?_
  clear hK
  --ordt y
  (refine' t_yield _ rfl rfl rfl _ _; rotate_left; (intro w' hSw; obtain ⟨s0, s1, s2⟩ := hSw; go_simp; with_reducible rfl); simp only [Act.put, List.setIfInBounds_toArray, List.set_cons_zero, List.set_cons_succ])
  --end
  refine t_one rfl rfl (fun K hK => ?_)
  obtain ⟨p0, p1, p2, p3, p4, pf0, pf1, pf2, pf3, pf4, pz⟩ := h6.cells5 2 _ _ _ _ _ _ _ rfl
  have H7 := Lib.hid (Has.store5 [_, _] h6 (.slice bS D.st.length bkS) (.slice bC D.ca.length bkC) (.int .i64 D.taken) (.int .i64 D.power) (.bool D.off))
  clear h6 H6
  go_simp
  refine hK _ _ (HSZ.out _ _ _ _ H7.out) ?_
  clear hK
  --ordt y
  (refine' t_yield _ rfl rfl rfl _ _; rotate_left; (intro w' hSw; obtain ⟨s0, s1, s2⟩ := hSw; go_simp; with_reducible rfl); simp only [Act.put, List.setIfInBounds_toArray, List.set_cons_zero, List.set_cons_succ])
  --end
  refine t_done ?_
  go_wp2_with fail
  refine bodyPost_ret (results_st2 rfl _ _ (W.heap.size + 1 + 1 + 1) _ rfl (H7.out.blk 2 _ _ rfl).1 rfl) rfl ?_
  exact DoV.of [_, _, _, _, _, _, _] H7.out
end Go.Proofs.YtfbkfdoekgnldaaGreatDoor
namespace Go.Proofs.YtfbkfdoekgnldaaGreatDoor
open Go.RowKit
open Lime
attribute [local go_sem] Oper.semAt_some setRow_alloc_at setRow_alloc_past setRow_drew g_same32 g_eq32 g_ne32
set_option maxRecDepth 100000 in
set_option maxHeartbeats 4000000 in
theorem do9_apply {w W : World} {rs : List (Res w.heap.size)} {g : Nat} {S : Dv} {uS uC : Value} (h : Has w W (DevR _ g S :: StR _ uS uC S :: rs)) (l : Lay) (x : StepD) (hx : StepOk w x) (hh : HalfLaid w) (hm : (vb x.what).tmod 10 = 3) :
    Calls Tryz.prog 9 #[pv g, .agg (stCells uS uC S), .agg #[.int .i64 l.first, .int .i64 l.size], .agg (stepL x).toArray] W (DoV w rs g (applyM S l).1) := by
  have ok := ok_has h (.head _)
  have hin := h.st (.tail _ (.head _))
  obtain ⟨⟨aS, akS, rfl, -⟩, ⟨aC, akC, rfl, -⟩, -, -⟩ := hin
  obtain ⟨hn0, hn1, hk0, hk1, hR⟩ := hx
  obtain ⟨what, n, keep, rv, run⟩ := x
  dsimp only at hm hR hn0 hn1 hk0 hk1
  obtain ⟨hL, hlen, hd, hroom⟩ := hR
  have hL' := hL
  obtain ⟨a, cap, rfl, -⟩ := hL'
  have hcap := hroom a cap rfl
  unfold stCells stepL
  have h1 := ((((h.addRd hL recL_len (by decide)).alloc (.cells #[.slice aS S.st.length akS, .slice aC S.ca.length akC, .int .i64 S.taken, .int .i64 S.power, .bool S.off] 34)).allocAt (.cells #[.int .i64 l.first, .int .i64 l.size] 23) (W.heap.size + 1) (by simp)).allocAt (.cells #[.int .u8 (vb what), .int .i64 n, .int .u64 keep, .slice a run.length cap] 42) (W.heap.size + 1 + 1) (by simp)).allocAt (.cells #[.slice none 0 0, .slice none 0 0, .int .i64 0, .int .i64 0, .bool false] 34) (W.heap.size + 1 + 1 + 1) (by simp)
  try dsimp only
  have hA := applyE_at [_, _, _, _, _] h1 l hh
  obtain ⟨⟨D, m, c⟩, hX⟩ : ∃ X, X = applyM S l := ⟨_, rfl⟩
  rw [← hX] at hA ⊢
  dsimp only at hA ⊢
  have HA := Lib.hid hA
  have HX := Lib.hid hX
  have HOK := Lib.hid ok
  clear h h1 ok hL hd hroom hA hX hh
  go_enter Tryz.func9, Tryz.ntmps9
  go_wp2_with fail
  refine HA.out.mono ?_
  clear HA
  rintro e w3 ⟨rfl, h3⟩
  have hF := refapply (h3.st (.tail _ (.tail _ (.tail _ (.tail _ (.tail _ (.tail _ (.head _)))))))) HOK.out l
  rw [← HX.out] at hF
  dsimp only at hF
  obtain ⟨s0, s1, s2, s3, s4, sf0, sf1, sf2, sf3, sf4, sz⟩ := h3.cells5 3 _ _ _ _ _ _ _ rfl
  have b0 := h3.cell 2 _ _ _ rfl 0 _ rfl
  have b1 := h3.cell 2 _ _ _ rfl 1 _ rfl
  have HF := Lib.hid hF
  have H3 := Lib.hid h3
  clear hF h3 HX
  go_wp2_with fail
  refine HF.out.mono ?_
  clear HF b0 b1 s0 s1 s2 s3 s4 sf0 sf1 sf2 sf3 sf4 sz
  rintro e w4 hr
  obtain ⟨bS, bkS, bC, bkC, rfl, h4, -⟩ := H3.out.stStep3 [_, _, _, _, _, _] Sub.rfl' hr
  obtain ⟨p0, p1, p2, p3, p4, pf0, pf1, pf2, pf3, pf4, pz⟩ := h4.cells5 0 _ _ _ _ _ _ _ rfl
  have H7 := Lib.hid ((Has.store5 [] h4 (.slice bS D.st.length bkS) (.slice bC D.ca.length bkC) (.int .i64 D.taken) (.int .i64 D.power) (.bool D.off)).allocAt (.cells #[.slice bS D.st.length bkS, .slice bC D.ca.length bkC, .int .i64 D.taken, .int .i64 D.power, .bool D.off] 34) w4.heap.size (by simp))
  clear hr h4 H3 HOK
  go_wp2_with fail
  refine bodyPost_ret (results_st2 rfl _ _ (W.heap.size + 1 + 1 + 1) _ rfl (H7.out.blk 1 _ _ rfl).1 rfl) rfl ?_
  exact DoV.of [_, _, _, _, _, _] H7.out
end Go.Proofs.YtfbkfdoekgnldaaGreatDoor
namespace Go.Proofs.YtfbkfdoekgnldaaGreatDoor
open Go.RowKit
open Lime
attribute [local go_sem] Oper.semAt_some setRow_alloc_at setRow_alloc_past setRow_drew g_same32 g_eq32 g_ne32
set_option maxRecDepth 100000 in
set_option maxHeartbeats 4000000 in
theorem do9_replay {w W : World} {rs : List (Res w.heap.size)} {g : Nat} {S : Dv} {uS uC : Value} (h : Has w W (DevR _ g S :: StR _ uS uC S :: rs)) (l : Lay) (x : StepD) (hx : StepOk w x) (hh : HalfLaid w) (hm : (vb x.what).tmod 10 = 5) :
    Calls Tryz.prog 9 #[pv g, .agg (stCells uS uC S), .agg #[.int .i64 l.first, .int .i64 l.size], .agg (stepL x).toArray] W (DoV w rs g (replayM S l).1) := by
  have ok := ok_has h (.head _)
  have hin := h.st (.tail _ (.head _))
  obtain ⟨⟨aS, akS, rfl, -⟩, ⟨aC, akC, rfl, -⟩, -, -⟩ := hin
  obtain ⟨hn0, hn1, hk0, hk1, hR⟩ := hx
  obtain ⟨what, n, keep, rv, run⟩ := x
  dsimp only at hm hR hn0 hn1 hk0 hk1
  obtain ⟨hL, hlen, hd, hroom⟩ := hR
  have hL' := hL
  obtain ⟨a, cap, rfl, -⟩ := hL'
  have hcap := hroom a cap rfl
  unfold stCells stepL
  have h1 := ((((h.addRd hL recL_len (by decide)).alloc (.cells #[.slice aS S.st.length akS, .slice aC S.ca.length akC, .int .i64 S.taken, .int .i64 S.power, .bool S.off] 34)).allocAt (.cells #[.int .i64 l.first, .int .i64 l.size] 23) (W.heap.size + 1) (by simp)).allocAt (.cells #[.int .u8 (vb what), .int .i64 n, .int .u64 keep, .slice a run.length cap] 42) (W.heap.size + 1 + 1) (by simp)).allocAt (.cells #[.slice none 0 0, .slice none 0 0, .int .i64 0, .int .i64 0, .bool false] 34) (W.heap.size + 1 + 1 + 1) (by simp)
  try dsimp only
  have hA := replay_at [_, _, _, _, _] h1 l hh
  obtain ⟨⟨D, m, c⟩, hX⟩ : ∃ X, X = replayM S l := ⟨_, rfl⟩
  rw [← hX] at hA ⊢
  dsimp only at hA ⊢
  have HA := Lib.hid hA
  have HX := Lib.hid hX
  have HOK := Lib.hid ok
  clear h h1 ok hL hd hroom hA hX hh
  go_enter Tryz.func9, Tryz.ntmps9
  go_wp2_with fail
  refine HA.out.mono ?_
  clear HA
  rintro e w3 ⟨rfl, h3⟩
  have hF := refreplay (h3.st (.tail _ (.tail _ (.tail _ (.tail _ (.tail _ (.tail _ (.head _)))))))) HOK.out l
  rw [← HX.out] at hF
  dsimp only at hF
  obtain ⟨s0, s1, s2, s3, s4, sf0, sf1, sf2, sf3, sf4, sz⟩ := h3.cells5 3 _ _ _ _ _ _ _ rfl
  have b0 := h3.cell 2 _ _ _ rfl 0 _ rfl
  have b1 := h3.cell 2 _ _ _ rfl 1 _ rfl
  have HF := Lib.hid hF
  have H3 := Lib.hid h3
  clear hF h3 HX
  go_wp2_with fail
  refine HF.out.mono ?_
  clear HF b0 b1 s0 s1 s2 s3 s4 sf0 sf1 sf2 sf3 sf4 sz
  rintro e w4 hr
  obtain ⟨bS, bkS, bC, bkC, rfl, h4, -⟩ := H3.out.stStep3 [_, _, _, _, _, _] Sub.rfl' hr
  obtain ⟨p0, p1, p2, p3, p4, pf0, pf1, pf2, pf3, pf4, pz⟩ := h4.cells5 0 _ _ _ _ _ _ _ rfl
  have H7 := Lib.hid ((Has.store5 [] h4 (.slice bS D.st.length bkS) (.slice bC D.ca.length bkC) (.int .i64 D.taken) (.int .i64 D.power) (.bool D.off)).allocAt (.cells #[.slice bS D.st.length bkS, .slice bC D.ca.length bkC, .int .i64 D.taken, .int .i64 D.power, .bool D.off] 34) w4.heap.size (by simp))
  clear hr h4 H3 HOK
  go_wp2_with fail
  refine bodyPost_ret (results_st2 rfl _ _ (W.heap.size + 1 + 1 + 1) _ rfl (H7.out.blk 1 _ _ rfl).1 rfl) rfl ?_
  exact DoV.of [_, _, _, _, _, _] H7.out
end Go.Proofs.YtfbkfdoekgnldaaGreatDoor
namespace Go.Proofs.YtfbkfdoekgnldaaGreatDoor
open Go.RowKit
open Lime
attribute [local go_sem] Oper.semAt_some setRow_alloc_at setRow_alloc_past setRow_drew g_same32 g_eq32 g_ne32
set_option maxRecDepth 100000 in
set_option maxHeartbeats 4000000 in
theorem do9_look {w W : World} {rs : List (Res w.heap.size)} {g : Nat} {S : Dv} {uS uC : Value} (h : Has w W (DevR _ g S :: StR _ uS uC S :: rs)) (l : Lay) (x : StepD) (hx : StepOk w x) (hh : HalfLaid w) (hm : (vb x.what).tmod 10 = 6) :
    Calls Tryz.prog 9 #[pv g, .agg (stCells uS uC S), .agg #[.int .i64 l.first, .int .i64 l.size], .agg (stepL x).toArray] W (DoV w rs g S) := by
  have ok := ok_has h (.head _)
  have hin := h.st (.tail _ (.head _))
  obtain ⟨⟨aS, akS, rfl, -⟩, ⟨aC, akC, rfl, -⟩, -, -⟩ := hin
  obtain ⟨hn0, hn1, hk0, hk1, hR⟩ := hx
  obtain ⟨what, n, keep, rv, run⟩ := x
  dsimp only at hm hR hn0 hn1 hk0 hk1
  obtain ⟨hL, hlen, hd, hroom⟩ := hR
  have hL' := hL
  obtain ⟨a, cap, rfl, -⟩ := hL'
  have hcap := hroom a cap rfl
  unfold stCells stepL
  have h1 := ((((h.addRd hL recL_len (by decide)).alloc (.cells #[.slice aS S.st.length akS, .slice aC S.ca.length akC, .int .i64 S.taken, .int .i64 S.power, .bool S.off] 34)).allocAt (.cells #[.int .i64 l.first, .int .i64 l.size] 23) (W.heap.size + 1) (by simp)).allocAt (.cells #[.int .u8 (vb what), .int .i64 n, .int .u64 keep, .slice a run.length cap] 42) (W.heap.size + 1 + 1) (by simp)).allocAt (.cells #[.slice none 0 0, .slice none 0 0, .int .i64 0, .int .i64 0, .bool false] 34) (W.heap.size + 1 + 1 + 1) (by simp)
  try dsimp only
  have hA := lookE_has h1 (.tail _ (.tail _ (.tail _ (.tail _ (.tail _ (.head _)))))) l hh
  have hsm := (look_small S l).2
  obtain ⟨⟨out, wh, c⟩, hX⟩ : ∃ X, X = lookM S l := ⟨_, rfl⟩
  rw [← hX] at hA hsm
  dsimp only at hA hsm
  obtain ⟨⟨q, c2⟩, hY⟩ : ∃ X, X = headM S l := ⟨_, rfl⟩
  have HA := Lib.hid hA
  have HX := Lib.hid hX
  have HY := Lib.hid hY
  have HOK := Lib.hid ok
  have HHL := Lib.hid hh
  clear h h1 ok hL hd hroom hA hX hY hh
  go_enter Tryz.func9, Tryz.ntmps9
  go_wp2_with fail
  refine HA.out.mono ?_
  clear HA
  rintro e w3 ⟨a1, cap1, rfl, h3⟩
  have h3 := h3.asRd
  have hF := reflook h3 (.tail _ (.tail _ (.tail _ (.tail _ (.tail _ (.tail _ (.tail _ (.head _)))))))) HOK.out.s2 l
  rw [← HX.out] at hF
  dsimp only at hF
  obtain ⟨s0, s1, s2, s3, s4, sf0, sf1, sf2, sf3, sf4, sz⟩ := h3.cells5 4 _ _ _ _ _ _ _ rfl
  have b0 := h3.cell 3 _ _ _ rfl 0 _ rfl
  have b1 := h3.cell 3 _ _ _ rfl 1 _ rfl
  have HF := Lib.hid hF
  clear hF h3 HX
  go_wp2_with fail
  refine HF.out.mono ?_
  clear HF b0 b1 s0 s1 s2 s3 s4 sf0 sf1 sf2 sf3 sf4 sz
  rintro e w4 ⟨a2, cap2, rfl, h4⟩
  have h4 := h4.asRd
  have hG := head_has h4 (.tail _ (.tail _ (.tail _ (.tail _ (.tail _ (.tail _ (.tail _ (.head _)))))))) l HHL.out
  rw [← HY.out] at hG
  dsimp only at hG
  have b0 := h4.cell 4 _ _ _ rfl 0 _ rfl
  have b1 := h4.cell 4 _ _ _ rfl 1 _ rfl
  have HG := Lib.hid hG
  clear hG h4
  go_wp2_with fail
  refine HG.out.mono ?_
  clear HG b0 b1
  rintro e w5 ⟨rfl, h5⟩
  have hG := refhead h5 (.tail _ (.tail _ (.tail _ (.tail _ (.tail _ (.tail _ (.tail _ (.tail _ (.head _))))))))) l
  rw [← HY.out] at hG
  dsimp only at hG
  obtain ⟨t0, t1, t2, t3, t4, tf0, tf1, tf2, tf3, tf4, tz⟩ := h5.cells5 5 _ _ _ _ _ _ _ rfl
  have b0 := h5.cell 4 _ _ _ rfl 0 _ rfl
  have b1 := h5.cell 4 _ _ _ rfl 1 _ rfl
  have HG := Lib.hid hG
  clear hG h5 HY
  go_wp2_with fail
  refine HG.out.mono ?_
  clear HG b0 b1 t0 t1 t2 t3 t4 tf0 tf1 tf2 tf3 tf4 tz
  rintro e w6 ⟨rfl, h6⟩
  have H6 := Lib.hid h6
  clear h6
  go_wp2_with fail
  have HSZ : Hid (∀ (w' : World) (z1 z2 z3 z4 z5 : Res w.heap.size) (rest : List (Res w.heap.size)), Has w w' (z1 :: z2 :: z3 :: z4 :: z5 :: Blk _ W.heap.size (.cells #[.slice aS S.st.length akS, .slice aC S.ca.length akC, .int .i64 S.taken, .int .i64 S.power, .bool S.off] 34) :: rest) → w'.rangeAt W.heap.size 0 (stL (.slice aS S.st.length akS) (.slice aC S.ca.length akC) S) ∧ True ∧ True) := fun w' z1 z2 z3 z4 z5 rest h => ⟨st_row (h.blk 5 _ _ rfl).1, trivial, trivial⟩
  refine wp_region_ordZ (fun w' => w'.rangeAt W.heap.size 0 (stL (.slice aS S.st.length akS) (.slice aC S.ca.length akC) S) ∧ True ∧ True) (OrdT.takes [0, 1, 2] (.one 3 (OrdT.takes [4, 5, 6, 7, 8, 9, 10, 11, 12, 13, 14, 15, 16, 17, 18, 19, 20, 21, 22, 23] (.one 24 (.take 25 .done))))) (by kernel_rfl) (by kernel_rfl) (HSZ.out _ _ _ _ _ _ _ H6.out.drew) (fun wz hz => ?_)
  have h6 := H6.out.drew
  rw [← hz] at h6
  have H7 := Lib.hid h6
  clear hz h6 H6
  unfold OrdT.takes
  refine t_load W.heap.size 0 (stL (.slice aS S.st.length akS) (.slice aC S.ca.length akC) S) _ _ _ rfl rfl rfl rfl rfl (fun w' hSw => hSw.1) Tryz.underlying34 rfl (stL_size _ _ _) ?_
  simp only [Act.put, List.setIfInBounds_toArray, List.set_cons_zero, List.set_cons_succ, stL_arr]
  --ordt mm
  iterate 2 (refine' t_move _ _ rfl rfl rfl rfl _ _; rotate_left; (go_simp; with_reducible rfl); simp only [Act.put, List.setIfInBounds_toArray, List.set_cons_zero, List.set_cons_succ])
  --end
  refine t_one rfl rfl (fun K hK => ?_)
  go_simp
  have hS := samerun_any (H7.out.rd (.tail _ (.head _))) (H7.out.rd (.head _)) (by omega)
  rw [decide_eq_true rfl] at hS
  refine hS.mono ?_
  clear hS
  rintro e w8 ⟨rfl, hB8⟩
  have h8 := H7.out.below hB8
  dsimp only
  refine hK _ _ (HSZ.out _ _ _ _ _ _ _ h8) ?_
  clear hK
  unfold OrdT.takes
  --ordt mmmyymmmyymmmyymmmyy
  iterate 3 (refine' t_move _ _ rfl rfl rfl rfl _ _; rotate_left; (go_simp; with_reducible rfl); simp only [Act.put, List.setIfInBounds_toArray, List.set_cons_zero, List.set_cons_succ])
  iterate 2 (refine' t_yield _ rfl rfl rfl _ _; rotate_left; (intro w' hSw; obtain ⟨s0, s1, s2⟩ := hSw; go_simp; with_reducible rfl); simp only [Act.put, List.setIfInBounds_toArray, List.set_cons_zero, List.set_cons_succ])
  iterate 3 (refine' t_move _ _ rfl rfl rfl rfl _ _; rotate_left; (go_simp; with_reducible rfl); simp only [Act.put, List.setIfInBounds_toArray, List.set_cons_zero, List.set_cons_succ])
  iterate 2 (refine' t_yield _ rfl rfl rfl _ _; rotate_left; (intro w' hSw; obtain ⟨s0, s1, s2⟩ := hSw; go_simp; with_reducible rfl); simp only [Act.put, List.setIfInBounds_toArray, List.set_cons_zero, List.set_cons_succ])
  iterate 3 (refine' t_move _ _ rfl rfl rfl rfl _ _; rotate_left; (go_simp; with_reducible rfl); simp only [Act.put, List.setIfInBounds_toArray, List.set_cons_zero, List.set_cons_succ])
  iterate 2 (refine' t_yield _ rfl rfl rfl _ _; rotate_left; (intro w' hSw; obtain ⟨s0, s1, s2⟩ := hSw; go_simp; with_reducible rfl); simp only [Act.put, List.setIfInBounds_toArray, List.set_cons_zero, List.set_cons_succ])
  iterate 3 (refine' t_move _ _ rfl rfl rfl rfl _ _; rotate_left; (go_simp; with_reducible rfl); simp only [Act.put, List.setIfInBounds_toArray, List.set_cons_zero, List.set_cons_succ])
  iterate 2 (refine' t_yield _ rfl rfl rfl _ _; rotate_left; (intro w' hSw; obtain ⟨s0, s1, s2⟩ := hSw; go_simp; with_reducible rfl); simp only [Act.put, List.setIfInBounds_toArray, List.set_cons_zero, List.set_cons_succ])
  --end
  refine t_one rfl rfl (fun K hK => ?_)
  obtain ⟨p0, p1, p2, p3, p4, pf0, pf1, pf2, pf3, pf4, pz⟩ := h8.cells5 2 _ _ _ _ _ _ _ rfl
  have H9 := Lib.hid (Has.store5 [_, _] h8 (.slice aS S.st.length akS) (.slice aC S.ca.length akC) (.int .i64 S.taken) (.int .i64 S.power) (.bool S.off))
  clear h8 H7
  go_simp
  refine hK _ _ (HSZ.out _ _ _ _ _ _ _ H9.out) ?_
  clear hK
  --ordt y
  (refine' t_yield _ rfl rfl rfl _ _; rotate_left; (intro w' hSw; obtain ⟨s0, s1, s2⟩ := hSw; go_simp; with_reducible rfl); simp only [Act.put, List.setIfInBounds_toArray, List.set_cons_zero, List.set_cons_succ])
  --end
  refine t_done ?_
  go_wp2_with fail
  refine bodyPost_ret (results_st2 rfl _ _ (W.heap.size + 1 + 1 + 1) _ rfl (H9.out.blk 2 _ _ rfl).1 rfl) rfl ?_
  exact DoV.of [_, _, _, _, _, _, _] H9.out
end Go.Proofs.YtfbkfdoekgnldaaGreatDoor
namespace Go.Proofs.YtfbkfdoekgnldaaGreatDoor
open Go.RowKit
open Lime
attribute [local go_sem] Oper.semAt_some setRow_alloc_at setRow_alloc_past setRow_drew g_same32 g_eq32 g_ne32
/-- what a step leaves -/
def StepD.next (x : StepD) (l : Lay) (S : Dv) : Dv :=
  if (vb x.what).tmod 10 = 0 then (commitM S l x.run).1 else if (vb x.what).tmod 10 = 1 then (commitM S l x.run).1 else if (vb x.what).tmod 10 = 2 then (logM S l x.run).1
  else if (vb x.what).tmod 10 = 3 then (applyM S l).1 else if (vb x.what).tmod 10 = 4 then (clearM S l).1 else if (vb x.what).tmod 10 = 5 then (replayM S l).1
  else if (vb x.what).tmod 10 = 6 then S else if (vb x.what).tmod 10 = 7 then (formatM S l).1 else if (vb x.what).tmod 10 = 8 then S.limit (max x.n (-1)) else S.crash (keptL x.keep S.ca.length)
theorem do9_any {w W : World} {rs : List (Res w.heap.size)} {g : Nat} {S : Dv} {uS uC : Value} (h : Has w W (DevR _ g S :: StR _ uS uC S :: rs)) (l : Lay) (x : StepD) (hx : StepOk w x) (hh : HalfLaid w) :
    Calls Tryz.prog 9 #[pv g, .agg (stCells uS uC S), .agg #[.int .i64 l.first, .int .i64 l.size], .agg (stepL x).toArray] W (DoV w rs g (x.next l S)) := by
  unfold StepD.next
  by_cases h0 : (vb x.what).tmod 10 = 0
  · rw [if_pos h0]; exact do9_commit0 h l x hx hh h0
  rw [if_neg h0]
  by_cases h1 : (vb x.what).tmod 10 = 1
  · rw [if_pos h1]; exact do9_commit1 h l x hx hh h1
  rw [if_neg h1]
  by_cases h2 : (vb x.what).tmod 10 = 2
  · rw [if_pos h2]; exact do9_log h l x hx hh h2
  rw [if_neg h2]
  by_cases h3 : (vb x.what).tmod 10 = 3
  · rw [if_pos h3]; exact do9_apply h l x hx hh h3
  rw [if_neg h3]
  by_cases h4 : (vb x.what).tmod 10 = 4
  · rw [if_pos h4]; exact do9_clear h l x hx hh h4
  rw [if_neg h4]
  by_cases h5 : (vb x.what).tmod 10 = 5
  · rw [if_pos h5]; exact do9_replay h l x hx hh h5
  rw [if_neg h5]
  by_cases h6 : (vb x.what).tmod 10 = 6
  · rw [if_pos h6]; exact do9_look h l x hx hh h6
  rw [if_neg h6]
  by_cases h7 : (vb x.what).tmod 10 = 7
  · rw [if_pos h7]; exact do9_format h l x hx hh h7
  rw [if_neg h7]
  by_cases h8 : (vb x.what).tmod 10 = 8
  · rw [if_pos h8]; exact do9_limit h l x hx h8
  rw [if_neg h8]
  have hb2 := Int.tmod_lt_of_pos (vb x.what) (show (0 : Int) < 10 by decide)
  have hb3 := Int.tmod_nonneg 10 (vb_nonneg x.what)
  exact do9_crash h l x hx (by omega)
end Go.Proofs.YtfbkfdoekgnldaaGreatDoor
namespace Go.Proofs.YtfbkfdoekgnldaaGreatDoor
open Go.RowKit
open Lime
attribute [local go_sem] Oper.semAt_some setRow_alloc_at setRow_alloc_past setRow_drew
theorem step_sz (w : World) : (sizeOf 42).run Tryz.prog w = .ok 4 w := by kernel_rfl
theorem run_index_step (sb o n cap i : Nat) (h : i < n) (w : World) : (Instr.indexAt 24 (.slice (some ⟨sb, o, none⟩) n cap) (.int .i64 (i : Int))).run Tryz.prog w = .ok (.pointer (some ⟨sb, o + i * 4, none⟩)) w := by
  have h1 : (0 : Int) ≤ i ∧ (i : Int) < n := by omega
  simp only [Instr.indexAt, asIntOf, Sem.run_bind, Sem.run_pure, Result.andThen_ok, run_underlying Tryz.underlying24, if_pos h1, step_sz, Addr.add_lit, Int.toNat_natCast]
theorem stepL_size (x : StepD) : (Tryz.prog.info? 42).map (·.size) = some (stepL x).length := by rw [stepL_len]; kernel_rfl
def LongV (w : World) (e : Ending) (w' : World) : Prop := ∃ b : Bool, e = .returned (.bool b) ∧ Below w.heap.size w w'
set_option maxRecDepth 100000 in
set_option maxHeartbeats 4000000 in
theorem long_any {v : Value} {l : List StepD} {w : World} (h : StepsIn w v l) :
    Calls Tryz.prog 5 #[v] w (LongV w) := by
  have HS := Lib.hid h
  have hlen := h.len
  obtain ⟨a, cap, rfl, _⟩ := h.hL
  clear h
  go_enter Tryz.func5, Tryz.ntmps5
  go_wp2_with fail
  go_loopw [3] (fun i wr => ∃ k : Nat, i = .int .i64 (k : Int) ∧ k ≤ l.length ∧ Below w.heap.size w wr) (fun i _ => l.length - (intOf i).toNat)
  case atStart => exact ⟨0, rfl, Nat.zero_le _, Below.refl _ _⟩
  case round =>
    obtain ⟨k, rfl, hk, hB⟩ := hrel
    by_cases hlt : k < l.length
    · obtain ⟨x, hx⟩ : ∃ x, l[k]? = some x := ⟨_, List.getElem?_eq_getElem hlt⟩
      obtain ⟨ba, oa, cap2, hv, _⟩ := HS.out.hL.elem stepL_len k x hx
      injection hv with hv _ hcap
      subst hcap
      subst hv
      have hxr := (HS.out.each x (List.mem_of_getElem? hx)).hr
      obtain ⟨ar, cr, hrv, _⟩ := hxr.hL
      have HXR := Lib.hid hxr
      have HC : Hid (∀ W', Below w.heap.size w W' → W'.cell? ⟨ba, oa + k * 4 + 3, none⟩ = some (.slice ar x.run.length cr)) := fun W' hB => by
        obtain ⟨b', o', cap', hvb, r⟩ := (HS.out.hL.below hB).elem stepL_len k x hx
        injection hvb with hvb _ _
        injection hvb with hvb
        injection hvb with e1 e2
        subst e1 e2
        rw [← hrv]
        exact r 3 _ rfl
      have hix := fun w => run_index_step ba oa l.length cap k hlt w
      have hki : (k : Int) < (l.length : Int) := by omega
      have c3 := HC.out _ hB
      have HB := Lib.hid hB
      clear hx hB hxr
      by_cases h100 : (100 : Int) < (x.run.length : Int)
      · go_wp2_with fail
        go_ret
        exact ⟨true, rfl, HB.out⟩
      · go_wp2_with fail
        go_loopw [4] (fun j wr2 => ∃ m : Nat, j = .int .i64 (m : Int) ∧ m ≤ x.run.length ∧ Below w.heap.size w wr2) (fun j _ => x.run.length - (intOf j).toNat)
        case atStart => exact ⟨0, rfl, Nat.zero_le _, HB.out⟩
        case round =>
          clear c3
          obtain ⟨m, rfl, hm, hB2⟩ := hrel
          have c3 := HC.out _ hB2
          by_cases hmt : m < x.run.length
          · obtain ⟨r, hr⟩ : ∃ r, x.run[m]? = some r := ⟨_, List.getElem?_eq_getElem hmt⟩
            have hRL := (HXR.out.hL).below hB2
            rw [hrv] at hRL
            obtain ⟨br, or_, cr2, e2, q2⟩ := hRL.elem recL_len m r hr
            injection e2 with e2 _ e2c
            subst e2c
            subst e2
            have q3 := q2 2 _ rfl
            have hi2 := fun w => run_index_rec br or_ x.run.length cr m hmt w
            have hml : (m : Int) < (x.run.length : Int) := by omega
            have HB2 := Lib.hid hB2
            clear hr hB2 hRL q2
            by_cases h300 : (300 : Int) < (r.data.size : Int)
            · go_wp2_with fail
              go_ret
              exact ⟨true, rfl, HB2.out⟩
            · go_wp2_with fail
              go_roundw
              case rel => exact ⟨m + 1, by go_num, by omega, HB2.out⟩
              case measure => simp [intOf]; omega
          · obtain rfl : m = x.run.length := by omega
            have HB2 := Lib.hid hB2
            clear hB2
            go_wp2_with fail
            go_roundw
            case rel => exact ⟨k + 1, by go_num, by omega, HB2.out⟩
            case measure => simp [intOf]; omega
    · obtain rfl : k = l.length := by omega
      have HB := Lib.hid hB
      clear hB
      go_wp2_with fail
      go_ret
      exact ⟨_, rfl, HB.out⟩
end Go.Proofs.YtfbkfdoekgnldaaGreatDoor
namespace Go.Proofs.YtfbkfdoekgnldaaGreatDoor
open Go.RowKit
open Lime
theorem RunIn.below {w w' : World} {v : Value} {l : List Rec} (h : RunIn w v l) (hB : Below w.heap.size w w') : RunIn w' v l := ⟨h.hL.below hB, h.len, h.dlen, h.room⟩
theorem StepOk.below {w w' : World} {x : StepD} (h : StepOk w x) (hB : Below w.heap.size w w') : StepOk w' x := ⟨h.n0, h.n1, h.k0, h.k1, h.hr.below hB⟩
theorem StepsIn.below {w w' : World} {v : Value} {l : List StepD} (h : StepsIn w v l) (hB : Below w.heap.size w w') : StepsIn w' v l := ⟨h.hL.below hB, h.len, fun x hx => (h.each x hx).below hB⟩
def runs9 (l : Lay) (xs : List StepD) (S : Dv) : Dv := xs.foldl (fun S x => x.next l S) S
theorem runs9_take (l : Lay) (xs : List StepD) (k : Nat) (x : StepD) (h : xs[k]? = some x) (S : Dv) : runs9 l (xs.take (k + 1)) S = x.next l (runs9 l (xs.take k) S) := by
  unfold runs9; rw [List.take_add_one, h, Option.toList_some, List.foldl_append]; rfl
theorem stepL_arr (x : StepD) : (stepL x).toArray = #[.int .u8 (vb x.what), .int .i64 x.n, .int .u64 x.keep, x.rv] := rfl
theorem do9_mid {w W : World} (l1 : List (Res w.heap.size)) {rs : List (Res w.heap.size)} {g : Nat} {S : Dv} {uS uC : Value} (h : Has w W (l1 ++ DevR _ g S :: StR _ uS uC S :: rs)) (l : Lay) (x : StepD) (hx : StepOk w x) (hh : HalfLaid w) :
    Calls Tryz.prog 9 #[pv g, .agg #[uS, uC, .int .i64 S.taken, .int .i64 S.power, .bool S.off], .agg #[.int .i64 l.first, .int .i64 l.size], .agg #[.int .u8 (vb x.what), .int .i64 x.n, .int .u64 x.keep, x.rv]] W fun e w' => ∃ bS kS bC kC, e = .returned (.tuple #[.agg #[.slice bS (x.next l S).st.length kS, .slice bC (x.next l S).ca.length kC, .int .i64 (x.next l S).taken, .int .i64 (x.next l S).power, .bool (x.next l S).off], .bool true]) ∧
      Has w w' (l1 ++ DevR _ g (x.next l S) :: StR _ (.slice bS (x.next l S).st.length kS) (.slice bC (x.next l S).ca.length kC) (x.next l S) :: rs) := by
  have hp : ∀ (S' : Dv) (p q : Value), (l1 ++ DevR _ g S' :: StR _ p q S' :: rs).Perm (DevR _ g S' :: StR _ p q S' :: (l1 ++ rs)) := fun S' p q =>
    (List.perm_middle (l₁ := l1) (l₂ := StR _ p q S' :: rs)).trans (List.Perm.cons _ (List.perm_middle (l₁ := l1) (l₂ := rs)))
  refine (do9_any (h.perm (hp S uS uC)) l x hx hh).mono ?_
  rintro e w' ⟨vS, vC, rfl, h2⟩
  obtain ⟨⟨bS, kS, rfl, _⟩, ⟨bC, kC, rfl, _⟩, _, _⟩ := h2.st (.tail _ (.head _))
  exact ⟨bS, kS, bC, kC, rfl, h2.perm (hp _ _ _).symm⟩
end Go.Proofs.YtfbkfdoekgnldaaGreatDoor
