/- The reference's device: its state in memory; Copy. The reference's device: stable makes all writes of the cache stable. The reference's device: Reads, Read, Limit, Flush. The reference's device: Read, Limit, Flush. -/
import Derived.Test.YtfbkfdoekgnldaaGreatDoorCopyL
import Derived.Test.YtfbkfdoekgnldaaGreatDoorDevSave
import Derived.Test.YtfbkfdoekgnldaaGreatDoorOrdT
import Derived.Test.YtfbkfdoekgnldaaGreatDoorFilled
import Derived.Test.YtfbkfdoekgnldaaGreatDoorDvMath
namespace Go.Proofs.YtfbkfdoekgnldaaGreatDoor
open Go.RowKit
attribute [local go_sem] Oper.semAt_some
/-- a state whose slices can be read -/
structure StIn (W : World) (S : Dv) (uS uC : Value) : Prop where
  hS : RdL W 128 secL uS S.st
  hC : RdL W 129 wrL uC S.ca
  l1 : S.st.length ≤ 100000
  l2 : S.ca.length ≤ 100000
theorem StIn.below {W W' : World} {S : Dv} {uS uC : Value} (h : StIn W S uS uC) (hB : Below W.heap.size W W') : StIn W' S uS uC := ⟨h.hS.below hB, h.hC.below hB, h.l1, h.l2⟩
def zst5 : Array Value := #[.slice none 0 0, .slice none 0 0, .int .i64 0, .int .i64 0, .bool false]
theorem NewSt.st {W W' : World} {S : Dv} {e : Ending} (h : NewSt W S e W') (l1 : S.st.length ≤ 100000) (l2 : S.ca.length ≤ 100000) : ∃ uS uC, e = .returned (.agg (stCells uS uC S)) ∧ StIn W' S uS uC ∧ (∀ k ∈ blks uS, W.heap.size ≤ k) ∧ (∀ k ∈ blks uC, W.heap.size ≤ k) ∧ Below W.heap.size W W' := by
  obtain ⟨uS, uC, rfl, h1, h2, h3, h4, h5⟩ := h
  exact ⟨uS, uC, rfl, ⟨h1.rd, h2.rd, l1, l2⟩, h3, h4, h5⟩
theorem Has.more2 {w W W' : World} {rs : List (Res w.heap.size)} (h : Has w W rs) (hb : Below W.heap.size W W') (r1 r2 : Res w.heap.size) (F1 F2 : List Nat) (hP1 : r1.P W' F1) (hP2 : r2.P W' F2) (hn1 : ∀ k ∈ F1, W.heap.size ≤ k) (hn2 : ∀ k ∈ F2, W.heap.size ≤ k) (hd : ∀ k ∈ F1, k ∉ F2) : Has w W' (r1 :: r2 :: rs) := by
  obtain ⟨hB, F0, hF⟩ := h
  refine ⟨hB.trans (hb.mono hB.size), _, .cons hP1 (fun k hk => Nat.le_trans hB.size (hn1 k hk)) (fun k hk hm => ?_) (.cons hP2 (fun k hk => Nat.le_trans hB.size (hn2 k hk)) (fun k hk hm => ?_) (hF.stay (fun k hk => hb.block k (Nat.lt_of_lt_of_le hk hB.size)) (fun k hk => hb.block k (hF.lt k hk))))⟩
  · rcases List.mem_append.1 hm with hm | hm
    · exact hd k hk hm
    · have := hF.lt k hm; have := hn1 k hk; omega
  · have := hF.lt k hm; have := hn2 k hk; omega
/-- a new state among what a walk owns -/
theorem NewSt.has {w W W' : World} {rs : List (Res w.heap.size)} {S : Dv} {e : Ending} (h : Has w W rs) (hn : NewSt W S e W') : ∃ aS capS aC capC, e = .returned (.agg (stCells (.slice aS S.st.length capS) (.slice aC S.ca.length capC) S)) ∧
    Has w W' (OwnR _ 53 128 secL (.slice aS S.st.length capS) S.st :: OwnR _ 87 129 wrL (.slice aC S.ca.length capC) S.ca :: rs) := by
  obtain ⟨uS, uC, rfl, h1, h2, h3, h4, h5⟩ := hn
  have t1 := h1.typed
  have t2 := h2.typed
  obtain ⟨aS, capS, rfl, _⟩ := h1.shape
  obtain ⟨aC, capC, rfl, _⟩ := h2.shape
  refine ⟨aS, capS, aC, capC, rfl, h.more2 h5 _ _ _ _ ⟨h1, rfl⟩ ⟨h2, rfl⟩ h3 h4 (fun k hk hk' => ?_)⟩
  obtain ⟨cur, hc⟩ := t1 _ hk
  obtain ⟨cur', hc'⟩ := t2 _ hk'
  rw [hc] at hc'; injection hc' with hc'; injection hc' with _ hc' _; exact absurd hc' (by decide)
/-- a state is stored whole -/
theorem Has.store5 {w W : World} (l1 : List (Res w.heap.size)) {l2 : List (Res w.heap.size)} {b : Nat} {x0 x1 x2 x3 x4 : Value} {t : TypeId} (h : Has w W (l1 ++ Blk _ b (.cells #[x0, x1, x2, x3, x4] t (0, 0)) :: l2)) (v0 v1 v2 v3 v4 : Value) :
    Has w (((((W.setCell ⟨b, 0, none⟩ v0).setCell ⟨b, 1, none⟩ v1).setCell ⟨b, 2, none⟩ v2).setCell ⟨b, 3, none⟩ v3).setCell ⟨b, 4, none⟩ v4) (l1 ++ Blk _ b (.cells #[v0, v1, v2, v3, v4] t (0, 0)) :: l2) :=
  ((((h.setCell l1 0 v0).setCell l1 1 v1).setCell l1 2 v2).setCell l1 3 v3).setCell l1 4 v4
theorem Has.newSt {W W' : World} {rs : List (Res W.heap.size)} {S : Dv} {uS uC : Value} {e : Ending} (h : Has W W' rs) (h1 : OwnR _ 53 128 secL uS S.st ∈ rs) (h2 : OwnR _ 87 129 wrL uC S.ca ∈ rs) (he : e = .returned (.agg (stCells uS uC S))) : NewSt W S e W' := by
  obtain ⟨F, ⟨hO, rfl⟩, hF⟩ := h.mem h1
  obtain ⟨F2, ⟨hO2, rfl⟩, hF2⟩ := h.mem h2
  exact ⟨uS, uC, he, hO, hO2, hF, hF2, h.hB⟩
set_option maxRecDepth 100000 in
set_option maxHeartbeats 2000000 in
theorem ref_copy {W : World} {S : Dv} {uS uC : Value} (h : StIn W S uS uC) : Calls Tryz.prog 79 #[.agg (stCells uS uC S)] W (NewSt W S) := by
  obtain ⟨hS, hC, l1, l2⟩ := h
  have hS' := hS
  have hC' := hC
  obtain ⟨aS, capS, rfl, _⟩ := hS'
  obtain ⟨aC, capC, rfl, _⟩ := hC'
  have h2 := (((Has.start W).alloc (.cells (stCells (.slice aS S.st.length capS) (.slice aC S.ca.length capC) S) 34)).allocAt (.cells zst5 34) (W.heap.size + 1) (by simp))
  obtain ⟨v4, W4, hrun4, hO4, hn4, hB4⟩ := run_copy_app secL_len secL_one 31 53 _ 128 Tryz.underlying31 sector_info3 (sec_size _) (by decide) (by decide) ((W.alloc (.cells (stCells (.slice aS S.st.length capS) (.slice aC S.ca.length capC) S) 34)).alloc (.cells zst5 34)) aS S.st capS 31 (hS.below h2.hB) (by omega)
  obtain ⟨a4, cap4, rfl, _, _⟩ := hO4.shape
  have h4 := h2.more hB4 (OwnR _ 53 128 secL (.slice a4 S.st.length cap4) S.st) _ ⟨hO4, rfl⟩ hn4
  have c1 := h4.cell 2 _ _ _ rfl 1 (.slice aC S.ca.length capC) rfl
  have c0 := h4.cell 2 _ _ _ rfl 0 (.slice aS S.st.length capS) rfl
  have f0 := h4.frozen 2 _ _ _ rfl 0
  have h5 := h4.setCell [_, _] 0 (.slice a4 S.st.length cap4)
  obtain ⟨v6, W6, hrun6, hO6, hn6, hB6⟩ := run_copy_app wrL_len wrL_one 32 87 _ 136 Tryz.underlying32 wr_info (wr_size _) (by decide) (by decide) (W4.setCell ⟨W.heap.size, 0, none⟩ (.slice a4 S.st.length cap4)) aC S.ca capC 32 (hC.below h5.hB) (by omega)
  obtain ⟨a6, cap6, rfl, _, _⟩ := hO6.shape
  have h6 := h5.more hB6 (OwnR _ 87 129 wrL (.slice a6 S.ca.length cap6) S.ca) _ ⟨hO6, rfl⟩ hn6
  have d1 := h6.cell 3 _ _ _ rfl 1 (.slice aC S.ca.length capC) rfl
  have g1 := h6.frozen 3 _ _ _ rfl 1
  have h7 := h6.setCell [_, _, _] 1 (.slice a6 S.ca.length cap6)
  have hbs4 := run_buildSlice0 31 53 Tryz.underlying31 (fun w => ⟨_, sec_sz w⟩)
  have hbs6 := run_buildSlice0 32 87 Tryz.underlying32 (fun w => ⟨_, wr_sz w⟩)
  have H6 := Lib.hid h6
  have H7 := Lib.hid h7
  have x1 := (h5.alloc (.cells #[] 87)).cell 3 _ _ _ rfl 1 (.slice aC S.ca.length capC) rfl
  have y0 := h6.cell 3 _ _ _ rfl 0 (.slice a4 S.st.length cap4) rfl
  have y2 := h6.cell 3 _ _ _ rfl 2 (.int .i64 S.taken) rfl
  have y3 := h6.cell 3 _ _ _ rfl 3 (.int .i64 S.power) rfl
  have y4 := h6.cell 3 _ _ _ rfl 4 (.bool S.off) rfl
  have z0 := h6.cell 2 _ _ _ rfl 0 (.slice none 0 0) rfl
  have z1 := h6.cell 2 _ _ _ rfl 1 (.slice none 0 0) rfl
  have z2 := h6.cell 2 _ _ _ rfl 2 (.int .i64 0) rfl
  have z3 := h6.cell 2 _ _ _ rfl 3 (.int .i64 0) rfl
  have z4 := h6.cell 2 _ _ _ rfl 4 (.bool false) rfl
  have q0 := h6.frozen 2 _ _ _ rfl 0
  have q1 := h6.frozen 2 _ _ _ rfl 1
  have q2 := h6.frozen 2 _ _ _ rfl 2
  have q3 := h6.frozen 2 _ _ _ rfl 3
  have q4 := h6.frozen 2 _ _ _ rfl 4
  have hz4 : W.heap.size + 1 < W4.heap.size := by have := hB4.size; simp at this; omega
  have hz6 : W.heap.size + 1 < W6.heap.size := by have := hB6.size; simp at this; omega
  clear h2 h4 h5 h6 h7 hS hC hn4 hn6 hB4 hB6 hO4 hO6
  have e4 : ((W.alloc (.cells (stCells (.slice aS S.st.length capS) (.slice aC S.ca.length capC) S) 34)).alloc (.cells zst5 34)).heap.size = W.heap.size + 1 + 1 := by simp
  have e6 : (W4.setCell ⟨W.heap.size, 0, none⟩ (.slice a4 S.st.length cap4)).heap.size = W4.heap.size := by simp
  rw [e4] at hrun4
  rw [e6] at hrun6
  simp only [stCells, zst5] at hrun4
  clear e4 e6
  unfold stCells
  go_enter Tryz.func79, Tryz.ntmps79
  go_wp2_with (first | (at_builtin; (with_reducible refine wpList_append_eq rfl _ _ _ rfl _ _ _ _ ?_ ?_ hrun4 ?_); rfl; rfl) | (at_builtin; (with_reducible refine wpList_append_eq rfl _ _ _ rfl _ _ _ _ ?_ ?_ hrun6 ?_); rfl; rfl))
  have h8 := H7.out.store5 [_, _] (.slice a4 S.st.length cap4) (.slice a6 S.ca.length cap6) (.int .i64 S.taken) (.int .i64 S.power) (.bool S.off)
  refine bodyPost_ret (results_st rfl _ _ (W.heap.size + 1) _ rfl (h8.blk 2 _ _ rfl).1 rfl) rfl ?_
  exact h8.newSt (.tail _ (.head _)) (.head _) rfl
end Go.Proofs.YtfbkfdoekgnldaaGreatDoor
namespace Go.Proofs.YtfbkfdoekgnldaaGreatDoor
open Go.RowKit
attribute [local go_sem] Oper.semAt_some
theorem Has.putL {w W : World} {α : Type} {c : α → List Value} {m : Nat} {e : TypeId} {v : Value} {l : List α} (l1 : List (Res w.heap.size)) {l2 : List (Res w.heap.size)} (h : Has w W (l1 ++ OwnR _ e m c v l :: l2)) (hm : ∀ x, (c x).length = m) (i : Nat) (x : α) (hi : i < l.length) :
    ∃ g cap, v = .slice (some ⟨g, 0, none⟩) l.length cap ∧ W.there g (i * m) m ∧ Has w (W.setCells g (i * m) (c x)) (l1 ++ OwnR _ e m c v (l.set i x) :: l2) := by
  have h0 := h.perm List.perm_middle
  obtain ⟨F, ⟨hO, rfl⟩, hF, _, hT⟩ := h0.focus
  obtain ⟨g, cap, rfl, hb, h5⟩ := hO.put hm i x hi
  obtain ⟨g', cap', hv, _, ht⟩ := hO.there i hi
  injection hv with hv _ _
  injection hv with hv
  injection hv with hv
  subst hv
  exact ⟨g, cap, rfl, ht, (hT _ (OwnR _ e m c _ (l.set i x)) _ (Only.setCells g (.inl (by rw [hb]; simp)) _ _ (Only.refl _ _)) ⟨h5, rfl⟩ (fun k hk => .inl hk)).perm List.perm_middle.symm⟩
set_option maxRecDepth 100000 in
set_option maxHeartbeats 2000000 in
theorem ref_stable {W : World} {S : Dv} {uS uC : Value} (h : StIn W S uS uC) (hok : ∀ x ∈ S.ca, 0 ≤ x.1 ∧ x.1 < S.st.length) : Calls Tryz.prog 98 #[.agg (stCells uS uC S)] W (NewSt W S.stable) := by
  have l1 := h.l1
  have l2 := h.l2
  have h2 := (((Has.start W).alloc (.cells (stCells uS uC S) 34)).allocAt (.cells zst5 34) (W.heap.size + 1) (by simp))
  have HCP := Lib.hid (ref_copy (h.below h2.hB))
  obtain ⟨⟨aS, capS, rfl, _⟩, ⟨aC, capC, rfl, _⟩, _, _⟩ := h
  have H2 := Lib.hid h2
  unfold stCells zst5 at HCP
  unfold stCells
  clear h2
  go_enter Tryz.func98, Tryz.ntmps98
  go_wp2_with fail
  refine HCP.out.mono ?_
  rintro e w3 hn
  obtain ⟨bS, cpS, bC, cpC, rfl, h3⟩ := hn.has H2.out
  clear hn HCP H2
  have c0 := h3.cell 3 _ _ _ rfl 0 _ rfl
  have c1 := h3.cell 3 _ _ _ rfl 1 _ rfl
  have c2 := h3.cell 3 _ _ _ rfl 2 _ rfl
  have c3 := h3.cell 3 _ _ _ rfl 3 _ rfl
  have c4 := h3.cell 3 _ _ _ rfl 4 _ rfl
  have f0 := h3.frozen 3 _ _ _ rfl 0
  have f1 := h3.frozen 3 _ _ _ rfl 1
  have f2 := h3.frozen 3 _ _ _ rfl 2
  have f3 := h3.frozen 3 _ _ _ rfl 3
  have f4 := h3.frozen 3 _ _ _ rfl 4
  have h4 := h3.store5 [_, _, _] (.slice bS S.st.length cpS) (.slice bC S.ca.length cpC) (.int .i64 S.taken) (.int .i64 S.power) (.bool S.off)
  have H4 := Lib.hid h4
  clear h3 h4
  unfold stCells
  go_wp2_with fail
  go_loopw [3] (fun i wr => ∃ k : Nat, k ≤ S.ca.length ∧ i = .int .i64 (k : Int) ∧ Has W wr [OwnR _ 53 128 secL (.slice bS S.st.length cpS) (flushL S.st (S.ca.take k)), OwnR _ 87 129 wrL (.slice bC S.ca.length cpC) S.ca, Blk _ (W.heap.size + 1) (.cells zst5 34 (0, 0)), Blk _ W.heap.size (.cells #[.slice bS S.st.length cpS, .slice bC S.ca.length cpC, .int .i64 S.taken, .int .i64 S.power, .bool S.off] 34 (0, 0))]) (fun i _ => S.ca.length - (intOf i).toNat)
  case atStart => exact ⟨0, Nat.zero_le _, rfl, H4.out⟩
  case round =>
    obtain ⟨k, hk, rfl, hH⟩ := hrel
    clear c0 c1 c2 c3 c4 f0 f1 f2 f3 f4 H4
    have c0 := hH.cell 3 _ _ _ rfl 0 _ rfl
    have c1 := hH.cell 3 _ _ _ rfl 1 _ rfl
    by_cases hlt : k < S.ca.length
    · obtain ⟨x, hx⟩ : ∃ x, S.ca[k]? = some x := ⟨_, List.getElem?_eq_getElem hlt⟩
      obtain ⟨p, X⟩ := x
      have hp := hok (p, X) (List.mem_of_getElem? hx)
      obtain ⟨m, rfl⟩ : ∃ m : Nat, p = m := ⟨p.toNat, by have := hp.1; simp at this; omega⟩
      have hm : m < S.st.length := by have := hp.2; simp at this; omega
      have hO := hH.ownRd (.tail _ (.head _))
      obtain ⟨gC, cC, hvC, _, rC⟩ := hO.range wrL_len k _ hx
      injection hvC with hvC _ hcap
      subst hcap
      subst hvC
      have hlen : (flushL S.st (S.ca.take k)).length = S.st.length := flushL_length _ _
      obtain ⟨gS, cS, hvS, hth, h5⟩ := hH.drew.putL [] secL_len m X (by rw [hlen]; exact hm)
      rw [hlen] at hvS
      injection hvS with hvS _ hcap
      subst hcap
      subst hvS
      have cat : wr.cell? ⟨gC, k * 129, none⟩ = some (.int .i64 (m : Int)) := by have := rC 0 (.int .i64 (m : Int)) rfl; simpa using this
      have rX : wr.rangeAt gC (k * 129 + 1) (secL X) := fun j v hv => by
        have := rC (j + 1) v (by simpa [wrL] using hv)
        rwa [show k * 129 + (j + 1) = k * 129 + 1 + j by omega] at this
      have hixC := fun w => run_index_wr gC S.ca.length cpC k hlt w
      have hixS := fun w => run_index_sec gS S.st.length cpS m hm w
      have hFL : Hid (flushL S.st (S.ca.take (k + 1)) = (flushL S.st (S.ca.take k)).set m X) := by
        show _ = _
        rw [List.take_add_one, hx, Option.toList_some, flushL_snoc]; rfl
      have hu := Tryz.underlying53
      have hki : (k : Int) < (S.ca.length : Int) := by omega
      have H5 := Lib.hid h5
      have c0' := h5.cell 3 _ _ _ rfl 0 _ rfl
      have c1' := h5.cell 3 _ _ _ rfl 1 _ rfl
      have HX := Lib.hid (And.intro cat rX)
      obtain ⟨gC', cC', hvC', _, rC'⟩ := (h5.ownRd (.tail _ (.head _))).range wrL_len k _ hx
      injection hvC' with hvC' _ hcap'
      subst hcap'
      injection hvC' with hvC'
      injection hvC' with hvC'
      subst hvC'
      have cat' : (wr.drew.setCells gS (m * 128) (secL X)).cell? ⟨gC, k * 129, none⟩ = some (.int .i64 (m : Int)) := by have := rC' 0 (.int .i64 (m : Int)) rfl; simpa using this
      have rX' : (wr.drew.setCells gS (m * 128) (secL X)).rangeAt gC (k * 129 + 1) (secL X) := fun j v hv => by
        have := rC' (j + 1) v (by simpa [wrL] using hv)
        rwa [show k * 129 + (j + 1) = k * 129 + 1 + j by omega] at this
      have HX' := Lib.hid (And.intro (And.intro c0' c1') (And.intro cat' rX'))
      clear hx hO hH h5 hlen hp rC rC' c0' c1' cat' rX' cat rX
      go_wp2_with fail
      refine wp_region_ordT (fun w' => (w'.cell? ⟨W.heap.size, 0, none⟩ = some (.slice (some ⟨gS, 0, none⟩) S.st.length cpS) ∧ w'.cell? ⟨W.heap.size, 1, none⟩ = some (.slice (some ⟨gC, 0, none⟩) S.ca.length cpC)) ∧ w'.cell? ⟨gC, k * 129, none⟩ = some (.int .i64 (m : Int)) ∧ w'.rangeAt gC (k * 129 + 1) (secL X)) (OrdT.takes [0, 1, 2, 3, 4, 5, 6, 7, 8, 9, 10, 11, 12, 13, 14] (.one 15 .done)) (by kernel_rfl) (by kernel_rfl) ⟨⟨c0, c1⟩, HX.out⟩ ?_
      unfold OrdT.takes
      --ordt yyyymyyyyymyy
      iterate 4 (refine' t_yield _ rfl rfl rfl _ _; rotate_left; (intro w' hSw; obtain ⟨s0, s1, s2⟩ := hSw; go_simp; with_reducible rfl); simp only [Act.put, List.setIfInBounds_toArray, List.set_cons_zero, List.set_cons_succ])
      (refine' t_move _ _ rfl rfl rfl rfl _ _; rotate_left; (go_simp; with_reducible rfl); simp only [Act.put, List.setIfInBounds_toArray, List.set_cons_zero, List.set_cons_succ])
      iterate 5 (refine' t_yield _ rfl rfl rfl _ _; rotate_left; (intro w' hSw; obtain ⟨s0, s1, s2⟩ := hSw; go_simp; with_reducible rfl); simp only [Act.put, List.setIfInBounds_toArray, List.set_cons_zero, List.set_cons_succ])
      (refine' t_move _ _ rfl rfl rfl rfl _ _; rotate_left; (go_simp; with_reducible rfl); simp only [Act.put, List.setIfInBounds_toArray, List.set_cons_zero, List.set_cons_succ])
      iterate 2 (refine' t_yield _ rfl rfl rfl _ _; rotate_left; (intro w' hSw; obtain ⟨s0, s1, s2⟩ := hSw; go_simp; with_reducible rfl); simp only [Act.put, List.setIfInBounds_toArray, List.set_cons_zero, List.set_cons_succ])
      --end
      refine t_load gC (k * 129 + 1) (secL X) _ _ _ rfl rfl rfl rfl rfl (fun w' hSw => hSw.2.2) hu rfl (secL_size X) ?_
      simp only [Act.put, List.setIfInBounds_toArray, List.set_cons_zero, List.set_cons_succ, secL_arr]
      --ordt y
      (refine' t_yield _ rfl rfl rfl _ _; rotate_left; (intro w' hSw; obtain ⟨s0, s1, s2⟩ := hSw; go_simp; with_reducible rfl); simp only [Act.put, List.setIfInBounds_toArray, List.set_cons_zero, List.set_cons_succ])
      --end
      refine t_one rfl rfl (fun K hK => wp_store_mid _ _ _ rfl gS (m * 128) (sec X) rfl rfl (by rw [sec_size]; exact hth) (by rw [sec_size]; exact sector_size) (Array.all_eq_true_iff_forall_mem.2 (sec_one X)) (hK _ _ ?_ ?_))
      · exact HX'.out
      · refine t_done ?_
        clear HX HX' c0 c1 hth
        go_wp2
        go_roundw
        case rel => exact ⟨k + 1, by omega, by go_num, by rw [hFL.out]; exact H5.out⟩
        case measure => simp [intOf]; omega
    · have hkk : k = S.ca.length := by omega
      rw [hkk, List.take_length] at hH
      have c2 := hH.cell 3 _ _ _ rfl 2 _ rfl
      have c3 := hH.cell 3 _ _ _ rfl 3 _ rfl
      have c4 := hH.cell 3 _ _ _ rfl 4 _ rfl
      have f1 := hH.frozen 3 _ _ _ rfl 1
      have h5 := hH.setCell [_, _, _] 1 (.slice none 0 0)
      have z0 := h5.cell 2 _ _ _ rfl 0 (.slice none 0 0) rfl
      have z1 := h5.cell 2 _ _ _ rfl 1 (.slice none 0 0) rfl
      have z2 := h5.cell 2 _ _ _ rfl 2 (.int .i64 0) rfl
      have z3 := h5.cell 2 _ _ _ rfl 3 (.int .i64 0) rfl
      have z4 := h5.cell 2 _ _ _ rfl 4 (.bool false) rfl
      have y0 := h5.cell 3 _ _ _ rfl 0 _ rfl
      have y1 := h5.cell 3 _ _ _ rfl 1 _ rfl
      have y2 := h5.cell 3 _ _ _ rfl 2 _ rfl
      have y3 := h5.cell 3 _ _ _ rfl 3 _ rfl
      have y4 := h5.cell 3 _ _ _ rfl 4 _ rfl
      have q0 := h5.frozen 2 _ _ _ rfl 0
      have q1 := h5.frozen 2 _ _ _ rfl 1
      have q2 := h5.frozen 2 _ _ _ rfl 2
      have q3 := h5.frozen 2 _ _ _ rfl 3
      have q4 := h5.frozen 2 _ _ _ rfl 4
      have hz := (OwnR.nil (h5.store5 [_, _] (.slice bS S.st.length cpS) (.slice none 0 0) (.int .i64 S.taken) (.int .i64 S.power) (.bool S.off)) 87 129 wrL)
      have HZ := Lib.hid hz
      clear hz h5 hH hkk
      go_wp2
      refine bodyPost_ret (results_st rfl _ _ (W.heap.size + 1) _ rfl (HZ.out.blk 3 _ _ rfl).1 rfl) rfl ?_
      exact HZ.out.newSt (S := S.stable) (.tail _ (.head _)) (.head _) rfl
end Go.Proofs.YtfbkfdoekgnldaaGreatDoor
namespace Go.Proofs.YtfbkfdoekgnldaaGreatDoor
open Go.RowKit
attribute [local go_sem] Oper.semAt_some setRow_alloc_at setRow_alloc_past setRow_drew
/-- what a sector reads as behind the first k writes -/
def lookK (S : Dv) (n : Nat) (k : Nat) : Sector := (lastW (S.ca.take k) n).getD (S.st.getD n zsec)
theorem lookK_all (S : Dv) (n : Nat) : lookK S n S.ca.length = S.look n := by unfold lookK Dv.look; rw [List.take_length]; rfl
theorem lookK_succ (S : Dv) (n k : Nat) (p : Int) (X : Sector) (h : S.ca[k]? = some (p, X)) : lookK S n (k + 1) = if p = n then X else lookK S n k := by
  unfold lookK
  rw [List.take_add_one, h, Option.toList_some, lastW_snoc]
  dsimp only
  split <;> rfl
set_option maxRecDepth 100000 in
set_option maxHeartbeats 2000000 in
theorem ref_reads {W : World} {S : Dv} {uS uC : Value} (h : StIn W S uS uC) (n : Nat) (hn : n < S.st.length) :
    Calls Tryz.prog 107 #[.agg (stCells uS uC S), .int .i64 (n : Int)] W fun e w' => e = .returned (.agg (sec (S.look n))) ∧ Below W.heap.size W w' := by
  have l1 := h.l1
  have l2 := h.l2
  obtain ⟨s, hs⟩ : ∃ s, S.st[n]? = some s := ⟨_, List.getElem?_eq_getElem hn⟩
  obtain ⟨b, o, cS, hvS, rS⟩ := h.hS.elem secL_len n s hs
  obtain ⟨aC, cC, hvC, _⟩ := h.hC
  have HCc := Lib.hid h.hC
  subst hvS hvC
  have h2 := (((Has.start W).alloc (.cells #[.slice (some ⟨b, o, none⟩) S.st.length cS, .slice aC S.ca.length cC, .int .i64 S.taken, .int .i64 S.power, .bool S.off] 34)).allocAt (.cells (sec zsec) 53) (W.heap.size + 1) (by simp))
  have h3 := h2.allocAt (.cells (sec s) 53) (W.heap.size + 1 + 1) (by simp)
  have rS2 := rangeAt_below rS h2.hB
  have b2 := ((h2.allocAt (.cells (sec zsec) 53) (W.heap.size + 1 + 1) (by simp)).blk 0 _ _ rfl).1
  have hix := fun w => run_index_sec' b o S.st.length cS n hn w
  have hki : (n : Int) < (S.st.length : Int) := by omega
  have HL0 : Hid (lookK S n 0 = s) := by
    show (lastW [] (n : Int)).getD (S.st.getD n zsec) = s
    rw [lastW_nil, Option.getD_none, List.getD_eq_getElem?_getD, hs]; rfl
  have H3 := Lib.hid h3
  clear h h2 h3 hs rS
  unfold stCells
  go_enter Tryz.func107, Tryz.ntmps107
  go_wp2_with (first | ((with_reducible refine wpList_load_secmid rfl _ rfl b (o + n * 128) s ?_ rS2 ?_); rfl) | (with_reducible refine wpList_alloc_sector rfl rfl ?_) | ((with_reducible refine wpList_store_sector rfl _ _ rfl (W.heap.size + 1 + 1) s zsec ?_ ?_ b2 ?_); (first | rfl | go_simp); rfl))
  clear b2
  have H3' : Has W (((W.alloc (.cells #[.slice (some ⟨b, o, none⟩) S.st.length cS, .slice aC S.ca.length cC, .int .i64 S.taken, .int .i64 S.power, .bool S.off] 34)).alloc (.cells (sec zsec) 53)).alloc (.cells (sec s) 53)) [Blk _ (W.heap.size + 1 + 1) (.cells (sec (lookK S n 0)) 53), Blk _ (W.heap.size + 1) (.cells (sec zsec) 53), Blk _ W.heap.size (.cells #[.slice (some ⟨b, o, none⟩) S.st.length cS, .slice aC S.ca.length cC, .int .i64 S.taken, .int .i64 S.power, .bool S.off] 34)] := by
    rw [HL0.out]; exact H3.out
  clear rS2 H3 HL0
  revert H3'
  generalize ((W.alloc (.cells #[.slice (some ⟨b, o, none⟩) S.st.length cS, .slice aC S.ca.length cC, .int .i64 S.taken, .int .i64 S.power, .bool S.off] 34)).alloc (.cells (sec zsec) 53)).alloc (.cells (sec s) 53) = W3
  intro H3'
  go_loopw [6] (fun i wr => ∃ k : Nat, k ≤ S.ca.length ∧ i = .int .i64 (k : Int) ∧ Has W wr [Blk _ (W.heap.size + 1 + 1) (.cells (sec (lookK S n k)) 53), Blk _ (W.heap.size + 1) (.cells (sec zsec) 53), Blk _ W.heap.size (.cells #[.slice (some ⟨b, o, none⟩) S.st.length cS, .slice aC S.ca.length cC, .int .i64 S.taken, .int .i64 S.power, .bool S.off] 34)]) (fun i _ => S.ca.length - (intOf i).toNat)
  case atStart => exact ⟨0, Nat.zero_le _, rfl, H3'⟩
  case round =>
    obtain ⟨k, hk, rfl, hH⟩ := hrel
    clear H3'
    have c1 := hH.cell 2 _ _ _ rfl 1 _ rfl
    by_cases hlt : k < S.ca.length
    · obtain ⟨x, hx⟩ : ∃ x, S.ca[k]? = some x := ⟨_, List.getElem?_eq_getElem hlt⟩
      obtain ⟨p, X⟩ := x
      obtain ⟨bC, oC, cC', hvC, rC⟩ := (HCc.out.below hH.hB).elem wrL_len k _ hx
      injection hvC with hvC _ hcap
      subst hcap
      subst hvC
      have cat : wr.cell? ⟨bC, oC + k * 129, none⟩ = some (.int .i64 p) := by have := rC 0 (.int .i64 p) rfl; simpa using this
      have rX : wr.rangeAt bC (oC + k * 129 + 1) (secL X) := fun j v hv => by
        have := rC (j + 1) v (by simpa [wrL] using hv)
        rwa [show oC + k * 129 + (j + 1) = oC + k * 129 + 1 + j by omega] at this
      have hixC := fun w => run_index_wr' bC oC S.ca.length cC k hlt w
      have hkk : (k : Int) < (S.ca.length : Int) := by omega
      have HKS := Lib.hid (lookK_succ S n k p X hx)
      have b0 := (hH.blk 0 _ _ rfl).1
      have HSET := Lib.hid (hH.setRow [] (sec X))
      have HH := Lib.hid hH
      clear hx hH rC
      by_cases hpn : p = n
      · subst hpn
        rw [if_pos rfl] at HKS
        go_wp2_with (first | ((with_reducible refine wpList_load_secmid rfl _ rfl bC (oC + k * 129 + 1) X ?_ rX ?_); rfl) | ((with_reducible refine wpList_store_sector rfl _ _ rfl (W.heap.size + 1 + 1) X (lookK S n k) ?_ ?_ b0 ?_); rfl; rfl))
        go_roundw
        case rel => exact ⟨k + 1, by omega, by go_num, by rw [HKS.out]; exact HSET.out⟩
        case measure => simp [intOf]; omega
      · rw [if_neg hpn] at HKS
        have hpb : (p == (n : Int)) = false := by simpa using hpn
        clear hpn
        go_wp2
        go_roundw
        case rel => exact ⟨k + 1, by omega, by go_num, by rw [HKS.out]; exact HH.out⟩
        case measure => simp [intOf]; omega
    · have hkk : k = S.ca.length := by omega
      rw [hkk, lookK_all] at hH
      obtain ⟨Z, hZ⟩ : ∃ Z, Z = S.look n := ⟨_, rfl⟩
      rw [← hZ] at hH
      have HZ := Lib.hid hZ
      have b0 := (hH.blk 0 _ _ rfl).1
      have b1 := (hH.blk 1 _ _ rfl).1
      have h6 := hH.setRow [_] (sec Z)
      have H6 := Lib.hid h6
      clear hH h6 hkk hZ
      go_wp2_with (first | ((with_reducible refine wpList_load_sector rfl _ rfl (W.heap.size + 1 + 1) Z ?_ b0 ?_); rfl) | ((with_reducible refine wpList_store_sector rfl _ _ rfl (W.heap.size + 1) Z zsec ?_ ?_ b1 ?_); rfl; rfl))
      exact bodyPost_ret (results_sec1 rfl _ _ (W.heap.size + 1) Z rfl (H6.out.blk 1 _ _ rfl).1) rfl ⟨by rw [← HZ.out], H6.out.hB⟩
end Go.Proofs.YtfbkfdoekgnldaaGreatDoor
namespace Go.Proofs.YtfbkfdoekgnldaaGreatDoor
open Go.RowKit
attribute [local go_sem] Oper.semAt_some setRow_alloc_at setRow_alloc_past setRow_drew
theorem results_st2 {fn : Func} {p q : Tmp} (h : fn.results = #[.cell p 34, .tmp q]) (tmps : Array Value) (w : World) (g : Nat) (cs : Array Value)
    (hp : tmps.getD p undef = .pointer (some ⟨g, 0, none⟩)) (hg : w.heap[g]? = some (.cells cs 34 (0, 0))) (hc : cs.size = 5) :
    (results fn tmps).run Tryz.prog w = .ok (.tuple #[.agg cs, tmps.getD q undef]) w := by
  have hp' : tmps[p]?.getD undef = .pointer (some ⟨g, 0, none⟩) := by simpa using hp
  have hl := run_loadVar_row (P := Tryz.prog) w g _ _ _ _ _ hg Tryz.underlying34 rfl (by rw [hc]; exact st_size)
  simp [results, h, hp', asAddr, hl]
/-- the blocks that a list in memory has -/
def blksL {α : Type} (v : Value) (l : List α) : List Nat := if l.isEmpty then [] else blks v
theorem blksL_sub {α : Type} (v : Value) (l : List α) : ∀ k ∈ blksL v l, k ∈ blks v := by
  intro k hk; unfold blksL at hk; split at hk
  · cases hk
  · exact hk
/-- a state and an error -/
def StRes (W : World) (S : Dv) (uS uC : Value) (S' : Dv) (code : Int) (e : Ending) (W' : World) : Prop :=
  ∃ vS vC, e = .returned (.tuple #[.agg (stCells vS vC S'), .int .i64 code]) ∧ StIn W' S' vS vC ∧ (∀ k ∈ blksL vS S'.st ++ blksL vC S'.ca, k ∈ blksL uS S.st ++ blksL uC S.ca ∨ W.heap.size ≤ k) ∧ Below W.heap.size W W'
theorem StIn.res {W W' : World} {uS uC : Value} {S S' : Dv} {code : Int} (h : StIn W S uS uC) (hB : Below W.heap.size W W') (h1 : S'.st = S.st) (h2 : S'.ca = S.ca) : StRes W S uS uC S' code (.returned (.tuple #[.agg (stCells uS uC S'), .int .i64 code])) W' := by
  have h' := h.below hB
  exact ⟨uS, uC, rfl, ⟨by rw [h1]; exact h'.hS, by rw [h2]; exact h'.hC, by rw [h1]; exact h.l1, by rw [h2]; exact h.l2⟩, fun k hk => .inl (by rw [h1, h2] at hk; exact hk), hB⟩
theorem NewSt.res {W W' : World} {rs : List (Res W.heap.size)} {S0 S : Dv} {uS uC vS vC : Value} {code : Int} (h : Has W W' rs) (h1 : OwnR _ 53 128 secL vS S.st ∈ rs) (h2 : OwnR _ 87 129 wrL vC S.ca ∈ rs) (l1 : S.st.length ≤ 100000) (l2 : S.ca.length ≤ 100000) :
    StRes W S0 uS uC S code (.returned (.tuple #[.agg (stCells vS vC S), .int .i64 code])) W' := by
  obtain ⟨F, ⟨hO, rfl⟩, hF⟩ := h.mem h1
  obtain ⟨F2, ⟨hO2, rfl⟩, hF2⟩ := h.mem h2
  refine ⟨vS, vC, rfl, ⟨hO.rd, hO2.rd, l1, l2⟩, fun k hk => .inr ?_, h.hB⟩
  rcases List.mem_append.1 hk with hk | hk
  · exact hF k (blksL_sub _ _ k hk)
  · exact hF2 k (blksL_sub _ _ k hk)
/-- a list that can be read, as one of the things of a walk -/
def RdR (B : Nat) {α : Type} (m : Nat) (c : α → List Value) (v : Value) (l : List α) : Res B where
  P W F := RdL W m c v l ∧ (∀ k ∈ blksL v l, k < B ∨ k ∈ F) ∧ ∀ k ∈ F, k < W.heap.size
  lt W F h := h.2.2
  stay W W' F h h0 h1 := by
    obtain ⟨h, hb, hl⟩ := h
    refine ⟨?_, hb, fun k hk => ?_⟩
    · cases l with
      | nil => obtain ⟨a, cap, hv, _⟩ := h; exact ⟨a, cap, hv, .inl rfl⟩
      | cons x l => exact h.stay (fun k hk => by rcases hb k hk with hk | hk; exact h0 k hk; exact h1 k hk)
    · have := h1 k hk
      rw [Array.getElem?_eq_getElem (hl k hk)] at this
      exact (Array.getElem?_eq_some_iff.1 this).1
theorem RdL.lt {α : Type} {c : α → List Value} {m : Nat} {W : World} {v : Value} {l : List α} (h : RdL W m c v l) (hm : ∀ x, (c x).length = m) (hm0 : 0 < m) : ∀ k ∈ blksL v l, k < W.heap.size := by
  intro k hk
  cases l with
  | nil => simp [blksL] at hk
  | cons x l =>
    obtain ⟨b, o, cap, rfl, hr⟩ := h.elem hm 0 x rfl
    have hk' : k ∈ blks (.slice (some ⟨b, o, none⟩) (x :: l).length cap) := hk
    simp [blks, Value.ownBlock] at hk'
    subst hk'
    have hc : (c x)[0]? = some ((c x)[0]'(by rw [hm]; exact hm0)) := List.getElem?_eq_getElem _
    exact block_lt_of_cell (hr 0 _ hc)
theorem Has.addRd {w W : World} {rs : List (Res w.heap.size)} {α : Type} {c : α → List Value} {m : Nat} {v : Value} {l : List α} (h : Has w W rs) (hr : RdL w m c v l) (hm : ∀ x, (c x).length = m) (hm0 : 0 < m) : Has w W (RdR _ m c v l :: rs) :=
  h.more (Below.refl _ _) _ [] ⟨hr.below h.hB, fun k hk => .inl (hr.lt hm hm0 k hk), by simp⟩ (by simp)
theorem Has.asRd {w W : World} {rs : List (Res w.heap.size)} {α : Type} {c : α → List Value} {m : Nat} {e : TypeId} {v : Value} {l : List α} (h : Has w W (OwnR _ e m c v l :: rs)) : Has w W (RdR _ m c v l :: rs) := by
  obtain ⟨F, ⟨hO, rfl⟩, hF, _, hT⟩ := h.focus
  exact hT W (RdR _ m c v l) (blks v) (Only.refl _ _) ⟨hO.rd, fun k hk => .inr (blksL_sub _ _ k hk), hO.lt⟩ (fun k hk => .inl hk)
theorem Has.rd {w W : World} {rs : List (Res w.heap.size)} {α : Type} {c : α → List Value} {m : Nat} {v : Value} {l : List α} (h : Has w W rs) (hr : RdR _ m c v l ∈ rs) : RdL W m c v l := by
  obtain ⟨F, ⟨hO, _⟩, _⟩ := h.mem hr
  exact hO
set_option maxRecDepth 100000 in
set_option maxHeartbeats 2000000 in
theorem ref_read {W : World} {S : Dv} {uS uC : Value} (h : StIn W S uS uC) (n : Int) :
    Calls Tryz.prog 99 #[.agg (stCells uS uC S), .int .i64 n] W fun e w' => e = .returned (S.readV n) ∧ Below W.heap.size W w' := by
  have l1 := h.l1
  have l2 := h.l2
  have HH := Lib.hid h
  obtain ⟨⟨aS, cS, rfl, _⟩, ⟨aC, cC, rfl, _⟩, _, _⟩ := h
  have h2 := (((Has.start W).alloc (.cells #[.slice aS S.st.length cS, .slice aC S.ca.length cC, .int .i64 S.taken, .int .i64 S.power, .bool S.off] 34)).allocAt (.cells (sec zsec) 53) (W.heap.size + 1) (by simp))
  have b1 := (h2.blk 0 _ _ rfl).1
  have e1 : ((W.alloc (.cells #[.slice aS S.st.length cS, .slice aC S.ca.length cC, .int .i64 S.taken, .int .i64 S.power, .bool S.off] 34)).alloc (.cells (sec zsec) 53)).heap.size = W.heap.size + 1 + 1 := by simp
  have H2 := Lib.hid h2
  unfold stCells
  clear h2 e1
  have hfail : ∀ c : Int, S.at n = c → c ≠ 0 → S.readV n = .tuple #[.agg (sec zsec), .int .i64 c] := fun c hc hc0 => by
    unfold Dv.readV; rw [hc, if_neg hc0]
  have HF := Lib.hid hfail
  clear hfail
  cases hoff : S.off
  · by_cases h1 : n < 0
    · have hat := HF.out 7 (by unfold Dv.at; rw [hoff, if_neg (by simp), if_pos (.inl h1)]) (by decide)
      have HR := Lib.hid hat
      rw [hoff] at H2 b1
      clear hat hoff HF
      go_enter Tryz.func99, Tryz.ntmps99
      go_wp2_with (first | (with_reducible refine wpList_alloc_sector rfl rfl ?_) | (with_reducible refine wpList_build_sector rfl rfl ?_) | ((with_reducible refine wpList_store_sector rfl _ _ rfl (W.heap.size + 1) zsec zsec ?_ ?_ b1 ?_); (first | rfl | go_simp); rfl))
      exact bodyPost_ret (results_sector2 rfl _ _ (W.heap.size + 1) zsec rfl b1) rfl ⟨by rw [HR.out]; rfl, H2.out.hB⟩
    · by_cases h2 : (S.st.length : Int) ≤ n
      · have hat := HF.out 7 (by unfold Dv.at; rw [hoff, if_neg (by simp), if_pos (.inr h2)]) (by decide)
        have HR := Lib.hid hat
        rw [hoff] at H2 b1
        clear hat hoff HF
        go_enter Tryz.func99, Tryz.ntmps99
        go_wp2_with (first | (with_reducible refine wpList_alloc_sector rfl rfl ?_) | (with_reducible refine wpList_build_sector rfl rfl ?_) | ((with_reducible refine wpList_store_sector rfl _ _ rfl (W.heap.size + 1) zsec zsec ?_ ?_ b1 ?_); (first | rfl | go_simp); rfl))
        exact bodyPost_ret (results_sector2 rfl _ _ (W.heap.size + 1) zsec rfl b1) rfl ⟨by rw [HR.out]; rfl, H2.out.hB⟩
      · obtain ⟨m, rfl⟩ : ∃ m : Nat, n = m := ⟨n.toNat, by omega⟩
        have hm : m < S.st.length := by omega
        have hrv : S.readV m = .tuple #[.agg (sec (S.look m)), .int .i64 0] := by unfold Dv.readV; rw [Dv.at_ok hoff (by omega) (by omega), if_pos rfl]
        have hrd := ref_reads (HH.out.below H2.out.hB) m hm
        unfold stCells at hrd
        rw [hoff] at H2 b1 hrd
        obtain ⟨Z, hZ⟩ : ∃ Z, Z = S.look m := ⟨_, rfl⟩
        rw [← hZ] at hrd hrv
        have HR := Lib.hid hrv
        have HRD := Lib.hid hrd
        clear hrv hrd hZ hoff HF HH
        go_enter Tryz.func99, Tryz.ntmps99
        go_wp2_with (first | (with_reducible refine wpList_alloc_sector rfl rfl ?_))
        refine HRD.out.mono ?_
        rintro e w4 ⟨rfl, hB4⟩
        have h4 := H2.out.below hB4
        have b4 := (h4.blk 0 _ _ rfl).1
        have h5 := h4.setRow [] (sec Z)
        have H5 := Lib.hid h5
        clear h4 h5
        go_wp2_with (first | ((with_reducible refine wpList_store_sector rfl _ _ rfl (W.heap.size + 1) Z zsec ?_ ?_ b4 ?_); (first | rfl | go_simp); rfl))
        exact bodyPost_ret (results_sector2 rfl _ _ (W.heap.size + 1) Z rfl (H5.out.blk 0 _ _ rfl).1) rfl ⟨by rw [HR.out]; rfl, H5.out.hB⟩
  · have hat := HF.out 13 (by unfold Dv.at; rw [hoff, if_pos rfl]) (by decide)
    have HR := Lib.hid hat
    rw [hoff] at H2 b1
    clear hat hoff HF
    go_enter Tryz.func99, Tryz.ntmps99
    go_wp2_with (first | (with_reducible refine wpList_alloc_sector rfl rfl ?_) | (with_reducible refine wpList_build_sector rfl rfl ?_) | ((with_reducible refine wpList_store_sector rfl _ _ rfl (W.heap.size + 1) zsec zsec ?_ ?_ b1 ?_); (first | rfl | go_simp); rfl))
    exact bodyPost_ret (results_sector2 rfl _ _ (W.heap.size + 1) zsec rfl b1) rfl ⟨by rw [HR.out]; rfl, H2.out.hB⟩
/-- what is known of a boxed state beside an empty one -/
theorem box2 (W : World) (u0 u1 u2 u3 u4 : Value) : Has W ((W.alloc (.cells #[u0, u1, u2, u3, u4] 34)).alloc (.cells #[.slice none 0 0, .slice none 0 0, .int .i64 0, .int .i64 0, .bool false] 34)) [Blk _ (W.heap.size + 1) (.cells #[.slice none 0 0, .slice none 0 0, .int .i64 0, .int .i64 0, .bool false] 34), Blk _ W.heap.size (.cells #[u0, u1, u2, u3, u4] 34)] :=
  ((Has.start W).alloc _).allocAt _ (W.heap.size + 1) (by simp)
set_option maxRecDepth 100000 in
theorem ref_limit {W : World} {S : Dv} {uS uC : Value} (h : StIn W S uS uC) (n : Int) :
    Calls Tryz.prog 35 #[.agg (stCells uS uC S), .int .i64 n] W (StRes W S uS uC (S.limit n) (limitE n)) := by
  have HH := Lib.hid h
  obtain ⟨⟨aS, cS, rfl, _⟩, ⟨aC, cC, rfl, _⟩, _, _⟩ := h
  unfold stCells
  by_cases h0 : n < -1 ∨ 1000000000000 < n
  · have HV := Lib.hid (show limitE n = 7 ∧ S.limit n = S from ⟨if_pos h0, if_pos h0⟩)
    by_cases h1 : n < -1
    · clear h0
      go_enter Tryz.func35, Tryz.ntmps35
      go_wp2
      refine bodyPost_ret (results_st2 rfl _ _ (W.heap.size + 1) _ rfl (heap_alloc_eq _ _ _ (by simp)) rfl) rfl ?_
      rw [HV.out.1, HV.out.2]
      exact HH.out.res (((Below.refl _ _).alloc (Nat.le_refl _) _).alloc (by simp) _) rfl rfl
    · have h2 : 1000000000000 < n := by omega
      clear h0
      go_enter Tryz.func35, Tryz.ntmps35
      go_wp2
      refine bodyPost_ret (results_st2 rfl _ _ (W.heap.size + 1) _ rfl (heap_alloc_eq _ _ _ (by simp)) rfl) rfl ?_
      rw [HV.out.1, HV.out.2]
      exact HH.out.res (((Below.refl _ _).alloc (Nat.le_refl _) _).alloc (by simp) _) rfl rfl
  · have HV := Lib.hid (show limitE n = 0 ∧ S.limit n = { S with power := n } from ⟨if_neg h0, if_neg h0⟩)
    have h1 : -1 ≤ n := by omega
    have h2 : n ≤ 1000000000000 := by omega
    clear h0
    go_enter Tryz.func35, Tryz.ntmps35
    go_wp2
    refine bodyPost_ret (results_st2 rfl _ _ (W.heap.size + 1) _ rfl (heap_alloc_eq _ _ _ (by simp)) rfl) rfl ?_
    rw [HV.out.1, HV.out.2]
    exact HH.out.res (S' := { S with power := n }) (((Below.refl _ _).alloc (Nat.le_refl _) _).alloc (by simp) _) rfl rfl
set_option maxRecDepth 100000 in
theorem ref_flush {W : World} {S : Dv} {uS uC : Value} (h : StIn W S uS uC) (hok : ∀ x ∈ S.ca, 0 ≤ x.1 ∧ x.1 < S.st.length) :
    Calls Tryz.prog 66 #[.agg (stCells uS uC S)] W (StRes W S uS uC S.flush S.flushE) := by
  have HH := Lib.hid h
  have hb := box2 W uS uC (.int .i64 S.taken) (.int .i64 S.power) (.bool S.off)
  have hst := ref_stable (h.below hb.hB) hok
  obtain ⟨⟨aS, cS, rfl, _⟩, ⟨aC, cC, rfl, _⟩, _, _⟩ := h
  unfold stCells at hst ⊢
  have HST := Lib.hid hst
  have HB := Lib.hid hb
  clear hb hst
  cases hoff : S.off
  · have HV := Lib.hid (show S.flush = S.stable ∧ S.flushE = 0 from Dv.flush_go hoff)
    rw [hoff] at HST HB
    clear hoff
    go_enter Tryz.func66, Tryz.ntmps66
    go_wp2_with fail
    refine HST.out.mono ?_
    rintro e w3 hn
    obtain ⟨bS, cpS, bC, cpC, rfl, h3⟩ := hn.has HB.out
    clear hn HST HB
    have z0 := h3.cell 2 _ _ _ rfl 0 (.slice none 0 0) rfl
    have z1 := h3.cell 2 _ _ _ rfl 1 (.slice none 0 0) rfl
    have z2 := h3.cell 2 _ _ _ rfl 2 (.int .i64 0) rfl
    have z3 := h3.cell 2 _ _ _ rfl 3 (.int .i64 0) rfl
    have z4 := h3.cell 2 _ _ _ rfl 4 (.bool false) rfl
    have q0 := h3.frozen 2 _ _ _ rfl 0
    have q1 := h3.frozen 2 _ _ _ rfl 1
    have q2 := h3.frozen 2 _ _ _ rfl 2
    have q3 := h3.frozen 2 _ _ _ rfl 3
    have q4 := h3.frozen 2 _ _ _ rfl 4
    have h4 := h3.store5 [_, _] (.slice bS S.stable.st.length cpS) (.slice bC S.stable.ca.length cpC) (.int .i64 S.stable.taken) (.int .i64 S.stable.power) (.bool S.stable.off)
    have H4 := Lib.hid h4
    have hl1 : S.stable.st.length ≤ 100000 := by show (flushL S.st S.ca).length ≤ _; rw [flushL_length]; exact HH.out.l1
    have HL := Lib.hid hl1
    clear h3 h4 hl1
    unfold stCells
    go_wp2
    refine bodyPost_ret (results_st2 rfl _ _ (W.heap.size + 1) _ rfl (H4.out.blk 2 _ _ rfl).1 rfl) rfl ?_
    rw [HV.out.1, HV.out.2]
    exact NewSt.res H4.out (.head _) (.tail _ (.head _)) HL.out (by show ([] : List Wr).length ≤ _; simp)
  · have HV := Lib.hid (show S.flush = S ∧ S.flushE = 13 by unfold Dv.flush Dv.flushE; rw [hoff]; exact ⟨rfl, rfl⟩)
    have HOF := Lib.hid hoff
    clear hoff HST HB
    go_enter Tryz.func66, Tryz.ntmps66
    go_wp2
    refine bodyPost_ret (results_st2 rfl _ _ (W.heap.size + 1) _ rfl (heap_alloc_eq _ _ _ (by simp)) rfl) rfl ?_
    rw [HV.out.1, HV.out.2]
    have hr := fun W' hB => HH.out.res (S' := S) (code := 13) (W' := W') hB rfl rfl
    simp only [stCells, HOF.out] at hr
    exact hr _ (((Below.refl _ _).alloc (Nat.le_refl _) _).alloc (by simp) _)
end Go.Proofs.YtfbkfdoekgnldaaGreatDoor
