/- The walk of the statement JournalPlays. -/
import Derived.Test.YtfbkfdoekgnldaaGreatDoorDo9All
namespace Go.Proofs.YtfbkfdoekgnldaaGreatDoor
open Go.RowKit
open Lime
theorem g_w64_u8 (c : UInt8) : wrap64 (vb c) = vb c := by have := vb_nonneg c; have := vb_lt c; unfold wrap64; omega
attribute [local go_sem] Oper.semAt_some setRow_alloc_at setRow_alloc_past setRow_drew g_w64_u8
set_option maxRecDepth 100000 in
set_option maxHeartbeats 8000000 in
theorem plays9_law (s : UInt8) (l : Lay) (v : Value) (xs : List StepD) (w : World) (hl : StepsIn w v xs) (hh : HalfLaid w) :
    Calls Tryz.prog 3 #[.int .u8 (vb s), .agg #[.int .i64 l.first, .int .i64 l.size], v] w fun e w' => e = .returned (.bool true) ∧ Below w.heap.size w w' := by
  have HAW := Lib.hid (fun w' (hB : Below w.heap.size w w') => awake9 w' (hh.below hB))
  have HHL := Lib.hid hh
  have HL := Lib.hid hl
  have h0 := (Has.start w).alloc (.cells #[.int .i64 l.first, .int .i64 l.size] 23)
  have HLG := Lib.hid (long_any (hl.below h0.hB))
  have hlen := hl.len
  obtain ⟨a, cap, rfl, _⟩ := hl.hL
  have H0 := Lib.hid h0
  have hm0 := Int.tmod_nonneg 193 (vb_nonneg s)
  have hm1 := Int.tmod_lt_of_pos (vb s) (show (0 : Int) < 193 by decide)
  obtain ⟨m, hm⟩ : ∃ m : Nat, (64 : Int) + (vb s).tmod 193 = m := ⟨(64 + (vb s).tmod 193).toNat, by omega⟩
  have h64 : 64 ≤ m := by omega
  have h256 : m ≤ 256 := by omega
  have hw : wrap64 (64 + (vb s).tmod 193) = (m : Int) := by rw [hm]; unfold wrap64; omega
  clear hl hh h0 hm0 hm1 hm
  go_enter Tryz.func3, Tryz.ntmps3
  go_wp2_with fail
  refine HLG.out.mono ?_
  clear HLG
  rintro e w1 ⟨b, rfl, hB1⟩
  have h1 := H0.out.below hB1
  have H1 := Lib.hid h1
  clear h1 hB1 H0
  cases b
  · go_wp2_with fail
    refine (new_has H1.out m h64 h256).mono ?_
    rintro e w2 ⟨g, rfl, h2⟩
    go_wp2_with fail
    refine (ref_new w2 m).mono ?_
    rintro e w3 hr
    obtain ⟨bS, kS, bC, kC, rfl, h3⟩ := RefNewV.has h2 h64 h256 hr
    obtain ⟨S, hS⟩ : ∃ S, S = Dv.new m := ⟨_, rfl⟩
    rw [← hS] at h3 ⊢
    have h4 := (h3.perm (List.Perm.swap _ _ _)).alloc (.cells #[.slice bS S.st.length kS, .slice bC S.ca.length kC, .int .i64 S.taken, .int .i64 S.power, .bool S.off] 34)
    have H4 := Lib.hid h4
    clear h2 h3 h4 hr hS H1 hw
    go_wp2_with fail
    go_loopw [12] (fun i wr => ∃ k : Nat, k ≤ xs.length ∧ i = .int .i64 (k : Int) ∧ ∃ bS kS bC kC, Has w wr [Blk _ w3.heap.size (.cells #[.slice bS (runs9 l (xs.take k) S).st.length kS, .slice bC (runs9 l (xs.take k) S).ca.length kC, .int .i64 (runs9 l (xs.take k) S).taken, .int .i64 (runs9 l (xs.take k) S).power, .bool (runs9 l (xs.take k) S).off] 34), DevR _ g (runs9 l (xs.take k) S), StR _ (.slice bS (runs9 l (xs.take k) S).st.length kS) (.slice bC (runs9 l (xs.take k) S).ca.length kC) (runs9 l (xs.take k) S), Blk _ w.heap.size (.cells #[.int .i64 l.first, .int .i64 l.size] 23)]) (fun i _ => xs.length - (intOf i).toNat)
    case atStart => exact ⟨0, Nat.zero_le _, rfl, bS, kS, bC, kC, H4.out⟩
    case round =>
      obtain ⟨k, hk, rfl, bS, kS, bC, kC, hH⟩ := hrel
      clear H4
      obtain ⟨R, hR⟩ : ∃ R, R = runs9 l (xs.take k) S := ⟨_, rfl⟩
      rw [← hR] at hH
      have HR := Lib.hid hR
      clear hR
      by_cases hlt : k < xs.length
      · as_aux_lemma =>
        obtain ⟨x, hx⟩ : ∃ x, xs[k]? = some x := ⟨_, List.getElem?_eq_getElem hlt⟩
        obtain ⟨ba, oa, cap2, hv, _⟩ := HL.out.hL.elem stepL_len k x hx
        injection hv with hv _ hcap
        subst hcap
        subst hv
        have HC : Hid (∀ W', Below w.heap.size w W' → W'.rangeAt ba (oa + k * 4) (stepL x)) := fun W' hB => by
          obtain ⟨b', o', cap', hvb, r⟩ := (HL.out.hL.below hB).elem stepL_len k x hx
          injection hvb with hvb _ _
          injection hvb with hvb
          injection hvb with e1 e2
          subst e1 e2
          exact r
        have HKX := Lib.hid (HL.out.each x (List.mem_of_getElem? hx))
        have HSK : Hid (∀ W', Below w.heap.size w W' → W'.heap[w3.heap.size]? = some (.cells #[.slice bS R.st.length kS, .slice bC R.ca.length kC, .int .i64 R.taken, .int .i64 R.power, .bool R.off] 34 (0, 0)) → W'.heap[w.heap.size]? = some (.cells #[.int .i64 l.first, .int .i64 l.size] 23 (0, 0)) → W'.rangeAt w3.heap.size 0 (stL (.slice bS R.st.length kS) (.slice bC R.ca.length kC) R) ∧ W'.rangeAt ba (oa + k * 4) (stepL x) ∧ W'.rangeAt w.heap.size 0 (layL l)) := fun W' hB h1 h2 => ⟨st_row h1, HC.out _ hB, lay_row h2⟩
        have HN := Lib.hid (runs9_take l xs k x hx S)
        rw [← HR.out] at HN
        have hix := fun w => run_index_step ba oa xs.length cap k hlt w
        have hki : (k : Int) < (xs.length : Int) := by omega
        have HH := Lib.hid hH
        obtain ⟨T, hT⟩ : ∃ T, T = x.next l R := ⟨_, rfl⟩
        have HT := Lib.hid hT
        clear hx hH hT
        go_wp2_with fail
        go_upto_region 11 with fail
        go_cut [13, 14] (fun p f wx => ∃ b5 bT kT bU kU, p = .pointer (some ⟨b5, 0, none⟩) ∧ f = .bool true ∧ Has w wx (Blk _ b5 (.cells #[.slice bT T.st.length kT, .slice bU T.ca.length kU, .int .i64 T.taken, .int .i64 T.power, .bool T.off] 34) :: Blk _ w3.heap.size (.cells #[.slice bS R.st.length kS, .slice bC R.ca.length kC, .int .i64 R.taken, .int .i64 R.power, .bool R.off] 34) :: DevR _ g T :: StR _ (.slice bT T.st.length kT) (.slice bU T.ca.length kU) T :: Blk _ w.heap.size (.cells #[.int .i64 l.first, .int .i64 l.size] 23) :: []))
        case first =>
          refine wp_region_ordZ (fun w' => w'.rangeAt w3.heap.size 0 (stL (.slice bS R.st.length kS) (.slice bC R.ca.length kC) R) ∧ w'.rangeAt ba (oa + k * 4) (stepL x) ∧ w'.rangeAt w.heap.size 0 (layL l)) (OrdT.takes [0, 1, 2, 3, 4, 5, 6] (.two 7 (OrdT.takes [8, 9, 10] (.one 11 (.one 12 (.take 13 .done)))) 11 (.one 7 (OrdT.takes [8, 9, 10] (.one 12 (.take 13 .done)))))) (by kernel_rfl) (by kernel_rfl) (HSK.out _ HH.out.drew.hB (HH.out.drew.blk 0 _ _ rfl).1 (HH.out.drew.blk 3 _ _ rfl).1) (fun wz hz => ?_)
          have h6 := HH.out.drew
          rw [← hz] at h6
          have H6 := Lib.hid h6
          clear hz h6 HH
          unfold OrdT.takes
          --ordt m
          (refine' t_move _ _ rfl rfl rfl rfl _ _; rotate_left; (go_simp; with_reducible rfl); simp only [Act.put, List.setIfInBounds_toArray, List.set_cons_zero, List.set_cons_succ])
          --end
          refine t_load w3.heap.size 0 (stL (.slice bS R.st.length kS) (.slice bC R.ca.length kC) R) _ _ _ rfl rfl rfl rfl rfl (fun w' hSw => hSw.1) Tryz.underlying34 rfl (stL_size _ _ _) ?_
          simp only [Act.put, List.setIfInBounds_toArray, List.set_cons_zero, List.set_cons_succ, stL_arr]
          refine t_load w.heap.size 0 (layL l) _ _ _ rfl rfl rfl rfl rfl (fun w' hSw => hSw.2.2) Tryz.underlying23 rfl (layL_size _) ?_
          simp only [Act.put, List.setIfInBounds_toArray, List.set_cons_zero, List.set_cons_succ, layL_arr]
          --ordt mmy
          iterate 2 (refine' t_move _ _ rfl rfl rfl rfl _ _; rotate_left; (go_simp; with_reducible rfl); simp only [Act.put, List.setIfInBounds_toArray, List.set_cons_zero, List.set_cons_succ])
          (refine' t_yield _ rfl rfl rfl _ _; rotate_left; (intro w' hSw; obtain ⟨s0, s1, s2⟩ := hSw; go_simp; with_reducible rfl); simp only [Act.put, List.setIfInBounds_toArray, List.set_cons_zero, List.set_cons_succ])
          --end
          refine t_load ba (oa + k * 4) (stepL x) _ _ _ rfl rfl rfl rfl rfl (fun w' hSw => hSw.2.1) Tryz.underlying42 rfl (stepL_size x) ?_
          simp only [Act.put, List.setIfInBounds_toArray, List.set_cons_zero, List.set_cons_succ, stepL_arr]
          refine t_two rfl rfl rfl rfl (fun K hK => ?_) (fun K hK => ?_)
          · go_simp
            refine (do9_mid [_] H6.out l x (HKX.out) HHL.out).mono ?_
            rintro e w7 ⟨bT, kT, bU, kU, rfl, h7⟩
            rw [← HT.out] at h7 ⊢
            dsimp only
            refine hK _ _ (HSK.out _ h7.hB (h7.blk 0 _ _ rfl).1 (h7.blk 3 _ _ rfl).1) ?_
            clear hK
            unfold OrdT.takes
            --ordt m yy
            (refine' t_move _ _ rfl rfl rfl rfl _ _; rotate_left; (go_simp; with_reducible rfl); simp only [Act.put, List.setIfInBounds_toArray, List.set_cons_zero, List.set_cons_succ])
            iterate 2 (refine' t_yield _ rfl rfl rfl _ _; rotate_left; (intro w' hSw; obtain ⟨s0, s1, s2⟩ := hSw; go_simp; with_reducible rfl); simp only [Act.put, List.setIfInBounds_toArray, List.set_cons_zero, List.set_cons_succ])
            --end
            refine t_one rfl rfl (fun K hK => ?_)
            go_simp
            have h8 := h7.alloc (.cells #[.slice none 0 0, .slice none 0 0, .int .i64 0, .int .i64 0, .bool false] 34)
            have h9 := h7.alloc (.cells #[.slice bT T.st.length kT, .slice bU T.ca.length kU, .int .i64 T.taken, .int .i64 T.power, .bool T.off] 34)
            refine hK _ _ (HSK.out _ h8.hB (h8.blk 1 _ _ rfl).1 (h8.blk 4 _ _ rfl).1) ?_
            clear hK
            have H9 := Lib.hid h9
            clear h7 h8 h9 H6
            refine t_one rfl rfl (fun K hK => ?_)
            go_simp
            refine hK _ _ (HSK.out _ H9.out.hB (H9.out.blk 1 _ _ rfl).1 (H9.out.blk 4 _ _ rfl).1) ?_
            clear hK
            --ordt y
            (refine' t_yield _ rfl rfl rfl _ _; rotate_left; (intro w' hSw; obtain ⟨s0, s1, s2⟩ := hSw; go_simp; with_reducible rfl); simp only [Act.put, List.setIfInBounds_toArray, List.set_cons_zero, List.set_cons_succ])
            --end
            refine t_done ?_
            go_wp2_with fail
            go_meet
            exact ⟨w7.heap.size, bT, kT, bU, kU, rfl, rfl, H9.out⟩
          · have h7 := H6.out.alloc (.cells #[.slice none 0 0, .slice none 0 0, .int .i64 0, .int .i64 0, .bool false] 34)
            go_simp
            refine hK _ _ (HSK.out _ h7.hB (h7.blk 1 _ _ rfl).1 (h7.blk 4 _ _ rfl).1) ?_
            clear hK
            have H7 := Lib.hid h7
            clear h7 H6
            refine t_one rfl rfl (fun K hK => ?_)
            go_simp
            refine (do9_mid [_, _] H7.out l x (HKX.out) HHL.out).mono ?_
            rintro e w8 ⟨bT, kT, bU, kU, rfl, h8⟩
            rw [← HT.out] at h8 ⊢
            dsimp only
            refine hK _ _ (HSK.out _ h8.hB (h8.blk 1 _ _ rfl).1 (h8.blk 4 _ _ rfl).1) ?_
            clear hK
            unfold OrdT.takes
            --ordt m yy
            (refine' t_move _ _ rfl rfl rfl rfl _ _; rotate_left; (go_simp; with_reducible rfl); simp only [Act.put, List.setIfInBounds_toArray, List.set_cons_zero, List.set_cons_succ])
            iterate 2 (refine' t_yield _ rfl rfl rfl _ _; rotate_left; (intro w' hSw; obtain ⟨s0, s1, s2⟩ := hSw; go_simp; with_reducible rfl); simp only [Act.put, List.setIfInBounds_toArray, List.set_cons_zero, List.set_cons_succ])
            --end
            refine t_one rfl rfl (fun K hK => ?_)
            obtain ⟨c0, c1, c2, c3, c4, cf0, cf1, cf2, cf3, cf4, cz⟩ := h8.cells5 0 _ _ _ _ _ _ _ rfl
            have h9 := h8.store5 [] (.slice bT T.st.length kT) (.slice bU T.ca.length kU) (.int .i64 T.taken) (.int .i64 T.power) (.bool T.off)
            have H9 := Lib.hid h9
            clear h8 h9 H7
            go_simp
            refine hK _ _ (HSK.out _ H9.out.hB (H9.out.blk 1 _ _ rfl).1 (H9.out.blk 4 _ _ rfl).1) ?_
            clear hK
            --ordt y
            (refine' t_yield _ rfl rfl rfl _ _; rotate_left; (intro w' hSw; obtain ⟨s0, s1, s2⟩ := hSw; go_simp; with_reducible rfl); simp only [Act.put, List.setIfInBounds_toArray, List.set_cons_zero, List.set_cons_succ])
            --end
            refine t_done ?_
            go_wp2_with fail
            go_meet
            exact ⟨wz.heap.size, bT, kT, bU, kU, rfl, rfl, H9.out⟩
        case rest =>
        obtain ⟨b5, bT, kT, bU, kU, rfl, rfl, h9⟩ := hcut
        obtain ⟨g0, g1, g2, g3, g4, gf0, gf1, gf2, gf3, gf4, gz⟩ := h9.cells5 0 _ _ _ _ _ _ _ rfl
        obtain ⟨c0, c1, c2, c3, c4, cf0, cf1, cf2, cf3, cf4, cz⟩ := h9.cells5 1 _ _ _ _ _ _ _ rfl
        have h10 := (h9.store5 [_] (.slice bT T.st.length kT) (.slice bU T.ca.length kU) (.int .i64 T.taken) (.int .i64 T.power) (.bool T.off)).drop
        have H10 := Lib.hid h10
        clear h9 h10
        go_wp2
        go_roundw
        case rel =>
          refine ⟨k + 1, by omega, by go_num, bT, kT, bU, kU, ?_⟩
          rw [HN.out, ← HT.out]
          exact H10.out
        case measure => simp [intOf]; omega
      · as_aux_lemma =>
        have hkk : k = xs.length := by omega
        have HH := Lib.hid hH
        clear hH
        go_wp2_with fail
        have HSK : Hid (∀ W' : World, W'.heap[w3.heap.size]? = some (.cells #[.slice bS R.st.length kS, .slice bC R.ca.length kC, .int .i64 R.taken, .int .i64 R.power, .bool R.off] 34 (0, 0)) → W'.rangeAt w3.heap.size 0 (stL (.slice bS R.st.length kS) (.slice bC R.ca.length kC) R) ∧ True ∧ True) := fun W' h => ⟨st_row h, trivial, trivial⟩
        refine wp_region_ordZ (fun w' => w'.rangeAt w3.heap.size 0 (stL (.slice bS R.st.length kS) (.slice bC R.ca.length kC) R) ∧ True ∧ True) (OrdT.takes [0, 2] (.one 1 (.one 3 (.take 4 (.one 5 (OrdT.takes [6, 7] .done)))))) (by kernel_rfl) (by kernel_rfl) (HSK.out _ (HH.out.drew.blk 0 _ _ rfl).1) (fun wz hz => ?_)
        have h6 := HH.out.drew
        rw [← hz] at h6
        have H6 := Lib.hid h6
        clear hz h6 HH
        unfold OrdT.takes
        --ordt m
        (refine' t_move _ _ rfl rfl rfl rfl _ _; rotate_left; (go_simp; with_reducible rfl); simp only [Act.put, List.setIfInBounds_toArray, List.set_cons_zero, List.set_cons_succ])
        --end
        refine t_load w3.heap.size 0 (stL (.slice bS R.st.length kS) (.slice bC R.ca.length kC) R) _ _ _ rfl rfl rfl rfl rfl (fun w' hSw => hSw.1) Tryz.underlying34 rfl (stL_size _ _ _) ?_
        simp only [Act.put, List.setIfInBounds_toArray, List.set_cons_zero, List.set_cons_succ, stL_arr]
        refine t_one rfl rfl (fun K hK => ?_)
        go_simp
        refine (save_has H6.out (.tail _ (.head _))).mono ?_
        rintro e w7 ⟨bT, kT, bU, kU, rfl, h7⟩
        dsimp only
        refine hK _ _ (HSK.out _ (h7.blk 1 _ _ rfl).1) ?_
        clear hK
        refine t_one rfl rfl (fun K hK => ?_)
        go_simp
        refine (same_has h7 (.head _) (.tail _ (.tail _ (.tail _ (.head _))))).mono ?_
        rintro e w8 ⟨rfl, h8⟩
        dsimp only
        refine hK _ _ (HSK.out _ (h8.blk 1 _ _ rfl).1) ?_
        clear hK
        --ordt m
        (refine' t_move _ _ rfl rfl rfl rfl _ _; rotate_left; (go_simp; with_reducible rfl); simp only [Act.put, List.setIfInBounds_toArray, List.set_cons_zero, List.set_cons_succ])
        --end
        refine t_one rfl rfl (fun K hK => ?_)
        go_simp
        refine (HAW.out _ h8.hB).mono ?_
        rintro e w9 ⟨rfl, hB9⟩
        have h9 := h8.below hB9
        dsimp only
        refine hK _ _ (HSK.out _ (h9.blk 1 _ _ rfl).1) ?_
        clear hK
        unfold OrdT.takes
        --ordt yy
        iterate 2 (refine' t_yield _ rfl rfl rfl _ _; rotate_left; (intro w' hSw; obtain ⟨s0, s1, s2⟩ := hSw; go_simp; with_reducible rfl); simp only [Act.put, List.setIfInBounds_toArray, List.set_cons_zero, List.set_cons_succ])
        --end
        refine t_done ?_
        go_wp2_with fail
        go_ret
        exact ⟨rfl, h9.hB⟩
  · go_wp2_with fail
    refine (HAW.out _ H1.out.hB).mono ?_
    rintro e w2 ⟨rfl, hB2⟩
    have H2 := Lib.hid (H1.out.below hB2)
    clear hB2 H1
    go_wp2_with fail
    go_ret
    exact ⟨rfl, H2.out.hB⟩
end Go.Proofs.YtfbkfdoekgnldaaGreatDoor
