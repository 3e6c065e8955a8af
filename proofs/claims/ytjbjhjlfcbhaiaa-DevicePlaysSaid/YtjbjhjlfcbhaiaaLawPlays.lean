/- The walk of the statement DevicePlays. -/
import Derived.Test.YtjbjhjlfcbhaiaaPlayMath
namespace Go.Proofs.Ytjbjhjlfcbhaiaa
open Go.RowKit
attribute [local go_sem] Oper.semAt_some setRow_alloc_at setRow_alloc_past setRow_drew
set_option maxRecDepth 100000 in
set_option maxHeartbeats 4000000 in
theorem plays_law (n : Int) (v : Value) (l : List CallD) (w : World) (hl : CallsIn w v l) :
    Calls Try.prog 7 #[.int .i64 n, v] w fun e w' => e = .returned (.bool true) ∧ Below w.heap.size w w' := by
  have HAW := Lib.hid awake_any
  have HL := Lib.hid hl
  have hsm := law_small hl
  obtain ⟨a, cap, rfl, _⟩ := hl.hL
  clear hl
  cases hs : smallB l
  · rw [hs] at hsm
    have HSM := Lib.hid hsm
    clear hsm hs
    go_enter Try.func7, Try.ntmps7
    go_wp2_with fail
    refine HSM.out.mono ?_
    rintro e w1 ⟨rfl, hB1⟩
    go_wp2_with fail
    refine (HAW.out _).mono ?_
    rintro e w2 ⟨rfl, hB2⟩
    go_wp2_with fail
    go_ret
    exact ⟨rfl, hB1.trans (hB2.mono hB1.size)⟩
  · obtain ⟨hl1, hl2⟩ := small_spec hs
    rw [hs] at hsm
    have HSM := Lib.hid hsm
    have HL2 := Lib.hid hl2
    clear hsm hs hl2
    by_cases hn : n < 64 ∨ 256 < n
    · have HN := Lib.hid hn
      clear hn
      go_enter Try.func7, Try.ntmps7
      go_wp2_with fail
      refine HSM.out.mono ?_
      rintro e w1 ⟨rfl, hB1⟩
      go_wp2_with fail
      refine (new_none n HN.out).mono ?_
      rintro e w2 ⟨rfl, hB2⟩
      go_wp2_with fail
      refine (ref_new w2 n).mono ?_
      rintro e w3 hr
      unfold RefNewV at hr
      rw [if_pos HN.out, if_pos HN.out] at hr
      obtain ⟨vS, vC, rfl, h3⟩ := hr
      obtain ⟨aS, cS, rfl, _⟩ := (h3.ownRd (.tail _ (.head _))).shape
      obtain ⟨aC, cC, rfl, _⟩ := (h3.ownRd (.head _)).shape
      have hB3 : Below w.heap.size w w3 := (hB1.trans (hB2.mono hB1.size)).trans (h3.hB.mono (Nat.le_trans hB1.size hB2.size))
      have HB3 := Lib.hid (hB3.alloc hB3.size (.cells #[.slice aS Dv.nil.st.length cS, .slice aC Dv.nil.ca.length cC, .int .i64 Dv.nil.taken, .int .i64 Dv.nil.power, .bool Dv.nil.off] 57))
      clear h3 hB1 hB2 hB3 HSM
      unfold stCells
      go_wp2_with fail
      go_loopw [9] (fun i wr => i = .int .i64 0 ∧ Below w.heap.size w wr) (fun _ _ => 0)
      case atStart => exact ⟨rfl, HB3.out⟩
      case round =>
        obtain ⟨rfl, hB⟩ := hrel
        clear HB3
        have HB := Lib.hid hB
        clear hB
        go_wp2_with fail
        all_goals
          refine wp_region_ordT (fun w' => True ∧ True ∧ True) (OrdT.takes [0, 1, 2, 3, 5, 4, 6, 7, 8] (.one 9 (.take 10 (.take 11 .done)))) (by kernel_rfl) (by kernel_rfl) ⟨trivial, trivial, trivial⟩ ?_
          unfold OrdT.takes
          --ordt mym ssss ym
          (refine' t_move _ _ rfl rfl rfl rfl _ _; rotate_left; (go_simp; with_reducible rfl); simp only [Act.put, List.setIfInBounds_toArray, List.set_cons_zero, List.set_cons_succ])
          (refine' t_yield _ rfl rfl rfl _ _; rotate_left; (intro w' hSw; obtain ⟨s0, s1, s2⟩ := hSw; go_simp; with_reducible rfl); simp only [Act.put, List.setIfInBounds_toArray, List.set_cons_zero, List.set_cons_succ])
          (refine' t_move _ _ rfl rfl rfl rfl _ _; rotate_left; (go_simp; with_reducible rfl); simp only [Act.put, List.setIfInBounds_toArray, List.set_cons_zero, List.set_cons_succ])
          iterate 4 (refine t_skip rfl rfl rfl ?_; simp only [Act.put, List.setIfInBounds_toArray, List.set_cons_zero, List.set_cons_succ])
          (refine' t_yield _ rfl rfl rfl _ _; rotate_left; (intro w' hSw; obtain ⟨s0, s1, s2⟩ := hSw; go_simp; with_reducible rfl); simp only [Act.put, List.setIfInBounds_toArray, List.set_cons_zero, List.set_cons_succ])
          (refine' t_move _ _ rfl rfl rfl rfl _ _; rotate_left; (go_simp; with_reducible rfl); simp only [Act.put, List.setIfInBounds_toArray, List.set_cons_zero, List.set_cons_succ])
          --end
          refine t_one rfl rfl (fun K hK => ?_)
          go_simp
          refine (HAW.out _).mono ?_
          rintro e w4 ⟨rfl, hB4⟩
          dsimp only
          refine hK _ _ ⟨trivial, trivial, trivial⟩ ?_
          clear hK
          --ordt yy
          iterate 2 (refine' t_yield _ rfl rfl rfl _ _; rotate_left; (intro w' hSw; obtain ⟨s0, s1, s2⟩ := hSw; go_simp; with_reducible rfl); simp only [Act.put, List.setIfInBounds_toArray, List.set_cons_zero, List.set_cons_succ])
          --end
          refine t_done ?_
          go_wp2_with fail
          go_ret
          exact ⟨rfl, HB.out.drew.trans (hB4.mono HB.out.drew.size)⟩
    · obtain ⟨m, rfl⟩ : ∃ m : Nat, n = m := ⟨n.toNat, by omega⟩
      have h64 : 64 ≤ m := by omega
      have h256 : m ≤ 256 := by omega
      clear hn
      go_enter Try.func7, Try.ntmps7
      go_wp2_with fail
      refine HSM.out.mono ?_
      rintro e w1 ⟨rfl, hB1⟩
      go_wp2_with fail
      refine (new_has ((Has.start w).below hB1) m h64 h256).mono ?_
      rintro e w2 ⟨g, rfl, h2⟩
      go_wp2_with fail
      refine (ref_new w2 m).mono ?_
      rintro e w3 hr
      obtain ⟨bS, kS, bC, kC, rfl, h3⟩ := RefNewV.has h2 h64 h256 hr
      obtain ⟨S, hS⟩ : ∃ S, S = Dv.new m := ⟨_, rfl⟩
      rw [← hS] at h3 ⊢
      have h4 := (h3.perm (List.Perm.swap _ _ _)).alloc (.cells #[.slice bS S.st.length kS, .slice bC S.ca.length kC, .int .i64 S.taken, .int .i64 S.power, .bool S.off] 57)
      have H4 := Lib.hid h4
      clear h2 h3 h4 hr hS hB1 HSM
      go_wp2_with fail
      go_loopw [9] (fun i wr => ∃ k : Nat, k ≤ l.length ∧ i = .int .i64 (k : Int) ∧ ∃ bS kS bC kC, Has w wr [Blk _ w3.heap.size (.cells #[.slice bS (runs (l.take k) S).st.length kS, .slice bC (runs (l.take k) S).ca.length kC, .int .i64 (runs (l.take k) S).taken, .int .i64 (runs (l.take k) S).power, .bool (runs (l.take k) S).off] 57), DevR _ g (runs (l.take k) S), StR _ (.slice bS (runs (l.take k) S).st.length kS) (.slice bC (runs (l.take k) S).ca.length kC) (runs (l.take k) S)]) (fun i _ => l.length - (intOf i).toNat)
      case atStart => exact ⟨0, Nat.zero_le _, rfl, bS, kS, bC, kC, H4.out⟩
      case round =>
        obtain ⟨k, hk, rfl, bS, kS, bC, kC, hH⟩ := hrel
        clear H4
        obtain ⟨R, hR⟩ : ∃ R, R = runs (l.take k) S := ⟨_, rfl⟩
        rw [← hR] at hH
        have HR := Lib.hid hR
        clear hR
        by_cases hlt : k < l.length
        · obtain ⟨x, hx⟩ : ∃ x, l[k]? = some x := ⟨_, List.getElem?_eq_getElem hlt⟩
          obtain ⟨ba, oa, cap2, hv, _⟩ := HL.out.hL.elem callL_len k x hx
          injection hv with hv _ hcap
          subst hcap
          subst hv
          have HC : Hid (∀ W', Below w.heap.size w W' → W'.rangeAt ba (oa + k * 5) (callL x)) := fun W' hB => by
            obtain ⟨b', o', cap', hvb, r⟩ := (HL.out.hL.below hB).elem callL_len k x hx
            injection hvb with hvb _ _
            injection hvb with hvb
            injection hvb with e1 e2
            subst e1 e2
            exact r
          have HKX : Hid (RdL w 1 intL x.kv x.keep ∧ x.keep.length ≤ 1000000) := ⟨HL.out.hK x (List.mem_of_getElem? hx), by have := HL2.out x (List.mem_of_getElem? hx); omega⟩
          have HSK : Hid (∀ W', Below w.heap.size w W' → W'.heap[w3.heap.size]? = some (.cells #[.slice bS R.st.length kS, .slice bC R.ca.length kC, .int .i64 R.taken, .int .i64 R.power, .bool R.off] 57 (0, 0)) → W'.rangeAt w3.heap.size 0 (stL (.slice bS R.st.length kS) (.slice bC R.ca.length kC) R) ∧ W'.rangeAt ba (oa + k * 5) (callL x) ∧ True) := fun W' hB h =>
            ⟨st_row h, HC.out _ hB, trivial⟩
          have HN := Lib.hid (runs_take l k x hx S)
          rw [← HR.out] at HN
          have hix := fun w => run_index_call ba oa l.length cap k hlt w
          have hki : (k : Int) < (l.length : Int) := by omega
          have hu := Try.underlying57
          have hu2 := Try.underlying63
          have HH := Lib.hid hH
          obtain ⟨T, hT⟩ : ∃ T, T = x.next R := ⟨_, rfl⟩
          have HT := Lib.hid hT
          clear hx hH hT
          go_wp2_with fail
          go_upto_region 11 with fail
          go_cut [10, 11] (fun p f wx => ∃ b5 bT kT bU kU, p = .pointer (some ⟨b5, 0, none⟩) ∧ f = .bool true ∧ Has w wx (Blk _ b5 (.cells #[.slice bT T.st.length kT, .slice bU T.ca.length kU, .int .i64 T.taken, .int .i64 T.power, .bool T.off] 57) :: Blk _ w3.heap.size (.cells #[.slice bS R.st.length kS, .slice bC R.ca.length kC, .int .i64 R.taken, .int .i64 R.power, .bool R.off] 57) :: DevR _ g T :: StR _ (.slice bT T.st.length kT) (.slice bU T.ca.length kU) T :: []))
          case first =>
            refine wp_region_ordZ (fun w' => w'.rangeAt w3.heap.size 0 (stL (.slice bS R.st.length kS) (.slice bC R.ca.length kC) R) ∧ w'.rangeAt ba (oa + k * 5) (callL x) ∧ True) (OrdT.takes [0, 1, 2, 3, 4, 5] (.two 6 (OrdT.takes [7, 8, 9] (.one 10 (.one 11 (.take 12 .done)))) 10 (.one 6 (OrdT.takes [7, 8, 9] (.one 11 (.take 12 .done)))))) (by kernel_rfl) (by kernel_rfl) (HSK.out _ HH.out.drew.hB (HH.out.drew.blk 0 _ _ rfl).1) (fun wz hz => ?_)
            have h6 := HH.out.drew
            rw [← hz] at h6
            have H6 := Lib.hid h6
            clear hz h6 HH
            unfold OrdT.takes
            --ordt m
            (refine' t_move _ _ rfl rfl rfl rfl _ _; rotate_left; (go_simp; with_reducible rfl); simp only [Act.put, List.setIfInBounds_toArray, List.set_cons_zero, List.set_cons_succ])
            --end
            refine t_load w3.heap.size 0 (stL (.slice bS R.st.length kS) (.slice bC R.ca.length kC) R) _ _ _ rfl rfl rfl rfl rfl (fun w' hSw => hSw.1) hu rfl (stL_size _ _ _) ?_
            simp only [Act.put, List.setIfInBounds_toArray, List.set_cons_zero, List.set_cons_succ, stL_arr]
            --ordt mmy
            iterate 2 (refine' t_move _ _ rfl rfl rfl rfl _ _; rotate_left; (go_simp; with_reducible rfl); simp only [Act.put, List.setIfInBounds_toArray, List.set_cons_zero, List.set_cons_succ])
            (refine' t_yield _ rfl rfl rfl _ _; rotate_left; (intro w' hSw; obtain ⟨s0, s1, s2⟩ := hSw; go_simp; with_reducible rfl); simp only [Act.put, List.setIfInBounds_toArray, List.set_cons_zero, List.set_cons_succ])
            --end
            refine t_load ba (oa + k * 5) (callL x) _ _ _ rfl rfl rfl rfl rfl (fun w' hSw => hSw.2.1) hu2 rfl (callL_size x) ?_
            simp only [Act.put, List.setIfInBounds_toArray, List.set_cons_zero, List.set_cons_succ, callL_arr]
            refine t_two rfl rfl rfl rfl (fun K hK => ?_) (fun K hK => ?_)
            · go_simp
              refine (do_mid [_] H6.out x HKX.out.1 HKX.out.2).mono ?_
              rintro e w7 ⟨bT, kT, bU, kU, rfl, h7⟩
              rw [← HT.out] at h7 ⊢
              dsimp only
              refine hK _ _ (HSK.out _ h7.hB (h7.blk 0 _ _ rfl).1) ?_
              clear hK
              unfold OrdT.takes
              --ordt m yy
              (refine' t_move _ _ rfl rfl rfl rfl _ _; rotate_left; (go_simp; with_reducible rfl); simp only [Act.put, List.setIfInBounds_toArray, List.set_cons_zero, List.set_cons_succ])
              iterate 2 (refine' t_yield _ rfl rfl rfl _ _; rotate_left; (intro w' hSw; obtain ⟨s0, s1, s2⟩ := hSw; go_simp; with_reducible rfl); simp only [Act.put, List.setIfInBounds_toArray, List.set_cons_zero, List.set_cons_succ])
              --end
              refine t_one rfl rfl (fun K hK => ?_)
              go_simp
              have h8 := h7.alloc (.cells #[.slice none 0 0, .slice none 0 0, .int .i64 0, .int .i64 0, .bool false] 57)
              have h9 := h7.alloc (.cells #[.slice bT T.st.length kT, .slice bU T.ca.length kU, .int .i64 T.taken, .int .i64 T.power, .bool T.off] 57)
              refine hK _ _ (HSK.out _ h8.hB (h8.blk 1 _ _ rfl).1) ?_
              clear hK
              have H9 := Lib.hid h9
              clear h7 h8 h9 H6
              refine t_one rfl rfl (fun K hK => ?_)
              go_simp
              refine hK _ _ (HSK.out _ H9.out.hB (H9.out.blk 1 _ _ rfl).1) ?_
              clear hK
              --ordt y
              (refine' t_yield _ rfl rfl rfl _ _; rotate_left; (intro w' hSw; obtain ⟨s0, s1, s2⟩ := hSw; go_simp; with_reducible rfl); simp only [Act.put, List.setIfInBounds_toArray, List.set_cons_zero, List.set_cons_succ])
              --end
              refine t_done ?_
              go_wp2_with fail
              go_meet
              exact ⟨w7.heap.size, bT, kT, bU, kU, rfl, rfl, H9.out⟩
            · have h7 := H6.out.alloc (.cells #[.slice none 0 0, .slice none 0 0, .int .i64 0, .int .i64 0, .bool false] 57)
              go_simp
              refine hK _ _ (HSK.out _ h7.hB (h7.blk 1 _ _ rfl).1) ?_
              clear hK
              have H7 := Lib.hid h7
              clear h7 H6
              refine t_one rfl rfl (fun K hK => ?_)
              go_simp
              refine (do_mid [_, _] H7.out x HKX.out.1 HKX.out.2).mono ?_
              rintro e w8 ⟨bT, kT, bU, kU, rfl, h8⟩
              rw [← HT.out] at h8 ⊢
              dsimp only
              refine hK _ _ (HSK.out _ h8.hB (h8.blk 1 _ _ rfl).1) ?_
              clear hK
              unfold OrdT.takes
              --ordt m yy
              (refine' t_move _ _ rfl rfl rfl rfl _ _; rotate_left; (go_simp; with_reducible rfl); simp only [Act.put, List.setIfInBounds_toArray, List.set_cons_zero, List.set_cons_succ])
              iterate 2 (refine' t_yield _ rfl rfl rfl _ _; rotate_left; (intro w' hSw; obtain ⟨s0, s1, s2⟩ := hSw; go_simp; with_reducible rfl); simp only [Act.put, List.setIfInBounds_toArray, List.set_cons_zero, List.set_cons_succ])
              --end
              refine t_one rfl rfl (fun K hK => ?_)
              have c0 := h8.cell 0 _ _ _ rfl 0 _ rfl
              have c1 := h8.cell 0 _ _ _ rfl 1 _ rfl
              have c2 := h8.cell 0 _ _ _ rfl 2 _ rfl
              have c3 := h8.cell 0 _ _ _ rfl 3 _ rfl
              have c4 := h8.cell 0 _ _ _ rfl 4 _ rfl
              have f0 := h8.frozen 0 _ _ _ rfl 0
              have f1 := h8.frozen 0 _ _ _ rfl 1
              have f2 := h8.frozen 0 _ _ _ rfl 2
              have f3 := h8.frozen 0 _ _ _ rfl 3
              have f4 := h8.frozen 0 _ _ _ rfl 4
              have h9 := h8.store5 [] (.slice bT T.st.length kT) (.slice bU T.ca.length kU) (.int .i64 T.taken) (.int .i64 T.power) (.bool T.off)
              have H9 := Lib.hid h9
              clear h8 h9 H7
              go_simp
              refine hK _ _ (HSK.out _ H9.out.hB (H9.out.blk 1 _ _ rfl).1) ?_
              clear hK
              --ordt y
              (refine' t_yield _ rfl rfl rfl _ _; rotate_left; (intro w' hSw; obtain ⟨s0, s1, s2⟩ := hSw; go_simp; with_reducible rfl); simp only [Act.put, List.setIfInBounds_toArray, List.set_cons_zero, List.set_cons_succ])
              --end
              refine t_done ?_
              go_wp2_with fail
              go_meet
              exact ⟨wz.heap.size, bT, kT, bU, kU, rfl, rfl, H9.out⟩
          case rest =>
            obtain ⟨b5, bT, kT, bU, kU, rfl, rfl, h9⟩ := hcut
            have g0 := h9.cell 0 _ _ _ rfl 0 _ rfl
            have g1 := h9.cell 0 _ _ _ rfl 1 _ rfl
            have g2 := h9.cell 0 _ _ _ rfl 2 _ rfl
            have g3 := h9.cell 0 _ _ _ rfl 3 _ rfl
            have g4 := h9.cell 0 _ _ _ rfl 4 _ rfl
            have c0 := h9.cell 1 _ _ _ rfl 0 _ rfl
            have c1 := h9.cell 1 _ _ _ rfl 1 _ rfl
            have c2 := h9.cell 1 _ _ _ rfl 2 _ rfl
            have c3 := h9.cell 1 _ _ _ rfl 3 _ rfl
            have c4 := h9.cell 1 _ _ _ rfl 4 _ rfl
            have f0 := h9.frozen 1 _ _ _ rfl 0
            have f1 := h9.frozen 1 _ _ _ rfl 1
            have f2 := h9.frozen 1 _ _ _ rfl 2
            have f3 := h9.frozen 1 _ _ _ rfl 3
            have f4 := h9.frozen 1 _ _ _ rfl 4
            have h10 := (h9.store5 [_] (.slice bT T.st.length kT) (.slice bU T.ca.length kU) (.int .i64 T.taken) (.int .i64 T.power) (.bool T.off)).drop
            have H10 := Lib.hid h10
            clear h9 h10
            go_wp2
            go_roundw
            case rel =>
              refine ⟨k + 1, by omega, by go_num, bT, kT, bU, kU, ?_⟩
              rw [HN.out, ← HT.out]
              exact H10.out
            case measure => simp [intOf]; omega
        · have hkk : k = l.length := by omega
          have hh := hH.drew
          have HH := Lib.hid hH
          clear hH hh
          go_wp2_with fail
          have hu := Try.underlying57
          have HSK : Hid (∀ W' : World, W'.heap[w3.heap.size]? = some (.cells #[.slice bS R.st.length kS, .slice bC R.ca.length kC, .int .i64 R.taken, .int .i64 R.power, .bool R.off] 57 (0, 0)) → W'.rangeAt w3.heap.size 0 (stL (.slice bS R.st.length kS) (.slice bC R.ca.length kC) R) ∧ True ∧ True) := fun W' h => ⟨st_row h, trivial, trivial⟩
          refine wp_region_ordZ (fun w' => w'.rangeAt w3.heap.size 0 (stL (.slice bS R.st.length kS) (.slice bC R.ca.length kC) R) ∧ True ∧ True) (OrdT.takes [0, 1, 2, 3, 5] (.one 4 (.one 6 (OrdT.takes [7, 8] (.one 9 (.take 10 (.take 11 .done))))))) (by kernel_rfl) (by kernel_rfl) (HSK.out _ (HH.out.drew.blk 0 _ _ rfl).1) (fun wz hz => ?_)
          have h6 := HH.out.drew
          rw [← hz] at h6
          have H6 := Lib.hid h6
          clear hz h6 HH
          unfold OrdT.takes
          --ordt mymm
          (refine' t_move _ _ rfl rfl rfl rfl _ _; rotate_left; (go_simp; with_reducible rfl); simp only [Act.put, List.setIfInBounds_toArray, List.set_cons_zero, List.set_cons_succ])
          (refine' t_yield _ rfl rfl rfl _ _; rotate_left; (intro w' hSw; obtain ⟨s0, s1, s2⟩ := hSw; go_simp; with_reducible rfl); simp only [Act.put, List.setIfInBounds_toArray, List.set_cons_zero, List.set_cons_succ])
          iterate 2 (refine' t_move _ _ rfl rfl rfl rfl _ _; rotate_left; (go_simp; with_reducible rfl); simp only [Act.put, List.setIfInBounds_toArray, List.set_cons_zero, List.set_cons_succ])
          --end
          refine t_load w3.heap.size 0 (stL (.slice bS R.st.length kS) (.slice bC R.ca.length kC) R) _ _ _ rfl rfl rfl rfl rfl (fun w' hSw => hSw.1) hu rfl (stL_size _ _ _) ?_
          simp only [Act.put, List.setIfInBounds_toArray, List.set_cons_zero, List.set_cons_succ, stL_arr]
          refine t_one rfl rfl (fun K hK => ?_)
          go_simp
          refine (save_has H6.out (.tail _ (.head _))).mono ?_
          rintro e w7 ⟨bT, kT, bU, kU, rfl, h7⟩
          dsimp only
          refine hK _ _ (HSK.out _ (h7.blk 1 _ _ rfl).1) ?_
          clear hK
          refine t_one rfl rfl (fun K hK => ?_)
          go_simp
          refine (same_has h7 (.head _) (.tail _ (.tail _ (.tail _ (.head _))))).mono ?_
          rintro e w8 ⟨rfl, h8⟩
          dsimp only
          refine hK _ _ (HSK.out _ (h8.blk 1 _ _ rfl).1) ?_
          clear hK
          unfold OrdT.takes
          --ordt ym
          (refine' t_yield _ rfl rfl rfl _ _; rotate_left; (intro w' hSw; obtain ⟨s0, s1, s2⟩ := hSw; go_simp; with_reducible rfl); simp only [Act.put, List.setIfInBounds_toArray, List.set_cons_zero, List.set_cons_succ])
          (refine' t_move _ _ rfl rfl rfl rfl _ _; rotate_left; (go_simp; with_reducible rfl); simp only [Act.put, List.setIfInBounds_toArray, List.set_cons_zero, List.set_cons_succ])
          --end
          refine t_one rfl rfl (fun K hK => ?_)
          go_simp
          refine (HAW.out _).mono ?_
          rintro e w9 ⟨rfl, hB9⟩
          have h9 := h8.below hB9
          dsimp only
          refine hK _ _ (HSK.out _ (h9.blk 1 _ _ rfl).1) ?_
          clear hK
          --ordt yy
          iterate 2 (refine' t_yield _ rfl rfl rfl _ _; rotate_left; (intro w' hSw; obtain ⟨s0, s1, s2⟩ := hSw; go_simp; with_reducible rfl); simp only [Act.put, List.setIfInBounds_toArray, List.set_cons_zero, List.set_cons_succ])
          --end
          refine t_done ?_
          go_wp2_with fail
          go_ret
          exact ⟨rfl, h9.hB⟩
end Go.Proofs.Ytjbjhjlfcbhaiaa
