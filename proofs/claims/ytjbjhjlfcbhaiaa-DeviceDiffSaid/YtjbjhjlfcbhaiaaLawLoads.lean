/- The walk of the statement DeviceLoads. -/
import Derived.Test.YtjbjhjlfcbhaiaaPlayMath
import Derived.Test.YtjbjhjlfcbhaiaaRefChk
import Derived.Test.YtjbjhjlfcbhaiaaOpenSt
namespace Go.Proofs.Ytjbjhjlfcbhaiaa
open Go.RowKit
attribute [local go_sem] Oper.semAt_some setRow_alloc_at setRow_alloc_past setRow_drew
theorem perm5 {α : Type} (a b c d e : α) : [a, b, c, d, e].Perm [e, a, d, b, c] :=
  (List.perm_middle (l₁ := [a, b, c, d]) (l₂ := [])).trans (List.Perm.cons _ (List.Perm.cons _ (List.perm_middle (l₁ := [b, c]) (l₂ := []))))
theorem copy_has {w W : World} {rs : List (Res w.heap.size)} {S : Dv} {uS uC : Value} (h : Has w W rs) (hr : StR _ uS uC S ∈ rs) :
    Calls Try.prog 31 #[.agg #[uS, uC, .int .i64 S.taken, .int .i64 S.power, .bool S.off]] W fun e W' => ∃ bS kS bC kC, e = .returned (.agg #[.slice bS S.st.length kS, .slice bC S.ca.length kC, .int .i64 S.taken, .int .i64 S.power, .bool S.off]) ∧ Has w W' (StR _ (.slice bS S.st.length kS) (.slice bC S.ca.length kC) S :: rs) := by
  have hin := h.st hr
  refine (ref_copy hin).mono ?_
  intro e W' hn
  obtain ⟨vS, vC, rfl, hin2, k1, k2, hB⟩ := hn.st hin.l1 hin.l2
  have hres : StRes W Dv.nil (.slice none 0 0) (.slice none 0 0) S 0 (.returned (.tuple #[.agg (stCells vS vC S), .int .i64 0])) W' :=
    ⟨vS, vC, rfl, hin2, fun k hk => .inr (by rcases List.mem_append.1 hk with hk | hk; exact k1 k (blksL_sub _ _ k hk); exact k2 k (blksL_sub _ _ k hk)), hB⟩
  obtain ⟨bS, kS, bC, kC, he, h'⟩ := (h.addSt (nil_in w)).stMid [] hres
  injection he with he
  injection he with he
  simp only [Array.mk.injEq, List.cons.injEq, and_true, Value.agg.injEq] at he
  exact ⟨bS, kS, bC, kC, by rw [he], h'⟩
/-- Load of a state of the walk -/
theorem load_has {w W : World} {rs : List (Res w.heap.size)} {S : Dv} {uS uC : Value} (h : Has w W rs) (hr : StR _ uS uC S ∈ rs) (l1 : S.st.length ≤ 1000) (l2 : S.ca.length ≤ 1000) :
    Calls Try.prog 32 #[.agg #[uS, uC, .int .i64 S.taken, .int .i64 S.power, .bool S.off]] W fun e W' => (S.checkE ≠ 0 ∧ e = .returned (.tuple #[.pointer none, .int .i64 S.checkE]) ∧ Has w W' rs) ∨ (S.checkE = 0 ∧ ∃ g, e = .returned (.tuple #[pv g, .int .i64 0]) ∧ Has w W' (DevR _ g S :: rs)) := by
  have hin := h.st hr
  refine (load_any hin.hS hin.hC l1 l2).mono ?_
  rintro e W' ⟨⟨h0, rfl⟩ | ⟨h0, g, F, rfl, hD, hF⟩, hB⟩
  · exact .inl ⟨h0, rfl, h.below hB⟩
  · exact .inr ⟨h0, g, rfl, h.more hB (DevR _ g S) F hD hF⟩
theorem check_has {w W : World} {rs : List (Res w.heap.size)} {S : Dv} {uS uC : Value} (h : Has w W rs) (hr : StR _ uS uC S ∈ rs) :
    Calls Try.prog 33 #[.agg #[uS, uC, .int .i64 S.taken, .int .i64 S.power, .bool S.off]] W fun e W' => e = .returned (.int .i64 S.checkE) ∧ Has w W' rs :=
  (ref_check (h.st hr)).mono fun _ _ ⟨he, hB⟩ => ⟨he, h.below hB⟩
set_option maxRecDepth 100000 in
set_option maxHeartbeats 8000000 in
theorem loads_law (sv v uS uC : Value) (S : Dv) (l : List CallD) (w : World) (hs : StArg w sv S uS uC) (hl : CallsIn w v l) :
    Calls Try.prog 8 #[sv, v] w fun e w' => e = .returned (.bool true) ∧ Below w.heap.size w w' := by
  have HAW := Lib.hid awake_any
  have HL := Lib.hid hl
  obtain ⟨rfl, hS, hC, b1, b2⟩ := hs
  have hS' := hS
  have hC' := hC
  obtain ⟨aS, cS, rfl, -⟩ := hS'
  obtain ⟨aC, cC, rfl, -⟩ := hC'
  unfold stCells
  have hb := (Has.start w).alloc (.cells #[.slice aS S.st.length cS, .slice aC S.ca.length cC, .int .i64 S.taken, .int .i64 S.power, .bool S.off] 57)
  have hsm := law_small (hl.below hb.hB)
  have hlen := hl.len
  obtain ⟨a, cap, rfl, -⟩ := hl.hL
  have HB := Lib.hid hb
  clear hl hb
  by_cases q0 : 300 < (S.st.length : Int)
  · clear hsm
    go_enter Try.func8, Try.ntmps8
    go_wp2_with fail
    refine (HAW.out _).mono ?_
    rintro e w9 ⟨rfl, hB9⟩
    go_wp2_with fail
    go_ret
    exact ⟨rfl, HB.out.hB.trans (hB9.mono HB.out.hB.size)⟩
  by_cases q1 : 500 < (S.ca.length : Int)
  · clear hsm
    go_enter Try.func8, Try.ntmps8
    go_wp2_with fail
    refine (HAW.out _).mono ?_
    rintro e w9 ⟨rfl, hB9⟩
    go_wp2_with fail
    go_ret
    exact ⟨rfl, HB.out.hB.trans (hB9.mono HB.out.hB.size)⟩
  cases hs : smallB l
  · rw [hs] at hsm
    have HSM := Lib.hid hsm
    clear hsm hs
    go_enter Try.func8, Try.ntmps8
    go_wp2_with fail
    refine HSM.out.mono ?_
    rintro e w1 ⟨rfl, hB1⟩
    have h1 := HB.out.below hB1
    go_wp2_with fail
    refine (HAW.out _).mono ?_
    rintro e w9 ⟨rfl, hB9⟩
    go_wp2_with fail
    go_ret
    exact ⟨rfl, h1.hB.trans (hB9.mono h1.hB.size)⟩
  obtain ⟨hl1, hl2⟩ := small_spec hs
  rw [hs] at hsm
  have HSM := Lib.hid hsm
  have HL2 := Lib.hid hl2
  clear hsm hs hl2
  by_cases q2 : 30 < (l.length : Int)
  · go_enter Try.func8, Try.ntmps8
    go_wp2_with fail
    refine HSM.out.mono ?_
    rintro e w1 ⟨rfl, hB1⟩
    have h1 := HB.out.below hB1
    go_wp2_with fail
    refine (HAW.out _).mono ?_
    rintro e w9 ⟨rfl, hB9⟩
    go_wp2_with fail
    go_ret
    exact ⟨rfl, h1.hB.trans (hB9.mono h1.hB.size)⟩
  have hin : StIn w S (.slice aS S.st.length cS) (.slice aC S.ca.length cC) := ⟨hS, hC, by omega, by omega⟩
  have HIN := Lib.hid hin
  clear hin hS hC
  go_enter Try.func8, Try.ntmps8
  go_wp2_with fail
  refine HSM.out.mono ?_
  rintro e w1 ⟨rfl, hB1⟩
  have h1 := (HB.out.below hB1).addSt HIN.out
  have c0 := h1.cell 1 _ _ _ rfl 0 _ rfl
  have c1 := h1.cell 1 _ _ _ rfl 1 _ rfl
  have c2 := h1.cell 1 _ _ _ rfl 2 _ rfl
  have c3 := h1.cell 1 _ _ _ rfl 3 _ rfl
  have c4 := h1.cell 1 _ _ _ rfl 4 _ rfl
  have H1 := Lib.hid h1
  clear h1 HB HSM
  go_wp2_with fail
  refine (copy_has H1.out (.head _)).mono ?_
  rintro e w3 ⟨dS, eS, dC, eC, rfl, h3⟩
  have h4 := h3.alloc (.cells #[.slice dS S.st.length eS, .slice dC S.ca.length eC, .int .i64 S.taken, .int .i64 S.power, .bool S.off] 57)
  clear c0 c1 c2 c3 c4 H1
  have c0 := h3.cell 2 _ _ _ rfl 0 _ rfl
  have c1 := h3.cell 2 _ _ _ rfl 1 _ rfl
  have c2 := h3.cell 2 _ _ _ rfl 2 _ rfl
  have c3 := h3.cell 2 _ _ _ rfl 3 _ rfl
  have c4 := h3.cell 2 _ _ _ rfl 4 _ rfl
  have hsz : w.heap.size < w3.heap.size := block_lt_of_cell c0
  have H4 := Lib.hid h4
  clear h3 h4
  go_wp2_with fail
  refine (load_has H4.out (.tail _ (.tail _ (.head _))) (by omega) (by omega)).mono ?_
  rintro e w5 (⟨he0, rfl, h5⟩ | ⟨he0, g, rfl, h5⟩)
  · clear c0 c1 c2 c3 c4 H4
    have c0 := h5.cell 3 _ _ _ rfl 0 _ rfl
    have c1 := h5.cell 3 _ _ _ rfl 1 _ rfl
    have c2 := h5.cell 3 _ _ _ rfl 2 _ rfl
    have c3 := h5.cell 3 _ _ _ rfl 3 _ rfl
    have c4 := h5.cell 3 _ _ _ rfl 4 _ rfl
    have H5 := Lib.hid h5
    obtain ⟨E, hE⟩ : ∃ E, E = S.checkE := ⟨_, rfl⟩
    have hck := check_has h5 (.tail _ (.tail _ (.head _)))
    rw [← hE] at he0 hck ⊢
    have HCK := Lib.hid hck
    have he1 : (E == 0) = false := by simpa using he0
    have he2 : (E != 0) = true := by simpa using he0
    clear h5 hE hck he0
    go_wp2_with fail
    refine HCK.out.mono ?_
    rintro e w6 ⟨rfl, h6⟩
    have H6 := Lib.hid h6
    clear h6 H5 HCK c0 c1 c2 c3 c4
    by_cases z : 0 < (l.length : Int)
    · go_wp2_with fail
      go_loopw [8] (fun i wr => i = .int .i64 0 ∧ Below w.heap.size w wr) (fun _ _ => 0)
      case atStart => exact ⟨rfl, H6.out.hB⟩
      case round =>
        obtain ⟨rfl, hB⟩ := hrel
        have HB := Lib.hid hB
        clear hB H6
        go_wp2_with fail
        refine wp_region_ordT (fun w' => True ∧ True ∧ True) (OrdT.takes [0, 1, 2, 3, 5, 4, 6, 7, 8] .done) (by kernel_rfl) (by kernel_rfl) ⟨trivial, trivial, trivial⟩ ?_
        unfold OrdT.takes
        --ordt mym sssss y
        (refine' t_move _ _ rfl rfl rfl rfl _ _; rotate_left; (go_simp; with_reducible rfl); simp only [Act.put, List.setIfInBounds_toArray, List.set_cons_zero, List.set_cons_succ])
        (refine' t_yield _ rfl rfl rfl _ _; rotate_left; (intro w' hSw; obtain ⟨s0, s1, s2⟩ := hSw; go_simp; with_reducible rfl); simp only [Act.put, List.setIfInBounds_toArray, List.set_cons_zero, List.set_cons_succ])
        (refine' t_move _ _ rfl rfl rfl rfl _ _; rotate_left; (go_simp; with_reducible rfl); simp only [Act.put, List.setIfInBounds_toArray, List.set_cons_zero, List.set_cons_succ])
        iterate 5 (refine t_skip rfl rfl rfl ?_; simp only [Act.put, List.setIfInBounds_toArray, List.set_cons_zero, List.set_cons_succ])
        (refine' t_yield _ rfl rfl rfl _ _; rotate_left; (intro w' hSw; obtain ⟨s0, s1, s2⟩ := hSw; go_simp; with_reducible rfl); simp only [Act.put, List.setIfInBounds_toArray, List.set_cons_zero, List.set_cons_succ])
        --end
        refine t_done ?_
        go_wp2_with fail
        refine (HAW.out _).mono ?_
        rintro e w9 ⟨rfl, hB9⟩
        go_wp2_with fail
        go_ret
        exact ⟨rfl, HB.out.drew.trans (hB9.mono HB.out.drew.size)⟩
    · go_wp2_with fail
      go_loopw [8] (fun i wr => i = .int .i64 0 ∧ Has w wr [Blk _ w3.heap.size (.cells #[.slice dS S.st.length eS, .slice dC S.ca.length eC, .int .i64 S.taken, .int .i64 S.power, .bool S.off] 57), StR _ (.slice dS S.st.length eS) (.slice dC S.ca.length eC) S, StR _ (.slice aS S.st.length cS) (.slice aC S.ca.length cC) S, Blk _ w.heap.size (.cells #[.slice aS S.st.length cS, .slice aC S.ca.length cC, .int .i64 S.taken, .int .i64 S.power, .bool S.off] 57)]) (fun _ _ => 0)
      case atStart => exact ⟨rfl, H6.out⟩
      case round =>
        obtain ⟨rfl, hH⟩ := hrel
        have HH := Lib.hid hH
        clear hH H6
        go_wp2_with fail
        refine wp_region_ordZ (fun w' => True ∧ True ∧ True) (OrdT.takes [0, 1, 2, 3, 5, 4, 6, 7, 8] .done) (by kernel_rfl) (by kernel_rfl) ⟨trivial, trivial, trivial⟩ (fun wz hz => ?_)
        have h6 := HH.out.drew
        rw [← hz] at h6
        clear hz HH
        unfold OrdT.takes
        --ordt mym sssss y
        (refine' t_move _ _ rfl rfl rfl rfl _ _; rotate_left; (go_simp; with_reducible rfl); simp only [Act.put, List.setIfInBounds_toArray, List.set_cons_zero, List.set_cons_succ])
        (refine' t_yield _ rfl rfl rfl _ _; rotate_left; (intro w' hSw; obtain ⟨s0, s1, s2⟩ := hSw; go_simp; with_reducible rfl); simp only [Act.put, List.setIfInBounds_toArray, List.set_cons_zero, List.set_cons_succ])
        (refine' t_move _ _ rfl rfl rfl rfl _ _; rotate_left; (go_simp; with_reducible rfl); simp only [Act.put, List.setIfInBounds_toArray, List.set_cons_zero, List.set_cons_succ])
        iterate 5 (refine t_skip rfl rfl rfl ?_; simp only [Act.put, List.setIfInBounds_toArray, List.set_cons_zero, List.set_cons_succ])
        (refine' t_yield _ rfl rfl rfl _ _; rotate_left; (intro w' hSw; obtain ⟨s0, s1, s2⟩ := hSw; go_simp; with_reducible rfl); simp only [Act.put, List.setIfInBounds_toArray, List.set_cons_zero, List.set_cons_succ])
        --end
        refine t_done ?_
        have c0 := h6.cell 3 _ _ _ rfl 0 _ rfl
        have c1 := h6.cell 3 _ _ _ rfl 1 _ rfl
        have c2 := h6.cell 3 _ _ _ rfl 2 _ rfl
        have c3 := h6.cell 3 _ _ _ rfl 3 _ rfl
        have c4 := h6.cell 3 _ _ _ rfl 4 _ rfl
        have d0 := h6.cell 0 _ _ _ rfl 0 _ rfl
        have d1 := h6.cell 0 _ _ _ rfl 1 _ rfl
        have d2 := h6.cell 0 _ _ _ rfl 2 _ rfl
        have d3 := h6.cell 0 _ _ _ rfl 3 _ rfl
        have d4 := h6.cell 0 _ _ _ rfl 4 _ rfl
        have H7 := Lib.hid h6
        clear h6
        go_wp2_with fail
        refine (same_has H7.out (.tail _ (.tail _ (.head _))) (.tail _ (.head _))).mono ?_
        rintro e w8 ⟨rfl, h8⟩
        clear c0 c1 c2 c3 c4 d0 d1 d2 d3 d4
        go_wp2_with fail
        refine (HAW.out _).mono ?_
        rintro e w9 ⟨rfl, hB9⟩
        go_wp2_with fail
        go_ret
        exact ⟨rfl, h8.hB.trans (hB9.mono h8.hB.size)⟩
  · clear c0 c1 c2 c3 c4 H4
    have c0 := h5.cell 4 _ _ _ rfl 0 _ rfl
    have c1 := h5.cell 4 _ _ _ rfl 1 _ rfl
    have c2 := h5.cell 4 _ _ _ rfl 2 _ rfl
    have c3 := h5.cell 4 _ _ _ rfl 3 _ rfl
    have c4 := h5.cell 4 _ _ _ rfl 4 _ rfl
    have H5 := Lib.hid h5
    have hck := check_has h5 (.tail _ (.tail _ (.tail _ (.head _))))
    rw [he0] at hck
    have HCK := Lib.hid hck
    clear h5 hck he0
    go_wp2_with fail
    refine HCK.out.mono ?_
    rintro e w6 ⟨rfl, h6⟩
    have H6 := Lib.hid h6
    clear h6 H5 HCK c0 c1 c2 c3 c4
    have h7 := H6.out.perm (perm5 _ _ _ _ _)
    have H4 := Lib.hid h7
    clear h7 H6
    have hu := Try.underlying57
    go_wp2_with fail
    go_loopw [8] (fun i wr => ∃ k : Nat, k ≤ l.length ∧ i = .int .i64 (k : Int) ∧ ∃ bS kS bC kC, Has w wr [Blk _ w.heap.size (.cells #[.slice bS (runs (l.take k) S).st.length kS, .slice bC (runs (l.take k) S).ca.length kC, .int .i64 (runs (l.take k) S).taken, .int .i64 (runs (l.take k) S).power, .bool (runs (l.take k) S).off] 57), DevR _ g (runs (l.take k) S), StR _ (.slice bS (runs (l.take k) S).st.length kS) (.slice bC (runs (l.take k) S).ca.length kC) (runs (l.take k) S), Blk _ w3.heap.size (.cells #[.slice dS S.st.length eS, .slice dC S.ca.length eC, .int .i64 S.taken, .int .i64 S.power, .bool S.off] 57), StR _ (.slice dS S.st.length eS) (.slice dC S.ca.length eC) S]) (fun i _ => l.length - (intOf i).toNat)
    case atStart => exact ⟨0, Nat.zero_le _, rfl, aS, cS, aC, cC, H4.out⟩
    case round =>
      obtain ⟨k, hk, rfl, bS, kS, bC, kC, hH⟩ := hrel
      clear H4
      obtain ⟨R, hR⟩ : ∃ R, R = runs (l.take k) S := ⟨_, rfl⟩
      rw [← hR] at hH
      have HR := Lib.hid hR
      clear hR
      by_cases hlt : k < l.length
      · obtain ⟨x, hx⟩ : ∃ x, l[k]? = some x := ⟨_, List.getElem?_eq_getElem hlt⟩
        obtain ⟨ba, oa, cap2, hv, _⟩ := HL.out.hL.elem callL_len k x hx
        injection hv with hv _ hcap
        subst hcap
        subst hv
        have HC : Hid (∀ W', Below w.heap.size w W' → W'.rangeAt ba (oa + k * 5) (callL x)) := fun W' hB => by
          obtain ⟨b', o', cap', hvb, r⟩ := (HL.out.hL.below hB).elem callL_len k x hx
          injection hvb with hvb _ _
          injection hvb with hvb
          injection hvb with e1 e2
          subst e1 e2
          exact r
        have HKX : Hid (RdL w 1 intL x.kv x.keep ∧ x.keep.length ≤ 1000000) := ⟨HL.out.hK x (List.mem_of_getElem? hx), by have := HL2.out x (List.mem_of_getElem? hx); omega⟩
        have HSK : Hid (∀ W', Below w.heap.size w W' → W'.heap[w.heap.size]? = some (.cells #[.slice bS R.st.length kS, .slice bC R.ca.length kC, .int .i64 R.taken, .int .i64 R.power, .bool R.off] 57 (0, 0)) → W'.rangeAt w.heap.size 0 (stL (.slice bS R.st.length kS) (.slice bC R.ca.length kC) R) ∧ W'.rangeAt ba (oa + k * 5) (callL x) ∧ True) := fun W' hB h =>
          ⟨st_row h, HC.out _ hB, trivial⟩
        have HN := Lib.hid (runs_take l k x hx S)
        rw [← HR.out] at HN
        have hix := fun w => run_index_call ba oa l.length cap k hlt w
        have hki : (k : Int) < (l.length : Int) := by omega
        have hu := Try.underlying57
        have hu2 := Try.underlying63
        have HH := Lib.hid hH
        obtain ⟨T, hT⟩ : ∃ T, T = x.next R := ⟨_, rfl⟩
        have HT := Lib.hid hT
        clear hx hH hT
        go_wp2_with fail
        go_upto_region 11 with fail
        go_cut [9, 10] (fun p f wx => ∃ b5 bT kT bU kU, p = .pointer (some ⟨b5, 0, none⟩) ∧ f = .bool true ∧ Has w wx (Blk _ b5 (.cells #[.slice bT T.st.length kT, .slice bU T.ca.length kU, .int .i64 T.taken, .int .i64 T.power, .bool T.off] 57) :: Blk _ w.heap.size (.cells #[.slice bS R.st.length kS, .slice bC R.ca.length kC, .int .i64 R.taken, .int .i64 R.power, .bool R.off] 57) :: DevR _ g T :: StR _ (.slice bT T.st.length kT) (.slice bU T.ca.length kU) T :: [Blk _ w3.heap.size (.cells #[.slice dS S.st.length eS, .slice dC S.ca.length eC, .int .i64 S.taken, .int .i64 S.power, .bool S.off] 57), StR _ (.slice dS S.st.length eS) (.slice dC S.ca.length eC) S]))
        case first =>
          refine wp_region_ordZ (fun w' => w'.rangeAt w.heap.size 0 (stL (.slice bS R.st.length kS) (.slice bC R.ca.length kC) R) ∧ w'.rangeAt ba (oa + k * 5) (callL x) ∧ True) (OrdT.takes [0, 1, 2, 3, 4, 5] (.two 6 (OrdT.takes [7, 8, 9] (.one 10 (.one 11 (.take 12 .done)))) 10 (.one 6 (OrdT.takes [7, 8, 9] (.one 11 (.take 12 .done)))))) (by kernel_rfl) (by kernel_rfl) (HSK.out _ HH.out.drew.hB (HH.out.drew.blk 0 _ _ rfl).1) (fun wz hz => ?_)
          have h6 := HH.out.drew
          rw [← hz] at h6
          have H6 := Lib.hid h6
          clear hz h6 HH
          unfold OrdT.takes
          --ordt m
          (refine' t_move _ _ rfl rfl rfl rfl _ _; rotate_left; (go_simp; with_reducible rfl); simp only [Act.put, List.setIfInBounds_toArray, List.set_cons_zero, List.set_cons_succ])
          --end
          refine t_load w.heap.size 0 (stL (.slice bS R.st.length kS) (.slice bC R.ca.length kC) R) _ _ _ rfl rfl rfl rfl rfl (fun w' hSw => hSw.1) hu rfl (stL_size _ _ _) ?_
          simp only [Act.put, List.setIfInBounds_toArray, List.set_cons_zero, List.set_cons_succ, stL_arr]
          --ordt mmy
          iterate 2 (refine' t_move _ _ rfl rfl rfl rfl _ _; rotate_left; (go_simp; with_reducible rfl); simp only [Act.put, List.setIfInBounds_toArray, List.set_cons_zero, List.set_cons_succ])
          (refine' t_yield _ rfl rfl rfl _ _; rotate_left; (intro w' hSw; obtain ⟨s0, s1, s2⟩ := hSw; go_simp; with_reducible rfl); simp only [Act.put, List.setIfInBounds_toArray, List.set_cons_zero, List.set_cons_succ])
          --end
          refine t_load ba (oa + k * 5) (callL x) _ _ _ rfl rfl rfl rfl rfl (fun w' hSw => hSw.2.1) hu2 rfl (callL_size x) ?_
          simp only [Act.put, List.setIfInBounds_toArray, List.set_cons_zero, List.set_cons_succ, callL_arr]
          refine t_two rfl rfl rfl rfl (fun K hK => ?_) (fun K hK => ?_)
          · go_simp
            refine (do_mid [_] H6.out x HKX.out.1 HKX.out.2).mono ?_
            rintro e w7 ⟨bT, kT, bU, kU, rfl, h7⟩
            rw [← HT.out] at h7 ⊢
            dsimp only
            refine hK _ _ (HSK.out _ h7.hB (h7.blk 0 _ _ rfl).1) ?_
            clear hK
            unfold OrdT.takes
            --ordt m yy
            (refine' t_move _ _ rfl rfl rfl rfl _ _; rotate_left; (go_simp; with_reducible rfl); simp only [Act.put, List.setIfInBounds_toArray, List.set_cons_zero, List.set_cons_succ])
            iterate 2 (refine' t_yield _ rfl rfl rfl _ _; rotate_left; (intro w' hSw; obtain ⟨s0, s1, s2⟩ := hSw; go_simp; with_reducible rfl); simp only [Act.put, List.setIfInBounds_toArray, List.set_cons_zero, List.set_cons_succ])
            --end
            refine t_one rfl rfl (fun K hK => ?_)
            go_simp
            have h8 := h7.alloc (.cells #[.slice none 0 0, .slice none 0 0, .int .i64 0, .int .i64 0, .bool false] 57)
            have h9 := h7.alloc (.cells #[.slice bT T.st.length kT, .slice bU T.ca.length kU, .int .i64 T.taken, .int .i64 T.power, .bool T.off] 57)
            refine hK _ _ (HSK.out _ h8.hB (h8.blk 1 _ _ rfl).1) ?_
            clear hK
            have H9 := Lib.hid h9
            clear h7 h8 h9 H6
            refine t_one rfl rfl (fun K hK => ?_)
            go_simp
            refine hK _ _ (HSK.out _ H9.out.hB (H9.out.blk 1 _ _ rfl).1) ?_
            clear hK
            --ordt y
            (refine' t_yield _ rfl rfl rfl _ _; rotate_left; (intro w' hSw; obtain ⟨s0, s1, s2⟩ := hSw; go_simp; with_reducible rfl); simp only [Act.put, List.setIfInBounds_toArray, List.set_cons_zero, List.set_cons_succ])
            --end
            refine t_done ?_
            go_wp2_with fail
            go_meet
            exact ⟨w7.heap.size, bT, kT, bU, kU, rfl, rfl, H9.out⟩
          · have h7 := H6.out.alloc (.cells #[.slice none 0 0, .slice none 0 0, .int .i64 0, .int .i64 0, .bool false] 57)
            go_simp
            refine hK _ _ (HSK.out _ h7.hB (h7.blk 1 _ _ rfl).1) ?_
            clear hK
            have H7 := Lib.hid h7
            clear h7 H6
            refine t_one rfl rfl (fun K hK => ?_)
            go_simp
            refine (do_mid [_, _] H7.out x HKX.out.1 HKX.out.2).mono ?_
            rintro e w8 ⟨bT, kT, bU, kU, rfl, h8⟩
            rw [← HT.out] at h8 ⊢
            dsimp only
            refine hK _ _ (HSK.out _ h8.hB (h8.blk 1 _ _ rfl).1) ?_
            clear hK
            unfold OrdT.takes
            --ordt m yy
            (refine' t_move _ _ rfl rfl rfl rfl _ _; rotate_left; (go_simp; with_reducible rfl); simp only [Act.put, List.setIfInBounds_toArray, List.set_cons_zero, List.set_cons_succ])
            iterate 2 (refine' t_yield _ rfl rfl rfl _ _; rotate_left; (intro w' hSw; obtain ⟨s0, s1, s2⟩ := hSw; go_simp; with_reducible rfl); simp only [Act.put, List.setIfInBounds_toArray, List.set_cons_zero, List.set_cons_succ])
            --end
            refine t_one rfl rfl (fun K hK => ?_)
            have c0 := h8.cell 0 _ _ _ rfl 0 _ rfl
            have c1 := h8.cell 0 _ _ _ rfl 1 _ rfl
            have c2 := h8.cell 0 _ _ _ rfl 2 _ rfl
            have c3 := h8.cell 0 _ _ _ rfl 3 _ rfl
            have c4 := h8.cell 0 _ _ _ rfl 4 _ rfl
            have f0 := h8.frozen 0 _ _ _ rfl 0
            have f1 := h8.frozen 0 _ _ _ rfl 1
            have f2 := h8.frozen 0 _ _ _ rfl 2
            have f3 := h8.frozen 0 _ _ _ rfl 3
            have f4 := h8.frozen 0 _ _ _ rfl 4
            have h9 := h8.store5 [] (.slice bT T.st.length kT) (.slice bU T.ca.length kU) (.int .i64 T.taken) (.int .i64 T.power) (.bool T.off)
            have H9 := Lib.hid h9
            clear h8 h9 H7
            go_simp
            refine hK _ _ (HSK.out _ H9.out.hB (H9.out.blk 1 _ _ rfl).1) ?_
            clear hK
            --ordt y
            (refine' t_yield _ rfl rfl rfl _ _; rotate_left; (intro w' hSw; obtain ⟨s0, s1, s2⟩ := hSw; go_simp; with_reducible rfl); simp only [Act.put, List.setIfInBounds_toArray, List.set_cons_zero, List.set_cons_succ])
            --end
            refine t_done ?_
            go_wp2_with fail
            go_meet
            exact ⟨wz.heap.size, bT, kT, bU, kU, rfl, rfl, H9.out⟩
        case rest =>
          obtain ⟨b5, bT, kT, bU, kU, rfl, rfl, h9⟩ := hcut
          have g0 := h9.cell 0 _ _ _ rfl 0 _ rfl
          have g1 := h9.cell 0 _ _ _ rfl 1 _ rfl
          have g2 := h9.cell 0 _ _ _ rfl 2 _ rfl
          have g3 := h9.cell 0 _ _ _ rfl 3 _ rfl
          have g4 := h9.cell 0 _ _ _ rfl 4 _ rfl
          have c0 := h9.cell 1 _ _ _ rfl 0 _ rfl
          have c1 := h9.cell 1 _ _ _ rfl 1 _ rfl
          have c2 := h9.cell 1 _ _ _ rfl 2 _ rfl
          have c3 := h9.cell 1 _ _ _ rfl 3 _ rfl
          have c4 := h9.cell 1 _ _ _ rfl 4 _ rfl
          have f0 := h9.frozen 1 _ _ _ rfl 0
          have f1 := h9.frozen 1 _ _ _ rfl 1
          have f2 := h9.frozen 1 _ _ _ rfl 2
          have f3 := h9.frozen 1 _ _ _ rfl 3
          have f4 := h9.frozen 1 _ _ _ rfl 4
          have h10 := (h9.store5 [_] (.slice bT T.st.length kT) (.slice bU T.ca.length kU) (.int .i64 T.taken) (.int .i64 T.power) (.bool T.off)).drop
          have H10 := Lib.hid h10
          clear h9 h10
          go_wp2
          go_roundw
          case rel =>
            refine ⟨k + 1, by omega, by go_num, bT, kT, bU, kU, ?_⟩
            rw [HN.out, ← HT.out]
            exact H10.out
          case measure => simp [intOf]; omega
      · have hkk : k = l.length := by omega
        have HH := Lib.hid hH
        clear hH
        go_wp2_with fail
        have HSK : Hid (∀ W' : World, W'.heap[w.heap.size]? = some (.cells #[.slice bS R.st.length kS, .slice bC R.ca.length kC, .int .i64 R.taken, .int .i64 R.power, .bool R.off] 57 (0, 0)) → W'.rangeAt w.heap.size 0 (stL (.slice bS R.st.length kS) (.slice bC R.ca.length kC) R) ∧ True ∧ True) := fun W' h => ⟨st_row h, trivial, trivial⟩
        refine wp_region_ordZ (fun w' => w'.rangeAt w.heap.size 0 (stL (.slice bS R.st.length kS) (.slice bC R.ca.length kC) R) ∧ True ∧ True) (OrdT.takes [0, 1, 2, 3, 5] (.one 4 (.one 6 (OrdT.takes [7, 8] .done)))) (by kernel_rfl) (by kernel_rfl) (HSK.out _ (HH.out.drew.blk 0 _ _ rfl).1) (fun wz hz => ?_)
        have h6 := HH.out.drew
        rw [← hz] at h6
        have H6 := Lib.hid h6
        clear hz h6 HH
        unfold OrdT.takes
        --ordt mymm
        (refine' t_move _ _ rfl rfl rfl rfl _ _; rotate_left; (go_simp; with_reducible rfl); simp only [Act.put, List.setIfInBounds_toArray, List.set_cons_zero, List.set_cons_succ])
        (refine' t_yield _ rfl rfl rfl _ _; rotate_left; (intro w' hSw; obtain ⟨s0, s1, s2⟩ := hSw; go_simp; with_reducible rfl); simp only [Act.put, List.setIfInBounds_toArray, List.set_cons_zero, List.set_cons_succ])
        iterate 2 (refine' t_move _ _ rfl rfl rfl rfl _ _; rotate_left; (go_simp; with_reducible rfl); simp only [Act.put, List.setIfInBounds_toArray, List.set_cons_zero, List.set_cons_succ])
        --end
        refine t_load w.heap.size 0 (stL (.slice bS R.st.length kS) (.slice bC R.ca.length kC) R) _ _ _ rfl rfl rfl rfl rfl (fun w' hSw => hSw.1) hu rfl (stL_size _ _ _) ?_
        simp only [Act.put, List.setIfInBounds_toArray, List.set_cons_zero, List.set_cons_succ, stL_arr]
        refine t_one rfl rfl (fun K hK => ?_)
        go_simp
        refine (save_has H6.out (.tail _ (.head _))).mono ?_
        rintro e w7 ⟨bT, kT, bU, kU, rfl, h7⟩
        dsimp only
        refine hK _ _ (HSK.out _ (h7.blk 1 _ _ rfl).1) ?_
        clear hK
        refine t_one rfl rfl (fun K hK => ?_)
        go_simp
        refine (same_has h7 (.head _) (.tail _ (.tail _ (.tail _ (.head _))))).mono ?_
        rintro e w8 ⟨rfl, h8⟩
        dsimp only
        refine hK _ _ (HSK.out _ (h8.blk 1 _ _ rfl).1) ?_
        clear hK
        unfold OrdT.takes
        --ordt yy
        iterate 2 (refine' t_yield _ rfl rfl rfl _ _; rotate_left; (intro w' hSw; obtain ⟨s0, s1, s2⟩ := hSw; go_simp; with_reducible rfl); simp only [Act.put, List.setIfInBounds_toArray, List.set_cons_zero, List.set_cons_succ])
        --end
        refine t_done ?_
        clear h7 H6 hlt hk
        subst hkk
        by_cases z : 0 < (l.length : Int)
        · have z1 : ¬ l = [] := fun e => by rw [e] at z; simp at z
          have z2 : 0 < l.length := by omega
          have H8 := Lib.hid h8
          clear h8
          go_wp2_with fail
          refine (HAW.out _).mono ?_
          rintro e w9 ⟨rfl, hB9⟩
          go_wp2_with fail
          go_ret
          exact ⟨rfl, H8.out.hB.trans (hB9.mono H8.out.hB.size)⟩
        · have hl0 : l = [] := List.eq_nil_of_length_eq_zero (by omega)
          have hRS : R = S := by rw [HR.out, hl0, List.take_nil]; rfl
          subst hRS
          have c0 := h8.cell 1 _ _ _ rfl 0 _ rfl
          have c1 := h8.cell 1 _ _ _ rfl 1 _ rfl
          have c2 := h8.cell 1 _ _ _ rfl 2 _ rfl
          have c3 := h8.cell 1 _ _ _ rfl 3 _ rfl
          have c4 := h8.cell 1 _ _ _ rfl 4 _ rfl
          have d0 := h8.cell 4 _ _ _ rfl 0 _ rfl
          have d1 := h8.cell 4 _ _ _ rfl 1 _ rfl
          have d2 := h8.cell 4 _ _ _ rfl 2 _ rfl
          have d3 := h8.cell 4 _ _ _ rfl 3 _ rfl
          have d4 := h8.cell 4 _ _ _ rfl 4 _ rfl
          have H8 := Lib.hid h8
          clear h8 HR
          go_wp2_with fail
          refine (same_has H8.out (.tail _ (.tail _ (.tail _ (.head _)))) (.tail _ (.tail _ (.tail _ (.tail _ (.tail _ (.head _))))))).mono ?_
          rintro e w10 ⟨rfl, h10⟩
          clear c0 c1 c2 c3 c4 d0 d1 d2 d3 d4
          go_wp2_with fail
          refine (HAW.out _).mono ?_
          rintro e w9 ⟨rfl, hB9⟩
          go_wp2_with fail
          go_ret
          exact ⟨rfl, h10.hB.trans (hB9.mono h10.hB.size)⟩
end Go.Proofs.Ytjbjhjlfcbhaiaa
