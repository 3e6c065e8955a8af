/- The walk of Diff: the sectors that read as different bytes. -/
import Derived.Test.YtfbkfdoekgnldaaDoorOwnR
import Derived.Test.YtfbkfdoekgnldaaDoorStEnd
namespace Go.Proofs.YtfbkfdoekgnldaaDoor
open Go.RowKit
attribute [local go_sem] Oper.semAt_some
attribute [local go_sem high] run_eql_sector run_neq_sector
def diffK (S T : Dv) (k : Nat) : List Int := ((List.range k).map Int.ofNat).filter fun i => !seqB (S.look i) (T.look i)
theorem diffK_succ (S T : Dv) (k : Nat) : diffK S T (k + 1) = if seqB (S.look k) (T.look k) then diffK S T k else diffK S T k ++ [(k : Int)] := by
  unfold diffK
  rw [List.range_succ, List.map_append, List.filter_append]
  cases h : seqB (S.look k) (T.look k) <;> simp [h]
theorem diffK_len (S T : Dv) (k : Nat) : (diffK S T k).length ≤ k := by
  unfold diffK
  exact Nat.le_trans (List.length_filter_le _ _) (by simp)
theorem near_cells {W0 : World} {b : Nat} {o : Nat} {cs : List Value} (h : W0.rangeAt b o cs) (n : Near W0) : n.w.rangeAt b o cs := n.range h
set_option maxRecDepth 100000 in
theorem diff_form {W : World} {g mb g2 mb2 : Nat} {S T : Dv} {vS vC vS2 vC2 : Value} (h : DevIn W g S vS vC mb) (h2 : DevIn W g2 T vS2 vC2 mb2) (hl : S.st.length ≠ T.st.length) :
    Calls Tryd.prog 32 #[pv g, pv g2] W fun e w' => e = .returned (.tuple #[.slice none 0 0, .int .i64 6]) ∧ Below W.heap.size W w' := by
  have hl1 : ((S.st.length : Int) != (T.st.length : Int)) = true := by simp; omega
  have hl2 : ((S.st.length : Int) == (T.st.length : Int)) = false := by simp; omega
  have H1 := Lib.hid (dev_ok h)
  have H2 := Lib.hid (dev_ok h2)
  have c0 := h.c0
  have d0 := h2.c0
  obtain ⟨a, cap, rfl, _, _⟩ := h.hS.shape
  obtain ⟨a2, cap2, rfl, _, _⟩ := h2.hS.shape
  clear h h2 hl
  go_enter Tryd.func32, Tryd.ntmps32
  go_wp2_with fail
  refine H1.out.mono ?_
  rintro e w' ⟨rfl, rfl⟩
  go_wp2_with fail
  refine H2.out.mono ?_
  rintro e w' ⟨rfl, rfl⟩
  go_wp2
  go_quiet (fail)
  go_wp2
  go_ret2
  exact ⟨rfl, ⟨rfl, rfl, rfl, Nat.le_refl _, fun _ _ => rfl⟩⟩
/-- where a sector is read, in whatever world the device lies -/
theorem dev_reads_at {W : World} {g mb : Nat} {S : Dv} {vS vC : Value} (h : DevIn W g S vS vC mb) (n : Nat) (hn : n < S.st.length) :
    ∃ b o, ∀ W', DevIn W' g S vS vC mb → (Calls Tryd.prog 63 #[pv g, .int .i64 (n : Int)] W' fun e w' => e = .returned (.pointer (some ⟨b, o, none⟩)) ∧ w' = W') ∧ W'.rangeAt b o (secL (S.look n)) := by
  have s2 := h.ok.s2
  cases hx : newest S.ca n with
  | some i =>
    obtain ⟨s, h1, h2⟩ := newest_some hx
    obtain ⟨b, cap, rfl, _, _⟩ := h.hC.range wrL_len i _ h1
    refine ⟨b, i * 129 + 1, fun W h => ?_⟩
    obtain ⟨b', cap', hv, _, hr⟩ := h.hC.range wrL_len i _ h1
    injection hv with hv _ _
    injection hv with hv
    injection hv with hv
    subst hv
    have hl := h.hM.look n (wf_small _ (by omega) (by omega))
    have c5 := h.c5
    have c1 := h.c1
    have hi : i < S.ca.length := (List.getElem?_eq_some_iff.1 h1).1
    have hix := fun w => run_index_wr b S.ca.length cap i hi w
    have hlk : (Instr.lookup 84 (.map (some mb)) (.int .i64 n) true).run Tryd.prog W = .ok (.tuple #[.int .i64 (i : Int), .bool true]) W := by rw [hl, newM, hx]; rfl
    have HL := Lib.hid (show S.look n = s by unfold Dv.look; rw [h2]; rfl)
    clear hl hx h1 h2
    refine ⟨?_, ?_⟩
    · clear hr
      go_enter Tryd.func63, Tryd.ntmps63
      go_wp2
      go_ret
      exact ⟨rfl, rfl⟩
    · rw [HL.out]
      intro j v hv
      have := hr (j + 1) v (by simpa [wrL] using hv)
      rwa [show i * 129 + (j + 1) = i * 129 + 1 + j by omega] at this
  | none =>
    have h2 := newest_none hx
    obtain ⟨s, hs⟩ : ∃ s, S.st[n]? = some s := ⟨_, List.getElem?_eq_getElem hn⟩
    obtain ⟨b, cap, rfl, _, _⟩ := h.hS.range secL_len n _ hs
    refine ⟨b, n * 128, fun W h => ?_⟩
    obtain ⟨b', cap', hv, _, hr⟩ := h.hS.range secL_len n _ hs
    injection hv with hv _ _
    injection hv with hv
    injection hv with hv
    subst hv
    have hl := h.hM.look n (wf_small _ (by omega) (by omega))
    have c5 := h.c5
    have c0 := h.c0
    have hix := fun w => run_index_sec b S.st.length cap n hn w
    have hlk : (Instr.lookup 84 (.map (some mb)) (.int .i64 n) true).run Tryd.prog W = .ok (.tuple #[.int .i64 0, .bool false]) W := by rw [hl, newM, hx]; rfl
    have HL := Lib.hid (show S.look n = s by unfold Dv.look; rw [h2]; simp [hs])
    clear hl hx h2
    refine ⟨?_, ?_⟩
    · clear hr
      go_enter Tryd.func63, Tryd.ntmps63
      go_wp2
      go_ret
      exact ⟨rfl, rfl⟩
    · rw [HL.out]; exact hr
/-- what Diff returns of two devices of one size -/
def DiffV (W : World) (S T : Dv) (e : Ending) (w' : World) : Prop := ∃ v, e = .returned (.tuple #[v, .int .i64 0]) ∧ OwnL w' 3 1 intL v (diffK S T S.st.length) ∧ (∀ k ∈ blks v, W.heap.size ≤ k) ∧ Below W.heap.size W w'
set_option maxRecDepth 100000 in
set_option maxHeartbeats 1000000 in
theorem diff_same {W : World} {g mb g2 mb2 : Nat} {S T : Dv} {vS vC vS2 vC2 : Value} (h : DevIn W g S vS vC mb) (h2 : DevIn W g2 T vS2 vC2 mb2) (hl : S.st.length = T.st.length) :
    Calls Tryd.prog 32 #[pv g, pv g2] W (DiffV W S T) := by
  have hl1 : ((S.st.length : Int) != (T.st.length : Int)) = false := by rw [hl]; simp
  have hs2 := h.ok.s2
  have hlT : (T.st.length : Int) = (S.st.length : Int) := by omega
  have H1 := Lib.hid (dev_ok h)
  have H2 := Lib.hid (dev_ok h2)
  have c0 := h.c0
  have d0 := h2.c0
  have HD := Lib.hid h
  have HD2 := Lib.hid h2
  obtain ⟨a, cap, rfl, _, _⟩ := h.hS.shape
  obtain ⟨a2, cap2, rfl, _, _⟩ := h2.hS.shape
  have HL := Lib.hid hl
  clear h h2 hl hlT
  go_enter Tryd.func32, Tryd.ntmps32
  go_wp2_with fail
  refine H1.out.mono ?_
  rintro e w' ⟨rfl, rfl⟩
  go_wp2_with fail
  refine H2.out.mono ?_
  rintro e w' ⟨rfl, rfl⟩
  go_wp2
  go_quiet (fail)
  go_wp2
  have h0 : Has w' (w'.drewN nq) [OwnR _ 3 1 intL (.slice none 0 0) (diffK S T 0)] := OwnR.nil ((Has.start w').drewN nq) _ _ _
  clear hl1 H1 H2
  go_loopw [6, 37] (fun v i wr => ∃ k : Nat, k ≤ S.st.length ∧ i = .int .i64 (k : Int) ∧ Has w' wr [OwnR _ 3 1 intL v (diffK S T k)]) (fun _ i _ => S.st.length - (intOf i).toNat)
  case atStart => exact ⟨0, Nat.zero_le _, rfl, h0⟩
  case round =>
    obtain ⟨k, hk, rfl, hH⟩ := hrel
    clear h0
    by_cases hlt : k < S.st.length
    · have hlk := diffK_len S T k
      have hki : (k : Int) < (S.st.length : Int) := by omega
      have hn : ∀ n : Near wr, DevIn n.w g S (.slice a S.st.length cap) vC mb ∧ DevIn n.w g2 T (.slice a2 T.st.length cap2) vC2 mb2 := fun n => by
        have hB : Below w'.heap.size w' n.w := hH.hB.trans (n.h.mono hH.hB.size)
        exact ⟨HD.out.stay (fun k hk => hB.block k (HD.out.lt k hk)), HD2.out.stay (fun k hk => hB.block k (HD2.out.lt k hk))⟩
      have HN := Lib.hid hn
      have HH := Lib.hid hH
      have HKS := Lib.hid (diffK_succ S T k)
      obtain ⟨b1, o1, hr1⟩ := dev_reads_at HD.out k hlt
      obtain ⟨b2, o2, hr2⟩ := dev_reads_at HD2.out k (by rw [← HL.out]; exact hlt)
      have HC1 : Hid (∀ n : Near wr, Calls Tryd.prog 63 #[pv g, .int .i64 (k : Int)] n.w fun e w'' => e = .returned (.pointer (some ⟨b1, o1, none⟩)) ∧ ∃ m : Near wr, w'' = m.w) := fun n => near_call_same n (hr1 _ (hn n).1).1
      have HC2 : Hid (∀ n : Near wr, Calls Tryd.prog 63 #[pv g2, .int .i64 (k : Int)] n.w fun e w'' => e = .returned (.pointer (some ⟨b2, o2, none⟩)) ∧ ∃ m : Near wr, w'' = m.w) := fun n => near_call_same n (hr2 _ (hn n).2).1
      obtain ⟨X, hX⟩ : ∃ X, S.look (k : Int) = X := ⟨_, rfl⟩
      obtain ⟨Y, hY⟩ : ∃ Y, T.look (k : Int) = Y := ⟨_, rfl⟩
      have L1 : Hid (∀ n : Near wr, n.w.rangeAt b1 o1 (secL X)) := fun n => by rw [← hX]; exact (hr1 _ (hn n).1).2
      have L2 : Hid (∀ n : Near wr, n.w.rangeAt b2 o2 (secL Y)) := fun n => by rw [← hY]; exact (hr2 _ (hn n).2).2
      rw [hX, hY] at HKS
      clear hn hH hr1 hr2 hX hY HN
      go_wp2
      refine wp_region_near (by kernel_rfl) (by kernel_rfl) ?_
      repeat (first | go_big_quiet_skip | (go_big_quiet_want; first
        | ((with_reducible refine near_load _ _ rfl b1 o1 (secL X) _ ?_ L1.out Tryd.underlying64 rfl (secL_size X) ?_); rfl; simp only [Act.put, List.setIfInBounds_toArray, List.set_cons_zero, List.set_cons_succ, secL_arr]; go_big_quiet_on)
        | ((with_reducible refine near_load _ _ rfl b2 o2 (secL Y) _ ?_ L2.out Tryd.underlying64 rfl (secL_size Y) ?_); rfl; simp only [Act.put, List.setIfInBounds_toArray, List.set_cons_zero, List.set_cons_succ, secL_arr]; go_big_quiet_on)
        | (go_big_quiet_op; first | go_big_quiet_on | go_big_quiet_call (first | (go_at_call 63; with_reducible exact HC1.out _) | (go_at_call 63; with_reducible exact HC2.out _)))))
      refine wpQuiet_nil ?_
      rintro _ ⟨nq, rfl⟩
      have h5 := HH.out.below nq.h
      cases hq : seqB X Y
      · rw [hq] at HKS
        obtain ⟨v6, W6, hrun, h6⟩ := h5.pushInt k (by omega)
        have H6 := Lib.hid h6
        clear h6 h5 hq
        go_wp2_with (at_builtin; (with_reducible refine wpList_append_eq rfl _ _ _ rfl _ _ _ _ ?_ ?_ hrun ?_); rfl; rfl)
        go_roundw
        case rel => exact ⟨k + 1, by omega, by go_num, by rw [HKS.out]; exact H6.out⟩
        case measure => simp [intOf]; omega
      · rw [hq] at HKS
        have H6 := Lib.hid h5
        clear h5 hq
        go_wp2
        go_roundw
        case rel => exact ⟨k + 1, by omega, by go_num, by rw [HKS.out]; exact H6.out⟩
        case measure => simp [intOf]; omega
    · have hkk : k = S.st.length := by omega
      subst hkk
      have HH := Lib.hid hH
      clear hH
      go_wp2
      go_ret2
      obtain ⟨F, ⟨hO, rfl⟩, hF⟩ := HH.out.head
      exact ⟨_, rfl, hO, hF, HH.out.hB⟩
/-- Diff, said of what a walk owns -/
theorem diff_has {w W : World} {rs : List (Res w.heap.size)} {g g2 : Nat} {S T : Dv} (h : Has w W rs) (h1 : DevR _ g S ∈ rs) (h2 : DevR _ g2 T ∈ rs) (hl : S.st.length = T.st.length) :
    Calls Tryd.prog 32 #[pv g, pv g2] W fun e w' => ∃ v, e = .returned (.tuple #[v, .int .i64 0]) ∧ Has w w' (OwnR _ 3 1 intL v (diffK S T S.st.length) :: rs) := by
  obtain ⟨F, ⟨vS, vC, mb, hD, rfl⟩, hF⟩ := h.mem h1
  obtain ⟨F2, ⟨vS2, vC2, mb2, hD2, rfl⟩, hF2⟩ := h.mem h2
  refine (diff_same hD hD2 hl).mono ?_
  rintro e w' ⟨v, rfl, hO, hn, hB⟩
  exact ⟨v, rfl, h.more hB _ _ ⟨hO, rfl⟩ hn⟩
theorem diffK_nil (S T : Dv) (k : Nat) (h : ∀ i : Nat, i < k → S.look i = T.look i) : diffK S T k = [] := by
  unfold diffK
  rw [List.filter_eq_nil_iff]
  intro x hx
  simp only [List.mem_map, List.mem_range] at hx
  obtain ⟨i, hi, rfl⟩ := hx
  have := h i hi
  simp only [Int.ofNat_eq_natCast, this, seqB]
  simp
end Go.Proofs.YtfbkfdoekgnldaaDoor
