/- The walk of the statement JournalTwice. -/
import Derived.Test.YtfbkfdoekgnldaaDoorJnTwi
import Derived.Test.YtfbkfdoekgnldaaDoorStH
import Derived.Test.YtfbkfdoekgnldaaDoorOpenRun
namespace Go.Proofs.YtfbkfdoekgnldaaDoor
open Go.RowKit
open Lime
attribute [local go_sem] Oper.semAt_some setRow_alloc_at setRow_alloc_past setRow_drew g_same32 g_eq32 g_ne32
def twL : Lay := ⟨3, 20⟩
theorem limit_at9 {w W : World} (l1 : List (Res w.heap.size)) {l2 : List (Res w.heap.size)} {g : Nat} {S : Dv} (h : Has w W (l1 ++ DevR _ g S :: l2)) (n : Int) :
    Calls Tryd.prog 11 #[pv g, .int .i64 n] W fun e w' => e = .returned (.int .i64 (limitE n)) ∧ Has w w' (l1 ++ DevR _ g (S.limit n) :: l2) :=
  (limit_has (h.perm List.perm_middle) n).mono fun _ _ ⟨he, h'⟩ => ⟨he, h'.perm List.perm_middle.symm⟩
/-- a crash that keeps a list that the walk made -/
theorem crash_own {w W : World} {rs : List (Res w.heap.size)} {g : Nat} {S : Dv} {v : Value} {keep : List Int} (h : Has w W (OwnR _ 3 1 intL v keep :: DevR _ g S :: rs)) (hl : keep.length ≤ 1000000) :
    Calls Tryd.prog 14 #[pv g, v] W fun e w' => e = .returned (.int .i64 (S.crashE keep)) ∧ Has w w' (OwnR _ 3 1 intL v keep :: DevR _ g (S.crash keep) :: rs) := by
  have h2 := h.perm (List.Perm.swap _ _ _)
  refine (crash_has h2 v keep (h.ownRd (.head _)).rd hl (fun k hk => .inr ⟨OwnR _ 3 1 intL v keep, .head _, fun F2 hF => by obtain ⟨_, rfl⟩ := hF; exact hk⟩)).mono ?_
  rintro e w' ⟨he, h'⟩
  exact ⟨he, h'.perm (List.Perm.swap _ _ _)⟩
set_option maxRecDepth 100000 in
set_option maxHeartbeats 8000000 in
theorem twice_law (v : Value) (run : List Rec) (b : UInt8) (kp : Int) (w : World) (hv : RunIn w v run) (hk0 : 0 ≤ kp) (hk1 : kp < 18446744073709551616) (hh : HalfLaid w) :
    Calls Tryd.prog 3 #[v, .agg #[.int .u8 (vb b), .int .u64 kp]] w fun e w' => e = .returned (.bool true) ∧ Below w.heap.size w w' := by
  have HAW : Hid (∀ w', Below w.heap.size w w' → Calls Tryd.prog 12 #[] w' fun e w'' => e = .returned (.bool true) ∧ Below w'.heap.size w' w'') := fun w' hB => awake9 w' (hh.below hB)
  have hrd := hv.hL
  have hdl := hv.dlen
  have hln := hv.len
  obtain ⟨a, cap, rfl, -⟩ := hv.hL
  have h0 := (((Has.start w).addRd hrd recL_len (by decide)).alloc (.cells #[.int .u8 (vb b), .int .u64 kp] 25)).allocAt (.cells #[.int .i64 3, .int .i64 20] 27) (w.heap.size + 1) (by simp)
  have HN := Lib.hid (new_has h0 64 (by decide) (by decide))
  have HHL := Lib.hid hh
  have HDL := Lib.hid hdl
  have HK : Hid (0 ≤ kp ∧ kp < 18446744073709551616) := ⟨hk0, hk1⟩
  clear hh hv hrd hdl h0 hk0 hk1
  go_enter Tryd.func3, Tryd.ntmps3
  go_wp2_with fail
  refine HN.out.mono ?_
  clear HN
  rintro e w1 ⟨g, rfl, h1⟩
  have d0 := h1.cell 1 _ _ _ rfl 0 _ rfl
  have d1 := h1.cell 1 _ _ _ rfl 1 _ rfl
  have t0 := h1.cell 2 _ _ _ rfl 0 _ rfl
  have H1 := Lib.hid h1
  clear h1
  by_cases q0 : 100 < (run.length : Int)
  · go_wp2_with fail
    refine (HAW.out _ H1.out.hB).mono ?_
    rintro e w9 ⟨rfl, hB9⟩
    have HB := Lib.hid (H1.out.hB.trans (hB9.mono H1.out.hB.size))
    clear hB9
    go_wp2_with fail
    go_ret
    exact ⟨rfl, HB.out⟩
  obtain ⟨F, e0, hfr⟩ := fresh_format twL 64 (by decide) (by decide) (by decide) (by decide)
  have hf := format_at [] H1.out twL HHL.out
  rw [e0] at hf
  have HF := Lib.hid hf
  have HFR := Lib.hid hfr
  clear hf hfr e0 H1
  go_wp2_with fail
  refine HF.out.mono ?_
  clear HF d0 d1 t0
  rintro e w2 ⟨rfl, h2⟩
  have t0 := h2.cell 2 _ _ _ rfl 0 _ rfl
  obtain ⟨n, hn⟩ : ∃ n, n = b.toNat % 40 := ⟨_, rfl⟩
  have hnl : n < 40 := by omega
  have hlm := limit_at9 [] h2 (n : Int)
  obtain ⟨el, ee⟩ := limit_eq F (n : Int) (by omega) (by omega)
  rw [ee] at hlm
  have HLM := Lib.hid hlm
  obtain ⟨hrem, hw8, hw64⟩ : (vb b).tmod 40 = (n : Int) ∧ IntKind.u8.wrap (n : Int) = (n : Int) ∧ wrap64 (n : Int) = (n : Int) :=
    ⟨by rw [Int.tmod_eq_emod_of_nonneg (vb_nonneg b), hn]; unfold vb; norm_cast, by rw [IntKind.wrap_u8]; omega, by unfold wrap64; omega⟩
  have HNL := Lib.hid hnl
  clear hlm el ee h2 hn hnl
  go_wp2_with fail
  refine HLM.out.mono ?_
  clear HLM
  rintro e w3 ⟨rfl, h3⟩
  have d0 := h3.cell 1 _ _ _ rfl 0 _ rfl
  have d1 := h3.cell 1 _ _ _ rfl 1 _ rfl
  have hcm := commit_at [] h3 twL (.tail _ (.tail _ (.head _))) HDL.out hln HHL.out
  obtain ⟨S, hS⟩ : ∃ S, S = F.limit (n : Int) := ⟨_, rfl⟩
  rw [← hS] at hcm
  obtain ⟨X, hX⟩ : ∃ X, X = commitM S twL run := ⟨_, rfl⟩
  rw [← hX] at hcm
  obtain ⟨C, c⟩ := X
  dsimp only at hcm
  have HCM := Lib.hid hcm
  have HX := Lib.hid hX
  have HS := Lib.hid hS
  clear hcm hX hS h3 t0 hrem hw8 hw64
  go_wp2_with fail
  refine HCM.out.mono ?_
  clear HCM d0 d1
  rintro e w4 ⟨rfl, h4⟩
  have H4 := Lib.hid h4
  clear h4
  by_cases hc : c = 0 ∨ c = 13
  · have hfr := HFR.out
    have htk := hfr.tk
    have e8 : twL.size = 20 := rfl
    have hpt := limit_parts F (n : Int)
    have htm := twice_math (run := run) (S := S) (l := twL) (m := 0) (f := fun _ => none) (by rw [HS.out]; exact limit_calm hfr.calm _) (by rw [HS.out]; exact limit_T0 hfr.t0 _) (by rw [HS.out]; exact limit_Pl hfr.pl _) (by decide) (by rw [HS.out, hpt.2.2.1]; omega) (by rw [← HX.out]; exact hc) kp
    rw [← HX.out] at htm
    dsimp only at htm
    obtain ⟨hca, hke, D, many, hr1, hmn, hr2, hlk⟩ := htm
    have HCA := Lib.hid hca
    have HKE := Lib.hid hke
    have HR1 := Lib.hid hr1
    have HMN := Lib.hid hmn
    have HR2 := Lib.hid hr2
    have HLK := Lib.hid hlk
    have hgo : (c != 0 && c != 13) = false := by
      rcases hc with rfl | rfl <;> rfl
    have HC := Lib.hid hc
    clear hfr htk e8 hpt hca hke hr1 hmn hr2 hlk HX HS HFR hgo hc
    go_upto_region 6 with fail
    go_cut [61] (fun z wx => z = .bool false ∧ wx = w4)
    case first =>
      rcases HC.out with rfl | rfl
      · go_wp2_with fail
        go_meet
        exact ⟨rfl, rfl⟩
      · go_wp2_with fail
        go_meet
        exact ⟨rfl, rfl⟩
    case rest =>
    obtain ⟨rfl, rfl⟩ := hcut
    go_upto_region 8 with fail
    go_cut [70] (fun z wx => z = .bool false ∧ Has w wx (DevR _ g (C.crash (keptL kp C.ca.length)) :: Blk _ (w.heap.size + 1) (.cells #[.int .i64 3, .int .i64 20] 27) :: Blk _ w.heap.size (.cells #[.int .u8 (vb b), .int .u64 kp] 25) :: RunR _ (.slice a run.length cap) run :: []))
    case first =>
      have HSZ : Hid (∀ (W' : World) (x : Res w.heap.size) (T : Dv), Has w W' (x :: DevR _ g T :: Blk _ (w.heap.size + 1) (.cells #[.int .i64 3, .int .i64 20] 27) :: Blk _ w.heap.size (.cells #[.int .u8 (vb b), .int .u64 kp] 25) :: RunR _ (.slice a run.length cap) run :: []) → (W'.cell? ⟨w.heap.size, 1, none⟩ = some (.int .u64 kp) ∧ True ∧ True)) := fun W' x T h => ⟨h.cell 3 _ _ _ rfl 1 _ rfl, trivial, trivial⟩
      have HSZ0 : Hid (∀ (W' : World) (T : Dv), Has w W' (DevR _ g T :: Blk _ (w.heap.size + 1) (.cells #[.int .i64 3, .int .i64 20] 27) :: Blk _ w.heap.size (.cells #[.int .u8 (vb b), .int .u64 kp] 25) :: RunR _ (.slice a run.length cap) run :: []) → (W'.cell? ⟨w.heap.size, 1, none⟩ = some (.int .u64 kp) ∧ True ∧ True)) := fun W' T h => ⟨h.cell 2 _ _ _ rfl 1 _ rfl, trivial, trivial⟩
      refine wp_region_ordJ (fun W' => W'.cell? ⟨w.heap.size, 1, none⟩ = some (.int .u64 kp) ∧ True ∧ True) (OrdT.takes [0, 1, 3, 4] (.one 2 (.one 5 (.one 6 (OrdT.takes [7] .done))))) (by kernel_rfl) (by kernel_rfl) (HSZ0.out _ _ H4.out.drew) (fun wz hz => ?_)
      have h5 := H4.out.drew
      rw [← hz] at h5
      have H5 := Lib.hid h5
      clear hz h5 H4
      unfold OrdT.takes
      --ordt mmyy
      iterate 2 (refine' t_move _ _ rfl rfl rfl rfl _ _; rotate_left; (go_simp; with_reducible rfl); simp only [Act.put, List.setIfInBounds_toArray, List.set_cons_zero, List.set_cons_succ])
      iterate 2 (refine' t_yield _ rfl rfl rfl _ _; rotate_left; (intro w' hSw; obtain ⟨s0, s1, s2⟩ := hSw; go_simp; with_reducible rfl); simp only [Act.put, List.setIfInBounds_toArray, List.set_cons_zero, List.set_cons_succ])
      --end
      refine t_one rfl rfl (fun K hK => ?_)
      go_simp
      refine (pending_has H5.out (.head _)).mono ?_
      rintro e w5 ⟨rfl, rfl⟩
      dsimp only
      refine hK _ _ (HSZ0.out _ _ H5.out) ?_
      clear hK
      refine t_one rfl rfl (fun K hK => ?_)
      go_simp
      refine (kept_has H5.out C.ca.length kp (by have := HCA.out; omega) HK.out.1 HK.out.2).mono ?_
      rintro e w6 ⟨vk, rfl, h6⟩
      have H6 := Lib.hid h6
      clear h6 H5
      dsimp only
      refine hK _ _ (HSZ.out _ _ _ H6.out) ?_
      clear hK
      have hcr := crash_own H6.out (by have := keptL_len kp C.ca.length; have := HCA.out; omega)
      rw [HKE.out] at hcr
      have HCR := Lib.hid hcr
      clear hcr H6
      refine t_one rfl rfl (fun K hK => ?_)
      go_simp
      refine HCR.out.mono ?_
      clear HCR
      rintro e w7 ⟨rfl, h7⟩
      have H7 := Lib.hid h7
      clear h7
      dsimp only
      refine hK _ _ (HSZ.out _ _ _ H7.out) ?_
      clear hK
      unfold OrdT.takes
      --ordt y
      (refine' t_yield _ rfl rfl rfl _ _; rotate_left; (intro w' hSw; obtain ⟨s0, s1, s2⟩ := hSw; go_simp; with_reducible rfl); simp only [Act.put, List.setIfInBounds_toArray, List.set_cons_zero, List.set_cons_succ])
      --end
      refine t_done ?_
      go_wp2_with fail
      go_meet
      exact ⟨rfl, H7.out.drop⟩
    case rest =>
      obtain ⟨rfl, h5⟩ := hcut
      clear H4
      have d0 := h5.cell 1 _ _ _ rfl 0 _ rfl
      have d1 := h5.cell 1 _ _ _ rfl 1 _ rfl
      have hrp := replay_at [] h5 twL HHL.out
      rw [HR1.out] at hrp
      have HRP := Lib.hid hrp
      clear hrp h5
      go_wp2_with fail
      refine HRP.out.mono ?_
      clear HRP d0 d1
      rintro e w8 ⟨rfl, h8⟩
      have H8 := Lib.hid h8
      clear h8
      go_wp2_with fail
      refine (save_has H8.out (.head _)).mono ?_
      rintro e w9 ⟨bS, kS, bC, kC, rfl, h9⟩
      have h10 := h9.alloc (.cells #[.slice bS D.st.length kS, .slice bC D.ca.length kC, .int .i64 D.taken, .int .i64 D.power, .bool D.off] 45)
      have d0 := h9.cell 2 _ _ _ rfl 0 _ rfl
      have d1 := h9.cell 2 _ _ _ rfl 1 _ rfl
      have zd := block_lt_of_cell d0
      dsimp only at zd
      have hrp := replay_at [_, _] h10 twL HHL.out
      rw [HR2.out] at hrp
      have HRP := Lib.hid hrp
      clear hrp h9 h10 H8
      go_wp2_with fail
      refine HRP.out.mono ?_
      clear HRP d0 d1 zd
      rintro e w10 ⟨rfl, h10⟩
      have d0 := h10.cell 3 _ _ _ rfl 0 _ rfl
      have d1 := h10.cell 3 _ _ _ rfl 1 _ rfl
      have hlo := lookE_has h10 (.tail _ (.tail _ (.head _))) twL HHL.out
      rw [HLK.out] at hlo
      have HLO := Lib.hid hlo
      clear hlo h10
      go_wp2_with fail
      refine HLO.out.mono ?_
      clear HLO d0 d1
      rintro e w11 ⟨al, cl, rfl, h11⟩
      have H12 := Lib.hid h11.drop
      clear h11
      have HSZ : Hid (∀ (W' : World) (rs : List (Res w.heap.size)), Has w W' (Blk _ w9.heap.size (.cells #[.slice bS D.st.length kS, .slice bC D.ca.length kC, .int .i64 D.taken, .int .i64 D.power, .bool D.off] 45) :: rs) → ((W'.cell? ⟨w9.heap.size, 0, none⟩ = some (.slice bS D.st.length kS) ∧ W'.cell? ⟨w9.heap.size, 1, none⟩ = some (.slice bC D.ca.length kC)) ∧ (W'.cell? ⟨w9.heap.size, 2, none⟩ = some (.int .i64 D.taken) ∧ W'.cell? ⟨w9.heap.size, 3, none⟩ = some (.int .i64 D.power) ∧ W'.cell? ⟨w9.heap.size, 4, none⟩ = some (.bool D.off)) ∧ True)) := fun W' rs h => ⟨⟨h.cell 0 _ _ _ rfl 0 _ rfl, h.cell 0 _ _ _ rfl 1 _ rfl⟩, ⟨h.cell 0 _ _ _ rfl 2 _ rfl, h.cell 0 _ _ _ rfl 3 _ rfl, h.cell 0 _ _ _ rfl 4 _ rfl⟩, trivial⟩
      have HSZ2 : Hid (∀ (W' : World) (x : Res w.heap.size) (rs : List (Res w.heap.size)), Has w W' (x :: Blk _ w9.heap.size (.cells #[.slice bS D.st.length kS, .slice bC D.ca.length kC, .int .i64 D.taken, .int .i64 D.power, .bool D.off] 45) :: rs) → ((W'.cell? ⟨w9.heap.size, 0, none⟩ = some (.slice bS D.st.length kS) ∧ W'.cell? ⟨w9.heap.size, 1, none⟩ = some (.slice bC D.ca.length kC)) ∧ (W'.cell? ⟨w9.heap.size, 2, none⟩ = some (.int .i64 D.taken) ∧ W'.cell? ⟨w9.heap.size, 3, none⟩ = some (.int .i64 D.power) ∧ W'.cell? ⟨w9.heap.size, 4, none⟩ = some (.bool D.off)) ∧ True)) := fun W' x rs h => ⟨⟨h.cell 1 _ _ _ rfl 0 _ rfl, h.cell 1 _ _ _ rfl 1 _ rfl⟩, ⟨h.cell 1 _ _ _ rfl 2 _ rfl, h.cell 1 _ _ _ rfl 3 _ rfl, h.cell 1 _ _ _ rfl 4 _ rfl⟩, trivial⟩
      go_wp2_with fail
      by_cases hm0 : many = 0
      · subst hm0
        refine wp_region_ordJ (fun W' => (W'.cell? ⟨w9.heap.size, 0, none⟩ = some (.slice bS D.st.length kS) ∧ W'.cell? ⟨w9.heap.size, 1, none⟩ = some (.slice bC D.ca.length kC)) ∧ (W'.cell? ⟨w9.heap.size, 2, none⟩ = some (.int .i64 D.taken) ∧ W'.cell? ⟨w9.heap.size, 3, none⟩ = some (.int .i64 D.power) ∧ W'.cell? ⟨w9.heap.size, 4, none⟩ = some (.bool D.off)) ∧ True) (OrdT.takes [0, 1, 2, 3, 4, 5, 6, 7, 8, 9, 10, 11, 12, 13, 14, 15, 16, 17, 18, 19, 20, 21, 22, 23, 24, 25, 26, 27, 28, 29, 30] (.one 31 (.one 32 (OrdT.takes [33, 34] (.one 35 (OrdT.takes [36, 37] .done)))))) (by kernel_rfl) (by kernel_rfl) (HSZ.out _ _ H12.out.drew) (fun wz hz => ?_)
        have h13 := H12.out.drew
        rw [← hz] at h13
        have H13 := Lib.hid h13
        clear hz h13 H12
        unfold OrdT.takes
        --ordt mymmyymmyymmyymmyymmymssssyymym
        (refine' t_move _ _ rfl rfl rfl rfl _ _; rotate_left; (go_simp; with_reducible rfl); simp only [Act.put, List.setIfInBounds_toArray, List.set_cons_zero, List.set_cons_succ])
        (refine' t_yield _ rfl rfl rfl _ _; rotate_left; (intro w' hSw; obtain ⟨s0, s1, s2⟩ := hSw; go_simp; with_reducible rfl); simp only [Act.put, List.setIfInBounds_toArray, List.set_cons_zero, List.set_cons_succ])
        iterate 2 (refine' t_move _ _ rfl rfl rfl rfl _ _; rotate_left; (go_simp; with_reducible rfl); simp only [Act.put, List.setIfInBounds_toArray, List.set_cons_zero, List.set_cons_succ])
        iterate 2 (refine' t_yield _ rfl rfl rfl _ _; rotate_left; (intro w' hSw; obtain ⟨s0, s1, s2⟩ := hSw; go_simp; with_reducible rfl); simp only [Act.put, List.setIfInBounds_toArray, List.set_cons_zero, List.set_cons_succ])
        iterate 2 (refine' t_move _ _ rfl rfl rfl rfl _ _; rotate_left; (go_simp; with_reducible rfl); simp only [Act.put, List.setIfInBounds_toArray, List.set_cons_zero, List.set_cons_succ])
        iterate 2 (refine' t_yield _ rfl rfl rfl _ _; rotate_left; (intro w' hSw; obtain ⟨s0, s1, s2⟩ := hSw; go_simp; with_reducible rfl); simp only [Act.put, List.setIfInBounds_toArray, List.set_cons_zero, List.set_cons_succ])
        iterate 2 (refine' t_move _ _ rfl rfl rfl rfl _ _; rotate_left; (go_simp; with_reducible rfl); simp only [Act.put, List.setIfInBounds_toArray, List.set_cons_zero, List.set_cons_succ])
        iterate 2 (refine' t_yield _ rfl rfl rfl _ _; rotate_left; (intro w' hSw; obtain ⟨s0, s1, s2⟩ := hSw; go_simp; with_reducible rfl); simp only [Act.put, List.setIfInBounds_toArray, List.set_cons_zero, List.set_cons_succ])
        iterate 2 (refine' t_move _ _ rfl rfl rfl rfl _ _; rotate_left; (go_simp; with_reducible rfl); simp only [Act.put, List.setIfInBounds_toArray, List.set_cons_zero, List.set_cons_succ])
        iterate 2 (refine' t_yield _ rfl rfl rfl _ _; rotate_left; (intro w' hSw; obtain ⟨s0, s1, s2⟩ := hSw; go_simp; with_reducible rfl); simp only [Act.put, List.setIfInBounds_toArray, List.set_cons_zero, List.set_cons_succ])
        iterate 2 (refine' t_move _ _ rfl rfl rfl rfl _ _; rotate_left; (go_simp; with_reducible rfl); simp only [Act.put, List.setIfInBounds_toArray, List.set_cons_zero, List.set_cons_succ])
        (refine' t_yield _ rfl rfl rfl _ _; rotate_left; (intro w' hSw; obtain ⟨s0, s1, s2⟩ := hSw; go_simp; with_reducible rfl); simp only [Act.put, List.setIfInBounds_toArray, List.set_cons_zero, List.set_cons_succ])
        (refine' t_move _ _ rfl rfl rfl rfl _ _; rotate_left; (go_simp; with_reducible rfl); simp only [Act.put, List.setIfInBounds_toArray, List.set_cons_zero, List.set_cons_succ])
        iterate 4 (refine t_skip rfl rfl rfl ?_; simp only [Act.put, List.setIfInBounds_toArray, List.set_cons_zero, List.set_cons_succ])
        iterate 2 (refine' t_yield _ rfl rfl rfl _ _; rotate_left; (intro w' hSw; obtain ⟨s0, s1, s2⟩ := hSw; go_simp; with_reducible rfl); simp only [Act.put, List.setIfInBounds_toArray, List.set_cons_zero, List.set_cons_succ])
        (refine' t_move _ _ rfl rfl rfl rfl _ _; rotate_left; (go_simp; with_reducible rfl); simp only [Act.put, List.setIfInBounds_toArray, List.set_cons_zero, List.set_cons_succ])
        (refine' t_yield _ rfl rfl rfl _ _; rotate_left; (intro w' hSw; obtain ⟨s0, s1, s2⟩ := hSw; go_simp; with_reducible rfl); simp only [Act.put, List.setIfInBounds_toArray, List.set_cons_zero, List.set_cons_succ])
        (refine' t_move _ _ rfl rfl rfl rfl _ _; rotate_left; (go_simp; with_reducible rfl); simp only [Act.put, List.setIfInBounds_toArray, List.set_cons_zero, List.set_cons_succ])
        --end
        refine t_one rfl rfl (fun K hK => ?_)
        go_simp
        refine (save_has H13.out (.tail _ (.tail _ (.head _)))).mono ?_
        rintro e w14 ⟨cS, lS, cC, lC, rfl, h14⟩
        have H14 := Lib.hid h14
        clear h14 H13
        dsimp only
        refine hK _ _ (HSZ2.out _ _ _ H14.out) ?_
        clear hK
        refine t_one rfl rfl (fun K hK => ?_)
        go_simp
        refine (same_has H14.out (.tail _ (.tail _ (.head _))) (.head _)).mono ?_
        rintro e w15 ⟨rfl, h15⟩
        have H15 := Lib.hid h15
        clear h15 H14
        dsimp only
        refine hK _ _ (HSZ2.out _ _ _ H15.out) ?_
        clear hK
        unfold OrdT.takes
        --ordt ym
        (refine' t_yield _ rfl rfl rfl _ _; rotate_left; (intro w' hSw; obtain ⟨s0, s1, s2⟩ := hSw; go_simp; with_reducible rfl); simp only [Act.put, List.setIfInBounds_toArray, List.set_cons_zero, List.set_cons_succ])
        (refine' t_move _ _ rfl rfl rfl rfl _ _; rotate_left; (go_simp; with_reducible rfl); simp only [Act.put, List.setIfInBounds_toArray, List.set_cons_zero, List.set_cons_succ])
        --end
        refine t_one rfl rfl (fun K hK => ?_)
        go_simp
        refine (HAW.out _ H15.out.hB).mono ?_
        rintro e w16 ⟨rfl, hB16⟩
        have H16 := Lib.hid (H15.out.below hB16)
        clear hB16 H15
        dsimp only
        refine hK _ _ (HSZ2.out _ _ _ H16.out) ?_
        clear hK
        unfold OrdT.takes
        --ordt yy
        iterate 2 (refine' t_yield _ rfl rfl rfl _ _; rotate_left; (intro w' hSw; obtain ⟨s0, s1, s2⟩ := hSw; go_simp; with_reducible rfl); simp only [Act.put, List.setIfInBounds_toArray, List.set_cons_zero, List.set_cons_succ])
        --end
        refine t_done ?_
        go_wp2_with fail
        go_ret
        exact ⟨rfl, H16.out.hB⟩
      · have hm1 : (many == 0) = false := by simpa using hm0
        obtain rfl : many = run.length := by
          rcases HMN.out with h | h
          · exact absurd h hm0
          · exact h
        clear hm0
        refine wp_region_ordJ (fun W' => (W'.cell? ⟨w9.heap.size, 0, none⟩ = some (.slice bS D.st.length kS) ∧ W'.cell? ⟨w9.heap.size, 1, none⟩ = some (.slice bC D.ca.length kC)) ∧ (W'.cell? ⟨w9.heap.size, 2, none⟩ = some (.int .i64 D.taken) ∧ W'.cell? ⟨w9.heap.size, 3, none⟩ = some (.int .i64 D.power) ∧ W'.cell? ⟨w9.heap.size, 4, none⟩ = some (.bool D.off)) ∧ True) (OrdT.takes [0, 1, 2, 3, 4, 5, 6, 7, 8, 9, 10, 11, 12, 13, 14, 15, 16, 17, 18, 19, 20, 21, 22, 23, 24, 25, 26, 27, 28, 29, 30] (.one 31 (.one 32 (OrdT.takes [33, 34] (.one 35 (OrdT.takes [36, 37] .done)))))) (by kernel_rfl) (by kernel_rfl) (HSZ.out _ _ H12.out.drew) (fun wz hz => ?_)
        have h13 := H12.out.drew
        rw [← hz] at h13
        have H13 := Lib.hid h13
        clear hz h13 H12
        unfold OrdT.takes
        --ordt mymmyymmyymmyymmyymmymmmyyyymym
        (refine' t_move _ _ rfl rfl rfl rfl _ _; rotate_left; (go_simp; with_reducible rfl); simp only [Act.put, List.setIfInBounds_toArray, List.set_cons_zero, List.set_cons_succ])
        (refine' t_yield _ rfl rfl rfl _ _; rotate_left; (intro w' hSw; obtain ⟨s0, s1, s2⟩ := hSw; go_simp; with_reducible rfl); simp only [Act.put, List.setIfInBounds_toArray, List.set_cons_zero, List.set_cons_succ])
        iterate 2 (refine' t_move _ _ rfl rfl rfl rfl _ _; rotate_left; (go_simp; with_reducible rfl); simp only [Act.put, List.setIfInBounds_toArray, List.set_cons_zero, List.set_cons_succ])
        iterate 2 (refine' t_yield _ rfl rfl rfl _ _; rotate_left; (intro w' hSw; obtain ⟨s0, s1, s2⟩ := hSw; go_simp; with_reducible rfl); simp only [Act.put, List.setIfInBounds_toArray, List.set_cons_zero, List.set_cons_succ])
        iterate 2 (refine' t_move _ _ rfl rfl rfl rfl _ _; rotate_left; (go_simp; with_reducible rfl); simp only [Act.put, List.setIfInBounds_toArray, List.set_cons_zero, List.set_cons_succ])
        iterate 2 (refine' t_yield _ rfl rfl rfl _ _; rotate_left; (intro w' hSw; obtain ⟨s0, s1, s2⟩ := hSw; go_simp; with_reducible rfl); simp only [Act.put, List.setIfInBounds_toArray, List.set_cons_zero, List.set_cons_succ])
        iterate 2 (refine' t_move _ _ rfl rfl rfl rfl _ _; rotate_left; (go_simp; with_reducible rfl); simp only [Act.put, List.setIfInBounds_toArray, List.set_cons_zero, List.set_cons_succ])
        iterate 2 (refine' t_yield _ rfl rfl rfl _ _; rotate_left; (intro w' hSw; obtain ⟨s0, s1, s2⟩ := hSw; go_simp; with_reducible rfl); simp only [Act.put, List.setIfInBounds_toArray, List.set_cons_zero, List.set_cons_succ])
        iterate 2 (refine' t_move _ _ rfl rfl rfl rfl _ _; rotate_left; (go_simp; with_reducible rfl); simp only [Act.put, List.setIfInBounds_toArray, List.set_cons_zero, List.set_cons_succ])
        iterate 2 (refine' t_yield _ rfl rfl rfl _ _; rotate_left; (intro w' hSw; obtain ⟨s0, s1, s2⟩ := hSw; go_simp; with_reducible rfl); simp only [Act.put, List.setIfInBounds_toArray, List.set_cons_zero, List.set_cons_succ])
        iterate 2 (refine' t_move _ _ rfl rfl rfl rfl _ _; rotate_left; (go_simp; with_reducible rfl); simp only [Act.put, List.setIfInBounds_toArray, List.set_cons_zero, List.set_cons_succ])
        (refine' t_yield _ rfl rfl rfl _ _; rotate_left; (intro w' hSw; obtain ⟨s0, s1, s2⟩ := hSw; go_simp; with_reducible rfl); simp only [Act.put, List.setIfInBounds_toArray, List.set_cons_zero, List.set_cons_succ])
        iterate 3 (refine' t_move _ _ rfl rfl rfl rfl _ _; rotate_left; (go_simp; with_reducible rfl); simp only [Act.put, List.setIfInBounds_toArray, List.set_cons_zero, List.set_cons_succ])
        iterate 4 (refine' t_yield _ rfl rfl rfl _ _; rotate_left; (intro w' hSw; obtain ⟨s0, s1, s2⟩ := hSw; go_simp; with_reducible rfl); simp only [Act.put, List.setIfInBounds_toArray, List.set_cons_zero, List.set_cons_succ])
        (refine' t_move _ _ rfl rfl rfl rfl _ _; rotate_left; (go_simp; with_reducible rfl); simp only [Act.put, List.setIfInBounds_toArray, List.set_cons_zero, List.set_cons_succ])
        (refine' t_yield _ rfl rfl rfl _ _; rotate_left; (intro w' hSw; obtain ⟨s0, s1, s2⟩ := hSw; go_simp; with_reducible rfl); simp only [Act.put, List.setIfInBounds_toArray, List.set_cons_zero, List.set_cons_succ])
        (refine' t_move _ _ rfl rfl rfl rfl _ _; rotate_left; (go_simp; with_reducible rfl); simp only [Act.put, List.setIfInBounds_toArray, List.set_cons_zero, List.set_cons_succ])
        --end
        refine t_one rfl rfl (fun K hK => ?_)
        go_simp
        refine (save_has H13.out (.tail _ (.tail _ (.head _)))).mono ?_
        rintro e w14 ⟨cS, lS, cC, lC, rfl, h14⟩
        have H14 := Lib.hid h14
        clear h14 H13
        dsimp only
        refine hK _ _ (HSZ2.out _ _ _ H14.out) ?_
        clear hK
        refine t_one rfl rfl (fun K hK => ?_)
        go_simp
        refine (same_has H14.out (.tail _ (.tail _ (.head _))) (.head _)).mono ?_
        rintro e w15 ⟨rfl, h15⟩
        have H15 := Lib.hid h15
        clear h15 H14
        dsimp only
        refine hK _ _ (HSZ2.out _ _ _ H15.out) ?_
        clear hK
        unfold OrdT.takes
        --ordt ym
        (refine' t_yield _ rfl rfl rfl _ _; rotate_left; (intro w' hSw; obtain ⟨s0, s1, s2⟩ := hSw; go_simp; with_reducible rfl); simp only [Act.put, List.setIfInBounds_toArray, List.set_cons_zero, List.set_cons_succ])
        (refine' t_move _ _ rfl rfl rfl rfl _ _; rotate_left; (go_simp; with_reducible rfl); simp only [Act.put, List.setIfInBounds_toArray, List.set_cons_zero, List.set_cons_succ])
        --end
        refine t_one rfl rfl (fun K hK => ?_)
        go_simp
        refine (HAW.out _ H15.out.hB).mono ?_
        rintro e w16 ⟨rfl, hB16⟩
        have H16 := Lib.hid (H15.out.below hB16)
        clear hB16 H15
        dsimp only
        refine hK _ _ (HSZ2.out _ _ _ H16.out) ?_
        clear hK
        unfold OrdT.takes
        --ordt yy
        iterate 2 (refine' t_yield _ rfl rfl rfl _ _; rotate_left; (intro w' hSw; obtain ⟨s0, s1, s2⟩ := hSw; go_simp; with_reducible rfl); simp only [Act.put, List.setIfInBounds_toArray, List.set_cons_zero, List.set_cons_succ])
        --end
        refine t_done ?_
        go_wp2_with fail
        go_ret
        exact ⟨rfl, H16.out.hB⟩
  · have hc1 : (c != 0) = true := by
      simp
      intro e; exact hc (.inl e)
    have hc2 : (c != 13) = true := by
      simp
      intro e; exact hc (.inr e)
    have HA := Lib.hid (HAW.out _ H4.out.hB)
    have HB3 := Lib.hid H4.out.hB
    clear H4 hc
    go_wp2_with fail
    refine HA.out.mono ?_
    rintro e w9 ⟨rfl, hB9⟩
    have HB := Lib.hid (HB3.out.trans (hB9.mono HB3.out.size))
    clear hB9 HA
    go_wp2_with fail
    go_ret
    exact ⟨rfl, HB.out⟩
end Go.Proofs.YtfbkfdoekgnldaaDoor
