/- The walk of the statement JournalCosts. -/
import Derived.Test.YtfbkfdoekgnldaaDoorJnCost
import Derived.Test.YtfbkfdoekgnldaaDoorOpenRun
namespace Go.Proofs.YtfbkfdoekgnldaaDoor
open Go.RowKit
open Lime
attribute [local go_sem] Oper.semAt_some setRow_alloc_at setRow_alloc_past setRow_drew g_same32 g_eq32 g_ne32
set_option maxRecDepth 100000 in
set_option maxHeartbeats 8000000 in
theorem costs_law (v : Value) (run : List Rec) (lf ls n : Int) (w : World) (hv : RunIn w v run) (hh : HalfLaid w) :
    Calls Tryd.prog 7 #[.agg #[.int .i64 lf, .int .i64 ls], .int .i64 n, v] w fun e w' => e = .returned (.bool true) ∧ Below w.heap.size w w' := by
  have HAW : Hid (∀ w', Below w.heap.size w w' → Calls Tryd.prog 12 #[] w' fun e w'' => e = .returned (.bool true) ∧ Below w'.heap.size w' w'') := fun w' hB => awake9 w' (hh.below hB)
  have hrd := hv.hL
  have hdl := hv.dlen
  have hln := hv.len
  obtain ⟨a, cap, rfl, -⟩ := hv.hL
  have h0 := ((Has.start w).addRd hrd recL_len (by decide)).alloc (.cells #[.int .i64 lf, .int .i64 ls] 27)
  have HHL := Lib.hid hh
  have HDL := Lib.hid hdl
  have H0 := Lib.hid h0
  obtain ⟨x, y, z, he⟩ : ∃ x y z : Int, (if n < 0 ∨ 80 < n then Value.tuple #[.int .i64 0, .int .i64 0, .int .i64 12] else .tuple #[.int .i64 (2 * n + 2), .int .i64 3, .int .i64 0]) = .tuple #[.int .i64 x, .int .i64 y, .int .i64 z] := by
    split
    · exact ⟨_, _, _, rfl⟩
    · exact ⟨_, _, _, rfl⟩
  have HC1 : Hid (∀ w, Calls Tryd.prog 27 #[.int .i64 n] w fun e w' => e = .returned (.tuple #[.int .i64 x, .int .i64 y, .int .i64 z]) ∧ Below w.heap.size w w') := fun w => by rw [← he]; exact costs_any n w
  have HC2 : Hid (∀ w, Calls Tryd.prog 28 #[.int .i64 n] w fun e w' => e = .returned (.tuple #[.int .i64 x, .int .i64 y, .int .i64 z]) ∧ Below w.heap.size w w') := fun w => by rw [← he]; exact ref_costs9 n w
  obtain ⟨ck, hck⟩ : ∃ ck, ck = (Lay.mk lf ls).check := ⟨_, rfl⟩
  have HK1 : Hid (∀ w, Calls Tryd.prog 29 #[.agg #[.int .i64 lf, .int .i64 ls]] w fun e w' => e = .returned (.int .i64 ck) ∧ Below w.heap.size w w') := fun w => by rw [hck]; exact check_any ⟨lf, ls⟩ w
  have HK2 : Hid (∀ w, Calls Tryd.prog 30 #[.agg #[.int .i64 lf, .int .i64 ls]] w fun e w' => e = .returned (.int .i64 ck) ∧ Below w.heap.size w w') := fun w => by rw [hck]; exact ref_check9 ⟨lf, ls⟩ w
  clear hh hv hrd hdl h0 he hck
  go_enter Tryd.func7, Tryd.ntmps7
  go_wp2_with fail
  refine (HC1.out _).mono ?_
  rintro e w1 ⟨rfl, hB1⟩
  have H1 := Lib.hid (H0.out.below hB1)
  clear hB1 HC1 H0
  go_wp2_with fail
  refine (HC2.out _).mono ?_
  rintro e w2 ⟨rfl, hB2⟩
  have H2 := Lib.hid (H1.out.below hB2)
  clear hB2 HC2 H1
  go_wp2_with fail
  have HSZ : Hid (∀ (W' : World), Has w W' (Blk _ w.heap.size (.cells #[.int .i64 lf, .int .i64 ls] 27) :: RunR _ (.slice a run.length cap) run :: []) → (W'.cell? ⟨w.heap.size, 0, none⟩ = some (.int .i64 lf) ∧ W'.cell? ⟨w.heap.size, 1, none⟩ = some (.int .i64 ls) ∧ True)) := fun W' h => ⟨h.cell 0 _ _ _ rfl 0 _ rfl, h.cell 0 _ _ _ rfl 1 _ rfl, trivial⟩
  refine wp_region_ordJ (fun W' => W'.cell? ⟨w.heap.size, 0, none⟩ = some (.int .i64 lf) ∧ W'.cell? ⟨w.heap.size, 1, none⟩ = some (.int .i64 ls) ∧ True) (OrdT.takes [0, 1, 2, 3, 4, 5, 6, 7, 8, 9, 10, 11, 12, 13, 14, 16] (.one 15 (.one 17 (OrdT.takes [18, 19] .done)))) (by kernel_rfl) (by kernel_rfl) (HSZ.out _ H2.out.drew) (fun wz hz => ?_)
  have h3 := H2.out.drew
  rw [← hz] at h3
  have H3 := Lib.hid h3
  clear hz h3 H2
  unfold OrdT.takes
  --ordt mmymmmyymmmyymyy
  iterate 2 (refine' t_move _ _ rfl rfl rfl rfl _ _; rotate_left; (go_simp; with_reducible rfl); simp only [Act.put, List.setIfInBounds_toArray, List.set_cons_zero, List.set_cons_succ])
  (refine' t_yield _ rfl rfl rfl _ _; rotate_left; (intro w' hSw; obtain ⟨s0, s1, s2⟩ := hSw; go_simp; with_reducible rfl); simp only [Act.put, List.setIfInBounds_toArray, List.set_cons_zero, List.set_cons_succ])
  iterate 3 (refine' t_move _ _ rfl rfl rfl rfl _ _; rotate_left; (go_simp; with_reducible rfl); simp only [Act.put, List.setIfInBounds_toArray, List.set_cons_zero, List.set_cons_succ])
  iterate 2 (refine' t_yield _ rfl rfl rfl _ _; rotate_left; (intro w' hSw; obtain ⟨s0, s1, s2⟩ := hSw; go_simp; with_reducible rfl); simp only [Act.put, List.setIfInBounds_toArray, List.set_cons_zero, List.set_cons_succ])
  iterate 3 (refine' t_move _ _ rfl rfl rfl rfl _ _; rotate_left; (go_simp; with_reducible rfl); simp only [Act.put, List.setIfInBounds_toArray, List.set_cons_zero, List.set_cons_succ])
  iterate 2 (refine' t_yield _ rfl rfl rfl _ _; rotate_left; (intro w' hSw; obtain ⟨s0, s1, s2⟩ := hSw; go_simp; with_reducible rfl); simp only [Act.put, List.setIfInBounds_toArray, List.set_cons_zero, List.set_cons_succ])
  (refine' t_move _ _ rfl rfl rfl rfl _ _; rotate_left; (go_simp; with_reducible rfl); simp only [Act.put, List.setIfInBounds_toArray, List.set_cons_zero, List.set_cons_succ])
  iterate 2 (refine' t_yield _ rfl rfl rfl _ _; rotate_left; (intro w' hSw; obtain ⟨s0, s1, s2⟩ := hSw; go_simp; with_reducible rfl); simp only [Act.put, List.setIfInBounds_toArray, List.set_cons_zero, List.set_cons_succ])
  --end
  refine t_one rfl rfl (fun K hK => ?_)
  go_simp
  refine (HK1.out _).mono ?_
  rintro e w4 ⟨rfl, hB4⟩
  have H4 := Lib.hid (H3.out.below hB4)
  clear hB4 H3
  dsimp only
  refine hK _ _ (HSZ.out _ H4.out) ?_
  clear hK
  refine t_one rfl rfl (fun K hK => ?_)
  go_simp
  refine (HK2.out _).mono ?_
  rintro e w5 ⟨rfl, hB5⟩
  have H5 := Lib.hid (H4.out.below hB5)
  clear hB5 H4
  dsimp only
  refine hK _ _ (HSZ.out _ H5.out) ?_
  clear hK
  unfold OrdT.takes
  --ordt yy
  iterate 2 (refine' t_yield _ rfl rfl rfl _ _; rotate_left; (intro w' hSw; obtain ⟨s0, s1, s2⟩ := hSw; go_simp; with_reducible rfl); simp only [Act.put, List.setIfInBounds_toArray, List.set_cons_zero, List.set_cons_succ])
  --end
  refine t_done ?_
  clear HK1 HK2 HSZ
  have HF1 := Lib.hid (formatted_has H5.out HHL.out)
  clear H5
  go_wp2_with fail
  refine HF1.out.mono ?_
  clear HF1
  rintro e w6 ⟨g, F, rfl, hF, h6⟩
  have HF := Lib.hid hF
  have HF2 := Lib.hid (formatted_has h6 HHL.out)
  clear h6 hF
  go_wp2_with fail
  refine HF2.out.mono ?_
  clear HF2
  rintro e w7 ⟨g2, G, rfl, hG, h7⟩
  have HG := Lib.hid hG
  have H7 := Lib.hid h7
  clear h7 hG
  by_cases q0 : 100 < (run.length : Int)
  · go_wp2_with fail
    refine (HAW.out _ H7.out.hB).mono ?_
    rintro e w9 ⟨rfl, hB9⟩
    have HB := Lib.hid (H7.out.hB.trans (hB9.mono H7.out.hB.size))
    clear hB9
    go_wp2_with fail
    go_ret
    exact ⟨rfl, HB.out⟩
  have hft : F.taken = 8 := HF.out.tk
  have htk0 := taken_has H7.out (.tail _ (.head _))
  rw [hft] at htk0
  have HTK := Lib.hid htk0
  clear hft htk0
  go_wp2_with fail
  refine HTK.out.mono ?_
  clear HTK
  rintro e w8 ⟨rfl, rfl⟩
  go_wp2_with fail
  refine (nine_any _).mono ?_
  rintro e w9 ⟨rfl, hB9⟩
  have h9 := H7.out.below hB9
  have hcm := commit_at [_] h9 nineL (.tail _ (.tail _ (.head _))) HDL.out hln HHL.out
  obtain ⟨X, hX⟩ : ∃ X, X = commitM F nineL run := ⟨_, rfl⟩
  rw [← hX] at hcm
  obtain ⟨D, c⟩ := X
  dsimp only at hcm
  have HCM := Lib.hid hcm
  have HX := Lib.hid hX
  clear hcm hX h9 hB9 H7
  go_wp2_with fail
  refine HCM.out.mono ?_
  clear HCM
  rintro e w10 ⟨rfl, h10⟩
  have H10 := Lib.hid h10
  clear h10
  by_cases hc : c = 0
  rotate_left
  · have hc1 : (c != 0) = true := by simpa using hc
    have HA := Lib.hid (HAW.out _ H10.out.hB)
    have HB3 := Lib.hid H10.out.hB
    clear H10 hc
    go_wp2_with fail
    refine HA.out.mono ?_
    rintro e w9 ⟨rfl, hB9⟩
    have HB := Lib.hid (HB3.out.trans (hB9.mono HB3.out.size))
    clear hB9 HA
    go_wp2_with fail
    go_ret
    exact ⟨rfl, HB.out⟩
  subst hc
  have hm := cost_math HF.out HG.out (run := run) (by rw [← HX.out])
  rw [← HX.out] at hm
  dsimp only at hm
  obtain ⟨hr6, hl64, hf8, htk, hca, hdf⟩ := hm
  have hcs := costs_any (run.length : Int)
  rw [if_neg (by omega)] at hcs
  obtain ⟨m, hm⟩ : ∃ m, m = 2 * (run.length : Int) + 2 := ⟨_, rfl⟩
  rw [← hm] at hcs htk
  obtain ⟨hw1, hw2⟩ : wrap64 m = m ∧ wrap64 (8 + m) = 8 + m := ⟨by unfold wrap64; omega, by unfold wrap64; omega⟩
  have HCS := Lib.hid hcs
  have HL64 := Lib.hid hl64
  have HDF := Lib.hid hdf
  rw [hf8] at htk
  have HTK := Lib.hid htk
  have HCA := Lib.hid hca
  have HR6 := Lib.hid hr6
  clear hcs hl64 hdf htk hca hf8 HX hr6 hm
  go_wp2_with fail
  refine (HCS.out _).mono ?_
  clear HCS
  rintro e w11 ⟨rfl, hB11⟩
  have H11 := Lib.hid (H10.out.below hB11)
  clear hB11 H10
  have hdi := diff_has H11.out (.tail _ (.head _)) (.head _) (by rw [HL64.out]; exact HG.out.len.symm)
  rw [HL64.out] at hdi
  have HDI := Lib.hid hdi
  clear hdi
  go_wp2_with fail
  refine HDI.out.mono ?_
  clear HDI
  rintro e w12 ⟨vd, rfl, h12⟩
  obtain ⟨L, hL⟩ : ∃ L, L = diffK D G 64 := ⟨_, rfl⟩
  rw [← hL] at h12 HDF
  have hll : L.length ≤ 64 := by rw [hL]; exact diffK_len D G 64
  obtain ⟨ad, cd, rfl, -⟩ := (h12.ownRd (.head _)).rd
  have H12 := Lib.hid h12
  have htk1 := taken_has h12 (.tail _ (.tail _ (.head _)))
  rw [HTK.out] at htk1
  have HT1 := Lib.hid htk1
  have hpe := pending_has h12 (.tail _ (.tail _ (.head _)))
  rw [HCA.out] at hpe
  have HPE := Lib.hid hpe
  clear htk1 hpe h12 hL
  go_wp2_with fail
  refine HT1.out.mono ?_
  clear HT1
  rintro e w13 ⟨rfl, rfl⟩
  go_wp2_with fail
  refine HPE.out.mono ?_
  clear HPE
  rintro e w14 ⟨rfl, rfl⟩
  clear hw1 hw2
  go_wp2_with fail
  go_loopw [19] (fun i wr => ∃ k : Nat, i = .int .i64 (k : Int) ∧ k ≤ L.length ∧ Has w wr (OwnR _ 3 1 intL (.slice ad L.length cd) L :: DevR _ g2 G :: DevR _ g D :: Blk _ w.heap.size (.cells #[.int .i64 lf, .int .i64 ls] 27) :: RunR _ (.slice a run.length cap) run :: [])) (fun i _ => L.length - (intOf i).toNat)
  case atStart => exact ⟨0, rfl, Nat.zero_le _, H12.out⟩
  case round =>
    obtain ⟨k, rfl, hk, hH⟩ := hrel
    clear H12
    by_cases hlt : k < L.length
    · obtain ⟨x, hx⟩ : ∃ x, L[k]? = some x := ⟨_, List.getElem?_eq_getElem hlt⟩
      obtain ⟨b1, o1, c1, e1, q1⟩ := (hH.ownRd (.head _)).rd.int k x hx
      injection e1 with e1 _ e1c
      subst e1
      have hix := fun w => run_index_int b1 o1 L.length cd k hlt w
      have HXK := Lib.hid hx
      have HIN := Lib.hid (HDF.out x (List.mem_of_getElem? hx))
      obtain ⟨fl, hfl⟩ : ∃ fl, fl = (decide (1 ≤ x) && decide (x ≤ 8)) := ⟨_, rfl⟩
      have HFL := Lib.hid hfl
      have HH := Lib.hid hH
      have hkl : (k : Int) < (L.length : Int) := by omega
      clear hx e1c hfl hH
      go_upto_region 18 with fail
      go_cut [20] (fun z wx => z = .bool fl ∧ wx = wr)
      case first =>
        have hfl := HFL.out
        by_cases p1 : 1 ≤ x
        · by_cases p2 : x ≤ 8
          · obtain rfl : fl = true := by rw [hfl]; simp [p1, p2]
            clear hfl HFL
            go_wp2_with fail
            go_meet
            exact ⟨rfl, rfl⟩
          · obtain rfl : fl = false := by rw [hfl]; simp [p2]
            clear hfl HFL
            go_wp2_with fail
            go_meet
            exact ⟨rfl, rfl⟩
        · obtain rfl : fl = false := by rw [hfl]; simp [p1]
          clear hfl HFL
          go_wp2_with fail
          go_meet
          exact ⟨rfl, rfl⟩
      case rest =>
      obtain ⟨rfl, rfl⟩ := hcut
      clear hix q1
      go_wp2_with fail
      go_loopw [20, 21] (fun z i wx => ∃ j : Nat, i = .int .i64 (j : Int) ∧ j ≤ run.length ∧ z = .bool (fl || (run.take j).any fun r => r.at_ == x) ∧ Has w wx (OwnR _ 3 1 intL (.slice (some ⟨b1, o1, none⟩) L.length cd) L :: DevR _ g2 G :: DevR _ g D :: Blk _ w.heap.size (.cells #[.int .i64 lf, .int .i64 ls] 27) :: RunR _ (.slice a run.length cap) run :: [])) (fun _ i _ => run.length - (intOf i).toNat)
      case atStart => exact ⟨0, rfl, Nat.zero_le _, by simp, HH.out⟩
      case round =>
        obtain ⟨j, rfl, hj, rfl, hH2⟩ := hrel
        obtain ⟨zz, hzz⟩ : ∃ zz, zz = (fl || (run.take j).any fun r => r.at_ == x) := ⟨_, rfl⟩
        rw [← hzz]
        by_cases hjt : j < run.length
        · obtain ⟨r, hr⟩ : ∃ r, run[j]? = some r := ⟨_, List.getElem?_eq_getElem hjt⟩
          obtain ⟨br, or_, cr, e2, q2⟩ := (hH2.rd (.tail _ (.tail _ (.tail _ (.tail _ (.head _)))))).elem recL_len j r hr
          injection e2 with e2 _ e2c
          have q3 : wr.cell? ⟨br, or_ + j * 3, none⟩ = some (.int .i64 r.at_) := q2 0 _ rfl
          have hxk : L[k]? = some x := HXK.out
          obtain ⟨b3, o3, c3, e3, q1⟩ := (hH2.ownRd (.head _)).rd.int k x hxk
          injection e3 with e3 _ e3c
          injection e3 with e3
          injection e3 with e3a e3b
          subst e3a e3b
          have hi1 := fun w => run_index_int b1 o1 L.length cd k hlt w
          have hi2 := fun w => run_index_rec br or_ run.length cap j hjt w
          have HST : Hid ((fl || (run.take (j + 1)).any fun r => r.at_ == x) = (zz || (r.at_ == x))) := by
            have := any_take_succ' (fun r : Rec => r.at_ == x) run j r hr
            exact Lib.hid (by rw [this, hzz, Bool.or_assoc])
          have HH2 := Lib.hid hH2
          have hjl : (j : Int) < (run.length : Int) := by omega
          subst e2
          clear hzz hr e2c e3c hxk hH2 q2
          cases zz
          · go_wp2_with fail
            go_quiet (fail)
            go_wp2_with fail
            go_roundw
            case rel => exact ⟨j + 1, by go_num, by omega, by rw [HST.out]; simp, HH2.out.drewN _⟩
            case measure => simp [intOf]; omega
          · go_wp2_with fail
            go_quiet (fail)
            go_wp2_with fail
            go_roundw
            case rel => exact ⟨j + 1, by go_num, by omega, by rw [HST.out]; simp, HH2.out.drewN _⟩
            case measure => simp [intOf]; omega
        · obtain rfl : j = run.length := by omega
          have hT : zz = true := by
            rw [hzz, List.take_length]
            rcases HIN.out with ⟨u1, u2⟩ | u
            · rw [HFL.out]; simp [u1, u2]
            · rw [u]; simp
          subst hT
          have HH2 := Lib.hid hH2
          clear hzz hH2
          go_wp2_with fail
          go_roundw
          case rel => exact ⟨k + 1, by go_num, by omega, HH2.out⟩
          case measure => simp [intOf]; omega
    · obtain rfl : k = L.length := by omega
      have HA := Lib.hid (HAW.out _ hH.hB)
      have HB3 := Lib.hid hH.hB
      clear hH
      go_wp2_with fail
      refine HA.out.mono ?_
      rintro e w9 ⟨rfl, hB9⟩
      have HB := Lib.hid (HB3.out.trans (hB9.mono HB3.out.size))
      clear hB9 HA
      go_wp2_with fail
      go_ret
      exact ⟨rfl, HB.out⟩
end Go.Proofs.YtfbkfdoekgnldaaDoor
