/- The walk of the statement JournalNumbers. -/
import Derived.Test.YtfbkfdoekgnldaaDoorJnNum
import Derived.Test.YtfbkfdoekgnldaaDoorJnWork
namespace Go.Proofs.YtfbkfdoekgnldaaDoor
open Go.RowKit
open Lime
attribute [local go_sem] Oper.semAt_some setRow_alloc_at setRow_alloc_past setRow_drew g_same32 g_eq32 g_ne32
theorem num_fresh {F : Dv} (h : Fresh F nineL 64) : Num F nineL 0 := ⟨h.calm, h.t0, ⟨_, h.pl⟩, h.len, h.pw⟩
/-- one transaction, whether it has trouble or none -/
theorem num_step {S : Dv} {n : Nat} (h : Num S nineL n) (hn : n ≤ 100) (htk : S.taken ≤ 800000) (run : List Rec) (tr : List (UInt8 × Int)) :
    ∃ (S1 C E : Dv) (was now : Nat) (out : List Rec) (wh : Bool) (many : Int), NumOut (commitM S1 nineL run).2 n C nineL E was now out wh many ∧ E.taken ≤ S.taken + 400 ∧ (tr = [] → S1 = S ∧ C = (commitM S1 nineL run).1) ∧
      (∀ t, tr[0]? = some t → S1 = S.limit (t.1.toNat % 40 : Nat) ∧ (commitM S1 nineL run).1.ca.length ≤ 200 ∧ (commitM S1 nineL run).1.crashE (keptL t.2 (commitM S1 nineL run).1.ca.length) = 0 ∧ C = (commitM S1 nineL run).1.crash (keptL t.2 (commitM S1 nineL run).1.ca.length)) := by
  cases tr with
  | nil =>
    obtain ⟨E, was, now, out, wh, many, h1, h2⟩ := num_free h (by omega) htk run
    exact ⟨S, _, E, was, now, out, wh, many, h1, h2, fun _ => ⟨rfl, rfl⟩, fun t ht => by simp at ht⟩
  | cons t r =>
    obtain ⟨h3, h4, E, was, now, out, wh, many, h1, h2⟩ := num_trouble h (by omega) htk run (t.1.toNat % 40 : Nat) t.2
    exact ⟨_, _, E, was, now, out, wh, many, h1, h2, fun e => by simp at e, fun t' ht => by simp at ht; subst ht; exact ⟨rfl, h3, h4, rfl⟩⟩
set_option maxRecDepth 100000 in
set_option maxHeartbeats 8000000 in
theorem numbers_law (v : Value) (l : List WorkD) (w : World) (hv : WorksIn w v l) (hh : HalfLaid w) :
    Calls Tryd.prog 4 #[v] w fun e w' => e = .returned (.bool true) ∧ Below w.heap.size w w' := by
  have HAW : Hid (∀ w', Below w.heap.size w w' → Calls Tryd.prog 12 #[] w' fun e w'' => e = .returned (.bool true) ∧ Below w'.heap.size w' w'') := fun w' hB => awake9 w' (hh.below hB)
  have hrd := hv.hL
  have HEA := Lib.hid hv.each
  have hln := hv.len
  obtain ⟨a, cap, rfl, -⟩ := hv.hL
  have HF := Lib.hid (formatted_has ((Has.start w).addRd hrd workL_len (by decide)) hh)
  have HHL := Lib.hid hh
  clear hh hv hrd
  go_enter Tryd.func4, Tryd.ntmps4
  go_wp2_with fail
  refine HF.out.mono ?_
  clear HF
  rintro e w1 ⟨g, F, rfl, hF, h1⟩
  have HN0 := Lib.hid (num_fresh hF)
  have HT0 : Hid (F.taken = 8) := hF.tk
  have H1 := Lib.hid h1
  clear h1 hF
  by_cases q0 : 8 < (l.length : Int)
  · go_wp2_with fail
    refine (HAW.out _ H1.out.hB).mono ?_
    rintro e w9 ⟨rfl, hB9⟩
    have HB := Lib.hid (H1.out.hB.trans (hB9.mono H1.out.hB.size))
    clear hB9
    go_wp2_with fail
    go_ret
    exact ⟨rfl, HB.out⟩
  go_wp2_with fail
  go_loopw [4, 5] (fun vn i wr => ∃ (k n : Nat) (S : Dv), i = .int .i64 (k : Int) ∧ k ≤ l.length ∧ vn = .int .u32 (n : Int) ∧ n ≤ k ∧ Hid (Num S nineL n) ∧ S.taken ≤ 8 + 400 * (k : Int) ∧ Has w wr (DevR _ g S :: WorksR _ (.slice a l.length cap) l :: [])) (fun _ i _ => l.length - (intOf i).toNat)
  case atStart => exact ⟨0, 0, F, rfl, Nat.zero_le _, rfl, Nat.le_refl _, HN0, by have := HT0.out; omega, H1.out⟩
  case round =>
    obtain ⟨k, n, S, rfl, hk, rfl, hnk, HNUM, hstk, hH⟩ := hrel
    clear H1 HN0 HT0
    by_cases hlt : k < l.length
    · obtain ⟨x, hx⟩ : ∃ x, l[k]? = some x := ⟨_, List.getElem?_eq_getElem hlt⟩
      obtain ⟨b, o, rfl⟩ := (hH.rd (.tail _ (.head _))).addr workL_len (by omega)
      obtain ⟨hri, hti⟩ := HEA.out x (List.mem_of_getElem? hx)
      obtain ⟨rv, run, tv, tr⟩ := x
      dsimp only at hri hti
      have hrd := hri.hL
      have htd := hti.hL
      have HDL := Lib.hid hri.dlen
      have hln := hri.len
      have htl := hti.len
      have HKS := Lib.hid hti.ks
      obtain ⟨ar, cr, rfl, -⟩ := hri.hL
      obtain ⟨at_, ct, rfl, -⟩ := hti.hL
      have HH := Lib.hid ((hH.addRd hrd recL_len (by decide)).addRd htd trL_len (by decide))
      have HX := Lib.hid hx
      have hkl : (k : Int) < (l.length : Int) := by omega
      have hl8 : (l.length : Int) ≤ 8 := by omega
      have hix := fun w => run_index_work b o l.length cap k hlt w
      have HST := Lib.hid (num_step HNUM.out (by omega) (by omega) run tr)
      have HCR : Hid (∀ (W' : World) rs, Has w W' rs → WorksR _ (.slice (some ⟨b, o, none⟩) l.length cap) l ∈ rs → W'.cell? ⟨b, o + k * 2, none⟩ = some (.slice ar run.length cr) ∧ W'.cell? ⟨b, o + k * 2 + 1, none⟩ = some (.slice at_ tr.length ct)) := fun W' rs h hm => ⟨h.rdCell workL_len hm k _ hx 0 _ rfl, h.rdCell workL_len hm k _ hx 1 _ rfl⟩
      clear hH hri hti hrd htd hx
      obtain ⟨r0, r1⟩ := HCR.out _ _ HH.out (.tail _ (.tail _ (.tail _ (.head _))))
      by_cases q1 : 100 < (run.length : Int)
      · go_wp2_with fail
        refine (HAW.out _ HH.out.hB).mono ?_
        rintro e w9 ⟨rfl, hB9⟩
        have HB := Lib.hid (HH.out.hB.trans (hB9.mono HH.out.hB.size))
        clear hB9
        go_wp2_with fail
        go_ret
        exact ⟨rfl, HB.out⟩
      by_cases q2 : 5 < (tr.length : Int)
      · go_wp2_with fail
        refine (HAW.out _ HH.out.hB).mono ?_
        rintro e w9 ⟨rfl, hB9⟩
        have HB := Lib.hid (HH.out.hB.trans (hB9.mono HH.out.hB.size))
        clear hB9
        go_wp2_with fail
        go_ret
        exact ⟨rfl, HB.out⟩
      obtain ⟨S1, C, E, was, now, out, wh, many, hno, het, hfree, htrb⟩ := HST.out
      have HNO := Lib.hid hno
      have HET := Lib.hid het
      have HFR := Lib.hid hfree
      have HTR := Lib.hid htrb
      have HSTK := Lib.hid hstk
      clear hno het hfree htrb HST hstk
      go_upto_region 10 with fail
      go_cut [73] (fun z wx => z = .bool false ∧ Has w wx (TrR _ (.slice at_ tr.length ct) tr :: RunR _ (.slice ar run.length cr) run :: DevR _ g S1 :: WorksR _ (.slice (some ⟨b, o, none⟩) l.length cap) l :: []))
      case first =>
        as_aux_lemma =>
        by_cases q3 : 0 < (tr.length : Int)
        · obtain ⟨bt, ot, rfl⟩ := (HH.out.rd (.head _)).addr trL_len (by omega)
          obtain ⟨t, ht⟩ : ∃ t, tr[0]? = some t := ⟨_, List.getElem?_eq_getElem (by omega)⟩
          have t0 : wr.cell? ⟨bt, ot, none⟩ = some (.int .u8 (vb t.1)) := HH.out.rdCell trL_len (.head _) 0 _ ht 0 _ rfl
          have hit := fun w => run_index_tr0 bt ot tr.length ct (by omega) w
          obtain ⟨m, hm, hm40, m1, m2, m3, m4⟩ := mod40 t.1
          have hs1 := (HTR.out t ht).1
          rw [← hm] at hs1
          have hlm := limit_at9 [_, _] HH.out (m : Int)
          rw [← hs1, m4] at hlm
          have HLM := Lib.hid hlm
          clear hlm hs1 hm m4 ht HH
          go_wp2_with fail
          refine HLM.out.mono ?_
          clear HLM
          rintro e w3 ⟨rfl, h3⟩
          have H3 := Lib.hid h3
          clear h3
          go_wp2_with fail
          go_meet
          exact ⟨rfl, H3.out⟩
        · have hS1 : S1 = S := (HFR.out (List.eq_nil_of_length_eq_zero (by omega))).1
          have HS1 := Lib.hid hS1
          clear hS1
          go_wp2_with fail
          go_meet
          exact ⟨rfl, by rw [HS1.out]; exact HH.out⟩
      case rest =>
      obtain ⟨rfl, h2⟩ := hcut
      clear HH r0 r1
      have H2 := Lib.hid h2
      clear h2
      obtain ⟨X, hX⟩ : ∃ X, X = commitM S1 nineL run := ⟨_, rfl⟩
      rw [← hX] at HNO HFR HTR
      have HX1 := Lib.hid hX
      obtain ⟨D, c⟩ := X
      dsimp only at HNO HFR HTR
      clear hX
      go_wp2_with fail
      refine wp_region_ordJ (fun W' => W'.cell? ⟨b, o + k * 2, none⟩ = some (.slice ar run.length cr) ∧ True ∧ True) (OrdT.takes [0, 2, 3, 4, 5, 6] (.one 1 (.one 7 (OrdT.takes [8] .done)))) (by kernel_rfl) (by kernel_rfl) ⟨(HCR.out _ _ H2.out.drew (.tail _ (.tail _ (.tail _ (.head _))))).1, trivial, trivial⟩ (fun wz hz => ?_)
      have h3 := H2.out.drew
      rw [← hz] at h3
      have H3 := Lib.hid h3
      clear hz h3 H2
      unfold OrdT.takes
      --ordt mmmyyy
      iterate 3 (refine' t_move _ _ rfl rfl rfl rfl _ _; rotate_left; (go_simp; with_reducible rfl); simp only [Act.put, List.setIfInBounds_toArray, List.set_cons_zero, List.set_cons_succ])
      iterate 3 (refine' t_yield _ rfl rfl rfl _ _; rotate_left; (intro w' hSw; obtain ⟨s0, s1, s2⟩ := hSw; go_simp; with_reducible rfl); simp only [Act.put, List.setIfInBounds_toArray, List.set_cons_zero, List.set_cons_succ])
      --end
      refine t_one rfl rfl (fun K hK => ?_)
      go_simp
      refine (nine_any _).mono ?_
      rintro e w4 ⟨rfl, hB4⟩
      have H4 := Lib.hid (H3.out.below hB4)
      clear hB4 H3
      dsimp only
      refine hK _ _ ⟨(HCR.out _ _ H4.out (.tail _ (.tail _ (.tail _ (.head _))))).1, trivial, trivial⟩ ?_
      clear hK
      have hcm := commit_at [_, _] H4.out nineL (.tail _ (.head _)) HDL.out hln HHL.out
      rw [← HX1.out] at hcm
      dsimp only at hcm
      have HCM := Lib.hid hcm
      clear hcm H4
      refine t_one rfl rfl (fun K hK => ?_)
      go_simp
      refine HCM.out.mono ?_
      clear HCM
      rintro e w5 ⟨rfl, h5⟩
      have H5 := Lib.hid h5
      clear h5
      dsimp only
      refine hK _ _ ⟨(HCR.out _ _ H5.out (.tail _ (.tail _ (.tail _ (.head _))))).1, trivial, trivial⟩ ?_
      clear hK
      unfold OrdT.takes
      --ordt y
      (refine' t_yield _ rfl rfl rfl _ _; rotate_left; (intro w' hSw; obtain ⟨s0, s1, s2⟩ := hSw; go_simp; with_reducible rfl); simp only [Act.put, List.setIfInBounds_toArray, List.set_cons_zero, List.set_cons_succ])
      --end
      refine t_done ?_
      clear HX1 HDL
      go_upto_region 13 with fail
      go_cut [104] (fun z wx => z = .bool false ∧ Has w wx (TrR _ (.slice at_ tr.length ct) tr :: RunR _ (.slice ar run.length cr) run :: DevR _ g C :: WorksR _ (.slice (some ⟨b, o, none⟩) l.length cap) l :: []))
      case first =>
        as_aux_lemma =>
        obtain ⟨r0, r1⟩ := HCR.out _ _ H5.out (.tail _ (.tail _ (.tail _ (.head _))))
        by_cases q3 : 0 < (tr.length : Int)
        · obtain ⟨bt, ot, rfl⟩ := (H5.out.rd (.head _)).addr trL_len (by omega)
          obtain ⟨t, ht⟩ : ∃ t, tr[0]? = some t := ⟨_, List.getElem?_eq_getElem (by omega)⟩
          have hit := fun w => run_index_tr0 bt ot tr.length ct (by omega) w
          obtain ⟨-, hca, hce, hC⟩ := HTR.out t ht
          have HCA := Lib.hid hca
          have HCE := Lib.hid hce
          have HC := Lib.hid hC
          obtain ⟨kp, hkp⟩ : ∃ kp, kp = t.2 := ⟨_, rfl⟩
          have HK := Lib.hid (HKS.out t (List.mem_of_getElem? ht))
          rw [← hkp] at HCE HC HK
          have HSZ : Hid (∀ (W' : World) rs, Has w W' rs → TrR _ (.slice (some ⟨bt, ot, none⟩) tr.length ct) tr ∈ rs → WorksR _ (.slice (some ⟨b, o, none⟩) l.length cap) l ∈ rs → W'.cell? ⟨b, o + k * 2 + 1, none⟩ = some (.slice (some ⟨bt, ot, none⟩) tr.length ct) ∧ W'.cell? ⟨bt, ot + 1, none⟩ = some (.int .u64 kp) ∧ True) := fun W' rs h h1 h2 => ⟨(HCR.out _ _ h h2).2, by rw [hkp]; exact h.rdCell trL_len h1 0 _ ht 1 _ rfl, trivial⟩
          clear hkp ht hca hce hC r0 r1 HNO HET HFR HTR HKS
          have hd : 0 < tr.length := by omega
          refine wp_region_ordJ (fun W' => W'.cell? ⟨b, o + k * 2 + 1, none⟩ = some (.slice (some ⟨bt, ot, none⟩) tr.length ct) ∧ W'.cell? ⟨bt, ot + 1, none⟩ = some (.int .u64 kp) ∧ True) (OrdT.takes [0, 1, 2, 3, 4, 5, 6, 7, 8, 9, 11, 12, 13, 14, 15, 16, 17, 18] (.one 10 (.one 19 (.one 20 (OrdT.takes [21, 22] .done))))) (by kernel_rfl) (by kernel_rfl) (HSZ.out _ _ H5.out.drew (.head _) (.tail _ (.tail _ (.tail _ (.head _))))) (fun wz hz => ?_)
          have h6 := H5.out.drew
          rw [← hz] at h6
          have H6 := Lib.hid h6
          clear hz h6 H5
          unfold OrdT.takes
          --ordt mmyyyyy
          iterate 2 (refine' t_move _ _ rfl rfl rfl rfl _ _; rotate_left; (go_simp; with_reducible rfl); simp only [Act.put, List.setIfInBounds_toArray, List.set_cons_zero, List.set_cons_succ])
          iterate 5 (refine' t_yield _ rfl rfl rfl _ _; rotate_left; (intro w' hSw; obtain ⟨s0, s1, s2⟩ := hSw; go_simp; with_reducible rfl); simp only [Act.put, List.setIfInBounds_toArray, List.set_cons_zero, List.set_cons_succ])
          --end
          --ordt mmmmmyyyyyy
          iterate 5 (refine' t_move _ _ rfl rfl rfl rfl _ _; rotate_left; (go_simp; with_reducible rfl); simp only [Act.put, List.setIfInBounds_toArray, List.set_cons_zero, List.set_cons_succ])
          iterate 6 (refine' t_yield _ rfl rfl rfl _ _; rotate_left; (intro w' hSw; obtain ⟨s0, s1, s2⟩ := hSw; go_simp; with_reducible rfl); simp only [Act.put, List.setIfInBounds_toArray, List.set_cons_zero, List.set_cons_succ])
          --end
          refine t_one rfl rfl (fun K hK => ?_)
          go_simp
          refine (pending_has H6.out (.tail _ (.tail _ (.head _)))).mono ?_
          rintro e w7 ⟨rfl, rfl⟩
          dsimp only
          refine hK _ _ (HSZ.out _ _ H6.out (.head _) (.tail _ (.tail _ (.tail _ (.head _))))) ?_
          clear hK
          refine t_one rfl rfl (fun K hK => ?_)
          go_simp
          refine (kept_has H6.out D.ca.length kp (by have := HCA.out; omega) HK.out.1 HK.out.2).mono ?_
          rintro e w8 ⟨vk, rfl, h8⟩
          have H8 := Lib.hid h8
          clear h8 H6
          dsimp only
          refine hK _ _ (HSZ.out _ _ H8.out (.tail _ (.head _)) (.tail _ (.tail _ (.tail _ (.tail _ (.head _)))))) ?_
          clear hK
          have hcr := crash_own (H8.out.perm (by exact List.Perm.cons _ (List.perm_middle (l₁ := [_, _])))) (by have := keptL_len kp D.ca.length; have := HCA.out; omega)
          rw [HCE.out, ← HC.out] at hcr
          have HCR2 := Lib.hid hcr
          clear hcr H8
          refine t_one rfl rfl (fun K hK => ?_)
          go_simp
          refine HCR2.out.mono ?_
          clear HCR2
          rintro e w9 ⟨rfl, h9⟩
          have H9 := Lib.hid (h9.drop.perm (List.perm_middle (l₁ := [_, _])).symm)
          clear h9
          dsimp only
          refine hK _ _ (HSZ.out _ _ H9.out (.head _) (.tail _ (.tail _ (.tail _ (.head _))))) ?_
          clear hK
          unfold OrdT.takes
          --ordt yy
          iterate 2 (refine' t_yield _ rfl rfl rfl _ _; rotate_left; (intro w' hSw; obtain ⟨s0, s1, s2⟩ := hSw; go_simp; with_reducible rfl); simp only [Act.put, List.setIfInBounds_toArray, List.set_cons_zero, List.set_cons_succ])
          --end
          refine t_done ?_
          go_wp2_with fail
          go_meet
          exact ⟨rfl, H9.out⟩
        · have HS1 := Lib.hid (HFR.out (List.eq_nil_of_length_eq_zero (by omega))).2
          have hd : ¬ 0 < tr.length := by omega
          refine wp_region_ordJ (fun W' => W'.cell? ⟨b, o + k * 2 + 1, none⟩ = some (.slice at_ tr.length ct) ∧ True ∧ True) (OrdT.takes [0, 1, 2, 3, 4, 5, 6, 7, 8, 9, 10, 11, 12, 13, 14, 15, 16, 17, 18, 19, 20, 21, 22] .done) (by kernel_rfl) (by kernel_rfl) ⟨(HCR.out _ _ H5.out.drew (.tail _ (.tail _ (.tail _ (.head _))))).2, trivial, trivial⟩ (fun wz hz => ?_)
          have h6 := H5.out.drew
          rw [← hz, ← HS1.out] at h6
          have H6 := Lib.hid h6
          clear hz h6 H5
          unfold OrdT.takes
          --ordt mmyyyyy
          iterate 2 (refine' t_move _ _ rfl rfl rfl rfl _ _; rotate_left; (go_simp; with_reducible rfl); simp only [Act.put, List.setIfInBounds_toArray, List.set_cons_zero, List.set_cons_succ])
          iterate 5 (refine' t_yield _ rfl rfl rfl _ _; rotate_left; (intro w' hSw; obtain ⟨s0, s1, s2⟩ := hSw; go_simp; with_reducible rfl); simp only [Act.put, List.setIfInBounds_toArray, List.set_cons_zero, List.set_cons_succ])
          --end
          --ordt mssssssssssssssy
          (refine' t_move _ _ rfl rfl rfl rfl _ _; rotate_left; (go_simp; with_reducible rfl); simp only [Act.put, List.setIfInBounds_toArray, List.set_cons_zero, List.set_cons_succ])
          iterate 14 (refine t_skip rfl rfl rfl ?_; simp only [Act.put, List.setIfInBounds_toArray, List.set_cons_zero, List.set_cons_succ])
          (refine' t_yield _ rfl rfl rfl _ _; rotate_left; (intro w' hSw; obtain ⟨s0, s1, s2⟩ := hSw; go_simp; with_reducible rfl); simp only [Act.put, List.setIfInBounds_toArray, List.set_cons_zero, List.set_cons_succ])
          --end
          refine t_done ?_
          go_wp2_with fail
          go_meet
          exact ⟨rfl, H6.out⟩
      case rest =>
      obtain ⟨rfl, h6⟩ := hcut
      clear H5
      have H6 := Lib.hid (h6.drop.drop)
      clear h6
      have hwl : was < 4294967296 := by have := HNO.out.w1; omega
      have hnl : now < 4294967296 := by have := HNO.out.n1; omega
      go_wp2_with fail
      refine (nine_any _).mono ?_
      rintro e w7 ⟨rfl, hB⟩
      have hc1 := head_has (H6.out.below hB) (.head _) nineL HHL.out
      rw [HNO.out.h1, vu_q32 hwl] at hc1
      have HC1 := Lib.hid hc1
      clear hc1 hB H6
      go_wp2_with fail
      refine HC1.out.mono ?_
      clear HC1
      rintro e w8 ⟨rfl, h8⟩
      have H8 := Lib.hid h8
      clear h8
      go_wp2_with fail
      refine (nine_any _).mono ?_
      rintro e w9 ⟨rfl, hB⟩
      have hc1 := lookE_has (H8.out.below hB) (.head _) nineL HHL.out
      rw [HNO.out.lk] at hc1
      have HC1 := Lib.hid hc1
      clear hc1 hB H8
      go_wp2_with fail
      refine HC1.out.mono ?_
      clear HC1
      rintro e w10 ⟨al, cl, rfl, h10⟩
      have H10 := Lib.hid h10.drop
      clear h10
      go_wp2_with fail
      refine (nine_any _).mono ?_
      rintro e w11 ⟨rfl, hB⟩
      have hc1 := replay_at [] (H10.out.below hB) nineL HHL.out
      rw [HNO.out.rp] at hc1
      have HC1 := Lib.hid hc1
      clear hc1 hB H10
      go_wp2_with fail
      refine HC1.out.mono ?_
      clear HC1
      rintro e w12 ⟨rfl, h12⟩
      have H12 := Lib.hid h12
      clear h12
      go_wp2_with fail
      refine (nine_any _).mono ?_
      rintro e w13 ⟨rfl, hB⟩
      have hc1 := head_has (H12.out.below hB) (.head _) nineL HHL.out
      rw [HNO.out.h2, vu_q32 hnl] at hc1
      have HC1 := Lib.hid hc1
      clear hc1 hB H12
      go_wp2_with fail
      refine HC1.out.mono ?_
      clear HC1
      rintro e w14 ⟨rfl, h14⟩
      have H14 := Lib.hid h14
      clear h14
      have hw0 : (n : Int) ≤ was := by have := HNO.out.w0; omega
      have hw1 : (was : Int) ≤ n + 1 := by have := HNO.out.w1; omega
      have hn0 : (was : Int) ≤ now ∧ (now : Int) ≤ was + 1 := by have := HNO.out.n0; omega
      have hn1 : (now : Int) ≤ n + 1 := by have := HNO.out.n1; omega
      have hwr : IntKind.u32.wrap ((n : Int) + 1) = (n : Int) + 1 := by rw [IntKind.wrap_u32]; omega
      have hwr2 : IntKind.u32.wrap ((was : Int) + 1) = (was : Int) + 1 := by rw [IntKind.wrap_u32]; omega
      obtain ⟨hn00, hn01⟩ := hn0
      go_upto_region 19 with fail
      go_cut [181] (fun z wx => z = .bool false ∧ Has w wx (DevR _ g E :: WorksR _ (.slice (some ⟨b, o, none⟩) l.length cap) l :: []))
      case first =>
        as_aux_lemma =>
        by_cases hc : c = 0
        · have hok : (n : Int) + 1 ≤ (now : Int) := by have := HNO.out.ok hc; omega
          have hok2 : ((now : Int) != (n : Int) + 1) = false := by have := HNO.out.ok hc; simp; omega
          subst hc
          go_wp2_with fail
          go_meet
          refine ⟨congrArg Value.bool ?_, H14.out⟩
          simp only [Bool.or_eq_false_iff, decide_eq_false_iff_not]
          omega
        · have hcb : (c == 0) = false := by simpa using hc
          go_wp2_with fail
          go_meet
          refine ⟨congrArg Value.bool ?_, H14.out⟩
          simp only [Bool.or_eq_false_iff, decide_eq_false_iff_not]
          omega
      case rest =>
      obtain ⟨rfl, h14⟩ := hcut
      clear H14
      have H14 := Lib.hid h14
      clear h14
      have han := HNO.out.an
      have hyes := HNO.out.yes
      have hno := HNO.out.no
      go_upto_region 21 with fail
      go_cut [215] (fun z wx => z = .bool false ∧ Has w wx (DevR _ g E :: WorksR _ (.slice (some ⟨b, o, none⟩) l.length cap) l :: []))
      case first =>
        as_aux_lemma =>
        cases wh with
        | true =>
          have h1 : (was : Int) + 1 ≤ (now : Int) := by have := han (.inl rfl); omega
          have h2 : ((now : Int) == (was : Int) + 1) = true := by simp; omega
          have h3 : ((now : Int) != (was : Int) + 1) = false := by simp; omega
          obtain rfl := hyes rfl
          clear han hyes hno
          go_wp2_with fail
          go_meet
          exact ⟨rfl, H14.out⟩
        | false =>
          obtain rfl := hno rfl
          by_cases ho : 0 < out.length
          · have h1 : (was : Int) + 1 ≤ (now : Int) := by have := han (.inr ho); omega
            have h2 : ((now : Int) == (was : Int) + 1) = true := by simp; omega
            have h3 : ((now : Int) != (was : Int) + 1) = false := by simp; omega
            have ho2 : 0 < (out.length : Int) := by omega
            clear han hyes hno
            go_wp2_with fail
            go_meet
            exact ⟨rfl, H14.out⟩
          · have ho2 : (out.length : Int) ≤ 0 := by omega
            by_cases hn : now = was
            · have h1 : (now : Int) < (was : Int) + 1 := by omega
              have h2 : ((now : Int) == (was : Int) + 1) = false := by simp; omega
              have h3 : ((now : Int) != (was : Int) + 1) = true := by simp; omega
              clear han hyes hno hn
              go_wp2_with fail
              go_meet
              exact ⟨rfl, H14.out⟩
            · have h1 : (was : Int) + 1 ≤ (now : Int) := by omega
              have h2 : ((now : Int) == (was : Int) + 1) = true := by simp; omega
              have h3 : ((now : Int) != (was : Int) + 1) = false := by simp; omega
              clear han hyes hno hn
              go_wp2_with fail
              go_meet
              exact ⟨rfl, H14.out⟩
      case rest =>
      obtain ⟨rfl, h14⟩ := hcut
      clear H14
      have H14 := Lib.hid h14
      clear h14
      have hrl := HET.out
      have hstk := HSTK.out
      have HNM := Lib.hid HNO.out.num
      have hnk2 : now ≤ k + 1 := by omega
      have HH9 := Lib.hid (H14.out)
      clear HNO HET H14
      go_wp2_with fail
      go_roundw
      case rel => exact ⟨k + 1, now, E, by go_num, by omega, rfl, hnk2, HNM, by omega, HH9.out⟩
      case measure => simp [intOf]; omega
    · obtain rfl : k = l.length := by omega
      have HA := Lib.hid (HAW.out _ hH.hB)
      have HB3 := Lib.hid hH.hB
      clear hH
      go_wp2_with fail
      refine HA.out.mono ?_
      rintro e w9 ⟨rfl, hB9⟩
      have HB := Lib.hid (HB3.out.trans (hB9.mono HB3.out.size))
      clear hB9 HA
      go_wp2_with fail
      go_ret
      exact ⟨rfl, HB.out⟩
end Go.Proofs.YtfbkfdoekgnldaaDoor
