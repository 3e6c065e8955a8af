/- The walk of a device's Write. -/
import Derived.Test.YtfbkfdoekgnldaaGreatDoorDevPush
import Derived.Deep.RegionLaw
namespace Go.Proofs.YtfbkfdoekgnldaaGreatDoor
open Go.RowKit
attribute [local go_sem] Oper.semAt_some
theorem push_done {W3 Wf : World} {g mb : Nat} {T : Dv} {vS vC : Value} (hg : Wf.heap[g]? = some (.cells (devCells vS vC T mb) 90 (0, 0))) (hk : ∀ k, k ≠ g → Wf.heap[k]? = W3.heap[k]?)
    (hS : OwnS W3 vS T.st) (hC : OwnC W3 vC T.ca) (hM : MapI W3 mb T.ca.length (newM T.ca)) (ok : T.Ok) (h1 : g ∉ blks vS) (h2 : g ∉ blks vC) (h3 : g ≠ mb) : DevIn Wf g T vS vC mb :=
  ⟨hg, hS.stay (fun k hk' => hk k (fun e => h1 (e ▸ hk'))), hC.stay (fun k hk' => hk k (fun e => h2 (e ▸ hk'))), hM.stay (hk mb (fun e => h3 e.symm)), ok⟩
theorem rangeAt_setCell {W : World} {b o : Nat} {cs : List Value} (h : W.rangeAt b o cs) (g i : Nat) (v : Value) (hg : b ≠ g) : (W.setCell ⟨g, i, none⟩ v).rangeAt b o cs := fun j u hu => by
  have := h j u hu
  unfold World.cell? at this ⊢
  rwa [Below.heap_setCell W ⟨g, i, none⟩ v b hg]
theorem rangeAt_only {W W' : World} {F : List Nat} {b o : Nat} {cs : List Value} (h : W.rangeAt b o cs) (hO : Only F W W') (hlt : b < W.heap.size) (hb : b ∉ F) : W'.rangeAt b o cs := fun j u hu => by
  have := h j u hu
  unfold World.cell? at this ⊢
  rwa [hO.block b hlt hb]
/-- the load of a sector, under a name that the walk does not open -/
def ldX (v : Value) : Sem Value := Instr.loadAt 53 v
theorem ld_X (v : Value) : Instr.loadAt 53 v = ldX v := rfl
theorem run_ldX {w : World} {b i : Nat} {s : Sector} (h : w.rangeAt b i (secL s)) : (ldX (.pointer (some ⟨b, i, none⟩))).run Tryz.prog w = .ok (.agg (secL s).toArray) w :=
  run_loadAt_mid w b i _ (secL s) _ h Tryz.underlying53 rfl (secL_size s)
theorem wrV_nonempty (x : Wr) : (wrV x = #[]) = False := by
  apply eq_false; intro h; have := congrArg Array.size h; rw [wr_size] at this; simp at this
theorem fold_wr (n : Int) (s : Sector) (y : Wr) : List.foldl (fun (cs : Array Value) (x : Value × Nat) => cs.setIfInBounds (1 + x.snd) x.fst) ((wrV y).setIfInBounds 0 (.int .i64 n)) (secL s).zipIdx = wrV (n, s) := by
  rw [fill_fold #[] _ 0 1 _ (by simp [wr_size, secL_len])]
  rw [List.drop_eq_nil_of_le (by simp [wr_size, secL_len])]
  cases y with
  | mk a b => simp [wrV, wrL]
theorem fold_wr0 (c0 : Array Value) (y : Wr) (h : c0.size = 129) : Array.foldl (fun (cs : Array Value) (x : Value × Nat) => cs.setIfInBounds x.snd x.fst) c0 (wrV y).zipIdx 0 129 = wrV y := by
  have h1 := fill_fold #[] (wrV y).toList 0 0 c0 (by simp [h, wr_size])
  rw [List.drop_eq_nil_of_le (by simp [h, wr_size])] at h1
  simp only [Nat.zero_add, List.take_zero, List.nil_append, List.append_nil] at h1
  have e : (wrV y).zipIdx.size = 129 := by simp [wr_size]
  have h2 : Array.foldl (fun (cs : Array Value) (x : Value × Nat) => cs.setIfInBounds x.snd x.fst) c0 (wrV y).zipIdx 0 (wrV y).zipIdx.size = wrV y := by
    rw [← Array.foldl_toList, Array.toList_zipIdx]
    simpa using h1
  rwa [e] at h2
attribute [local go_sem ↓ high] ld_X
attribute [local go_sem] fold_wr0 wr_zero secL_len wr_size wrV_nonempty fold_wr
attribute [local go_sem] zc_wr0
set_option maxRecDepth 100000 in
set_option maxHeartbeats 4000000 in
theorem dev_write {W : World} {g mb : Nat} {S : Dv} {vS vC : Value} (h : DevIn W g S vS vC mb) (n : Int) (x : Sector) :
    Calls Tryz.prog 78 #[pv g, .int .i64 n, .agg (sec x)] W fun e w' => e = .returned (.int .i64 (S.writeE n)) ∧
      (∃ vC', DevIn w' g (S.write n x) vS vC' mb ∧ (∀ k ∈ blks vC', k ∈ blks vC ∨ W.heap.size ≤ k)) ∧ Only (g :: mb :: (blks vS ++ blks vC)) W w' := by
  have h' := h.alloc (.cells (sec x) 53)
  have HA := Lib.hid (dev_at h' n)
  have HH := Lib.hid h'
  have hO0 : Only (g :: mb :: (blks vS ++ blks vC)) W (W.alloc (.cells (sec x) 53)) := (Only.refl _ _).alloc _
  have hg0 := h.lt g (by simp)
  by_cases h0 : S.at n = 0
  · have hn : 0 ≤ n ∧ n < S.st.length := by
      unfold Dv.at at h0
      split at h0
      · simp at h0
      · split at h0
        · simp at h0
        · omega
    rw [h0] at HA
    have c3 := h'.c3
    have c2 := h'.c2
    have c1 := h'.c1
    have f4 := h'.frozen 4
    have c4 := h'.c4
    by_cases hp : S.power = 0 ∨ 1000000000000 ≤ S.taken
    · have HV : Hid (S.writeE n = 13 ∧ S.write n x = { S with off := true }) := ⟨by unfold Dv.writeE; rw [if_neg (by simp [h0]), if_pos hp], by unfold Dv.write; rw [if_neg (by simp [h0]), if_pos hp]⟩
      have hok : Dv.Ok { S with off := true } := ⟨h.ok.s1, h.ok.s2, h.ok.c1, h.ok.c2, h.ok.t1, h.ok.t2, h.ok.p1, h.ok.p2⟩
      have HF := Lib.hid ((h.setG 4 (.bool true) (T := { S with off := true }) rfl rfl rfl hok).alloc (.cells (sec x) 53))
      have t2 := h.ok.t2
      clear h h' hok
      by_cases hp0 : S.power = 0
      · rw [hp0] at c3
        go_enter Tryz.func78, Tryz.ntmps78
        go_wp2_with (first | ((with_reducible refine wpList_box_sector rfl _ rfl x ?_ ?_); rfl) | (go_at_call 85; refine HA.out.mono ?_; rintro e w' ⟨rfl, rfl⟩))
        go_ret
        exact ⟨by rw [HV.out.1]; rfl, ⟨vC, by rw [HV.out.2]; exact HF.out, fun k hk => .inl hk⟩, ((Only.refl _ _).setCell _ _ (.inl (by simp))).alloc _⟩
      · have htm : S.taken = 1000000000000 := by omega
        rw [htm] at c2
        have hpb : (S.power == 0) = false := by simpa using hp0
        clear hp
        go_enter Tryz.func78, Tryz.ntmps78
        go_wp2_with (first | ((with_reducible refine wpList_box_sector rfl _ rfl x ?_ ?_); rfl) | (go_at_call 85; refine HA.out.mono ?_; rintro e w' ⟨rfl, rfl⟩))
        go_ret
        exact ⟨by rw [HV.out.1]; rfl, ⟨vC, by rw [HV.out.2]; exact HF.out, fun k hk => .inl hk⟩, ((Only.refl _ _).setCell _ _ (.inl (by simp))).alloc _⟩
    · have HV : Hid (S.writeE n = 0 ∧ S.write n x = S.roomy.push n x) := ⟨by unfold Dv.writeE; rw [if_neg (by simp [h0]), if_neg hp], by unfold Dv.write; rw [if_neg (by simp [h0]), if_neg hp]⟩
      have HOK := Lib.hid (Dv.write_ok h.ok n x)
      rw [HV.out.2] at HOK
      have hpb : (S.power == 0) = false := by simp; omega
      have htb : (S.taken == 1000000000000) = false := by simp; omega
      have hbx : (W.alloc (.cells (sec x) 53)).heap[W.heap.size]? = some (.cells (sec x) 53 (0, 0)) := heap_alloc_new _ _
      obtain ⟨a, cap, hv, hc1, hc2⟩ := h.hC.shape
      have hlen := h.ok.c1
      have HP : Hid (1 ≤ S.power ∨ S.power < 0) := by show _ ∨ _; omega
      rcases (show S.ca.length = 400 ∨ S.ca.length < 400 by omega) with hfull | hfull
      have HST := Lib.hid (dev_stable h')
      have hfb : ((S.ca.length : Int) == 400) = true := by simp; omega
      rw [hv] at c1
      go_enter Tryz.func78, Tryz.ntmps78
      go_wp2_with (first | ((with_reducible refine wpList_box_sector rfl _ rfl x ?_ ?_); rfl) | (go_at_call 85; refine HA.out.mono ?_; rintro e w' ⟨rfl, rfl⟩) | (go_at_call 94; refine HST.out.mono ?_; rintro e W1 ⟨rfl, hDs, hOs⟩))
      obtain ⟨R, vC1, hRr, hR, hO1, hbx1, hbF, hbC⟩ : ∃ R vC1, R = S.roomy ∧ DevIn W1 g R vS vC1 mb ∧ Only (g :: mb :: (blks vS ++ blks vC)) W W1 ∧ W1.heap[W.heap.size]? = some (.cells (sec x) 53 (0, 0)) ∧ W.heap.size ∉ mb :: blks vC1 ∧ (∀ k ∈ blks vC1, k ∈ blks vC) := by
        have hlt := h.lt
        refine ⟨S.stable, _, by unfold Dv.roomy; rw [if_pos (by omega)], hDs, hO0.step (hOs.mono (by intro k hk; simp only [List.mem_cons, List.mem_append] at hk ⊢; rcases hk with hk | hk | hk; exact .inl hk; exact .inr (.inl hk); exact .inr (.inr (.inl hk)))), ?_, ?_, ?_⟩
        · refine (hOs.block _ (by simp) (fun hk => ?_)).trans hbx
          have := hlt W.heap.size (by simp only [List.mem_cons, List.mem_append] at hk ⊢; rcases hk with hk | hk | hk; exact .inl hk; exact .inr (.inl hk); exact .inr (.inr (.inl hk)))
          omega
        · intro hk
          simp [blks_nil] at hk
          have := hlt mb (by simp)
          omega
        · simp [blks_nil]
      clear hDs hOs HST hbx h h' HA HH hO0 c1 c2 c3 c4 f4 hfb hpb htb
      rotate_left
      have hfb : ((S.ca.length : Int) == 400) = false := by simp; omega
      rw [hv] at c1
      go_enter Tryz.func78, Tryz.ntmps78
      go_wp2_with (first | ((with_reducible refine wpList_box_sector rfl _ rfl x ?_ ?_); rfl) | (go_at_call 85; refine HA.out.mono ?_; rintro e w' ⟨rfl, rfl⟩))
      obtain ⟨R, vC1, hRr, hR, hO1, hbx1, hbF, hbC⟩ : ∃ R vC1, R = S.roomy ∧ DevIn (W.alloc (.cells (sec x) 53)) g R vS vC1 mb ∧ Only (g :: mb :: (blks vS ++ blks vC)) W (W.alloc (.cells (sec x) 53)) ∧ (W.alloc (.cells (sec x) 53)).heap[W.heap.size]? = some (.cells (sec x) 53 (0, 0)) ∧ W.heap.size ∉ mb :: blks vC1 ∧ (∀ k ∈ blks vC1, k ∈ blks vC) := by
        have hlt := h.lt
        refine ⟨S, _, by unfold Dv.roomy; rw [if_neg (by omega)], h', hO0, hbx, ?_, fun _ h => h⟩
        intro hk
        have := hlt W.heap.size (by simp only [List.mem_cons, List.mem_append] at hk ⊢; rcases hk with hk | hk; exact .inr (.inl hk); exact .inr (.inr (.inr hk)))
        omega
      clear hbx h h' HA HH hO0 c1 c2 c3 c4 f4 hfb hpb htb
      revert hR hO1 hbx1
      generalize (W.alloc (.cells (sec x) 53)) = W1
      intro hR hO1 hbx1
      all_goals
        obtain ⟨a1, cap1, hv1, _, _⟩ := hR.hC.shape
        subst hv1
        have hnR : 0 ≤ n ∧ n < R.st.length := by rw [hRr, Dv.roomy_len]; exact hn
        have hRl : R.ca.length < 400 := by rw [hRr]; exact Dv.roomy_lt
        obtain ⟨W2, hrun2, hO2, hM2, v', W3, hrun3, hC3, hf3, hO3, hm3, hg3, hS3⟩ := push_worlds hR n x hnR _ rfl
        obtain ⟨a3, cap3, hv3, _, _⟩ := hC3.shape
        rw [List.length_append, List.length_singleton] at hv3
        subst hv3
        have ap := hR.apart
        have hlt := hR.lt
        have c5 := hR.c5
        have c1 := hR.c1
        have gW1 := hlt g (by simp)
        have gW2 : W2.heap[g]? = some _ := (hO2.block g gW1 (by simpa using ap.1)).trans hR.hg
        have gW2l : g < W2.heap.size := (Array.getElem?_eq_some_iff.1 gW2).1
        have e5 : W2.cell? ⟨g, 5, none⟩ = some (.map (some mb)) := cell_of_row W2 g 5 _ _ _ gW2
        have e1 : W2.cell? ⟨g, 1, none⟩ = some (.slice a1 R.ca.length cap1) := cell_of_row W2 g 1 _ _ _ gW2
        have hx1 : W1.rangeAt W.heap.size 0 (secL x) := rangeAt_row hbx1 _ _ (fun j v hv => by simpa [secL] using hv)
        have bW1 : W.heap.size < W1.heap.size := (Array.getElem?_eq_some_iff.1 hbx1).1
        have bF : W.heap.size ∉ mb :: blks (.slice a1 R.ca.length cap1) := hbF
        have hx2 : W2.drew.rangeAt W.heap.size 0 (secL x) := rangeAt_only (F := [mb]) hx1 hO2.drew bW1 (by intro h; exact bF (by rw [List.mem_singleton] at h; rw [h]; exact List.mem_cons_self))
        have hx20 : W2.rangeAt W.heap.size 0 (secL x) := hx2
        have hx2' : (W2.alloc (.cells (wrV (n, x)) 87)).drew.rangeAt W.heap.size 0 (secL x) := World.rangeAt_alloc hx2 _
        have hx3 : W3.rangeAt W.heap.size 0 (secL x) := rangeAt_only hx1 hO3 bW1 bF
        have hx4 : (W3.setCell ⟨g, 1, none⟩ (.slice a3 (R.ca.length + 1) cap3)).rangeAt W.heap.size 0 (secL x) := rangeAt_setCell hx3 g 1 (.slice a3 (R.ca.length + 1) cap3) (by omega)
        have ld1 := run_ldX hx2
        have ld2 := run_ldX hx2'
        have ld3 := run_ldX hx3
        have ld0 : (ldX (.pointer (some ⟨W.heap.size, 0, none⟩))).run Tryz.prog W2 = .ok (.agg (secL x).toArray) W2 := run_ldX hx20
        have ld20 : (ldX (.pointer (some ⟨W.heap.size, 0, none⟩))).run Tryz.prog (W2.alloc (.cells (wrV (n, x)) 87)) = .ok (.agg (secL x).toArray) (W2.alloc (.cells (wrV (n, x)) 87)) := run_ldX (World.rangeAt_alloc hx20 _)
        have d1 : W3.cell? ⟨g, 1, none⟩ = some (.slice a1 R.ca.length cap1) := cell_of_row W3 g 1 _ _ _ hg3
        have d2 : W3.cell? ⟨g, 2, none⟩ = some (.int .i64 R.taken) := cell_of_row W3 g 2 _ _ _ hg3
        have d3 : W3.cell? ⟨g, 3, none⟩ = some (.int .i64 R.power) := cell_of_row W3 g 3 _ _ _ hg3
        have d1f : W3.frozen? ⟨g, 1, none⟩ = false := frozen_of_row W3 g 1 _ _ hg3
        have d2f : W3.frozen? ⟨g, 2, none⟩ = false := frozen_of_row W3 g 2 _ _ hg3
        have d3f : W3.frozen? ⟨g, 3, none⟩ = false := frozen_of_row W3 g 3 _ _ hg3
        have rt1 := hR.ok.t1
        have rt2 := hR.ok.t2
        have rp1 := hR.ok.p1
        have rp2 := hR.ok.p2
        have hu := Tryz.underlying53
        have hi : (Tryz.prog.info? 53).map (·.size) = some (secL x).length := secL_size x
        have hgC : g ∉ blks (.slice a3 (R.ca.length + 1) cap3) := fun hk => by
          rcases hf3 g hk with h | h
          · exact ap.2.2.1 h
          · omega
        have HFIN : Hid (∀ Wf : World, Wf.heap[g]? = some (.cells (devCells vS (.slice a3 (R.ca.length + 1) cap3) (R.push n x) mb) 90 (0, 0)) → (∀ k, k ≠ g → Wf.heap[k]? = W3.heap[k]?) → DevIn Wf g (R.push n x) vS (.slice a3 (R.ca.length + 1) cap3) mb) := fun Wf hgf hkf =>
          push_done hgf hkf hS3 hC3 (by have := hM2.stay hm3; simpa [Dv.push] using this) (by have := HOK.out; rwa [← hRr] at this) ap.2.1 hgC ap.1
        have HF3 : Hid (∀ k ∈ blks (.slice a3 (R.ca.length + 1) cap3), k ∈ blks vC ∨ W.heap.size ≤ k) := fun k hk => by
          rcases hf3 k hk with h | h
          · exact .inl (hbC k h)
          · right; omega
        have HO3 : Hid (Only (g :: mb :: (blks vS ++ blks vC)) W W3) := hO1.step (hO3.mono (by intro k hk; simp only [List.mem_cons, List.mem_append] at hk ⊢; rcases hk with rfl | hk; exact .inr (.inl rfl); exact .inr (.inr (.inr (hbC k hk)))))
        have HG3 := Lib.hid hg3
        have HRR := Lib.hid hRr
        clear hO2 hM2 hC3 hf3 hO3 hm3 hS3 hg3 ap hlt gW1 gW2 hx1 bF hbF hbC hO1 hbx1 bW1 hgC hR hnR hRr hfull
        go_region_held3 (fun w' => w'.cell? ⟨g, 5, none⟩ = some (.map (some mb)) ∧ w'.cell? ⟨g, 1, none⟩ = some (.slice a1 R.ca.length cap1)) (first | exact ⟨c5, c1⟩ | exact ⟨e5, e1⟩) (fail)
        go_wp2
        go_region_law (rw [if_pos (by rfl)]; refine wp_append_eq _ _ _ rfl _ _ _ _ rfl rfl hrun3 ?_)
        go_wp2
        all_goals
          go_ret
          refine ⟨by rw [HV.out.1]; rfl, ⟨(.slice a3 (R.ca.length + 1) cap3), ?_, HF3.out⟩, ?_⟩
          · rw [HV.out.2, ← HRR.out]
            refine HFIN.out _ ?_ (fun k hk => ?_)
            · first
                | (rw [heap_setCell_same _ g 3 _ _ _ (heap_setCell_same _ g 2 _ _ _ (heap_setCell_same W3 g 1 _ _ _ HG3.out))]; simp only [devCells, Dv.push, List.setIfInBounds_toArray, List.set_cons_succ, List.set_cons_zero]; rw [if_pos (by omega)])
                | (rw [heap_setCell_same _ g 2 _ _ _ (heap_setCell_same W3 g 1 _ _ _ HG3.out)]; simp only [devCells, Dv.push, List.setIfInBounds_toArray, List.set_cons_succ, List.set_cons_zero]; rw [if_neg (by omega)])
            · first
                | (rw [Below.heap_setCell _ ⟨g, 3, none⟩ _ k hk, Below.heap_setCell _ ⟨g, 2, none⟩ _ k hk, Below.heap_setCell _ ⟨g, 1, none⟩ _ k hk])
                | (rw [Below.heap_setCell _ ⟨g, 2, none⟩ _ k hk, Below.heap_setCell _ ⟨g, 1, none⟩ _ k hk])
          · first
              | exact ((HO3.out.setCell ⟨g, 1, none⟩ _ (.inl (by simp))).setCell ⟨g, 2, none⟩ _ (.inl (by simp))).setCell ⟨g, 3, none⟩ _ (.inl (by simp))
              | exact (HO3.out.setCell ⟨g, 1, none⟩ _ (.inl (by simp))).setCell ⟨g, 2, none⟩ _ (.inl (by simp))
  · have HV : Hid (S.writeE n = S.at n ∧ S.write n x = S) := ⟨by unfold Dv.writeE; rw [if_pos h0], by unfold Dv.write; rw [if_pos h0]⟩
    have hne : (S.at n == 0) = false := by simpa using h0
    clear h h' h0
    go_enter Tryz.func78, Tryz.ntmps78
    go_wp2_with (first | ((with_reducible refine wpList_box_sector rfl _ rfl x ?_ ?_); rfl) | (go_at_call 85; refine HA.out.mono ?_; rintro e w' ⟨rfl, rfl⟩))
    go_ret
    exact ⟨by rw [HV.out.1]; rfl, ⟨vC, by rw [HV.out.2]; exact HH.out, fun k hk => .inl hk⟩, hO0⟩
end Go.Proofs.YtfbkfdoekgnldaaGreatDoor
