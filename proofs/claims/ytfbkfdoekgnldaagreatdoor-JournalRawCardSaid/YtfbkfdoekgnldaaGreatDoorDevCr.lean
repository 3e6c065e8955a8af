/- The walk of Crash. -/
import Derived.Test.YtfbkfdoekgnldaaGreatDoorDevCr1
namespace Go.Proofs.YtfbkfdoekgnldaaGreatDoor
open Go.RowKit
attribute [local go_sem] Oper.semAt_some setRow_alloc_at
theorem flushL_take (S : Dv) (keep : List Int) (k : Nat) (i : Int) (x : Int) (s : Sector) (hi : keep[k]? = some i) (hx : S.ca[i.toNat]? = some (x, s)) :
    flushL S.st ((keep.take (k + 1)).map fun i => S.ca.getD i.toNat (0, zsec)) = (flushL S.st ((keep.take k).map fun i => S.ca.getD i.toNat (0, zsec))).set x.toNat s := by
  rw [List.take_add_one, hi]
  simp only [Option.toList_some, List.map_append, List.map_cons, List.map_nil, flushL_snoc]
  simp [hx]
set_option maxRecDepth 100000 in
set_option maxHeartbeats 4000000 in
theorem dev_crash {W : World} {g mb : Nat} {S : Dv} {vS vC : Value} (h : DevIn W g S vS vC mb) (v : Value) (keep : List Int) (hv : RdL W 1 intL v keep) (hl : keep.length ≤ 1000000) (hap : keep ≠ [] → ∀ k ∈ blks v, k ∉ g :: mb :: blks vS) :
    Calls Tryz.prog 39 #[pv g, v] W fun e w' => e = .returned (.int .i64 (S.crashE keep)) ∧ (∃ vC', DevIn w' g (S.crash keep) vS vC' mb ∧ (∀ k ∈ blks vC', k ∈ blks vC)) ∧ Only (g :: mb :: blks vS) W w' := by
  have hv' := hv
  obtain ⟨a, cap, rfl, _⟩ := hv'
  have hB1 : Below W.heap.size W (W.alloc (.cells #[pv g] 27)) := (Below.refl _ _).alloc (Nat.le_refl _) _
  have h' := h.below hB1
  have hc1 : (W.alloc (.cells #[pv g] 27)).cell? ⟨W.heap.size, 0, none⟩ = some (pv g) := cell_of_row _ _ 0 _ _ _ (heap_alloc_new _ _)
  have hvb := hv.below hB1
  have HOK := Lib.hid (dev_ok h')
  have HCT := Lib.hid (contains_int h' W.heap.size hc1 _ keep hvb hl)
  have hO1 : Only (g :: mb :: blks vS) W (W.alloc (.cells #[pv g] 27)) := (Only.refl _ _).alloc _
  have HO1 := Lib.hid hO1
  have HH := Lib.hid h'
  have HVB := Lib.hid hvb
  have hg0 := h.lt g (by simp)
  have HBK := Lib.hid h.lt
  clear hO1 h' hvb hB1 h hv
  go_enter Tryz.func39, Tryz.ntmps39
  cases hodd : keep.any S.odd
  · have HOD := Lib.hid hodd
    rw [hodd] at HCT
    clear hodd
    go_wp2_with (first | (go_at_call 40; refine HOK.out.mono ?_; rintro e w' ⟨rfl, rfl⟩) | (go_at_call 80; refine HCT.out.mono ?_; rintro e w' ⟨rfl, rfl⟩))
    obtain ⟨W1, hW1⟩ : ∃ W1, W1 = W.alloc (.cells #[pv g] 27) := ⟨_, rfl⟩
    rw [← hW1] at hc1 HH HVB HO1 ⊢
    have hsz1 : W1.heap.size = W.heap.size + 1 := by rw [hW1]; simp
    clear hW1 HCT HOK
    go_loopw [5] (fun i wr => ∃ k : Nat, (k + 1 ≤ keep.length ∨ k = 0) ∧ i = .int .i64 ((k : Int) + 1) ∧ (∀ j, j + 1 < k + 1 → keep.getD j 0 < keep.getD (j + 1) 0) ∧ Below W1.heap.size W1 wr) (fun i _ => keep.length + 1 - (intOf i).toNat)
    case atStart => exact ⟨0, .inr rfl, rfl, by intro j hj; omega, Below.refl _ _⟩
    case round =>
      obtain ⟨k, hk, rfl, hris, hB⟩ := hrel
      by_cases hlt : k + 1 < keep.length
      · obtain ⟨x, hx⟩ : ∃ x, keep[k + 1]? = some x := ⟨_, List.getElem?_eq_getElem hlt⟩
        obtain ⟨y, hy⟩ : ∃ y, keep[k]? = some y := ⟨_, List.getElem?_eq_getElem (by omega)⟩
        obtain ⟨b, o, cap', hvb, hcx⟩ := (HVB.out.below hB).int (k + 1) x hx
        obtain ⟨b', o', cap'', hvb', hcy⟩ := (HVB.out.below hB).int k y hy
        injection hvb with hvb _ hcap
        subst hcap
        subst hvb
        injection hvb' with hvb' _ hcap
        injection hvb' with hvb'
        injection hvb' with e1 e2
        subst e1 e2 hcap
        have hki : (k : Int) + 1 < (keep.length : Int) := by omega
        have hki2 : (k : Int) < (keep.length : Int) := by omega
        have hki0 : (0 : Int) ≤ (k : Int) + 1 := by omega
        have htn : ((k : Int) + 1).toNat = k + 1 := by omega
        have hs1 : (k : Int) + 1 - 1 = (k : Int) := by omega
        have hgx : keep.getD (k + 1) 0 = x := by simp [hx]
        have hgy : keep.getD k 0 = y := by simp [hy]
        have HR : Hid (y < x → ∀ j, j + 1 < k + 1 + 1 → keep.getD j 0 < keep.getD (j + 1) 0) := by
          intro hyx j hj
          by_cases e : j = k
          · subst e; rw [hgx, hgy]; exact hyx
          · exact hris j (by omega)
        have HNR : Hid (x ≤ y → S.crashE keep = 6 ∧ S.crash keep = S) := by
          intro hyx
          have e : S.crashE keep = 6 := by
            unfold Dv.crashE
            rw [HOD.out, if_neg (by simp), if_neg]
            rw [risesI_iff]
            intro h
            have := h k hlt
            rw [hgx, hgy] at this
            omega
          exact ⟨e, by unfold Dv.crash; rw [if_neg (by rw [e]; decide)]⟩
        clear hris hx hy hgx hgy
        by_cases hxy : x ≤ y
        · go_wp2
          go_region
          all_goals
            go_wp2
            go_ret
            exact ⟨by rw [(HNR.out hxy).1]; rfl, ⟨_, by rw [(HNR.out hxy).2]; exact HH.out.below hB.drew, fun _ h => h⟩, HO1.out.thenBelow hB.drew⟩
        · have hyx : y < x := by omega
          go_wp2
          go_region
          all_goals
            go_wp2
            go_roundw
            case rel => exact ⟨k + 1, .inl (by omega), by go_num, HR.out hyx, hB.drew⟩
            case measure => simp [intOf]; omega
      · have HRR : Hid (risesI keep = true) := by
          show _ = _
          rw [risesI_iff]
          intro i hi
          exact hris i (by omega)
        have hB3 := hB
        have hc2 : wr.cell? ⟨W.heap.size, 0, none⟩ = some (pv g) := (hB.cell (p := ⟨W.heap.size, 0, none⟩) (by show W.heap.size < _; omega)).trans hc1
        have HB := Lib.hid hB
        clear hris hB3
        obtain ⟨W2, rfl⟩ : ∃ W2, W2 = wr := ⟨_, rfl⟩
        have hsz2 : W.heap.size < W2.heap.size := by have := hB.size; omega
        have hVS : W.heap.size ∉ blks vS := fun hm => by have := HBK.out _ (List.mem_cons_of_mem _ (List.mem_cons_of_mem _ (List.mem_append_left _ hm))); omega
        have hD0 : DevIn W2 g { S with st := flushL S.st ((keep.take 0).map fun i => S.ca.getD i.toNat (0, zsec)) } vS vC mb := HH.out.below hB
        have HVB2 := Lib.hid (HVB.out.below hB)
        clear hB hc1
        go_wp2
        go_loopw [33] (fun i wr => ∃ k : Nat, k ≤ keep.length ∧ i = .int .i64 (k : Int) ∧ DevIn wr g { S with st := flushL S.st ((keep.take k).map fun i => S.ca.getD i.toNat (0, zsec)) } vS vC mb ∧ Only (blks vS) W2 wr) (fun i _ => keep.length - (intOf i).toNat)
        case atStart => exact ⟨0, Nat.zero_le _, rfl, hD0, Only.refl _ _⟩
        case round =>
          obtain ⟨k, hk, rfl, hD, hO⟩ := hrel
          clear hD0
          have hbox : wr.cell? ⟨W.heap.size, 0, none⟩ = some (pv g) := by
            have := hc2
            unfold World.cell? at this ⊢
            rwa [hO.block W.heap.size hsz2 hVS]
          by_cases hlt : k < keep.length
          · obtain ⟨i, hi⟩ : ∃ i, keep[k]? = some i := ⟨_, List.getElem?_eq_getElem hlt⟩
            have hodd : S.odd i = false := by
              have := List.any_eq_false.1 HOD.out i (List.mem_of_getElem? hi)
              simpa using this
            simp only [Dv.odd, Bool.or_eq_false_iff, decide_eq_false_iff_not] at hodd
            obtain ⟨m, rfl⟩ : ∃ m : Nat, i = m := ⟨i.toNat, by omega⟩
            have hm : m < S.ca.length := by omega
            obtain ⟨⟨x, s⟩, hx⟩ : ∃ x, S.ca[m]? = some x := ⟨_, List.getElem?_eq_getElem hm⟩
            obtain ⟨hx0, hx1⟩ := HH.out.ok.c2 _ (List.mem_of_getElem? hx)
            dsimp only at hx0 hx1
            obtain ⟨n, rfl⟩ : ∃ n : Nat, x = n := ⟨x.toNat, by omega⟩
            have HF := Lib.hid (flushL_take S keep k m n s hi (by simpa using hx))
            simp only [Int.toNat_natCast] at HF
            -- the number is read
            obtain ⟨b, o, cap', hvb, hcx⟩ := HVB2.out.int k _ hi
            injection hvb with hvb _ hcap
            subst hcap
            subst hvb
            have hcx' : wr.cell? ⟨b, o + k, none⟩ = some (.int .i64 (m : Int)) := by
              have h1 : b ∉ blks vS := fun hm => hap (List.ne_nil_of_length_pos (by omega)) b (by simp [blks, Value.ownBlock]) (List.mem_cons_of_mem _ (List.mem_cons_of_mem _ hm))
              have hlt := block_lt_of_cell hcx
              unfold World.cell? at hcx ⊢
              rwa [hO.block b hlt h1]
            -- the write is read
            obtain ⟨aC, capC, hvC, _, _⟩ := hD.hC.shape
            have c1 := hD.c1
            obtain ⟨bC, capC', hvC', _, hr⟩ := hD.hC.range wrL_len m _ hx
            dsimp only at hvC' hvC
            rw [hvC'] at c1
            have hix := fun w => run_index_wr bC S.ca.length capC' m hm w
            have hlen : (flushL S.st ((keep.take k).map fun i => S.ca.getD i.toNat (0, zsec))).length = S.st.length := flushL_length _ _
            have hD1 := (hD.alloc (.cells (wrV ((n : Int), s)) 87)).drew
            obtain ⟨sb, scap, hvS, hbS, hth, hD2⟩ := hD1.putS n s (by dsimp only; omega)
            dsimp only at hvS
            rw [hlen] at hvS
            have c0 := hD1.c0
            rw [hvS] at c0
            have hixs := fun w => run_index_sec sb S.st.length scap n (by omega) w
            have hblk : (wr.alloc (.cells (wrV ((n : Int), s)) 87)).drew.heap[wr.heap.size]? = some (.cells (wrV ((n : Int), s)) 87 (0, 0)) := heap_alloc_new _ _
            have d0 := wr_at hblk
            have d1 := wr_data hblk
            have dbox : (wr.alloc (.cells (wrV ((n : Int), s)) 87)).drew.cell? ⟨W.heap.size, 0, none⟩ = some (pv g) := ((((Below.refl _ wr).alloc (Nat.le_refl _) _).drew).cell (p := ⟨W.heap.size, 0, none⟩) (block_lt_of_cell hbox)).trans hbox
            have hki : (k : Int) < (keep.length : Int) := by omega
            have hmi : (m : Int) < (S.ca.length : Int) := by omega
            have hsb : sb ≠ wr.heap.size := by
              have := hD.lt sb (by rw [List.mem_cons, List.mem_cons, List.mem_append, hbS]; simp)
              omega
            have hgs : sb ≠ g := by
              have := hD.apart.2.1
              rw [hbS] at this
              simp at this; omega
            have hbs : sb ≠ W.heap.size := by rw [hbS] at hVS; simp at hVS; omega
            obtain ⟨xs, hxs⟩ : ∃ xs : List Value, xs = secL s := ⟨_, rfl⟩
            have hinf : (Tryz.prog.info? 53).map (·.size) = some xs.length := by rw [hxs]; exact secL_size s
            have hlx : xs.length = 128 := by rw [hxs]; exact secL_len s
            have hone : ∀ v ∈ xs, v.oneCell' = true := by rw [hxs]; exact secL_one s
            have hu := Tryz.underlying53
            rw [← hxs] at d1 hD2
            clear hxs
            have HD2 := Lib.hid hD2
            have HO := Lib.hid hO
            clear hD hD1 hD2 hO hvS hvC hvC' hlen hx hi hodd hcx
            go_wp2_with (first | ((with_reducible refine wpList_load_wrmid rfl _ rfl bC (m * 129) ((n : Int), s) ?_ hr ?_); rfl) | (with_reducible refine wpList_alloc_wr rfl rfl ?_) | ((with_reducible refine wpList_store_wr rfl _ _ rfl wr.heap.size ((n : Int), s) zwr ?_ ?_ ?_ ?_); rfl; rfl; exact heap_alloc_new _ _))
            go_region_held3 (fun w' => w'.cell? ⟨W.heap.size, 0, none⟩ = some (pv g) ∧ w'.cell? ⟨g, 0, none⟩ = some (.slice (some ⟨sb, 0, none⟩) S.st.length scap) ∧ w'.cell? ⟨wr.heap.size, 0, none⟩ = some (.int .i64 (n : Int)) ∧ w'.rangeAt wr.heap.size 1 xs ∧ w'.there sb (n * 128) 128) (first | exact ⟨dbox, c0, d0, d1, hth⟩ | (go_split_ands; refine ⟨?_, ?_, ?_, World.rangeAt_setCells_apart (by assumption) _ _ _ (.inl (by omega)), World.there_setCells (by assumption) _ _ _⟩ <;> (rw [World.cell?_setCells_out _ _ _ _ _ (by intro h; exfalso; simp at h; omega)]; assumption))) (fail)
            go_wp2
            go_roundw
            case rel =>
              refine ⟨k + 1, by omega, by go_num, ?_, ?_⟩
              · rw [HF.out]; exact HD2.out
              · have hsbm : sb ∈ blks vS := by rw [hbS]; simp
                exact Only.setCells sb (.inl hsbm) xs _ ((HO.out.alloc _).drew)
            case measure => simp [intOf]; omega
          · have hkk : k = keep.length := by omega
            have HE := Lib.hid (dev_empty hD)
            have HO := Lib.hid hO
            have hkl : (keep.take k).map (fun i => S.ca.getD i.toNat (0, zsec)) = keep.map (fun i => S.ca.getD i.toNat (0, zsec)) := by rw [hkk, List.take_length]
            have HKL := Lib.hid hkl
            clear hD hO hkl
            go_wp2_with (go_at_call 82; refine HE.out.mono ?_; rintro e w' ⟨rfl, hD2, hO2⟩)
            have hgm : W.heap.size ∉ [g, mb] := by
              have := HBK.out mb (by simp)
              simp; omega
            have hbox2 : w'.cell? ⟨W.heap.size, 0, none⟩ = some (pv g) := by
              have h1 := hbox
              have hl := block_lt_of_cell hbox
              unfold World.cell? at h1 ⊢
              rwa [hO2.block W.heap.size hl hgm]
            have hD3 := hD2.drew
            have p3 := hD2.c3
            have p4 := hD2.c4
            have q3 := hD2.frozen 3
            have q4 := hD2.frozen 4
            have hgne : g ≠ W.heap.size := by omega
            have HV : Hid (S.crashE keep = 0 ∧ S.crash keep = { st := S.keepL keep, ca := [], taken := S.taken, power := -1, off := false }) := by
              have e : S.crashE keep = 0 := by unfold Dv.crashE; rw [HOD.out, if_neg (by simp), HRR.out, if_pos rfl]
              exact ⟨e, by unfold Dv.crash; rw [if_pos e]⟩
            have HD3 := Lib.hid hD3
            have HO2 := Lib.hid hO2
            clear hD2 hD3 hO2 hbox
            go_region_held3 (fun w'' => w''.cell? ⟨W.heap.size, 0, none⟩ = some (pv g)) (first | assumption | go_keep | (simp [*])) (fail)
            all_goals
              go_wp2
              go_ret
              have hD4 := HD3.out
              rw [HKL.out] at hD4
              have ok4 := hD4.ok
              refine ⟨by rw [HV.out.1]; rfl, ⟨.slice none 0 0, ?_, by simp [blks_nil]⟩, ?_⟩
              · rw [HV.out.2]
                have h5 := hD4.setG 3 (.int .i64 (-1)) (T := { st := S.keepL keep, ca := [], taken := S.taken, power := -1, off := S.off }) rfl rfl rfl ⟨ok4.s1, ok4.s2, ok4.c1, ok4.c2, ok4.t1, ok4.t2, by simp, by simp⟩
                exact h5.setG 4 (.bool false) (T := { st := S.keepL keep, ca := [], taken := S.taken, power := -1, off := false }) rfl rfl rfl ⟨ok4.s1, ok4.s2, ok4.c1, ok4.c2, ok4.t1, ok4.t2, by simp, by simp⟩
              · have hO4 : Only (g :: mb :: blks vS) W W2 := HO1.out.thenBelow HB.out
                have hO5 := hO4.step (HO.out.mono (G := g :: mb :: blks vS) (by intro k hk; simp [hk]))
                have hO6 := (hO5.step (HO2.out.mono (G := g :: mb :: blks vS) (by intro k hk; simp at hk; simp; rcases hk with h | h <;> simp [h]))).drew
                exact (hO6.setCell ⟨g, 3, none⟩ _ (.inl (by simp))).setCell ⟨g, 4, none⟩ _ (.inl (by simp))
  · have HV : Hid (S.crashE keep = 7 ∧ S.crash keep = S) := by
      have e : S.crashE keep = 7 := by unfold Dv.crashE; rw [if_pos hodd]
      exact ⟨e, by unfold Dv.crash; rw [if_neg (by rw [e]; decide)]⟩
    rw [hodd] at HCT
    clear hodd
    go_wp2_with (first | (go_at_call 40; refine HOK.out.mono ?_; rintro e w' ⟨rfl, rfl⟩) | (go_at_call 80; refine HCT.out.mono ?_; rintro e w' ⟨rfl, rfl⟩))
    go_ret
    exact ⟨by rw [HV.out.1]; rfl, ⟨_, by rw [HV.out.2]; exact HH.out, fun _ h => h⟩, HO1.out⟩
end Go.Proofs.YtfbkfdoekgnldaaGreatDoor
