/- The walks of a device's calls empty, stable, Flush. -/
import Derived.Test.YtfbkfdoekgnldaaGreatDoorWrV
namespace Go.Proofs.YtfbkfdoekgnldaaGreatDoor
open Go.RowKit
attribute [local go_sem] Oper.semAt_some
/-- what a call of the device's does to the world: it turns the device's blocks, and makes new ones -/
structure DevStep (W W' : World) (g : Nat) (S T : Dv) (vS vC : Value) (mb : Nat) (vS' vC' : Value) : Prop where
  dev : DevIn W' g T vS' vC' mb
  only : Only (g :: mb :: (blks vS ++ blks vC)) W W'
  fS : ∀ k ∈ blks vS', k ∈ blks vS ∨ W.heap.size ≤ k
  fC : ∀ k ∈ blks vC', k ∈ blks vC ∨ W.heap.size ≤ k
theorem blks_nil : blks (.slice none 0 0) = [] := rfl
set_option maxRecDepth 100000 in
theorem dev_empty {W : World} {g mb : Nat} {S : Dv} {vS vC : Value} (h : DevIn W g S vS vC mb) :
    Calls Tryz.prog 82 #[pv g] W fun e w' => e = .returned (.tuple #[]) ∧ DevIn w' g { S with ca := [] } vS (.slice none 0 0) mb ∧ Only [g, mb] W w' := by
  have ap := h.apart
  have c5 := h.c5
  have c1 := h.c1
  have f1 := h.frozen 1
  have hs : ∀ k, k ≠ g → (W.setCell ⟨g, 1, none⟩ (.slice none 0 0)).heap[k]? = W.heap[k]? := fun k hk => Below.heap_setCell W ⟨g, 1, none⟩ _ k hk
  obtain ⟨W2, hrun, hM2, hO2⟩ := (h.hM.stay (hs mb (fun e => ap.1 e.symm))).clear 0
  have HW : Hid (DevIn W2 g { S with ca := [] } vS (.slice none 0 0) mb ∧ Only [g, mb] W W2) := by
    have hlt := h.lt
    have hk2 : ∀ k, k < W.heap.size → k ≠ g → k ≠ mb → W2.heap[k]? = W.heap[k]? := fun k hk h1 h2 => (hO2.block k (by simpa using hk) (by simpa using h2)).trans (hs k h1)
    refine ⟨⟨?_, ?_, ?_, ?_, ?_⟩, ?_⟩
    · rw [hO2.block g (by simpa using hlt g (by simp)) (by simpa using ap.1)]
      exact heap_setCell_same W g 1 _ _ _ h.hg
    · exact h.hS.stay (fun k hk => hk2 k (hlt k (by simp [hk])) (fun e => ap.2.1 (e ▸ hk)) (fun e => ap.2.2.2.1 (e ▸ hk)))
    · exact World.ownsRow_nil _ _ _ _
    · exact hM2
    · exact ⟨h.ok.s1, h.ok.s2, by simp, by simp, h.ok.t1, h.ok.t2, h.ok.p1, h.ok.p2⟩
    · exact (((Only.refl [g, mb] W).setCell _ _ (.inl (by simp)))).step (hO2.mono (by simp))
  clear hM2 hO2 hs h
  go_enter Tryz.func82, Tryz.ntmps82
  go_wp2_with ((with_reducible refine wpList_clear_eq rfl _ _ rfl _ _ _ ?_ hrun ?_); rfl)
  go_end0
  exact ⟨rfl, HW.out⟩
theorem Dv.Ok.setSt {S : Dv} (h : S.Ok) (l : List Sector) (hl : l.length = S.st.length) : Dv.Ok { S with st := l } :=
  ⟨by simpa [hl] using h.s1, by simpa [hl] using h.s2, h.c1, by simpa [hl] using h.c2, h.t1, h.t2, h.p1, h.p2⟩
theorem size_cells (b : Nat) : ∀ (vs : List Value) (o : Nat) (w : World), (w.setCells b o vs).heap.size = w.heap.size
  | [], _, _ => rfl
  | v :: r, o, w => by rw [World.setCells, size_cells b r]; simp
/-- a stable sector is written -/
theorem DevIn.putS {W : World} {g mb : Nat} {S : Dv} {vS vC : Value} (h : DevIn W g S vS vC mb) (m : Nat) (s : Sector) (hm : m < S.st.length) :
    ∃ sb cap, vS = .slice (some ⟨sb, 0, none⟩) S.st.length cap ∧ blks vS = [sb] ∧ W.there sb (m * 128) 128 ∧ DevIn (W.setCells sb (m * 128) (secL s)) g { S with st := S.st.set m s } vS vC mb := by
  have ap := h.apart
  obtain ⟨sb, cap, h1, h2, h3⟩ := h.hS.put secL_len m s hm
  obtain ⟨sb', cap', h1', h2', h3'⟩ := h.hS.there m hm
  have e : sb' = sb := by rw [h2] at h2'; simpa using h2'.symm
  subst e
  have hs : ∀ k, k ≠ sb' → (W.setCells sb' (m * 128) (secL s)).heap[k]? = W.heap[k]? := fun k hk => by
    by_cases hlt : k < W.heap.size
    · exact ((Only.refl [sb'] W).setCells sb' (.inl (by simp)) (secL s) (m * 128)).block k hlt (by simpa using hk)
    · rw [Array.getElem?_eq_none (show (W.setCells sb' (m * 128) (secL s)).heap.size ≤ k by rw [size_cells]; omega), Array.getElem?_eq_none (show W.heap.size ≤ k by omega)]
  refine ⟨sb', cap, h1, h2, h3', ⟨?_, ?_, ?_, ?_, h.ok.setSt _ (by simp)⟩⟩
  · rw [hs g (fun e => ap.2.1 (by rw [h2, e]; simp))]; exact h.hg
  · exact h3
  · exact h.hC.stay (fun k hk => hs k (fun e => ap.2.2.2.2.2 k (by rw [h2, e]; simp) hk))
  · exact h.hM.stay (hs mb (fun e => ap.2.2.2.1 (by rw [h2, e]; simp)))
attribute [local go_sem] setRow_alloc_at
theorem there_size {W : World} {b o n : Nat} (h : W.there b o n) : ∀ j, j < n → (W.cell? ⟨b, o + j, none⟩).isSome = true := fun j hj => (h j hj).1
set_option maxRecDepth 100000 in
set_option maxHeartbeats 2000000 in
theorem dev_stable {W : World} {g mb : Nat} {S : Dv} {vS vC : Value} (h : DevIn W g S vS vC mb) :
    Calls Tryz.prog 94 #[pv g] W fun e w' => e = .returned (.tuple #[]) ∧ DevIn w' g S.stable vS (.slice none 0 0) mb ∧ Only (g :: mb :: blks vS) W w' := by
  obtain ⟨a, cap, hv, hc1, hc2⟩ := h.hC.shape
  subst hv
  have c1 := h.c1
  have hcl := h.ok.c1
  have HOK := Lib.hid h.ok
  have h0 : DevIn W g { S with st := flushL S.st (S.ca.take 0) } vS (.slice a S.ca.length cap) mb := h
  clear h
  go_enter Tryz.func94, Tryz.ntmps94
  go_wp2
  go_loopw [10] (fun i wr => ∃ k : Nat, k ≤ S.ca.length ∧ i = .int .i64 k ∧ DevIn wr g { S with st := flushL S.st (S.ca.take k) } vS (.slice a S.ca.length cap) mb ∧ Only (blks vS) W wr) (fun i _ => S.ca.length - (intOf i).toNat)
  case atStart => exact ⟨0, Nat.zero_le _, rfl, h0, Only.refl _ _⟩
  case round =>
    obtain ⟨k, hk, rfl, hD, hO⟩ := hrel
    clear h0 c1
    by_cases hlt : k < S.ca.length
    · obtain ⟨⟨x, s⟩, hx⟩ : ∃ x, S.ca[k]? = some x := ⟨_, List.getElem?_eq_getElem hlt⟩
      obtain ⟨hx0, hx1⟩ := HOK.out.c2 _ (List.mem_of_getElem? hx)
      dsimp only at hx0 hx1
      obtain ⟨m, rfl⟩ : ∃ m : Nat, x = m := ⟨x.toNat, by omega⟩
      have hlen : (flushL S.st (S.ca.take k)).length = S.st.length := flushL_length _ _
      have HF := Lib.hid (show flushL S.st (S.ca.take (k + 1)) = (flushL S.st (S.ca.take k)).set m s by
        rw [List.take_add_one, hx]; simp [flushL_snoc])
      obtain ⟨b, cap', hvb, _, hr⟩ := hD.hC.range wrL_len k _ hx
      injection hvb with hvb _ hcap
      subst hvb
      subst hcap
      have hix := fun w => run_index_wr b S.ca.length cap k hlt w
      have hD1 := (hD.alloc (.cells (wrV ((m : Int), s)) 87)).drew
      obtain ⟨sb, scap, hvS, hbS, hth, hD2⟩ := hD1.putS m s (by dsimp only; omega)
      dsimp only at hvS
      rw [hlen] at hvS
      have c0 := hD1.c0
      rw [hvS] at c0
      have hixs := fun w => run_index_sec sb S.st.length scap m (by omega) w
      have hblk : (wr.alloc (.cells (wrV ((m : Int), s)) 87)).drew.heap[wr.heap.size]? = some (.cells (wrV ((m : Int), s)) 87 (0, 0)) := heap_alloc_new _ _
      have d0 := wr_at hblk
      have d1 := wr_data hblk
      have hki : (k : Int) < (S.ca.length : Int) := by omega
      have hsb : sb ≠ wr.heap.size := by
        have := hD.lt sb (by rw [List.mem_cons, List.mem_cons, List.mem_append, hbS]; simp)
        omega
      have hgs : sb ≠ g := by
        have := hD.apart.2.1
        rw [hbS] at this
        simp at this; omega
      obtain ⟨xs, hxs⟩ : ∃ xs : List Value, xs = secL s := ⟨_, rfl⟩
      have hi : (Tryz.prog.info? 53).map (·.size) = some xs.length := by rw [hxs]; exact secL_size s
      have hl : xs.length = 128 := by rw [hxs]; exact secL_len s
      have hone : ∀ v ∈ xs, v.oneCell' = true := by rw [hxs]; exact secL_one s
      have hu := Tryz.underlying53
      rw [← hxs] at d1 hD2
      clear hxs
      have HD2 := Lib.hid hD2
      have HO := Lib.hid hO
      clear hD hD1 hD2 hO hvS
      go_wp2_with (first | ((with_reducible refine wpList_load_wrmid rfl _ rfl b (k * 129) ((m : Int), s) ?_ hr ?_); rfl) | (with_reducible refine wpList_alloc_wr rfl rfl ?_) | ((with_reducible refine wpList_store_wr rfl _ _ rfl wr.heap.size ((m : Int), s) zwr ?_ ?_ ?_ ?_); rfl; rfl; exact heap_alloc_new _ _))
      go_region_held3 (fun w' => w'.cell? ⟨g, 0, none⟩ = some (.slice (some ⟨sb, 0, none⟩) S.st.length scap) ∧ w'.cell? ⟨wr.heap.size, 0, none⟩ = some (.int .i64 (m : Int)) ∧ w'.rangeAt wr.heap.size 1 xs ∧ w'.there sb (m * 128) 128) (first | exact ⟨c0, d0, d1, hth⟩ | (go_split_ands; refine ⟨?_, ?_, World.rangeAt_setCells_apart (by assumption) _ _ _ (.inl (by omega)), World.there_setCells (by assumption) _ _ _⟩ <;> (rw [World.cell?_setCells_out _ _ _ _ _ (by intro h; exfalso; simp at h; omega)]; assumption))) (fail)
      go_wp2
      go_roundw
      case rel =>
        refine ⟨k + 1, by omega, by go_num, ?_, ?_⟩
        · rw [HF.out]; exact HD2.out
        · have hsbm : sb ∈ blks vS := by rw [hbS]; simp
          exact Only.setCells sb (.inl hsbm) xs _ ((HO.out.alloc _).drew)
      case measure => simp [intOf]; omega
    · have hkk : k = S.ca.length := by omega
      have HE := Lib.hid (dev_empty hD)
      have HO := Lib.hid hO
      have hst : flushL S.st (S.ca.take k) = flushL S.st S.ca := by rw [hkk, List.take_length]
      clear hD hO
      go_wp2_with (go_at_call 82; refine HE.out.mono ?_; rintro e w' ⟨rfl, hD2, hO2⟩)
      go_end0
      refine ⟨rfl, ?_, ?_⟩
      · rw [hst] at hD2; exact hD2
      · exact (HO.out.mono (by intro x hx; simp [hx])).step (hO2.mono (by simp))
set_option maxRecDepth 100000 in
theorem dev_flush {W : World} {g mb : Nat} {S : Dv} {vS vC : Value} (h : DevIn W g S vS vC mb) :
    Calls Tryz.prog 59 #[pv g] W fun e w' => e = .returned (.int .i64 S.flushE) ∧ (∃ vC', DevIn w' g S.flush vS vC' mb ∧ (∀ k ∈ blks vC', k ∈ blks vC)) ∧ Only (g :: mb :: blks vS) W w' := by
  have HR := Lib.hid (dev_ready h)
  have HS := Lib.hid (dev_stable h)
  have HH := Lib.hid h
  unfold Dv.flushE Dv.flush
  cases hb : S.off
  · rw [hb] at HR
    clear h hb
    go_enter Tryz.func59, Tryz.ntmps59
    go_wp2_with (first | (go_at_call 93; refine HR.out.mono ?_; rintro e w' ⟨rfl, rfl⟩) | (go_at_call 94; refine HS.out.mono ?_; rintro e w' ⟨rfl, hD, hO⟩))
    go_ret
    exact ⟨rfl, ⟨_, hD, by simp [blks_nil]⟩, hO⟩
  · rw [hb] at HR
    clear h hb
    go_enter Tryz.func59, Tryz.ntmps59
    go_wp2_with (go_at_call 93; refine HR.out.mono ?_; rintro e w' ⟨rfl, rfl⟩)
    go_ret
    exact ⟨rfl, ⟨_, HH.out, fun _ h => h⟩, Only.refl _ _⟩
end Go.Proofs.YtfbkfdoekgnldaaGreatDoor
