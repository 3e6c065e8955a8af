/- The walk of SameRun. -/
import Derived.Test.YtfbkfdoekgnldaaDoorJnLogA
namespace Go.Proofs.YtfbkfdoekgnldaaDoor
open Go.RowKit
attribute [local go_sem] Oper.semAt_some setRow_alloc_at setRow_alloc_past setRow_drew
theorem rec_eq_step (l k : List Rec) (i : Nat) (x y : Rec) (hx : l[i]? = some x) (hy : k[i]? = some y) (h : l.take i = k.take i) : (x = y → l.take (i + 1) = k.take (i + 1)) ∧ (x ≠ y → l ≠ k) := by
  refine ⟨fun e => by rw [List.take_add_one, List.take_add_one, hx, hy, h, e], fun e e2 => ?_⟩
  subst e2
  rw [hx] at hy
  exact e (Option.some.inj hy)
set_option maxRecDepth 100000 in
set_option maxHeartbeats 4000000 in
theorem samerun_any {W : World} {a b : Option Addr} {ca cb : Nat} {l k : List Rec} (hl : RdL W 3 recL (.slice a l.length ca) l) (hk : RdL W 3 recL (.slice b k.length cb) k) (hlen : l.length ≤ 1000000) :
    Calls Tryd.prog 25 #[.slice a l.length ca, .slice b k.length cb] W fun e w' => e = .returned (.bool (decide (l = k))) ∧ Below W.heap.size W w' := by
  by_cases hne : l.length = k.length
  · have HL := Lib.hid hl
    have HK := Lib.hid hk
    have HNE := Lib.hid hne
    clear hl hk
    have hkl : (k.length : Int) = (l.length : Int) := by omega
    clear hne
    go_enter Tryd.func25, Tryd.ntmps25
    go_wp2_with fail
    go_loopw [5] (fun i wr => ∃ j : Nat, i = .int .i64 (j : Int) ∧ j ≤ l.length ∧ l.take j = k.take j ∧ Below W.heap.size W wr) (fun i _ => l.length - (intOf i).toNat)
    case atStart => exact ⟨0, rfl, Nat.zero_le _, rfl, Below.refl _ _⟩
    case round =>
      obtain ⟨j, rfl, hj, ht, hB⟩ := hrel
      by_cases hlt : j < l.length
      · obtain ⟨x, hx⟩ : ∃ x, l[j]? = some x := ⟨_, List.getElem?_eq_getElem hlt⟩
        obtain ⟨y, hy⟩ : ∃ y, k[j]? = some y := ⟨_, List.getElem?_eq_getElem (by rw [← HNE.out]; exact hlt)⟩
        obtain ⟨b1, o1, c1, e1, r1⟩ := (HL.out.below hB).elem recL_len j x hx
        obtain ⟨b2, o2, c2, e2, r2⟩ := (HK.out.below hB).elem recL_len j y hy
        injection e1 with e1 _ e1c
        injection e2 with e2 _ e2c
        subst e1 e2
        have hst := rec_eq_step l k j x y hx hy ht
        have HSW : Hid (∀ (W' : World), wr.heap = W'.heap → (W'.cell? ⟨b1, o1 + j * 3, none⟩ = some (.int .i64 x.at_) ∧ W'.cell? ⟨b1, o1 + j * 3 + 1, none⟩ = some (.int .i64 x.kind) ∧ W'.cell? ⟨b1, o1 + j * 3 + 2, none⟩ = some (.string x.data)) ∧ (W'.cell? ⟨b2, o2 + j * 3, none⟩ = some (.int .i64 y.at_) ∧ W'.cell? ⟨b2, o2 + j * 3 + 1, none⟩ = some (.int .i64 y.kind) ∧ W'.cell? ⟨b2, o2 + j * 3 + 2, none⟩ = some (.string y.data)) ∧ True) := fun W' e => by
          have q1 := r1 0 _ rfl
          have q2 := r1 1 _ rfl
          have q3 := r1 2 _ rfl
          have q4 := r2 0 _ rfl
          have q5 := r2 1 _ rfl
          have q6 := r2 2 _ rfl
          unfold World.cell? at *
          rw [← e]
          exact ⟨⟨q1, q2, q3⟩, ⟨q4, q5, q6⟩, trivial⟩
        have hi1 := fun w => run_index_rec b1 o1 l.length ca j hlt w
        have hi2 := fun w => run_index_rec b2 o2 k.length cb j (by rw [← HNE.out]; exact hlt) w
        have HST := Lib.hid hst
        have HB := Lib.hid hB
        have hjl : (j : Int) < (l.length : Int) := by omega
        clear hst ht hB r1 r2 hx hy e1c e2c
        go_wp2_with fail
        by_cases hxy : x = y
        · subst hxy
          refine wp_region_ordJ (fun W' => (W'.cell? ⟨b1, o1 + j * 3, none⟩ = some (.int .i64 x.at_) ∧ W'.cell? ⟨b1, o1 + j * 3 + 1, none⟩ = some (.int .i64 x.kind) ∧ W'.cell? ⟨b1, o1 + j * 3 + 2, none⟩ = some (.string x.data)) ∧ (W'.cell? ⟨b2, o2 + j * 3, none⟩ = some (.int .i64 x.at_) ∧ W'.cell? ⟨b2, o2 + j * 3 + 1, none⟩ = some (.int .i64 x.kind) ∧ W'.cell? ⟨b2, o2 + j * 3 + 2, none⟩ = some (.string x.data)) ∧ True) (OrdT.takes [0, 1, 2, 3, 4, 5, 6, 7, 8] .done) (by kernel_rfl) (by kernel_rfl) (HSW.out _ rfl) (fun wz hz => ?_)
          have hB8 := HB.out.drew
          rw [← hz] at hB8
          have HB8 := Lib.hid hB8
          clear hz hB8 HB
          unfold OrdT.takes
          --ordt mmyymmyyy
          iterate 2 (refine' t_move _ _ rfl rfl rfl rfl _ _; rotate_left; (go_simp; with_reducible rfl); simp only [Act.put, List.setIfInBounds_toArray, List.set_cons_zero, List.set_cons_succ])
          iterate 2 (refine' t_yield _ rfl rfl rfl _ _; rotate_left; (intro w' hSw; obtain ⟨s0, s1, s2⟩ := hSw; go_simp; with_reducible rfl); simp only [Act.put, List.setIfInBounds_toArray, List.set_cons_zero, List.set_cons_succ])
          iterate 2 (refine' t_move _ _ rfl rfl rfl rfl _ _; rotate_left; (go_simp; with_reducible rfl); simp only [Act.put, List.setIfInBounds_toArray, List.set_cons_zero, List.set_cons_succ])
          iterate 3 (refine' t_yield _ rfl rfl rfl _ _; rotate_left; (intro w' hSw; obtain ⟨s0, s1, s2⟩ := hSw; go_simp; with_reducible rfl); simp only [Act.put, List.setIfInBounds_toArray, List.set_cons_zero, List.set_cons_succ])
          --end
          refine t_done ?_
          go_wp2_with fail
          go_roundw
          case rel => exact ⟨j + 1, by go_num, by omega, HST.out.1 rfl, HB8.out⟩
          case measure => simp [intOf]; omega
        · have HNQ : Hid (decide (l = k) = false) := by
            have := HST.out.2 hxy
            exact Lib.hid (by simpa using this)
          by_cases q1 : x.at_ = y.at_
          · by_cases q2 : x.kind = y.kind
            · have q3 : ¬ x.data.toList = y.data.toList := by
                intro e
                apply hxy
                rw [bytes_toList, bytes_toList] at e
                cases x; cases y
                simp only [Rec.mk.injEq]
                exact ⟨q1, q2, ByteArray.ext (Array.toList_inj.1 e)⟩
              clear hxy
              refine wp_region_ordJ (fun W' => (W'.cell? ⟨b1, o1 + j * 3, none⟩ = some (.int .i64 x.at_) ∧ W'.cell? ⟨b1, o1 + j * 3 + 1, none⟩ = some (.int .i64 x.kind) ∧ W'.cell? ⟨b1, o1 + j * 3 + 2, none⟩ = some (.string x.data)) ∧ (W'.cell? ⟨b2, o2 + j * 3, none⟩ = some (.int .i64 y.at_) ∧ W'.cell? ⟨b2, o2 + j * 3 + 1, none⟩ = some (.int .i64 y.kind) ∧ W'.cell? ⟨b2, o2 + j * 3 + 2, none⟩ = some (.string y.data)) ∧ True) (OrdT.takes [0, 1, 2, 3, 4, 5, 6, 7, 8] .done) (by kernel_rfl) (by kernel_rfl) (HSW.out _ rfl) (fun wz hz => ?_)
              have hB8 := HB.out.drew
              rw [← hz] at hB8
              have HB8 := Lib.hid hB8
              clear hz hB8 HB
              unfold OrdT.takes
              --ordt mmyymmyyy
              iterate 2 (refine' t_move _ _ rfl rfl rfl rfl _ _; rotate_left; (go_simp; with_reducible rfl); simp only [Act.put, List.setIfInBounds_toArray, List.set_cons_zero, List.set_cons_succ])
              iterate 2 (refine' t_yield _ rfl rfl rfl _ _; rotate_left; (intro w' hSw; obtain ⟨s0, s1, s2⟩ := hSw; go_simp; with_reducible rfl); simp only [Act.put, List.setIfInBounds_toArray, List.set_cons_zero, List.set_cons_succ])
              iterate 2 (refine' t_move _ _ rfl rfl rfl rfl _ _; rotate_left; (go_simp; with_reducible rfl); simp only [Act.put, List.setIfInBounds_toArray, List.set_cons_zero, List.set_cons_succ])
              iterate 3 (refine' t_yield _ rfl rfl rfl _ _; rotate_left; (intro w' hSw; obtain ⟨s0, s1, s2⟩ := hSw; go_simp; with_reducible rfl); simp only [Act.put, List.setIfInBounds_toArray, List.set_cons_zero, List.set_cons_succ])
              --end
              refine t_done ?_
              go_wp2_with fail
              go_ret
              exact ⟨by rw [HNQ.out]; rfl, HB8.out⟩
            · clear hxy
              refine wp_region_ordJ (fun W' => (W'.cell? ⟨b1, o1 + j * 3, none⟩ = some (.int .i64 x.at_) ∧ W'.cell? ⟨b1, o1 + j * 3 + 1, none⟩ = some (.int .i64 x.kind) ∧ W'.cell? ⟨b1, o1 + j * 3 + 2, none⟩ = some (.string x.data)) ∧ (W'.cell? ⟨b2, o2 + j * 3, none⟩ = some (.int .i64 y.at_) ∧ W'.cell? ⟨b2, o2 + j * 3 + 1, none⟩ = some (.int .i64 y.kind) ∧ W'.cell? ⟨b2, o2 + j * 3 + 2, none⟩ = some (.string y.data)) ∧ True) (OrdT.takes [0, 1, 2, 3, 4, 5, 6, 7, 8] .done) (by kernel_rfl) (by kernel_rfl) (HSW.out _ rfl) (fun wz hz => ?_)
              have hB8 := HB.out.drew
              rw [← hz] at hB8
              have HB8 := Lib.hid hB8
              clear hz hB8 HB
              unfold OrdT.takes
              --ordt mmyymmyyy
              iterate 2 (refine' t_move _ _ rfl rfl rfl rfl _ _; rotate_left; (go_simp; with_reducible rfl); simp only [Act.put, List.setIfInBounds_toArray, List.set_cons_zero, List.set_cons_succ])
              iterate 2 (refine' t_yield _ rfl rfl rfl _ _; rotate_left; (intro w' hSw; obtain ⟨s0, s1, s2⟩ := hSw; go_simp; with_reducible rfl); simp only [Act.put, List.setIfInBounds_toArray, List.set_cons_zero, List.set_cons_succ])
              iterate 2 (refine' t_move _ _ rfl rfl rfl rfl _ _; rotate_left; (go_simp; with_reducible rfl); simp only [Act.put, List.setIfInBounds_toArray, List.set_cons_zero, List.set_cons_succ])
              iterate 3 (refine' t_yield _ rfl rfl rfl _ _; rotate_left; (intro w' hSw; obtain ⟨s0, s1, s2⟩ := hSw; go_simp; with_reducible rfl); simp only [Act.put, List.setIfInBounds_toArray, List.set_cons_zero, List.set_cons_succ])
              --end
              refine t_done ?_
              go_wp2_with fail
              go_ret
              exact ⟨by rw [HNQ.out]; rfl, HB8.out⟩
          · clear hxy
            refine wp_region_ordJ (fun W' => (W'.cell? ⟨b1, o1 + j * 3, none⟩ = some (.int .i64 x.at_) ∧ W'.cell? ⟨b1, o1 + j * 3 + 1, none⟩ = some (.int .i64 x.kind) ∧ W'.cell? ⟨b1, o1 + j * 3 + 2, none⟩ = some (.string x.data)) ∧ (W'.cell? ⟨b2, o2 + j * 3, none⟩ = some (.int .i64 y.at_) ∧ W'.cell? ⟨b2, o2 + j * 3 + 1, none⟩ = some (.int .i64 y.kind) ∧ W'.cell? ⟨b2, o2 + j * 3 + 2, none⟩ = some (.string y.data)) ∧ True) (OrdT.takes [0, 1, 2, 3, 4, 5, 6, 7, 8] .done) (by kernel_rfl) (by kernel_rfl) (HSW.out _ rfl) (fun wz hz => ?_)
            have hB8 := HB.out.drew
            rw [← hz] at hB8
            have HB8 := Lib.hid hB8
            clear hz hB8 HB
            unfold OrdT.takes
            --ordt mmyymmyyy
            iterate 2 (refine' t_move _ _ rfl rfl rfl rfl _ _; rotate_left; (go_simp; with_reducible rfl); simp only [Act.put, List.setIfInBounds_toArray, List.set_cons_zero, List.set_cons_succ])
            iterate 2 (refine' t_yield _ rfl rfl rfl _ _; rotate_left; (intro w' hSw; obtain ⟨s0, s1, s2⟩ := hSw; go_simp; with_reducible rfl); simp only [Act.put, List.setIfInBounds_toArray, List.set_cons_zero, List.set_cons_succ])
            iterate 2 (refine' t_move _ _ rfl rfl rfl rfl _ _; rotate_left; (go_simp; with_reducible rfl); simp only [Act.put, List.setIfInBounds_toArray, List.set_cons_zero, List.set_cons_succ])
            iterate 3 (refine' t_yield _ rfl rfl rfl _ _; rotate_left; (intro w' hSw; obtain ⟨s0, s1, s2⟩ := hSw; go_simp; with_reducible rfl); simp only [Act.put, List.setIfInBounds_toArray, List.set_cons_zero, List.set_cons_succ])
            --end
            refine t_done ?_
            go_wp2_with fail
            go_ret
            exact ⟨by rw [HNQ.out]; rfl, HB8.out⟩
      · obtain rfl : j = l.length := by omega
        have HE : Hid (l = k) := by
          rw [List.take_length, HNE.out, List.take_length] at ht
          exact ht
        have HB := Lib.hid hB
        clear ht hB
        go_wp2_with fail
        go_ret
        exact ⟨by rw [show decide (l = k) = true by simpa using HE.out]; rfl, HB.out⟩
  · have hne2 : ((l.length : Int) != (k.length : Int)) = true := by simp; omega
    have HE : Hid (decide (l = k) = false) := by
      have : ¬ l = k := fun e => hne (by rw [e])
      exact Lib.hid (by simpa using this)
    clear hne hl hk
    go_enter Tryd.func25, Tryd.ntmps25
    go_wp2_with fail
    go_ret
    exact ⟨by rw [HE.out]; rfl, Below.refl _ _⟩
end Go.Proofs.YtfbkfdoekgnldaaDoor
