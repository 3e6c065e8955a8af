/- The walk of the statement DevicePower. -/
import Derived.Test.YtjbjhjlfcbhaiaaPwMath
import Derived.Test.YtjbjhjlfcbhaiaaOrdT
import Derived.Test.YtjbjhjlfcbhaiaaAwake6
import Derived.Deep.DeepCutAuto
namespace Go.Proofs.Ytjbjhjlfcbhaiaa
open Go.RowKit
attribute [local go_sem] Oper.semAt_some
attribute [local go_sem high] run_eql_sector run_neq_sector
set_option maxRecDepth 100000 in
set_option maxHeartbeats 4000000 in
theorem power_law (v : Value) (l : List PutV) (bn : UInt8) (w : World) (hv : RdL w 3 putL v l) (hbig : l.length ≤ 9223372036854775807) :
    Calls Try.prog 9 #[v, .int .u8 (vb bn)] w fun e w' => e = .returned (.bool true) ∧ Below w.heap.size w w' := by
  have hv' := hv
  obtain ⟨a, cap, rfl, _⟩ := hv'
  have HAW := Lib.hid awake_any
  obtain ⟨N, hN⟩ : ∃ N : Nat, vb bn = N := ⟨(vb bn).toNat, by have := vb_nonneg bn; omega⟩
  have hN2 : (N : Int) < 256 := by rw [← hN]; exact vb_lt bn
  rw [hN]
  clear hN
  by_cases h80 : 80 < l.length
  · have hl1 : (80 : Int) < (l.length : Int) := by omega
    clear hv
    go_enter Try.func9, Try.ntmps9
    go_wp2_with (go_at_call 11; refine (HAW.out _).mono ?_; rintro e w' ⟨rfl, hB⟩)
    go_ret
    exact ⟨rfl, hB⟩
  · have hl1 : (l.length : Int) ≤ 80 := by omega
    have HV := Lib.hid hv
    have h0 := Has.start w
    clear hv h80 hbig
    go_enter Try.func9, Try.ntmps9
    go_wp2_with fail
    refine (new_has h0 64 (by decide) (by decide)).mono ?_
    rintro e w1 ⟨gd, rfl, h1⟩
    clear h0
    go_wp2_with fail
    refine (new_has h1 64 (by decide) (by decide)).mono ?_
    rintro e w2 ⟨go, rfl, h2⟩
    clear h1
    go_wp2_with fail
    have h2' : Has w w2 [DevR _ go (pwO l N 0), DevR _ gd (Dv.new 64)] := by rw [← pwO_zero]; exact h2
    have c1 := limit_mid [_] h2' (N : Int)
    rw [(pwA_zero l N).resolve_right (by omega), show limitE (N : Int) = 0 by unfold limitE; rw [if_neg (by omega)]] at c1
    refine c1.mono ?_
    clear c1
    rintro e w3 ⟨rfl, h3⟩
    clear h2 h2'
    have h3' : Has w w3 [DevR _ go (pwO l N 0), DevR _ gd (pwA l N 0)] := h3
    clear h3
    obtain ⟨M, hM⟩ : ∃ M, M = min N l.length := ⟨_, rfl⟩
    have hM1 : (M : Int) ≤ N := by omega
    have hM2 : (M : Int) ≤ l.length := by omega
    have hM3 : M = N ∨ M = l.length := by omega
    have HM := Lib.hid hM
    have HM3 := Lib.hid hM3
    clear hM3
    go_upto_region 8 with fail
    go_cut [9, 10] (fun m i wx => m = .int .i64 (M : Int) ∧ i = .int .i64 0 ∧ wx = w3)
    case first =>
      by_cases hc : (l.length : Int) < (N : Int)
      · obtain rfl : M = l.length := by omega
        clear hM
        go_wp2_with fail
        go_meet
        exact ⟨rfl, rfl, rfl⟩
      · obtain rfl : M = N := by omega
        clear hM
        go_wp2_with fail
        go_meet
        exact ⟨rfl, rfl, rfl⟩
    case rest =>
      obtain ⟨rfl, rfl, rfl⟩ := hcut
      clear hM
      go_wp2_with fail
      go_loopw [10] (fun i wr => ∃ k : Nat, k ≤ l.length ∧ i = .int .i64 (k : Int) ∧ Has w wr [DevR _ go (pwO l N k), DevR _ gd (pwA l N k)]) (fun i _ => l.length - (intOf i).toNat)
      case atStart => exact ⟨0, Nat.zero_le _, rfl, h3'⟩
      case round =>
        obtain ⟨k, hk, rfl, hH⟩ := hrel
        clear h3'
        by_cases hlt : k < l.length
        · obtain ⟨p, hp⟩ : ∃ p, l[k]? = some p := ⟨_, List.getElem?_eq_getElem hlt⟩
          have HP := Lib.hid hp
          obtain ⟨b, o, cap', hvb, c0, c1, _⟩ := (HV.out.below (show Below w.heap.size w wr from hH.hB)).put k p hp
          injection hvb with hvb _ hcap
          subst hcap
          subst hvb
          have HC : Hid (∀ W', Below w.heap.size w W' → W'.cell? ⟨b, o + k * 3, none⟩ = some (.int .u8 (vb p.at_)) ∧ W'.cell? ⟨b, o + k * 3 + 1, none⟩ = some (.int .u8 (vb p.b))) := fun W' hB => by
            obtain ⟨b', o', cap', hvb, d0, d1, d2⟩ := (HV.out.below hB).put k p HP.out
            injection hvb with hvb _ _
            injection hvb with hvb
            injection hvb with e1 e2
            subst e1 e2
            exact ⟨d0, d1⟩
          obtain ⟨X, hX⟩ : ∃ X, X = p.val := ⟨_, rfl⟩
          have HF : Hid (∀ w, Calls Try.prog 14 #[.int .u8 (vb p.at_), .int .u8 (vb p.b)] w fun e w' => e = .returned (.agg (sec X)) ∧ Below w.heap.size w w') := fun w => by
            rw [hX]; exact filled_any p.at_ p.b w
          have HX := Lib.hid hX
          have HH := Lib.hid hH
          have hix := fun w => run_index_put b o l.length cap k hlt w
          have hki : (k : Int) < (l.length : Int) := by omega
          have hu := Try.underlying31
          clear hX hp hH
          go_wp2_with fail
          go_upto_region 12 with fail
          go_cut [11] (fun x wx => ∃ xa : Nat, x = .pointer (some ⟨xa, 0, none⟩) ∧ Has w wx [Blk _ xa (.cells (sec X) 31), DevR _ go (pwO l N k), DevR _ gd (pwA l N k)])
          case first =>
            refine wp_region_ordT (fun w' => w'.cell? ⟨b, o + k * 3, none⟩ = some (.int .u8 (vb p.at_)) ∧ w'.cell? ⟨b, o + k * 3 + 1, none⟩ = some (.int .u8 (vb p.b)) ∧ True) (OrdT.takes [0, 1, 2, 3, 4, 5, 6, 7, 8, 9] (.two 10 (.one 11 (.one 12 .done)) 11 (.one 10 (.one 12 .done)))) (by kernel_rfl) (by kernel_rfl) ⟨c0, c1, trivial⟩ ?_
            unfold OrdT.takes
            --ordt mmyyymmyyy
            iterate 2 (refine' t_move _ _ rfl rfl rfl rfl _ _; rotate_left; (go_simp; with_reducible rfl); simp only [Act.put, List.setIfInBounds_toArray, List.set_cons_zero, List.set_cons_succ])
            iterate 3 (refine' t_yield _ rfl rfl rfl _ _; rotate_left; (intro w' hSw; obtain ⟨s0, s1, s2⟩ := hSw; go_simp; with_reducible rfl); simp only [Act.put, List.setIfInBounds_toArray, List.set_cons_zero, List.set_cons_succ])
            iterate 2 (refine' t_move _ _ rfl rfl rfl rfl _ _; rotate_left; (go_simp; with_reducible rfl); simp only [Act.put, List.setIfInBounds_toArray, List.set_cons_zero, List.set_cons_succ])
            iterate 3 (refine' t_yield _ rfl rfl rfl _ _; rotate_left; (intro w' hSw; obtain ⟨s0, s1, s2⟩ := hSw; go_simp; with_reducible rfl); simp only [Act.put, List.setIfInBounds_toArray, List.set_cons_zero, List.set_cons_succ])
            --end
            refine t_two rfl rfl rfl rfl (fun K hK => ?_) (fun K hK => ?_)
            · go_simp
              refine (HF.out _).mono ?_
              rintro e w4 ⟨rfl, hB4⟩
              have h4 := HH.out.drew.below hB4
              dsimp only
              refine hK _ _ ⟨(HC.out _ h4.hB).1, (HC.out _ h4.hB).2, trivial⟩ ?_
              clear hK
              have h5 := h4.alloc (.cells (sec zsec) 31)
              have h6 := h5.setRow [] (sec X)
              refine t_one rfl rfl (fun K hK => wp_alloc_sec rfl rfl (hK _ _ ⟨(HC.out _ h5.hB).1, (HC.out _ h5.hB).2, trivial⟩ ?_))
              clear hK
              simp only [Act.put, List.setIfInBounds_toArray, List.set_cons_zero, List.set_cons_succ]
              refine t_one rfl rfl (fun K hK => wp_store_sec _ _ rfl rfl w4.heap.size X zsec rfl rfl (heap_alloc_new _ _) (hK _ _ ⟨(HC.out _ h6.hB).1, (HC.out _ h6.hB).2, trivial⟩ ?_))
              clear hK
              refine t_done ?_
              go_wp2_with fail
              go_meet
              exact ⟨w4.heap.size, rfl, h6⟩
            · have h5 := HH.out.drew.alloc (.cells (sec zsec) 31)
              refine wp_alloc_sec rfl rfl (hK _ _ ⟨(HC.out _ h5.hB).1, (HC.out _ h5.hB).2, trivial⟩ ?_)
              clear hK
              simp only [Act.put, List.setIfInBounds_toArray, List.set_cons_zero, List.set_cons_succ]
              refine t_one rfl rfl (fun K hK => ?_)
              go_simp
              refine (HF.out _).mono ?_
              rintro e w4 ⟨rfl, hB4⟩
              have h6 := h5.below hB4
              dsimp only
              refine hK _ _ ⟨(HC.out _ h6.hB).1, (HC.out _ h6.hB).2, trivial⟩ ?_
              clear hK
              have h7 := h6.setRow [] (sec X)
              refine t_one rfl rfl (fun K hK => wp_store_sec _ _ rfl rfl wr.drew.heap.size X zsec rfl rfl (h6.blk 0 _ _ rfl).1 (hK _ _ ⟨(HC.out _ h7.hB).1, (HC.out _ h7.hB).2, trivial⟩ ?_))
              clear hK
              refine t_done ?_
              go_wp2_with fail
              go_meet
              exact ⟨wr.drew.heap.size, rfl, h7⟩
          case rest =>
            obtain ⟨xa, rfl, h7⟩ := hcut
            clear HF c0 c1 HH
            have hB7 := h7.hB
            obtain ⟨d0, d1⟩ := HC.out _ hB7
            obtain ⟨b7, _⟩ := h7.blk 0 _ _ rfl
            have r7 : wc.drew.rangeAt xa 0 (secL X) := rangeAt_row b7 _ _ (fun j v hv => by rw [Nat.zero_add]; simpa [secL] using hv)
            have HR7 : Hid (∀ {A B : Dv} W', Has w W' [Blk _ xa (.cells (sec X) 31), DevR _ go A, DevR _ gd B] → W'.rangeAt xa 0 (secL X)) := fun W' h => rangeAt_row (h.blk 0 _ _ rfl).1 _ _ (fun j v hv => by rw [Nat.zero_add]; simpa [secL] using hv)
            by_cases hin : k < M
            · have hy := pwA_yes l N k p HP.out (by omega) (by omega)
              have hyo := pwO_yes l N k p HP.out (by omega) (by omega)
              have HW : Hid (∀ W', Has w W' [Blk _ xa (.cells (sec X) 31), DevR _ go (pwO l N k), DevR _ gd (pwA l N k)] → Calls Try.prog 21 #[pv gd, .int .i64 (IntKind.i64.wrap ((vb p.at_).tmod 64)), .agg (sec X)] W' fun e w' => e = .returned (.int .i64 0) ∧ Has w w' [Blk _ xa (.cells (sec X) 31), DevR _ go (pwO l N k), DevR _ gd (pwA l N (k + 1))]) := fun W' h' => by
                have := write_mid [_, _] h' p.sec p.val
                rw [hy.1, hy.2, ← HX.out] at this
                rw [rem64i]
                exact this
              have HW2 : Hid (∀ W', Has w W' [Blk _ xa (.cells (sec X) 31), DevR _ go (pwO l N k), DevR _ gd (pwA l N (k + 1))] → Calls Try.prog 21 #[pv go, .int .i64 (IntKind.i64.wrap ((vb p.at_).tmod 64)), .agg (sec X)] W' fun e w' => e = .returned (.int .i64 0) ∧ Has w w' [Blk _ xa (.cells (sec X) 31), DevR _ go (pwO l N (k + 1)), DevR _ gd (pwA l N (k + 1))]) := fun W' h' => by
                have := write_mid [_] h' p.sec p.val
                rw [hyo.1, hyo.2, ← HX.out] at this
                rw [rem64i]
                exact this
              have H7 := Lib.hid h7
              have hkN : (k : Int) < (M : Int) := by omega
              clear hy hyo h7 b7
              go_wp2_with fail
              refine wp_region_ordT (fun w' => w'.cell? ⟨b, o + k * 3, none⟩ = some (.int .u8 (vb p.at_)) ∧ w'.cell? ⟨b, o + k * 3 + 1, none⟩ = some (.int .u8 (vb p.b)) ∧ w'.rangeAt xa 0 (secL X)) (OrdT.takes [0, 1, 2, 3, 4, 5, 6, 7, 8] (.one 9 (.take 10 .done))) (by kernel_rfl) (by kernel_rfl) ⟨d0, d1, r7⟩ ?_
              unfold OrdT.takes
              --ordt mmmyyyyy
              iterate 3 (refine' t_move _ _ rfl rfl rfl rfl _ _; rotate_left; (go_simp; with_reducible rfl); simp only [Act.put, List.setIfInBounds_toArray, List.set_cons_zero, List.set_cons_succ])
              iterate 5 (refine' t_yield _ rfl rfl rfl _ _; rotate_left; (intro w' hSw; obtain ⟨s0, s1, s2⟩ := hSw; go_simp; with_reducible rfl); simp only [Act.put, List.setIfInBounds_toArray, List.set_cons_zero, List.set_cons_succ])
              --end
              refine t_load xa 0 (secL X) _ _ _ rfl rfl rfl rfl rfl (fun w' hSw => hSw.2.2) hu rfl (secL_size X) ?_
              simp only [Act.put, List.setIfInBounds_toArray, List.set_cons_zero, List.set_cons_succ, secL_arr]
              refine t_one rfl rfl (fun K hK => ?_)
              go_simp
              refine (HW.out _ H7.out.drew).mono ?_
              rintro e w8 ⟨rfl, h8⟩
              dsimp only
              refine hK _ _ ⟨(HC.out _ h8.hB).1, (HC.out _ h8.hB).2, HR7.out _ h8⟩ ?_
              clear hK
              --ordt y
              (refine' t_yield _ rfl rfl rfl _ _; rotate_left; (intro w' hSw; obtain ⟨s0, s1, s2⟩ := hSw; go_simp; with_reducible rfl); simp only [Act.put, List.setIfInBounds_toArray, List.set_cons_zero, List.set_cons_succ])
              --end
              refine t_done ?_
              go_wp2_with fail
              obtain ⟨x0, x1⟩ := HC.out _ h8.hB
              have x2 : w8.drew.rangeAt xa 0 (secL X) := HR7.out _ h8.drew
              refine wp_region_ordT (fun w' => w'.cell? ⟨b, o + k * 3, none⟩ = some (.int .u8 (vb p.at_)) ∧ w'.cell? ⟨b, o + k * 3 + 1, none⟩ = some (.int .u8 (vb p.b)) ∧ w'.rangeAt xa 0 (secL X)) (OrdT.takes [0, 1, 2, 3, 4, 5, 6, 7, 8, 9, 10, 11, 12, 13, 14, 15, 16, 17, 18, 19, 20, 21, 22, 23, 24, 25, 26, 27] (.one 28 (OrdT.takes [29, 30, 31] .done))) (by kernel_rfl) (by kernel_rfl) ⟨x0, x1, x2⟩ ?_
              unfold OrdT.takes
              --ordt mymmyymmymssyymmmymmmmyyyyy
              (refine' t_move _ _ rfl rfl rfl rfl _ _; rotate_left; (go_simp; with_reducible rfl); simp only [Act.put, List.setIfInBounds_toArray, List.set_cons_zero, List.set_cons_succ])
              (refine' t_yield _ rfl rfl rfl _ _; rotate_left; (intro w' hSw; obtain ⟨s0, s1, s2⟩ := hSw; go_simp; with_reducible rfl); simp only [Act.put, List.setIfInBounds_toArray, List.set_cons_zero, List.set_cons_succ])
              iterate 2 (refine' t_move _ _ rfl rfl rfl rfl _ _; rotate_left; (go_simp; with_reducible rfl); simp only [Act.put, List.setIfInBounds_toArray, List.set_cons_zero, List.set_cons_succ])
              iterate 2 (refine' t_yield _ rfl rfl rfl _ _; rotate_left; (intro w' hSw; obtain ⟨s0, s1, s2⟩ := hSw; go_simp; with_reducible rfl); simp only [Act.put, List.setIfInBounds_toArray, List.set_cons_zero, List.set_cons_succ])
              iterate 2 (refine' t_move _ _ rfl rfl rfl rfl _ _; rotate_left; (go_simp; with_reducible rfl); simp only [Act.put, List.setIfInBounds_toArray, List.set_cons_zero, List.set_cons_succ])
              (refine' t_yield _ rfl rfl rfl _ _; rotate_left; (intro w' hSw; obtain ⟨s0, s1, s2⟩ := hSw; go_simp; with_reducible rfl); simp only [Act.put, List.setIfInBounds_toArray, List.set_cons_zero, List.set_cons_succ])
              (refine' t_move _ _ rfl rfl rfl rfl _ _; rotate_left; (go_simp; with_reducible rfl); simp only [Act.put, List.setIfInBounds_toArray, List.set_cons_zero, List.set_cons_succ])
              iterate 2 (refine t_skip rfl rfl rfl ?_; simp only [Act.put, List.setIfInBounds_toArray, List.set_cons_zero, List.set_cons_succ])
              iterate 2 (refine' t_yield _ rfl rfl rfl _ _; rotate_left; (intro w' hSw; obtain ⟨s0, s1, s2⟩ := hSw; go_simp; with_reducible rfl); simp only [Act.put, List.setIfInBounds_toArray, List.set_cons_zero, List.set_cons_succ])
              iterate 3 (refine' t_move _ _ rfl rfl rfl rfl _ _; rotate_left; (go_simp; with_reducible rfl); simp only [Act.put, List.setIfInBounds_toArray, List.set_cons_zero, List.set_cons_succ])
              (refine' t_yield _ rfl rfl rfl _ _; rotate_left; (intro w' hSw; obtain ⟨s0, s1, s2⟩ := hSw; go_simp; with_reducible rfl); simp only [Act.put, List.setIfInBounds_toArray, List.set_cons_zero, List.set_cons_succ])
              iterate 4 (refine' t_move _ _ rfl rfl rfl rfl _ _; rotate_left; (go_simp; with_reducible rfl); simp only [Act.put, List.setIfInBounds_toArray, List.set_cons_zero, List.set_cons_succ])
              iterate 5 (refine' t_yield _ rfl rfl rfl _ _; rotate_left; (intro w' hSw; obtain ⟨s0, s1, s2⟩ := hSw; go_simp; with_reducible rfl); simp only [Act.put, List.setIfInBounds_toArray, List.set_cons_zero, List.set_cons_succ])
              --end
              refine t_load xa 0 (secL X) _ _ _ rfl rfl rfl rfl rfl (fun w' hSw => hSw.2.2) hu rfl (secL_size X) ?_
              simp only [Act.put, List.setIfInBounds_toArray, List.set_cons_zero, List.set_cons_succ, secL_arr]
              refine t_one rfl rfl (fun K hK => ?_)
              go_simp
              refine (HW2.out _ h8.drew).mono ?_
              rintro e w9 ⟨rfl, h9⟩
              dsimp only
              refine hK _ _ ⟨(HC.out _ h9.hB).1, (HC.out _ h9.hB).2, HR7.out _ h9⟩ ?_
              clear hK
              --ordt yyy
              iterate 3 (refine' t_yield _ rfl rfl rfl _ _; rotate_left; (intro w' hSw; obtain ⟨s0, s1, s2⟩ := hSw; go_simp; with_reducible rfl); simp only [Act.put, List.setIfInBounds_toArray, List.set_cons_zero, List.set_cons_succ])
              --end
              refine t_done ?_
              have h10 := h9.drop
              clear h9 h8 H7 x0 x1 x2
              go_wp2
              go_roundw
              case rel => exact ⟨k + 1, by omega, by go_num, h10⟩
              case measure => simp [intOf]; omega
            · have hNk : N ≤ k := by rcases HM3.out with h | h <;> omega
              all_goals
                have hy := pwA_no l N k p HP.out hNk
                have hyo := pwO_no l N k hNk
                have HW : Hid (∀ W', Has w W' [Blk _ xa (.cells (sec X) 31), DevR _ go (pwO l N k), DevR _ gd (pwA l N k)] → Calls Try.prog 21 #[pv gd, .int .i64 (IntKind.i64.wrap ((vb p.at_).tmod 64)), .agg (sec X)] W' fun e w' => e = .returned (.int .i64 13) ∧ Has w w' [Blk _ xa (.cells (sec X) 31), DevR _ go (pwO l N (k + 1)), DevR _ gd (pwA l N (k + 1))]) := fun W' h' => by
                  have := write_mid [_, _] h' p.sec p.val
                  rw [hy.1, hy.2, ← HX.out, ← hyo] at this
                  rw [rem64i]
                  exact this
                have H7 := Lib.hid h7
                have hkN : ¬ ((k : Int) < (M : Int)) := by omega
                clear hy hyo h7 b7
                go_wp2_with fail
                refine wp_region_ordT (fun w' => w'.cell? ⟨b, o + k * 3, none⟩ = some (.int .u8 (vb p.at_)) ∧ w'.cell? ⟨b, o + k * 3 + 1, none⟩ = some (.int .u8 (vb p.b)) ∧ w'.rangeAt xa 0 (secL X)) (OrdT.takes [0, 1, 2, 3, 4, 5, 6, 7, 8] (.one 9 (.take 10 .done))) (by kernel_rfl) (by kernel_rfl) ⟨d0, d1, r7⟩ ?_
                unfold OrdT.takes
                --ordt mmmyyyyy
                iterate 3 (refine' t_move _ _ rfl rfl rfl rfl _ _; rotate_left; (go_simp; with_reducible rfl); simp only [Act.put, List.setIfInBounds_toArray, List.set_cons_zero, List.set_cons_succ])
                iterate 5 (refine' t_yield _ rfl rfl rfl _ _; rotate_left; (intro w' hSw; obtain ⟨s0, s1, s2⟩ := hSw; go_simp; with_reducible rfl); simp only [Act.put, List.setIfInBounds_toArray, List.set_cons_zero, List.set_cons_succ])
                --end
                refine t_load xa 0 (secL X) _ _ _ rfl rfl rfl rfl rfl (fun w' hSw => hSw.2.2) hu rfl (secL_size X) ?_
                simp only [Act.put, List.setIfInBounds_toArray, List.set_cons_zero, List.set_cons_succ, secL_arr]
                refine t_one rfl rfl (fun K hK => ?_)
                go_simp
                refine (HW.out _ H7.out.drew).mono ?_
                rintro e w8 ⟨rfl, h8⟩
                dsimp only
                refine hK _ _ ⟨(HC.out _ h8.hB).1, (HC.out _ h8.hB).2, HR7.out _ h8⟩ ?_
                clear hK
                --ordt y
                (refine' t_yield _ rfl rfl rfl _ _; rotate_left; (intro w' hSw; obtain ⟨s0, s1, s2⟩ := hSw; go_simp; with_reducible rfl); simp only [Act.put, List.setIfInBounds_toArray, List.set_cons_zero, List.set_cons_succ])
                --end
                refine t_done ?_
                go_wp2_with fail
                refine wp_region_ordT (fun _ => True ∧ True ∧ True) (OrdT.takes [0, 1, 2, 3, 4, 5, 6, 7, 8, 9, 10, 11, 12, 13, 14, 15, 16, 17, 18, 19, 20, 21, 22, 23, 24, 25, 26, 27, 28, 29, 30, 31] .done) (by kernel_rfl) (by kernel_rfl) ⟨trivial, trivial, trivial⟩ ?_
                unfold OrdT.takes
                --ordt mymmyymmymmyyymmmymsssssssssssyy
                (refine' t_move _ _ rfl rfl rfl rfl _ _; rotate_left; (go_simp; with_reducible rfl); simp only [Act.put, List.setIfInBounds_toArray, List.set_cons_zero, List.set_cons_succ])
                (refine' t_yield _ rfl rfl rfl _ _; rotate_left; (intro w' hSw; obtain ⟨s0, s1, s2⟩ := hSw; go_simp; with_reducible rfl); simp only [Act.put, List.setIfInBounds_toArray, List.set_cons_zero, List.set_cons_succ])
                iterate 2 (refine' t_move _ _ rfl rfl rfl rfl _ _; rotate_left; (go_simp; with_reducible rfl); simp only [Act.put, List.setIfInBounds_toArray, List.set_cons_zero, List.set_cons_succ])
                iterate 2 (refine' t_yield _ rfl rfl rfl _ _; rotate_left; (intro w' hSw; obtain ⟨s0, s1, s2⟩ := hSw; go_simp; with_reducible rfl); simp only [Act.put, List.setIfInBounds_toArray, List.set_cons_zero, List.set_cons_succ])
                iterate 2 (refine' t_move _ _ rfl rfl rfl rfl _ _; rotate_left; (go_simp; with_reducible rfl); simp only [Act.put, List.setIfInBounds_toArray, List.set_cons_zero, List.set_cons_succ])
                (refine' t_yield _ rfl rfl rfl _ _; rotate_left; (intro w' hSw; obtain ⟨s0, s1, s2⟩ := hSw; go_simp; with_reducible rfl); simp only [Act.put, List.setIfInBounds_toArray, List.set_cons_zero, List.set_cons_succ])
                iterate 2 (refine' t_move _ _ rfl rfl rfl rfl _ _; rotate_left; (go_simp; with_reducible rfl); simp only [Act.put, List.setIfInBounds_toArray, List.set_cons_zero, List.set_cons_succ])
                iterate 3 (refine' t_yield _ rfl rfl rfl _ _; rotate_left; (intro w' hSw; obtain ⟨s0, s1, s2⟩ := hSw; go_simp; with_reducible rfl); simp only [Act.put, List.setIfInBounds_toArray, List.set_cons_zero, List.set_cons_succ])
                iterate 3 (refine' t_move _ _ rfl rfl rfl rfl _ _; rotate_left; (go_simp; with_reducible rfl); simp only [Act.put, List.setIfInBounds_toArray, List.set_cons_zero, List.set_cons_succ])
                (refine' t_yield _ rfl rfl rfl _ _; rotate_left; (intro w' hSw; obtain ⟨s0, s1, s2⟩ := hSw; go_simp; with_reducible rfl); simp only [Act.put, List.setIfInBounds_toArray, List.set_cons_zero, List.set_cons_succ])
                (refine' t_move _ _ rfl rfl rfl rfl _ _; rotate_left; (go_simp; with_reducible rfl); simp only [Act.put, List.setIfInBounds_toArray, List.set_cons_zero, List.set_cons_succ])
                iterate 11 (refine t_skip rfl rfl rfl ?_; simp only [Act.put, List.setIfInBounds_toArray, List.set_cons_zero, List.set_cons_succ])
                iterate 2 (refine' t_yield _ rfl rfl rfl _ _; rotate_left; (intro w' hSw; obtain ⟨s0, s1, s2⟩ := hSw; go_simp; with_reducible rfl); simp only [Act.put, List.setIfInBounds_toArray, List.set_cons_zero, List.set_cons_succ])
                --end
                refine t_done ?_
                have h10 := h8.drew.drop
                clear h8 H7
                go_wp2
                go_roundw
                case rel => exact ⟨k + 1, by omega, by go_num, h10⟩
                case measure => simp [intOf]; omega
        · have hkk : k = l.length := by omega
          rw [hkk] at hH
          have he := pwA_end l N
          have hcr := pwA_crash l N
          rw [← HM.out] at he hcr
          obtain ⟨he1, he2, he3⟩ := he
          have hon := on_has hH (.tail _ (.head _))
          have htk := taken_has hH (.tail _ (.head _))
          have hpd := pending_has hH (.tail _ (.head _))
          rw [he1, Bool.not_not] at hon
          rw [he2] at htk
          rw [he3] at hpd
          have HON := Lib.hid hon
          have HTK := Lib.hid htk
          have HPD := Lib.hid hpd
          have HH := Lib.hid hH
          have HCR := Lib.hid (And.intro hcr.1 hcr.2)
          have HE := Lib.hid (And.intro he1 he3)
          have hMb : (((M : Int) == (l.length : Int))) = decide (M = l.length) := by rw [Bool.eq_iff_iff]; simp only [beq_iff_eq, decide_eq_true_eq]; omega
          clear he1 he2 he3 hcr hon htk hpd hkk hH
          go_wp2_with fail
          refine HON.out.mono ?_
          rintro e wz ⟨rfl, rfl⟩
          go_wp2_with fail
          refine HTK.out.mono ?_
          rintro e w5 ⟨rfl, rfl⟩
          go_wp2_with fail
          refine HPD.out.mono ?_
          rintro e w6 ⟨rfl, rfl⟩
          go_wp2_with fail
          by_cases hMl : M = l.length
          · have hdt := HON.out
            rw [decide_eq_true hMl] at hdt
            have HD : Hid (∃ D, Has w w6 [DevR _ go (pwO l N l.length), DevR _ gd D] ∧ D.crashE ((List.range M).map Int.ofNat) = 0 ∧ D.crash ((List.range M).map Int.ofNat) = bsD (flushL zst (wrs (l.take M))) M) := ⟨_, HH.out, HCR.out.1, HCR.out.2⟩
            have hMl' : ((M : Int) == (l.length : Int)) = true := by rw [hMb]; exact decide_eq_true hMl
            clear hMb hMl
            refine hdt.mono ?_
            rintro e wz ⟨rfl, rfl⟩
            clear hdt
            obtain ⟨D, hD, hDE, hDC⟩ := HD.out
            obtain ⟨vI, W12, hmk, ⟨aI, cI, rfl⟩, h12⟩ := hD.makeInts .i64 .i64 M (by omega)
            have H12 := Lib.hid h12
            have HDE := Lib.hid (And.intro hDE hDC)
            clear h12 hD hDE hDC HD
            go_wp2
            clear hmk
            go_loopw [14] (fun i wr => ∃ k : Nat, k ≤ M ∧ i = .int .i64 (k : Int) ∧ Has w wr [OwnR _ 3 1 intL (.slice aI M cI) (upI M k), DevR _ go (pwO l N l.length), DevR _ gd D]) (fun i _ => M - (intOf i).toNat)
            case atStart => exact ⟨0, Nat.zero_le _, rfl, H12.out⟩
            case round =>
              obtain ⟨k2, hk2, rfl, hH⟩ := hrel
              by_cases hlt2 : k2 < M
              · have hg := upI_get M k2 k2 hlt2
                rw [if_neg (by omega)] at hg
                obtain ⟨gI, cI', hvm, c2, f2, h2⟩ := hH.set1 [] intL_len k2 0 0 (k2 : Int) (.int .i64 (k2 : Int)) hg (by decide) rfl
                rw [upI_set, Nat.mul_one, Nat.add_zero] at h2
                rw [Nat.mul_one, Nat.add_zero] at c2 f2
                rw [upI_len] at hvm
                injection hvm with hvm _ hcap
                subst hcap
                subst hvm
                have c2 : wr.cell? ⟨gI, k2, none⟩ = some (.int .i64 0) := c2
                have hki : (k2 : Int) < (M : Int) := by omega
                have H2 := Lib.hid h2
                clear h2 hH hg
                go_wp2
                go_roundw
                case rel => exact ⟨k2 + 1, by omega, by go_num, H2.out⟩
                case measure => simp [intOf]; omega
              · have hkk : k2 = M := by omega
                subst hkk
                rw [upI_all] at hH
                have c1 := crash_own [_, _] hH _ _ (.head _) (by simp; omega)
                rw [HDE.out.1, HDE.out.2] at c1
                have HC1 := Lib.hid c1
                clear c1 hH
                go_wp2_with fail
                refine HC1.out.mono ?_
                rintro e w14 ⟨rfl, h14⟩
                clear HC1
                have hon2 := on_has h14 (.tail _ (.tail _ (.head _)))
                rw [show (bsD (flushL zst (wrs (l.take k2))) (k2 : Int)).off = false from rfl, Bool.not_false] at hon2
                have HO3 := Lib.hid hon2
                clear hon2
                go_wp2_with fail
                refine HO3.out.mono ?_
                rintro e w15 ⟨rfl, rfl⟩
                have hdf := diff_none h14 (.tail _ (.tail _ (.head _))) (.tail _ (.head _)) (by show (flushL zst (wrs (l.take k2))).length = zst.length; rw [flushL_length]) (fun i => by rw [HM.out]; exact pwO_look l N _ i)
                have HDF := Lib.hid hdf
                clear hdf h14
                go_wp2_with fail
                refine HDF.out.mono ?_
                rintro e w16 ⟨⟨ad, cd, rfl⟩, h16⟩
                go_wp2_with fail
                refine (ones_any _).mono ?_
                rintro e w17 ⟨rfl, hB17⟩
                have h17 := h16.below hB17
                have hFr : (bsD (flushL zst (wrs (l.take k2))) (k2 : Int)).Free := ⟨rfl, by simp [bsD], by simp [bsD]; omega, by simp [bsD]⟩
                have c1 := write_mid [_, _] h17 0 secA
                rw [Dv.writeE_go hFr (by decide) (by show (0 : Int) < ((flushL zst (wrs (l.take k2))).length : Int); rw [flushL_length, zst_len]; decide)] at c1
                have HC2 := Lib.hid c1
                clear c1 hFr h17 h16
                go_wp2_with fail
                refine HC2.out.mono ?_
                rintro e w18 ⟨rfl, h18⟩
                have hB := h18.hB
                clear h18
                go_wp2_with (go_at_call 11; refine (HAW.out _).mono ?_; rintro e w' ⟨rfl, hB6⟩)
                go_ret
                exact ⟨rfl, hB.trans (hB6.mono hB.size)⟩
          · have hdt := HON.out
            rw [decide_eq_false hMl] at hdt
            have hoff : (pwA l N l.length).off = true := by rw [HE.out.1, decide_eq_false hMl]; rfl
            have hat : (pwA l N l.length).at 0 = 13 := by unfold Dv.at; rw [hoff]; rfl
            have hrd := read_has HH.out (.tail _ (.head _)) 0
            have hrv : (pwA l N l.length).readV 0 = .tuple #[.agg (sec zsec), .int .i64 13] := by unfold Dv.readV; rw [hat, if_neg (by decide)]
            rw [hrv] at hrd
            have HRD := Lib.hid hrd
            have hfl : (pwA l N l.length).flush = pwA l N l.length ∧ (pwA l N l.length).flushE = 13 := by unfold Dv.flush Dv.flushE; rw [hoff]; exact ⟨rfl, rfl⟩
            have HFL := Lib.hid hfl
            have hli : limitE 5 = 0 := rfl
            have HOFF := Lib.hid hoff
            have hcr2 := crash_range ((pwA l N l.length).limit 5) M (by have := HE.out.2; have e : ((pwA l N l.length).limit 5).ca = (pwA l N l.length).ca := rfl; rw [e]; omega)
            have hcr3 := crash_range (pwA l N l.length) M (by have := HE.out.2; omega)
            have hcr4 : ((pwA l N l.length).limit 5).crash ((List.range M).map Int.ofNat) = bsD (flushL zst (wrs (l.take M))) M := by
              rw [hcr2.2, ← HCR.out.2, hcr3.2]; rfl
            have HC5 := Lib.hid (And.intro hcr2.1 hcr4)
            have hMl' : ((M : Int) == (l.length : Int)) = false := by rw [hMb]; exact decide_eq_false hMl
            clear hMb hMl hoff hat hrd hrv hfl hcr2 hcr3 hcr4
            refine hdt.mono ?_
            rintro e wz ⟨rfl, rfl⟩
            clear hdt
            go_wp2_with fail
            refine HRD.out.mono ?_
            rintro e w8 ⟨rfl, h8⟩
            go_wp2_with fail
            have c1 := flush_mid [_] h8
            rw [HFL.out.1, HFL.out.2] at c1
            refine c1.mono ?_
            clear c1
            rintro e w9 ⟨rfl, h9⟩
            clear h8
            go_wp2_with fail
            have c1 := limit_mid [_] h9 5
            rw [hli] at c1
            refine c1.mono ?_
            clear c1
            rintro e w10 ⟨rfl, h10⟩
            clear h9
            have hon := on_has h10 (.tail _ (.head _))
            rw [show ((pwA l N l.length).limit 5).off = (pwA l N l.length).off from rfl, HOFF.out, Bool.not_true] at hon
            have HO2 := Lib.hid hon
            have HD : Hid (∃ D, Has w w10 [DevR _ go (pwO l N l.length), DevR _ gd D] ∧ D.crashE ((List.range M).map Int.ofNat) = 0 ∧ D.crash ((List.range M).map Int.ofNat) = bsD (flushL zst (wrs (l.take M))) M) := ⟨_, h10, HC5.out⟩
            clear hon h10 HRD HFL HOFF HC5
            clear hli
            go_wp2_with fail
            refine HO2.out.mono ?_
            rintro e wz ⟨rfl, rfl⟩
            clear HO2
            obtain ⟨D, hD, hDE, hDC⟩ := HD.out
            obtain ⟨vI, W12, hmk, ⟨aI, cI, rfl⟩, h12⟩ := hD.makeInts .i64 .i64 M (by omega)
            have H12 := Lib.hid h12
            have HDE := Lib.hid (And.intro hDE hDC)
            clear h12 hD hDE hDC HD
            go_wp2
            clear hmk
            go_loopw [14] (fun i wr => ∃ k : Nat, k ≤ M ∧ i = .int .i64 (k : Int) ∧ Has w wr [OwnR _ 3 1 intL (.slice aI M cI) (upI M k), DevR _ go (pwO l N l.length), DevR _ gd D]) (fun i _ => M - (intOf i).toNat)
            case atStart => exact ⟨0, Nat.zero_le _, rfl, H12.out⟩
            case round =>
              obtain ⟨k2, hk2, rfl, hH⟩ := hrel
              by_cases hlt2 : k2 < M
              · have hg := upI_get M k2 k2 hlt2
                rw [if_neg (by omega)] at hg
                obtain ⟨gI, cI', hvm, c2, f2, h2⟩ := hH.set1 [] intL_len k2 0 0 (k2 : Int) (.int .i64 (k2 : Int)) hg (by decide) rfl
                rw [upI_set, Nat.mul_one, Nat.add_zero] at h2
                rw [Nat.mul_one, Nat.add_zero] at c2 f2
                rw [upI_len] at hvm
                injection hvm with hvm _ hcap
                subst hcap
                subst hvm
                have c2 : wr.cell? ⟨gI, k2, none⟩ = some (.int .i64 0) := c2
                have hki : (k2 : Int) < (M : Int) := by omega
                have H2 := Lib.hid h2
                clear h2 hH hg
                go_wp2
                go_roundw
                case rel => exact ⟨k2 + 1, by omega, by go_num, H2.out⟩
                case measure => simp [intOf]; omega
              · have hkk : k2 = M := by omega
                subst hkk
                rw [upI_all] at hH
                have c1 := crash_own [_, _] hH _ _ (.head _) (by simp; omega)
                rw [HDE.out.1, HDE.out.2] at c1
                have HC1 := Lib.hid c1
                clear c1 hH
                go_wp2_with fail
                refine HC1.out.mono ?_
                rintro e w14 ⟨rfl, h14⟩
                clear HC1
                have hon2 := on_has h14 (.tail _ (.tail _ (.head _)))
                rw [show (bsD (flushL zst (wrs (l.take k2))) (k2 : Int)).off = false from rfl, Bool.not_false] at hon2
                have HO3 := Lib.hid hon2
                clear hon2
                go_wp2_with fail
                refine HO3.out.mono ?_
                rintro e w15 ⟨rfl, rfl⟩
                have hdf := diff_none h14 (.tail _ (.tail _ (.head _))) (.tail _ (.head _)) (by show (flushL zst (wrs (l.take k2))).length = zst.length; rw [flushL_length]) (fun i => by rw [HM.out]; exact pwO_look l N _ i)
                have HDF := Lib.hid hdf
                clear hdf h14
                go_wp2_with fail
                refine HDF.out.mono ?_
                rintro e w16 ⟨⟨ad, cd, rfl⟩, h16⟩
                go_wp2_with fail
                refine (ones_any _).mono ?_
                rintro e w17 ⟨rfl, hB17⟩
                have h17 := h16.below hB17
                have hFr : (bsD (flushL zst (wrs (l.take k2))) (k2 : Int)).Free := ⟨rfl, by simp [bsD], by simp [bsD]; omega, by simp [bsD]⟩
                have c1 := write_mid [_, _] h17 0 secA
                rw [Dv.writeE_go hFr (by decide) (by show (0 : Int) < ((flushL zst (wrs (l.take k2))).length : Int); rw [flushL_length, zst_len]; decide)] at c1
                have HC2 := Lib.hid c1
                clear c1 hFr h17 h16
                go_wp2_with fail
                refine HC2.out.mono ?_
                rintro e w18 ⟨rfl, h18⟩
                have hB := h18.hB
                clear h18
                go_wp2_with (go_at_call 11; refine (HAW.out _).mono ?_; rintro e w' ⟨rfl, hB6⟩)
                go_ret
                exact ⟨rfl, hB.trans (hB6.mono hB.size)⟩
end Go.Proofs.Ytjbjhjlfcbhaiaa
