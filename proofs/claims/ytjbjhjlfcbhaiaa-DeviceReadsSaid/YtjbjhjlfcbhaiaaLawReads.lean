/- The walk of the statement DeviceReads. -/
import Derived.Test.YtjbjhjlfcbhaiaaPutMath
import Derived.Test.YtjbjhjlfcbhaiaaWant
import Derived.Test.YtjbjhjlfcbhaiaaAwake6
namespace Go.Proofs.Ytjbjhjlfcbhaiaa
open Go.RowKit
attribute [local go_sem] Oper.semAt_some setRow_alloc_at
attribute [local go_sem high] run_eql_sector run_neq_sector
set_option maxRecDepth 100000 in
set_option maxHeartbeats 4000000 in
theorem reads_law (v : Value) (l : List PutV) (w : World) (hv : RdL w 3 putL v l) (hbig : l.length ≤ 9223372036854775807) :
    Calls Try.prog 4 #[v] w fun e w' => e = .returned (.bool true) ∧ Below w.heap.size w w' := by
  have hv' := hv
  obtain ⟨a, cap, rfl, _⟩ := hv'
  have HAW := Lib.hid awake_any
  by_cases h100 : 100 < l.length
  · have hl1 : (100 : Int) < (l.length : Int) := by omega
    clear hv
    go_enter Try.func4, Try.ntmps4
    go_wp2_with (go_at_call 11; refine (HAW.out _).mono ?_; rintro e w' ⟨rfl, hB⟩)
    go_ret
    exact ⟨rfl, hB⟩
  · have hl1 : (l.length : Int) ≤ 100 := by omega
    have HV := Lib.hid hv
    have h0 := Has.start w
    clear hv h100 hbig
    go_enter Try.func4, Try.ntmps4
    go_wp2_with fail
    refine (new_has h0 64 (by decide) (by decide)).mono ?_
    rintro e w1 ⟨g, rfl, h1⟩
    clear h0
    have HP := Lib.hid (put_any h1 _ l HV.out (by omega) (new64_roomy (by omega)))
    go_wp2_with (first | (go_at_call 13; refine HP.out.mono ?_; rintro e w2 ⟨rfl, h2⟩) | (with_reducible refine wpList_alloc_arr rfl rfl ?_))
    have h3 := h2.alloc (.cells (arr (wants (l.take 0))) 32)
    have HT := Lib.hid (Dv.puts_taken l (Dv.new 64))
    clear h2 h1 HP
    obtain ⟨wb, hwb⟩ : ∃ wb, wb = w2.heap.size := ⟨_, rfl⟩
    rw [← hwb] at h3
    have hst : w2.alloc (.cells (arr z64) 32) = w2.alloc (.cells (arr (wants (l.take 0))) 32) := rfl
    rw [hst, ← hwb]
    revert h3
    generalize w2.alloc (.cells (arr (wants (l.take 0))) 32) = W3
    intro h3
    clear hwb hst
    go_loopw [6] (fun i wr => ∃ k : Nat, k ≤ l.length ∧ i = .int .i64 (k : Int) ∧ Has w wr [Blk _ wb (.cells (arr (wants (l.take k))) 32), DevR _ g ((Dv.new 64).puts l)]) (fun i _ => l.length - (intOf i).toNat)
    case atStart => exact ⟨0, Nat.zero_le _, rfl, h3⟩
    case round =>
      obtain ⟨k, hk, rfl, hH⟩ := hrel
      clear h3
      by_cases hlt : k < l.length
      · obtain ⟨p, hp⟩ : ∃ p, l[k]? = some p := ⟨_, List.getElem?_eq_getElem hlt⟩
        have HT2 := Lib.hid (wants_take l k p hp)
        have HP := Lib.hid hp
        obtain ⟨b, o, cap', hvb, c0, c1, _⟩ := (HV.out.below (show Below w.heap.size w wr from hH.hB)).put k p hp
        injection hvb with hvb _ hcap
        subst hcap
        subst hvb
        have HC : Hid (∀ W', Below w.heap.size w W' → W'.cell? ⟨b, o + k * 3, none⟩ = some (.int .u8 (vb p.at_)) ∧ W'.cell? ⟨b, o + k * 3 + 1, none⟩ = some (.int .u8 (vb p.b))) := fun W' hB => by
          obtain ⟨b', o', cap', hvb, d0, d1, d2⟩ := (HV.out.below hB).put k p HP.out
          injection hvb with hvb _ _
          injection hvb with hvb
          injection hvb with e1 e2
          subst e1 e2
          exact ⟨d0, d1⟩
        obtain ⟨m, hm⟩ : ∃ m : Nat, p.sec = m := ⟨p.sec.toNat, by have := p.sec_ge; omega⟩
        have hm64 : m < 64 := by have := p.sec_lt; omega
        have htm : (vb p.at_).tmod 64 = (m : Int) := by rw [← hm, Int.tmod_eq_emod_of_nonneg (vb_nonneg p.at_)]; rfl
        have hixa : ∀ w, (Instr.indexAt 32 (.pointer (some ⟨wb, 0, none⟩)) (.int .u8 ((vb p.at_).tmod 64))).run Try.prog w = .ok (.pointer (some ⟨wb, m * 128, none⟩)) w := fun w => by
          rw [htm, run_index_arr wb .u8 m (by omega) (by omega) w, Int.toNat_natCast]
        obtain ⟨xs, hxs⟩ : ∃ xs : List Value, xs = secL p.val := ⟨_, rfl⟩
        have hinf : (Try.prog.info? 31).map (·.size) = some xs.length := by rw [hxs]; exact secL_size _
        have hlx : xs.length = 128 := by rw [hxs]; exact secL_len _
        have hone : ∀ v ∈ xs, v.oneCell' = true := by rw [hxs]; exact secL_one _
        have hu := Try.underlying31
        have HF : Hid (∀ w, Calls Try.prog 14 #[.int .u8 (vb p.at_), .int .u8 (vb p.b)] w fun e w' => e = .returned (.agg xs.toArray) ∧ Below w.heap.size w w') := fun w => by
          rw [hxs, secL_arr]; exact filled_any p.at_ p.b w
        have hwl : m < (wants (l.take k)).length := by rw [wants_len]; exact hm64
        have HSET : Hid (∀ W', Has w W' [Blk _ wb (.cells (arr (wants (l.take k))) 32), DevR _ g ((Dv.new 64).puts l)] → Has w (W'.setCells wb (m * 128) xs) [Blk _ wb (.cells (arr (wants (l.take (k + 1)))) 32), DevR _ g ((Dv.new 64).puts l)]) := fun W' h => by
          rw [HT2.out, hxs, hm, Int.toNat_natCast]
          exact h.setArr [] m p.val hwl
        have HTH : Hid (∀ W', Has w W' [Blk _ wb (.cells (arr (wants (l.take k))) 32), DevR _ g ((Dv.new 64).puts l)] → W'.there wb (m * 128) 128) := fun W' h => arr_there (h.blk 0 _ _ rfl).1 m hwl
        have HH := Lib.hid hH
        have hth := HTH.out _ hH.drew
        have hix := fun w => run_index_put b o l.length cap k hlt w
        have hki : (k : Int) < (l.length : Int) := by omega
        clear hxs hwl hm htm hp hH
        go_wp2
        first | (go_region_held3 (fun w' => w'.cell? ⟨b, o + k * 3, none⟩ = some (.int .u8 (vb p.at_)) ∧ w'.cell? ⟨b, o + k * 3 + 1, none⟩ = some (.int .u8 (vb p.b)) ∧ w'.there wb (m * 128) 128) (first | exact ⟨c0, c1, hth⟩ | exact ⟨(HC.out _ h5.hB).1, (HC.out _ h5.hB).2, World.there_setCells (HTH.out _ h4) _ _ _⟩ | exact ⟨(HC.out _ h4.hB).1, (HC.out _ h4.hB).2, HTH.out _ h4⟩) ((go_at_call 14; refine (HF.out _).mono ?_; rintro e w2 ⟨rfl, hB2⟩; have h4 := HH.out.drew.below hB2; have h5 := HSET.out _ h4))) | fail
        all_goals
          go_wp2
          go_roundw
          case rel => exact ⟨k + 1, by omega, by go_num, h5⟩
          case measure => simp [intOf]; omega
      · have hkk : k = l.length := by omega
        rw [hkk, List.take_length] at hH
        clear hkk
        obtain ⟨W4, rfl⟩ : ∃ W4, W4 = wr := ⟨_, rfl⟩
        go_wp2
        go_loopw [7] (fun i wr => ∃ n : Nat, n ≤ 64 ∧ i = .int .i64 (n : Int) ∧ Has w wr [Blk _ wb (.cells (arr (wants l)) 32), DevR _ g ((Dv.new 64).puts l)]) (fun i _ => 64 - (intOf i).toNat)
        case atStart => exact ⟨0, Nat.zero_le _, rfl, hH⟩
        case round =>
          obtain ⟨n, hn, rfl, hR⟩ := hrel
          clear hH
          by_cases hlt : n < 64
          · obtain ⟨X, hX⟩ : ∃ X, ((Dv.new 64).puts l).look n = X := ⟨_, rfl⟩
            have hwx := wants_look l (by omega) n hlt
            rw [hX] at hwx
            have hRo : ((Dv.new 64).puts l).Roomy 0 := Dv.puts_roomy (new64_roomy (by omega))
            have hat : ((Dv.new 64).puts l).at n = 0 := Dv.at_ok hRo.on (by omega) (by rw [hRo.st]; omega)
            have hrv : ((Dv.new 64).puts l).readV n = .tuple #[.agg (sec X), .int .i64 0] := by unfold Dv.readV; rw [hat, if_pos rfl, hX]
            have HRD := read_has hR (.tail _ (.head _)) n
            rw [hrv] at HRD
            have HRD := Lib.hid HRD
            have hixn : ∀ w, (Instr.indexAt 32 (.pointer (some ⟨wb, 0, none⟩)) (.int .i64 (n : Int))).run Try.prog w = .ok (.pointer (some ⟨wb, n * 128, none⟩)) w := fun w => by
              rw [run_index_arr wb .i64 n (by omega) (by omega) w, Int.toNat_natCast]
            have hn64 : (n : Int) < 64 := by omega
            clear hX hRo hat hrv hR
            go_wp2_with (first | (go_at_call 17; refine HRD.out.mono ?_; rintro e w5 ⟨rfl, h5⟩) | (with_reducible refine wpList_alloc_sector rfl rfl ?_) | ((with_reducible refine wpList_store_sector rfl _ _ rfl w5.heap.size X zsec ?_ ?_ ?_ ?_); rfl; rfl; exact heap_alloc_new _ _))
            have h6 := h5.alloc (.cells (sec X) 31)
            have b1 := h6.blk 0 _ _ rfl
            have b2 := h6.blk 1 _ _ rfl
            have l1 : ∀ n : Near (w5.alloc (.cells (sec X) 31)), n.w.rangeAt w5.heap.size 0 (secL X) := fun n => n.range (rangeAt_row b1.1 _ _ (fun j v hv => by simpa [secL] using hv))
            have l2 : ∀ n' : Near (w5.alloc (.cells (sec X) 31)), n'.w.rangeAt wb (n * 128) (secL X) := fun n' => n'.range (arr_range b2.1 n X hwx)
            have L1 := Lib.hid l1
            have L2 := Lib.hid l2
            have H6 := Lib.hid h6
            have q1 := seqB_self' X
            clear b1 b2 l1 l2 h5 h6 hwx HRD
            refine wp_region_near (by kernel_rfl) (by kernel_rfl) ?_
            repeat (first | go_big_quiet_skip | (go_big_quiet_want; first
              | ((with_reducible refine near_load _ _ rfl w5.heap.size 0 (secL X) _ ?_ L1.out Try.underlying31 rfl (secL_size X) ?_); rfl; simp only [Act.put, List.setIfInBounds_toArray, List.set_cons_zero, List.set_cons_succ, secL_arr]; go_big_quiet_on)
              | ((with_reducible refine near_load _ _ rfl wb (n * 128) (secL X) _ ?_ L2.out Try.underlying31 rfl (secL_size X) ?_); rfl; simp only [Act.put, List.setIfInBounds_toArray, List.set_cons_zero, List.set_cons_succ, secL_arr]; go_big_quiet_on)
              | (go_big_quiet_op; go_big_quiet_on)))
            refine wpQuiet_nil ?_
            rintro _ ⟨nq, rfl⟩
            have h7 := (H6.out.below nq.h).drop
            go_wp2
            go_roundw
            case rel => exact ⟨n + 1, by omega, by go_num, h7⟩
            case measure => simp [intOf]; omega
          · have htk := HT.out
            have HTK := taken_has hR (.tail _ (.head _))
            rw [htk] at HTK
            have hz : (Dv.new 64).taken + (l.length : Int) = (l.length : Int) := by simp [Dv.new]
            rw [hz] at HTK
            have HTK := Lib.hid HTK
            have hB := hR.hB
            clear htk hz hR
            go_wp2_with (first | (go_at_call 18; refine HTK.out.mono ?_; rintro e w5 ⟨rfl, rfl⟩) | (go_at_call 11; refine (HAW.out _).mono ?_; rintro e w6 ⟨rfl, hB6⟩))
            go_ret
            exact ⟨rfl, hB.trans (hB6.mono hB.size)⟩
end Go.Proofs.Ytjbjhjlfcbhaiaa
