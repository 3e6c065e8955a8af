/- The walk of the statement DeviceCrash. -/
import Derived.Test.YtjbjhjlfcbhaiaaCrMath
import Derived.Test.YtjbjhjlfcbhaiaaWant
import Derived.Test.YtjbjhjlfcbhaiaaOwnR
import Derived.Test.YtjbjhjlfcbhaiaaAwake6
namespace Go.Proofs.Ytjbjhjlfcbhaiaa
open Go.RowKit
attribute [local go_sem] Oper.semAt_some setRow_alloc_at
attribute [local go_sem high] run_eql_sector run_neq_sector
theorem shr8_shift (t : TypeId) (c : UInt8) (yk : IntKind) (j : Nat) : binOp .shr t (.int .u8 (vb c)) (.int yk ((j : Int) % 8)) = pure (.int .u8 (shr8 c (j % 8))) := by
  show Op.shift .shr .u8 (vb c) yk ((j : Int) % 8) = _
  rw [shift_shr_any _ _ _ _ (by omega)]
  congr 2
theorem shr8_ge (c : UInt8) (j : Nat) : 0 ≤ shr8 c j := by unfold shr8; have := vb_nonneg c; exact Int.ediv_nonneg this (by exact Int.pow_nonneg (by decide))
def crDev (l : List PutV) (keep : List UInt8) : Dv := { st := wantC l keep (lastK l l.length) l.length, ca := [], taken := l.length, power := -1, off := false }
theorem crDev_readV (l : List PutV) (keep : List UInt8) (n : Nat) (hn : n < 64) (X : Sector) (hX : (wantC l keep (lastK l l.length) l.length)[n]? = some X) : (crDev l keep).readV n = .tuple #[.agg (sec X), .int .i64 0] := by
  have hl := wantC_len l keep (lastK l l.length) l.length
  have hat : (crDev l keep).at n = 0 := Dv.at_ok rfl (by omega) (by show (n : Int) < ((wantC l keep (lastK l l.length) l.length).length : Int); omega)
  unfold Dv.readV
  rw [hat, if_pos rfl]
  have : (crDev l keep).look n = X := by
    unfold Dv.look crDev
    simp only [lastW_nil, Option.getD_none, Int.toNat_natCast, List.getD_eq_getElem?_getD, hX, Option.getD_some]
  rw [this]
set_option maxRecDepth 100000 in
set_option maxHeartbeats 4000000 in
theorem crash_law (v : Value) (l : List PutV) (ka : Option Addr) (keep : List UInt8) (kcap : Nat) (w : World) (hv : RdL w 3 putL v l) (hbig : l.length ≤ 9223372036854775807) (hk : BytesAt w ka keep) :
    Calls Try.prog 3 #[v, .slice ka keep.length kcap] w fun e w' => e = .returned (.bool true) ∧ Below w.heap.size w w' := by
  have hv' := hv
  obtain ⟨a, cap, rfl, _⟩ := hv'
  have HAW := Lib.hid awake_any
  by_cases h100 : 100 < l.length
  · have hl1 : (100 : Int) < (l.length : Int) := by omega
    clear hv
    go_enter Try.func3, Try.ntmps3
    go_wp2_with (go_at_call 11; refine (HAW.out _).mono ?_; rintro e w' ⟨rfl, hB⟩)
    go_ret
    exact ⟨rfl, hB⟩
  · have hl1 : (l.length : Int) ≤ 100 := by omega
    have HV := Lib.hid hv
    have HK := Lib.hid hk
    have hkl : (keep.length : Int) ≤ 9223372036854775807 := by have := hk.1; omega
    have h0 := Has.start w
    clear hv h100 hbig hk
    go_enter Try.func3, Try.ntmps3
    go_wp2_with fail
    refine (new_has h0 64 (by decide) (by decide)).mono ?_
    rintro e w1 ⟨g, rfl, h1⟩
    clear h0
    have HP := Lib.hid (put_any h1 _ l HV.out (by omega) (new64_roomy (by omega)))
    go_wp2_with (first | (go_at_call 13; refine HP.out.mono ?_; rintro e w2 ⟨rfl, h2⟩) | (with_reducible refine wpList_alloc_arr rfl rfl ?_))
    obtain ⟨last, hlast⟩ : ∃ last, last = lastK l l.length := ⟨_, rfl⟩
    have hll : last ≤ l.length := by rw [hlast]; exact lastK_le _ _
    have h3 := h2.alloc (.cells (arr (wantC l keep last 0)) 32)
    clear h2 h1 HP
    obtain ⟨wb, hwb⟩ : ∃ wb, wb = w2.heap.size := ⟨_, rfl⟩
    rw [← hwb] at h3
    have hst : w2.alloc (.cells (arr z64) 32) = w2.alloc (.cells (arr (wantC l keep last 0)) 32) := rfl
    rw [hst, ← hwb]
    revert h3
    generalize w2.alloc (.cells (arr (wantC l keep last 0)) 32) = W3
    intro h3
    have HLA := Lib.hid hlast
    have h3' : Has w W3 [Blk _ wb (.cells (arr (wantC l keep last 0)) 32), DevR _ g (crS l)] := h3
    clear hwb hst h3 hlast
    go_loop [7, 9] (fun t i => ∃ k : Nat, k ≤ l.length ∧ i = .int .i64 (k : Int) ∧ t = .int .i64 (lastK l k : Int)) (fun _ i => l.length - (intOf i).toNat)
    case atStart => exact ⟨0, Nat.zero_le _, rfl, rfl⟩
    case round =>
      obtain ⟨k, hk, rfl, rfl⟩ := hrel
      by_cases hlt : k < l.length
      · obtain ⟨p, hp⟩ : ∃ p, l[k]? = some p := ⟨_, List.getElem?_eq_getElem hlt⟩
        obtain ⟨b, o, cap', hvb, _, _, c2⟩ := (HV.out.below (show Below w.heap.size w W3 from h3'.hB)).put k p hp
        injection hvb with hvb _ hcap
        subst hcap
        subst hvb
        have HL : Hid (lastK l (k + 1) = if p.fl then k + 1 else lastK l k) := by
          show (if _ then _ else _) = _
          rw [hp]; rfl
        have hix := fun w => run_index_put b o l.length cap k hlt w
        have hki : (k : Int) < (l.length : Int) := by omega
        clear hp
        cases hfl : p.fl
        all_goals
          rw [hfl] at c2 HL
          clear hfl
          go_wp2
          go_round
          case rel => exact ⟨k + 1, by omega, by go_num, by rw [HL.out]; first | rfl | go_num⟩
          case measure => simp [intOf]; omega
      · have hkk : k = l.length := by omega
        subst hkk
        rw [← HLA.out]
        have h4 := OwnR.nil h3' 3 1 intL
        have hsv : keptC keep last 0 = [] := rfl
        rw [← hsv] at h4
        clear h3' hsv
        go_wp2
        go_loopw [10, 11] (fun kv i wr => ∃ k : Nat, k ≤ l.length ∧ i = .int .i64 (k : Int) ∧ Has w wr [OwnR _ 3 1 intL kv (keptC keep last k), Blk _ wb (.cells (arr (wantC l keep last k)) 32), DevR _ g (crS l)]) (fun _ i _ => l.length - (intOf i).toNat)
        case atStart => exact ⟨0, Nat.zero_le _, rfl, h4⟩
        case round =>
          obtain ⟨k, hk, rfl, hH⟩ := hrel
          clear h4
          by_cases hlt : k < l.length
          · obtain ⟨p, hp⟩ : ∃ p, l[k]? = some p := ⟨_, List.getElem?_eq_getElem hlt⟩
            have HWY := Lib.hid (wantC_yes l keep last k p hp)
            have HP := Lib.hid hp
            obtain ⟨b, o, cap', hvb, c0, c1, _⟩ := (HV.out.below (show Below w.heap.size w wr from hH.hB)).put k p hp
            injection hvb with hvb _ hcap
            subst hcap
            subst hvb
            have HC : Hid (∀ W', Below w.heap.size w W' → W'.cell? ⟨b, o + k * 3, none⟩ = some (.int .u8 (vb p.at_)) ∧ W'.cell? ⟨b, o + k * 3 + 1, none⟩ = some (.int .u8 (vb p.b))) := fun W' hB => by
              obtain ⟨b', o', cap', hvb, d0, d1, d2⟩ := (HV.out.below hB).put k p HP.out
              injection hvb with hvb _ _
              injection hvb with hvb
              injection hvb with e1 e2
              subst e1 e2
              exact ⟨d0, d1⟩
            obtain ⟨m, hm⟩ : ∃ m : Nat, p.sec = m := ⟨p.sec.toNat, by have := p.sec_ge; omega⟩
            have hm64 : m < 64 := by have := p.sec_lt; omega
            have htm : (vb p.at_).tmod 64 = (m : Int) := by rw [← hm, Int.tmod_eq_emod_of_nonneg (vb_nonneg p.at_)]; rfl
            have hixa : ∀ w, (Instr.indexAt 32 (.pointer (some ⟨wb, 0, none⟩)) (.int .u8 ((vb p.at_).tmod 64))).run Try.prog w = .ok (.pointer (some ⟨wb, m * 128, none⟩)) w := fun w => by
              rw [htm, run_index_arr wb .u8 m (by omega) (by omega) w, Int.toNat_natCast]
            obtain ⟨xs, hxs⟩ : ∃ xs : List Value, xs = secL p.val := ⟨_, rfl⟩
            have hinf : (Try.prog.info? 31).map (·.size) = some xs.length := by rw [hxs]; exact secL_size _
            have hlx : xs.length = 128 := by rw [hxs]; exact secL_len _
            have hone : ∀ v ∈ xs, v.oneCell' = true := by rw [hxs]; exact secL_one _
            have hu := Try.underlying31
            have HF : Hid (∀ w, Calls Try.prog 14 #[.int .u8 (vb p.at_), .int .u8 (vb p.b)] w fun e w' => e = .returned (.agg xs.toArray) ∧ Below w.heap.size w w') := fun w => by
              rw [hxs, secL_arr]; exact filled_any p.at_ p.b w
            have hwl : m < (wantC l keep last k).length := by rw [wantC_len]; exact hm64
            have HSET : Hid (∀ {c : List Int} {v : Value}, (k < last ∨ keepB keep (k - last) = true) → ∀ W', Has w W' [OwnR _ 3 1 intL v c, Blk _ wb (.cells (arr (wantC l keep last k)) 32), DevR _ g (crS l)] → Has w (W'.setCells wb (m * 128) xs) [OwnR _ 3 1 intL v c, Blk _ wb (.cells (arr (wantC l keep last (k + 1))) 32), DevR _ g (crS l)]) := fun hsel W' h => by
              rw [HWY.out hsel, hxs, hm, Int.toNat_natCast]
              exact h.setArr [OwnR _ 3 1 intL _ _] m p.val hwl
            have HTH : Hid (∀ {c : List Int} {v : Value} W', Has w W' [OwnR _ 3 1 intL v c, Blk _ wb (.cells (arr (wantC l keep last k)) 32), DevR _ g (crS l)] → W'.there wb (m * 128) 128) := fun W' h => arr_there (h.blk 1 _ _ rfl).1 m hwl
            have HH := Lib.hid hH
            have hth := HTH.out _ hH.drew
            have hix := fun w => run_index_put b o l.length cap k hlt w
            have hki : (k : Int) < (l.length : Int) := by omega
            have hkc := keptC_len keep last k
            clear hxs hwl hm htm hp hH
            by_cases hkl : k < last
            · have HS := Lib.hid (HSET.out (v := u10) (c := keptC keep last k) (.inl hkl))
              have hks := Lib.hid (keptC_skip keep last k hkl)
              have hkn : (k : Int) - (last : Int) < 0 := by omega
              clear HSET HWY
              go_wp2
              first | (go_region_held3 (fun w' => w'.cell? ⟨b, o + k * 3, none⟩ = some (.int .u8 (vb p.at_)) ∧ w'.cell? ⟨b, o + k * 3 + 1, none⟩ = some (.int .u8 (vb p.b)) ∧ w'.there wb (m * 128) 128) (first | exact ⟨c0, c1, hth⟩ | exact ⟨(HC.out _ h5.hB).1, (HC.out _ h5.hB).2, World.there_setCells (HTH.out _ h4) _ _ _⟩ | exact ⟨(HC.out _ h4.hB).1, (HC.out _ h4.hB).2, HTH.out _ h4⟩) ((go_at_call 14; refine (HF.out _).mono ?_; rintro e w2 ⟨rfl, hB2⟩; have h4 := HH.out.drew.below hB2; have h5 := HS.out _ h4))) | fail
              all_goals
                go_wp2
                go_roundw
                case rel => exact ⟨k + 1, by omega, by go_num, by rw [hks.out]; exact h5⟩
                case measure => simp [intOf]; omega
            · obtain ⟨j, hj⟩ : ∃ j, k = last + j := ⟨k - last, by omega⟩
              have e : (k : Int) - (last : Int) = (j : Int) := by omega
              have ej : k - last = j := by omega
              rw [ej] at HSET HWY
              cases hb : keepB keep j
              · have hwn := Lib.hid (wantC_no l keep last k (by omega) (by rw [ej]; exact hb))
                have hkn := Lib.hid (keptC_no keep last k (by rw [ej]; exact hb))
                clear HSET HWY hj
                by_cases h8 : j / 8 < keep.length
                · have hbit : (shr8 (at8 keep (j / 8)) (j % 8) % 2 == 1) = false := by
                    unfold keepB at hb
                    rw [decide_eq_true h8, Bool.true_and] at hb
                    exact hb
                  have h8i : (j : Int) / 8 < (keep.length : Int) := by omega
                  have hsg := shr8_ge (at8 keep (j / 8)) (j % 8)
                  obtain ⟨_, h0 | ⟨kb, ko, rfl, hkc⟩⟩ := HK.out.below (show Below w.heap.size w wr from HH.out.hB)
                  · omega
                  have hkc := hkc (j / 8) h8
                  have hsh := fun t yk => shr8_shift t (at8 keep (j / 8)) yk j
                  clear hb h8
                  go_wp2
                  go_roundw
                  case rel => exact ⟨k + 1, by omega, by go_num, by rw [hwn.out, hkn.out]; exact HH.out⟩
                  case measure => simp [intOf]; omega
                · have h8i : (keep.length : Int) ≤ (j : Int) / 8 := by omega
                  clear hb h8
                  go_wp2
                  go_roundw
                  case rel => exact ⟨k + 1, by omega, by go_num, by rw [hwn.out, hkn.out]; exact HH.out⟩
                  case measure => simp [intOf]; omega
              · have hb' : j / 8 < keep.length ∧ (shr8 (at8 keep (j / 8)) (j % 8) % 2 == 1) = true := by
                  unfold keepB at hb
                  rw [Bool.and_eq_true, decide_eq_true_eq] at hb
                  exact hb
                obtain ⟨h8, hbit⟩ := hb'
                have HS := Lib.hid (HSET.out (v := u10) (c := keptC keep last k) (.inr hb))
                have hks := Lib.hid (keptC_yes keep last k (by omega) (by rw [ej]; exact hb))
                rw [ej] at hks
                have h8i : (j : Int) / 8 < (keep.length : Int) := by omega
                have hsg := shr8_ge (at8 keep (j / 8)) (j % 8)
                obtain ⟨_, h0 | ⟨kb, ko, rfl, hkc⟩⟩ := HK.out.below (show Below w.heap.size w wr from HH.out.hB)
                · omega
                have hkc := hkc (j / 8) h8
                have hsh := fun t yk => shr8_shift t (at8 keep (j / 8)) yk j
                clear hb h8 HSET HWY hj
                go_wp2
                first | (go_region_held3 (fun w' => w'.cell? ⟨b, o + k * 3, none⟩ = some (.int .u8 (vb p.at_)) ∧ w'.cell? ⟨b, o + k * 3 + 1, none⟩ = some (.int .u8 (vb p.b)) ∧ w'.there wb (m * 128) 128) (first | exact ⟨c0, c1, hth⟩ | exact ⟨(HC.out _ h5.hB).1, (HC.out _ h5.hB).2, World.there_setCells (HTH.out _ h4) _ _ _⟩ | exact ⟨(HC.out _ h4.hB).1, (HC.out _ h4.hB).2, HTH.out _ h4⟩) ((go_at_call 14; refine (HF.out _).mono ?_; rintro e w2 ⟨rfl, hB2⟩; have h4 := HH.out.drew.below hB2; have h5 := HS.out _ h4))) | fail
                all_goals
                  obtain ⟨v6, W6, hrun, h6⟩ := h5.pushInt j (by omega)
                  have H6 := Lib.hid h6
                  clear h6
                  go_wp2_with (at_builtin; (with_reducible refine wpList_append_eq rfl _ _ _ rfl _ _ _ _ ?_ ?_ hrun ?_); rfl; rfl)
                  go_roundw
                  case rel => exact ⟨k + 1, by omega, by go_num, by rw [hks.out]; exact H6.out⟩
                  case measure => simp [intOf]; omega
          · have hkk : k = l.length := by omega
            rw [hkk] at hH
            clear hkk
            have hO := hH.ownRd (.head _)
            have hpd := pending_has hH (.tail _ (.tail _ (.head _)))
            rw [crS_ca, ← HLA.out] at hpd
            have HPD := Lib.hid hpd
            have hkl2 : (keptC keep last l.length).length ≤ 1000000 := by have := keptC_len keep last l.length; omega
            have h5 := hH.perm (rs' := [DevR _ g (crS l), OwnR _ 3 1 intL u10 (keptC keep last l.length), Blk _ wb (.cells (arr (wantC l keep last l.length)) 32)]) (by
              refine (List.Perm.cons _ (List.Perm.swap _ _ _)).trans (List.Perm.swap _ _ _))
            have hcr := crash_has h5 u10 (keptC keep last l.length) hO.rd hkl2 (fun k hk => .inr ⟨_, .head _, fun F2 hF2 => by rw [hF2.2]; exact hk⟩)
            have hce := crS_crashE l keep
            have hcd := crS_crash l keep
            rw [← HLA.out] at hce hcd
            rw [hce, hcd] at hcr
            have HCR := Lib.hid hcr
            have HRV := Lib.hid (fun n hn X hX => crDev_readV l keep n hn X hX)
            clear hpd hO h5 hcr hce hcd hkl2
            obtain ⟨D, hD⟩ : ∃ D, D = crDev l keep := ⟨_, rfl⟩
            have hDe : ({ st := wantC l keep last l.length, ca := [], taken := (l.length : Int), power := -1, off := false } : Dv) = D := by rw [hD, HLA.out]; rfl
            rw [hDe] at HCR
            have hDc : (D.ca.length : Int) = 0 := by rw [← hDe]; rfl
            rw [← hD, ← HLA.out] at HRV
            have HDC := Lib.hid hDc
            clear hD hDe hDc hH
            go_wp2_with fail
            refine HPD.out.mono ?_
            rintro e w5 ⟨rfl, rfl⟩
            go_wp2_with fail
            refine HCR.out.mono ?_
            rintro e w5 ⟨rfl, h6⟩
            have hpd := pending_has h6 (.head _)
            rw [HDC.out] at hpd
            have HP2 := Lib.hid hpd
            clear hpd
            go_wp2_with fail
            refine HP2.out.mono ?_
            rintro e w7 ⟨rfl, rfl⟩
            have h7 := h6.perm (rs' := [Blk _ wb (.cells (arr (wantC l keep last l.length)) 32), DevR _ g D, OwnR _ 3 1 intL u10 (keptC keep last l.length)]) (by
              refine (List.Perm.cons _ (List.Perm.swap _ _ _)).trans (List.Perm.swap _ _ _))
            clear h6
            obtain ⟨W4, rfl⟩ : ∃ W4, W4 = w7 := ⟨_, rfl⟩
            go_wp2
            go_loopw [13] (fun i wr => ∃ n : Nat, n ≤ 64 ∧ i = .int .i64 (n : Int) ∧ Has w wr [Blk _ wb (.cells (arr (wantC l keep last l.length)) 32), DevR _ g D, OwnR _ 3 1 intL u10 (keptC keep last l.length)]) (fun i _ => 64 - (intOf i).toNat)
            case atStart => exact ⟨0, Nat.zero_le _, rfl, h7⟩
            case round =>
              obtain ⟨n, hn, rfl, hR⟩ := hrel
              clear h7
              by_cases hlt : n < 64
              · have hlw := wantC_len l keep last l.length
                obtain ⟨X, hX⟩ : ∃ X, (wantC l keep last l.length)[n]? = some X := ⟨_, List.getElem?_eq_getElem (by omega)⟩
                have HRD := read_has hR (.tail _ (.head _)) n
                rw [HRV.out n hlt X hX] at HRD
                have HRD := Lib.hid HRD
                have hixn : ∀ w, (Instr.indexAt 32 (.pointer (some ⟨wb, 0, none⟩)) (.int .i64 (n : Int))).run Try.prog w = .ok (.pointer (some ⟨wb, n * 128, none⟩)) w := fun w => by
                  rw [run_index_arr wb .i64 n (by omega) (by omega) w, Int.toNat_natCast]
                have hn64 : (n : Int) < 64 := by omega
                clear hlw hR
                go_wp2_with (first | (go_at_call 17; refine HRD.out.mono ?_; rintro e w5 ⟨rfl, h5⟩) | (with_reducible refine wpList_alloc_sector rfl rfl ?_) | ((with_reducible refine wpList_store_sector rfl _ _ rfl w5.heap.size X zsec ?_ ?_ ?_ ?_); rfl; rfl; exact heap_alloc_new _ _))
                have h6 := h5.alloc (.cells (sec X) 31)
                have b1 := h6.blk 0 _ _ rfl
                have b2 := h6.blk 1 _ _ rfl
                have l1 : ∀ n : Near (w5.alloc (.cells (sec X) 31)), n.w.rangeAt w5.heap.size 0 (secL X) := fun n => n.range (rangeAt_row b1.1 _ _ (fun j v hv => by simpa [secL] using hv))
                have l2 : ∀ n' : Near (w5.alloc (.cells (sec X) 31)), n'.w.rangeAt wb (n * 128) (secL X) := fun n' => n'.range (arr_range b2.1 n X hX)
                have L1 := Lib.hid l1
                have L2 := Lib.hid l2
                have H6 := Lib.hid h6
                have q1 := seqB_self' X
                clear b1 b2 l1 l2 h5 h6 hX HRD
                refine wp_region_near (by kernel_rfl) (by kernel_rfl) ?_
                repeat (first | go_big_quiet_skip | (go_big_quiet_want; first
                  | ((with_reducible refine near_load _ _ rfl w5.heap.size 0 (secL X) _ ?_ L1.out Try.underlying31 rfl (secL_size X) ?_); rfl; simp only [Act.put, List.setIfInBounds_toArray, List.set_cons_zero, List.set_cons_succ, secL_arr]; go_big_quiet_on)
                  | ((with_reducible refine near_load _ _ rfl wb (n * 128) (secL X) _ ?_ L2.out Try.underlying31 rfl (secL_size X) ?_); rfl; simp only [Act.put, List.setIfInBounds_toArray, List.set_cons_zero, List.set_cons_succ, secL_arr]; go_big_quiet_on)
                  | (go_big_quiet_op; go_big_quiet_on)))
                refine wpQuiet_nil ?_
                rintro _ ⟨nq, rfl⟩
                have h7 := (H6.out.below nq.h).drop
                go_wp2
                go_roundw
                case rel => exact ⟨n + 1, by omega, by go_num, h7⟩
                case measure => simp [intOf]; omega
              · have hB := hR.hB
                clear hR
                go_wp2_with (go_at_call 11; refine (HAW.out _).mono ?_; rintro e w6 ⟨rfl, hB6⟩)
                go_ret
                exact ⟨rfl, hB.trans (hB6.mono hB.size)⟩
end Go.Proofs.Ytjbjhjlfcbhaiaa
