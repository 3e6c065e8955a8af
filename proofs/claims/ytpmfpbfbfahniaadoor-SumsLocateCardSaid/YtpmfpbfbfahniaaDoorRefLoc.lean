/- The walk of the reference's Locate. -/
import Derived.Test.YtpmfpbfbfahniaaDoorLocMath
import Derived.Test.YtpmfpbfbfahniaaDoorSliceB
import Derived.Deep.RegionHeld3
import Derived.Deep.DeepCutAuto
import Derived.Deep.DrawnRows
import Derived.Deep.RegionWith
namespace Go.Proofs.YtpmfpbfbfahniaaDoor
open Go.RowKit
open Lime
attribute [local go_sem] g_eq32 g_ne32
attribute [local go_sem ↓] Go.wp_at_zero Go.wp_at_succ
theorem vb_ofNat (k : Nat) : IntKind.u8.wrap (k : Int) = vb (UInt8.ofNat k) := by
  rw [IntKind.wrap_u8]; unfold vb; simp
set_option maxRecDepth 100000 in
set_option maxHeartbeats 2000000 in
theorem refloc_any (cap : Nat) (a : Option Addr) (l : List UInt8) (want : BitVec 32) (w : World) (hb : BytesAt w a l) (hlc : l.length ≤ cap) :
    Calls Tryd.prog 19 #[.slice a l.length cap, .int .u32 (vu want)] w fun e w' => e = .returned (locAny l want) ∧ Below w.heap.size w w' := by
  have hm := hb.1
  by_cases h1 : 1000 < l.length
  · have qd : decide (1000 < (l.length : Int)) = true := by simp; omega
    have HV := Lib.hid (show locAny l want = .tuple #[.int .i64 0, .int .u8 0, .int .i64 3] from if_pos h1)
    go_enter Tryd.func19, Tryd.ntmps19
    go_wp2
    go_ret3
    exact ⟨by rw [HV.out]; rfl, Below.refl _ _⟩
  · have qd : decide (1000 < (l.length : Int)) = false := by simp; omega
    by_cases h2 : crc l = want
    · have q : (crc l == want) = true := by simpa using h2
      have HV := Lib.hid (show locAny l want = .tuple #[.int .i64 0, .int .u8 0, .int .i64 8] by rw [locAny, if_neg h1, if_pos h2])
      clear h2
      go_enter Tryd.func19, Tryd.ntmps19
      go_wp2_with fail
      refine (refcrc_any cap a l w hb).mono ?_
      rintro e w' ⟨rfl, rfl⟩
      go_wp2
      go_ret3
      exact ⟨by rw [HV.out]; rfl, Below.refl _ _⟩
    · have q : (crc l == want) = false := by simpa using h2
      have HN := Lib.hid h2
      clear h2
      have hL : l.length ≤ 1000 := by omega
      go_enter Tryd.func19, Tryd.ntmps19
      go_wp2_with fail
      refine (refcrc_any cap a l w hb).mono ?_
      rintro e w' ⟨rfl, rfl⟩
      go_wp2_with fail
      go_loopw [7] (fun i wr => ∃ k : Nat, k ≤ l.length ∧ i = .int .i64 k ∧ (∀ j, j < k → ∀ u, crc (l.set j u) ≠ want) ∧ Below w.heap.size w wr) (fun i _ => l.length - (intOf i).toNat)
      case atStart => exact ⟨0, Nat.zero_le _, rfl, fun j hj => by omega, Below.refl _ _⟩
      case round =>
        obtain ⟨k, hk, rfl, hno, hB⟩ := hrel
        have HNO := Lib.hid hno
        clear hno
        by_cases hlt : k < l.length
        · have hup := fun W => run_slice_upto a l.length cap k (by omega) W
          have hfr : ∀ W : World, (Instr.sliceAt 23 (.slice a l.length cap) (some (.int .i64 ((k : Int) + 1))) none none).run Tryd.prog W = .ok (.slice (fromA a cap (k + 1)) (l.length - (k + 1)) (cap - (k + 1))) W := fun W => run_slice_from a l.length cap (k + 1) (by omega) W
          have hcr := refcrc_any cap (upA a cap) (l.take k) wr ((hb.below hB).upto cap k (by omega))
          rw [show (l.take k).length = k by simp; omega] at hcr
          have HC := Lib.hid hcr
          clear hcr
          go_wp2_with fail
          refine HC.out.mono ?_
          clear HC
          rintro e w' ⟨rfl, rfl⟩
          go_wp2_with fail
          clear hup
          obtain ⟨wo, hwo⟩ : ∃ wo : World, wo = wr := ⟨_, rfl⟩
          rw [← hwo] at hB ⊢
          clear hwo
          go_loopw [9] (fun v wr => ∃ m : Nat, m ≤ 256 ∧ v = .int .i64 m ∧ (∀ u : UInt8, u.toNat < m → crc (l.set k u) ≠ want) ∧ Below w.heap.size w wr) (fun v _ => 256 - (intOf v).toNat)
          case atStart => exact ⟨0, Nat.zero_le _, rfl, fun u hu => by omega, hB⟩
          case round =>
            obtain ⟨m, hm2, rfl, hnu, hB2⟩ := hrel
            clear hB
            have HNU := Lib.hid hnu
            clear hnu
            by_cases hlm : m < 256
            · have ev := vb_ofNat m
              have hmi : (m : Int) < 256 := by omega
              have e1 : IntKind.i64.wrap ((k : Int) + 1) = (k : Int) + 1 := IntWalk.i64_in _ (by omega)
              have HOS := Lib.hid (on_set l k (UInt8.ofNat m) hlt)
              have k1 := (Below.refl wr.heap.size wr).alloc (Nat.le_refl _) (.cells #[.int .u8 (vb (UInt8.ofNat m))] 5)
              have hbn := bytes_new wr #[.int .u8 (vb (UInt8.ofNat m))] (0, 0) [UInt8.ofNat m] (by simp) rfl
              have hb3 := ((hb.below hB2).below k1).from cap (k + 1) (by omega) hlc
              have HO1 : Hid (∀ W, W = (wr.alloc (.cells #[.int .u8 (vb (UInt8.ofNat m))] 5)).drew → Calls Tryd.prog 17 #[.int .u32 (vu (crc (l.take k))), .slice (some ⟨wr.heap.size, 0, none⟩) 1 1] W fun e w' => e = .returned (.int .u32 (vu (on (crc (l.take k)) [UInt8.ofNat m]))) ∧ W = w') := by
                rintro W rfl; exact refon_any _ 1 _ [UInt8.ofNat m] _ hbn
              have HO2 : Hid (∀ W, W = (wr.alloc (.cells #[.int .u8 (vb (UInt8.ofNat m))] 5)).drew → Calls Tryd.prog 17 #[.int .u32 (vu (on (crc (l.take k)) [UInt8.ofNat m])), .slice (fromA a cap (k + 1)) (l.length - (k + 1)) (cap - (k + 1))] W fun e w' => e = .returned (.int .u32 (vu (crc (l.set k (UInt8.ofNat m))))) ∧ W = w') := by
                rintro W rfl
                have := refon_any (on (crc (l.take k)) [UInt8.ofNat m]) (cap - (k + 1)) (fromA a cap (k + 1)) (l.drop (k + 1)) (wr.alloc (.cells #[.int .u8 (vb (UInt8.ofNat m))] 5)).drew hb3
                rw [List.length_drop, HOS.out] at this
                exact this
              have HB : Hid (Below w.heap.size w (wr.alloc (.cells #[.int .u8 (vb (UInt8.ofNat m))] 5)).drew) := (hB2.trans (k1.mono hB2.size)).drew
              clear hbn hb3 k1 HOS
              go_upto_region 12 with fail
              go_cut [42] (fun c wx => c = .bool (crc (l.set k (UInt8.ofNat m)) == want) ∧ Below w.heap.size w wx)
              case first =>
                go_region_with (go_at_call 17; first | ((with_reducible refine (HO1.out _ rfl).mono ?_); rintro e w' ⟨rfl, rfl⟩) | ((with_reducible refine (HO2.out _ rfl).mono ?_); rintro e w' ⟨rfl, rfl⟩))
                all_goals
                  go_wp2_with fail
                  go_meet
                  exact ⟨rfl, HB.out⟩
              case rest =>
                obtain ⟨rfl, hB3⟩ := hcut
                clear HO1 HO2 HB hB2 hfr e1
                cases hq : (crc (l.set k (UInt8.ofNat m)) == want)
                · have hq' : crc (l.set k (UInt8.ofNat m)) ≠ want := by simpa using hq
                  have HQ := Lib.hid hq'
                  clear hq hq'
                  go_wp2
                  go_roundw
                  case rel =>
                    refine ⟨m + 1, by omega, by go_num, fun u hu => ?_, hB3⟩
                    by_cases e : u.toNat = m
                    · have : u = UInt8.ofNat m := by rw [← e]; simp
                      rw [this]; exact HQ.out
                    · exact HNU.out u (by omega)
                  case measure => simp [intOf]; omega
                · have hq' : crc (l.set k (UInt8.ofNat m)) = want := by simpa using hq
                  have HV := Lib.hid (loc_found l want k (UInt8.ofNat m) hL HN.out hlt hq' HNO.out)
                  clear hq hq'
                  go_wp2
                  go_ret3
                  exact ⟨by rw [HV.out]; rfl, hB3⟩
            · obtain rfl : m = 256 := by omega
              have HK : Hid (∀ j, j < k + 1 → ∀ u, crc (l.set j u) ≠ want) := by
                intro j hj u
                by_cases e : j = k
                · rw [e]; exact HNU.out u u.toNat_lt
                · exact HNO.out j (by omega) u
              clear hfr
              go_wp2
              go_roundw
              case rel => exact ⟨k + 1, by omega, by go_num, HK.out, hB2⟩
              case measure => simp [intOf]; omega
        · have HV := Lib.hid (loc_none l want hL HN.out (fun j hj => HNO.out j (by omega)))
          go_wp2
          go_ret3
          exact ⟨by rw [HV.out]; rfl, hB⟩
end Go.Proofs.YtpmfpbfbfahniaaDoor
