/- The walk of the statement SumsBursts. -/
import Derived.Test.YtpmfpbfbfahniaaDoorShown
import Derived.Test.YtpmfpbfbfahniaaDoorOwnB
import Derived.Test.YtpmfpbfbfahniaaDoorBurstL
import Derived.Deep.RegionWith
namespace Go.Proofs.YtpmfpbfbfahniaaDoor
open Go.RowKit
open Lime
attribute [local go_sem high] q_shr32 q_shl32 q_shr32k q_shl32k q_shr32n q_shl32n g_com32
attribute [local go_sem] g_eq32 g_ne32 g_rem2 g_rem2' g_xor8
theorem of_u16 {n : Int} (h : (Lit.int .u16 n).wf = true) : ∃ b : Nat, n = (b : Int) ∧ b < 65536 := by
  have hb : 0 ≤ n ∧ n < 65536 := by
    simp only [Lit.wf, Bool.and_eq_true, decide_eq_true_eq] at h
    have h1 : IntKind.u16.min = 0 := by decide
    have h2 : IntKind.u16.max = 65535 := by decide
    omega
  exact ⟨n.toNat, by omega, by omega⟩
theorem shl_bit (m : Nat) (t : TypeId) : binOp .shl t (.int .u8 1) (.int .i64 ((m % 8 : Nat) : Int)) = pure (.int .u8 (vb (bit8 m))) := by
  have h8 : m % 8 < 8 := by omega
  have hb : bit8 m = bit8 (m % 8) := by unfold bit8; rw [Nat.mod_mod]
  rw [hb]
  generalize m % 8 = n at h8
  match n, h8 with
  | 0, _ => rfl
  | 1, _ => rfl
  | 2, _ => rfl
  | 3, _ => rfl
  | 4, _ => rfl
  | 5, _ => rfl
  | 6, _ => rfl
  | 7, _ => rfl
set_option maxRecDepth 100000 in
set_option maxHeartbeats 2000000 in
theorem sbursts_walk (cap : Nat) (a : Option Addr) (l : List UInt8) (b : Nat) (wh : BitVec 32) (w : World) (hb16 : b < 65536) (hb : BytesAt w a l) (hh : HalfLaid w) :
    Calls Tryd.prog 7 #[.slice a l.length cap, .int .u16 (b : Int), .int .u32 (vu wh)] w fun e w' => e = .returned (.bool true) ∧ Below w.heap.size w w' := by
  have hm := hb.1
  have hcase : 500 < l.length ∨ l.length = 0 ∨ (l.length ≤ 500 ∧ 0 < l.length) := by omega
  rcases hcase with h1 | h1 | ⟨h1, h2⟩
  · have q1 : decide (500 < (l.length : Int)) = true := by simp; omega
    go_enter Tryd.func7, Tryd.ntmps7
    go_wp2_with fail
    refine (shown_any w hh).mono ?_
    rintro e w1 ⟨rfl, hB⟩
    go_wp2
    go_ret
    exact ⟨rfl, hB⟩
  · have q1 : decide (500 < (l.length : Int)) = false := by simp; omega
    have q2 : ((l.length : Int) == 0) = true := by simp; exact List.eq_nil_of_length_eq_zero h1
    clear h1
    go_enter Tryd.func7, Tryd.ntmps7
    go_wp2_with fail
    refine (shown_any w hh).mono ?_
    rintro e w1 ⟨rfl, hB⟩
    go_wp2
    go_ret
    exact ⟨rfl, hB⟩
  · have q1 : decide (500 < (l.length : Int)) = false := by simp; omega
    obtain ⟨p, hp⟩ : ∃ p, p = b % (8 * l.length) := ⟨_, rfl⟩
    have hpl : p < 8 * l.length := by rw [hp]; exact Nat.mod_lt _ (by omega)
    have hmod : ((b : Int)).tmod (8 * (l.length : Int)) = (p : Int) := by rw [Int.tmod_eq_emod_of_nonneg (by omega), hp]; push_cast; rfl
    have hmod' : (b : Int) % (8 * (l.length : Int)) = (p : Int) := by rw [hp]; push_cast; rfl
    clear hp
    obtain ⟨n, hn⟩ : ∃ n, n = l.length := ⟨_, rfl⟩
    have HNL := Lib.hid hn
    have HBC := Lib.hid (burst_crc l p wh)
    rw [← hn] at h1 h2 q1 hpl hmod hmod' HBC hm ⊢
    have q2 : ((n : Int) == 0) = false := by simp; omega
    have q0 : ((8 * (n : Int)) == 0) = false := by simp; omega
    clear hn
    go_enter Tryd.func7, Tryd.ntmps7
    go_wp2_with (at_builtin; (with_reducible refine wpList_copy_bytes _ rfl (.tmp 20) (.tmp 21) rfl w.heap.size l _ cap ?_ ?_ hb (by rw [← HNL.out]; omega) (Nat.le_refl _) ?_); rfl; (rw [← HNL.out]; rfl); intro g cap1 W1 ho hgw hB1 hgc; rw [← HNL.out])
    go_loopw [8, 9] (fun ch i wr => ∃ j : Nat, j ≤ 32 ∧ i = .int .i64 j ∧ ch = .bool (anyK n p wh j) ∧ OwnB w.heap.size wr g (flipK l p wh j) ∧ Below w.heap.size w wr) (fun _ i _ => 32 - (intOf i).toNat)
    case atStart => exact ⟨0, by omega, rfl, rfl, ho, hB1⟩
    case round =>
      obtain ⟨j, hj, rfl, rfl, ho2, hB2⟩ := hrel
      clear ho hB1
      by_cases hlt : j < 32
      · obtain ⟨m, hm2⟩ : ∃ m, m = p + j := ⟨_, rfl⟩
        have hms : (p : Int) + (j : Int) = (m : Int) := by omega
        have hmb : m < 5000 := by omega
        have HM := Lib.hid hm2
        clear hm2
        cases h2 : odd32 (wh >>> j)
        · have HF := Lib.hid (show flipK l p wh (j + 1) = flipK l p wh j by rw [flipK, turnsB, h2]; simp)
          have HA := Lib.hid (show anyK n p wh (j + 1) = anyK n p wh j by rw [anyK, turnsB, h2]; simp)
          go_wp2
          go_roundw
          case rel => exact ⟨j + 1, by omega, by go_num, by rw [HA.out], by rw [HF.out]; exact ho2, hB2⟩
          case measure => simp [intOf]; omega
        · by_cases h3 : m < 8 * n
          · have q3 : decide ((m : Int) < 8 * (n : Int)) = true := by simp; omega
            have HA := Lib.hid (show anyK n p wh (j + 1) = true by rw [anyK, turnsB, h2, ← HM.out, decide_eq_true h3]; rfl)
            have hfl : flipK l p wh (j + 1) = (flipK l p wh j).set (m / 8) (at8 (flipK l p wh j) (m / 8) ^^^ bit8 m) := by rw [flipK, turnsB, h2, ← HM.out, ← HNL.out, decide_eq_true h3]; rfl
            have hFl : (flipK l p wh j).length = n := by rw [flipK_length, HNL.out]
            have hsh := shl_bit m 5
            obtain ⟨r, hr⟩ : ∃ r, r = m / 8 := ⟨_, rfl⟩
            obtain ⟨t, ht⟩ : ∃ t, t = m % 8 := ⟨_, rfl⟩
            rw [← hr] at hfl
            rw [← ht] at hsh
            have hq8 : (m : Int).tdiv 8 = (r : Int) := by rw [Int.tdiv_eq_ediv_of_nonneg (by omega)]; omega
            have ht8 : (m : Int).tmod 8 = (t : Int) := by rw [Int.tmod_eq_emod_of_nonneg (by omega)]; omega
            have hr1 : r < n := by omega
            have ht1 : t < 8 := by omega
            clear hr ht h3
            obtain ⟨F, hF⟩ : ∃ F, F = flipK l p wh j := ⟨_, rfl⟩
            rw [← hF] at hfl hFl ho2
            have HF := Lib.hid hfl
            have hcl := ho2.cell r (by omega)
            have hfz := ho2.frozen r
            have ho3 := (ho2.set r (at8 F r ^^^ bit8 m) (by omega)).drew
            have hB3 := (hB2.setCell (p := ⟨g, r, none⟩) hgw (.int .u8 (vb (at8 F r ^^^ bit8 m)))).drew
            clear hF hfl hFl
            have hw8 : IntKind.i64.wrap (r : Int) = (r : Int) := IntWalk.i64_in _ (by omega)
            have hwt : IntKind.i64.wrap (t : Int) = (t : Int) := IntWalk.i64_in _ (by omega)
            have hri : (r : Int) < (n : Int) := by omega
            go_wp2
            go_region
            all_goals go_wp2
            all_goals
              go_roundw
              case rel => exact ⟨j + 1, by omega, by go_num, by rw [HA.out], by rw [HF.out]; exact ho3, hB3⟩
              case measure => simp [intOf]; omega
          · have q3 : decide ((m : Int) < 8 * (n : Int)) = false := by simp; omega
            have HF := Lib.hid (show flipK l p wh (j + 1) = flipK l p wh j by rw [flipK, turnsB, h2, ← HM.out, ← HNL.out, decide_eq_false h3]; rfl)
            have HA := Lib.hid (show anyK n p wh (j + 1) = anyK n p wh j by rw [anyK, turnsB, h2, ← HM.out, decide_eq_false h3]; rfl)
            go_wp2
            go_roundw
            case rel => exact ⟨j + 1, by omega, by go_num, by rw [HA.out], by rw [HF.out]; exact ho2, hB2⟩
            case measure => simp [intOf]; omega
      · obtain rfl : j = 32 := by omega
        have hc1 := crc_any cap a l wr (hb.below hB2) (hh.below hB2)
        rw [← HNL.out] at hc1
        have HC1 := Lib.hid hc1
        clear hc1
        go_wp2_with fail
        refine HC1.out.mono ?_
        rintro e w3 ⟨rfl, hB⟩
        have ho3 := ho2.below hB
        have c3 := hB2.trans (hB.mono hB2.size)
        have hc2 := crc_any cap1 (some ⟨g, 0, none⟩) (flipK l p wh 32) w3 (ho3.bytes (by rw [flipK_length, ← HNL.out]; exact hm)) (hh.below c3)
        rw [flipK_length, ← HNL.out] at hc2
        have HC2 := Lib.hid hc2
        clear hc2 HC1 hB
        go_wp2_with fail
        refine HC2.out.mono ?_
        rintro e w4 ⟨rfl, hB⟩
        have c4 := c3.trans (hB.mono c3.size)
        have hbc := HBC.out
        clear HC2 hB c3 ho3
        go_wp2_with fail
        refine (shown_any w4 (hh.below c4)).mono ?_
        rintro e w5 ⟨rfl, hB⟩
        go_wp2
        go_ret
        exact ⟨rfl, c4.trans (hB.mono c4.size)⟩
end Go.Proofs.YtpmfpbfbfahniaaDoor
