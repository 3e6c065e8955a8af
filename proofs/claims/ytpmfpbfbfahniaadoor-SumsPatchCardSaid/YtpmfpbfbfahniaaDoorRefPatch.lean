/- The walk of the reference's Patch. -/
import Derived.Test.YtpmfpbfbfahniaaDoorPatchW
import Derived.Deep.RegionWith
import Derived.Deep.DrawnRows
namespace Go.Proofs.YtpmfpbfbfahniaaDoor
open Go.RowKit
open Lime
attribute [local go_sem high] q_shr32 q_shl32 q_shr32k q_shl32k q_shr32n q_shl32n g_com32
attribute [local go_sem ↓] Go.wp_at_zero Go.wp_at_succ
theorem g_rem256 (x : BitVec 32) : IntKind.u8.wrap ((vu x).tmod 256) = vb (lo8 x) := by
  rw [Int.tmod_eq_emod_of_nonneg (vu_nonneg x), ← g_lo8, IntKind.wrap_u8, IntKind.wrap_u8]; omega
theorem g_rem256' (x : BitVec 32) : IntKind.u8.wrap (vu x % 256) = vb (lo8 x) := by
  rw [← g_lo8, IntKind.wrap_u8, IntKind.wrap_u8]; omega
theorem g_quo256 (x : BitVec 32) : IntKind.u32.wrap ((vu x).tdiv 256) = vu (x >>> 8) := by
  have e : vu (x >>> 8) = vu x / 256 := by
    unfold vu; rw [BitVec.toNat_ushiftRight, Nat.shiftRight_eq_div_pow]; rfl
  have : (vu x).tdiv 256 = vu x / 256 := Int.tdiv_eq_ediv_of_nonneg (vu_nonneg x)
  rw [this, e, IntKind.wrap_u32]
  have := vu_nonneg x; have := vu_lt x
  omega
attribute [local go_sem] g_xor32 g_wrap8 vu_nonneg g_not32 g_not32' g_same32 g_lo8 g_eq32 g_ne32 g_eq8 g_ne8 g_rem256 g_rem256' g_quo256
theorem unreg_step (l : List UInt8) (r : BitVec 32) (k m : Nat) (h : m + k + 1 = l.length) : unreg (l.drop m) r = b8 (unreg (l.drop (m + 1)) r) ^^^ x8 (at8 l m) := by
  have hlt : m < l.length := by omega
  rw [List.drop_eq_getElem_cons hlt, unreg_cons]
  congr 2
  simp [at8, hlt]
set_option maxRecDepth 100000 in
set_option maxHeartbeats 1000000 in
theorem refpatch_range (cap : Nat) (a : Option Addr) (l : List UInt8) (p : Int) (want : BitVec 32) (w : World) (hl : l.length ≤ 9223372036854775807) (hp : p < 0 ∨ (l.length : Int) - 4 < p) :
    Calls Tryd.prog 31 #[.slice a l.length cap, .int .i64 p, .int .u32 (vu want)] w fun e w' => e = .returned (.tuple #[.slice none 0 0, .int .i64 7]) ∧ w = w' := by
  have hc : p < 0 ∨ (0 ≤ p ∧ (l.length : Int) - 4 < p) := by omega
  clear hp
  rcases hc with h | ⟨h1, h⟩
  · have q : decide (p < 0) = true := by simpa using h
    go_enter Tryd.func31, Tryd.ntmps31
    go_wp2
    go_ret2
    exact ⟨rfl, rfl⟩
  · have q : decide (p < 0) = false := by simp; omega
    have q2 : decide ((l.length : Int) - 4 < p) = true := by simpa using h
    go_enter Tryd.func31, Tryd.ntmps31
    go_wp2
    go_ret2
    exact ⟨rfl, rfl⟩
theorem not_xor_r (a b : BitVec 32) : ~~~ (a ^^^ b) = a ^^^ ~~~ b := by
  apply BitVec.eq_of_getLsbD_eq
  intro i hi
  simp only [BitVec.getLsbD_not, BitVec.getLsbD_xor]
  cases a.getLsbD i <;> cases b.getLsbD i <;> simp [hi]
theorem shr_8 (x : BitVec 32) (j : Nat) : (x >>> (8 * j)) >>> 8 = x >>> (8 * (j + 1)) := by
  rw [← BitVec.shiftRight_add]; congr 1
set_option maxRecDepth 100000 in
set_option maxHeartbeats 4000000 in
theorem refpatch_ok (cap : Nat) (a : Option Addr) (l : List UInt8) (p : Nat) (want : BitVec 32) (w : World) (hb : BytesAt w a l) (hlc : l.length ≤ cap) (hl : l.length ≤ 2000) (hp : p + 4 ≤ l.length) :
    Calls Tryd.prog 31 #[.slice a l.length cap, .int .i64 (p : Int), .int .u32 (vu want)] w (PatchV w (patchL l p want)) := by
  have q1 : decide ((p : Int) < 0) = false := by simp
  have q2 : decide ((l.length : Int) - 4 < (p : Int)) = false := by simp; omega
  have hm := hb.1
  have hup := fun W => run_slice_upto a l.length cap p (by omega) W
  go_enter Tryd.func31, Tryd.ntmps31
  go_wp2
  go_loopw [8, 9] (fun r i wr => ∃ m : Nat, p + 4 ≤ m ∧ m ≤ l.length ∧ i = .int .i64 ((m : Int) - 1) ∧ r = .int .u32 (vu (unreg (l.drop m) (~~~ want))) ∧ Below w.heap.size w wr) (fun _ i _ => (intOf i + 1).toNat)
  case atStart => exact ⟨l.length, hp, Nat.le_refl _, rfl, by rw [List.drop_length]; rfl, Below.refl _ _⟩
  case round =>
    obtain ⟨m, hm1, hm2, rfl, rfl, hw⟩ := hrel
    by_cases hlt : p + 4 < m
    · obtain ⟨j, rfl⟩ : ∃ j, m = j + 1 := ⟨m - 1, by omega⟩
      have e1 : ((j + 1 : Nat) : Int) - 1 = (j : Int) := by omega
      rw [e1]
      clear e1
      obtain ⟨b, off, rfl, hc⟩ : ∃ b off, a = some ⟨b, off, none⟩ ∧ ∀ i, i < l.length → wr.cell? ⟨b, off + i, none⟩ = some (.int .u8 (vb (at8 l i))) := by
        rcases (hb.below hw).2 with h | h
        · omega
        · exact h
      have hcj := hc j (by omega)
      clear hc
      have HU := Lib.hid (unreg_step l (~~~ want) (l.length - j - 1) j (by omega))
      have hji : (j : Int) < (l.length : Int) := by omega
      have hpj : decide ((p : Int) + 4 ≤ (j : Int)) = true := by simp; omega
      generalize unreg (l.drop (j + 1)) (~~~ want) = r at HU ⊢
      go_wp2
      go_region_with (go_at_call 43; refine (refback_any r _).mono ?_; rintro e w' ⟨rfl, rfl⟩)
      all_goals
        go_wp2
        go_roundw
        case rel => exact ⟨j, by omega, by omega, rfl, by rw [HU.out], hw.drew⟩
        case measure => simp [intOf]
    · obtain ⟨e, he⟩ : ∃ e, (m : Int) - 1 = e := ⟨_, rfl⟩
      have hpe : decide ((p : Int) + 4 ≤ e) = false := by simp; omega
      have HM := Lib.hid (show m = p + 4 by omega)
      rw [he]
      clear he hm1 hm2 hlt
      obtain ⟨U, hU⟩ : ∃ U, U = unreg (l.drop m) (~~~ want) := ⟨_, rfl⟩
      have HX := Lib.hid (show patchX l p want = b8n 4 U ^^^ ~~~ crc (l.take p) by rw [hU, HM.out]; rfl)
      rw [← hU]
      clear hU
      go_wp2
      obtain ⟨wo, hwo⟩ : ∃ wo : World, wo = wr := ⟨_, rfl⟩
      rw [← hwo] at hw ⊢
      clear hwo
      go_loop [8, 10] (fun r i => ∃ j : Nat, j ≤ 4 ∧ i = .int .i64 j ∧ r = .int .u32 (vu (b8n j U))) (fun _ i => 4 - (intOf i).toNat)
      case atStart => exact ⟨0, by omega, rfl, rfl⟩
      case round =>
        obtain ⟨j, hj, rfl, rfl⟩ := hrel
        by_cases hlt : j < 4
        · have HS := Lib.hid (b8n_succ j U)
          go_wp2_with (go_at_call 43; refine (refback_any _ _).mono ?_; rintro e w' ⟨rfl, rfl⟩)
          go_round
          case rel => exact ⟨j + 1, by omega, by go_num, by rw [HS.out]⟩
          case measure => simp [intOf]; omega
        · obtain ⟨V, hV⟩ : ∃ V, V = b8n j U := ⟨_, rfl⟩
          have HX2 := Lib.hid (show patchX l p want = V ^^^ ~~~ crc (l.take p) by rw [HX.out, hV, show j = 4 by omega])
          rw [← hV]
          clear hV HX
          have hc1 := refon_any 0#32 cap (upA a cap) (l.take p) wo ((hb.below hw).upto cap p (by omega))
          rw [show (l.take p).length = p by simp; omega] at hc1
          have HC := Lib.hid hc1
          have hbo := hb.below hw
          clear hc1
          obtain ⟨X, hX⟩ : ∃ X, X = ~~~ (V ^^^ on 0#32 (l.take p)) := ⟨_, rfl⟩
          have HXX := Lib.hid (show patchL l p want = patchK l p X 4 by rw [hX, not_xor_r, patchL, HX2.out]; rfl)
          have HX3 := Lib.hid hX
          clear hX HX2
          go_wp2_with (first | (go_at_call 17; refine HC.out.mono ?_; rintro e w' ⟨rfl, rfl⟩) | (at_builtin; (with_reducible refine wpList_copy_bytes _ rfl (.tmp 55) (.tmp 56) rfl w.heap.size l _ cap ?_ ?_ hbo (by omega) hw.size ?_); rfl; rfl; intro g cap1 W1 ho hgw hB1 hgc))
          have c1 := hw.trans (hB1.mono hw.size)
          have hws := hw.size
          rw [← HX3.out]
          clear HC hbo hup HX3 hB1
          go_loopw [11, 13] (fun x i wr => ∃ j : Nat, j ≤ 4 ∧ i = .int .i64 j ∧ x = .int .u32 (vu (X >>> (8 * j))) ∧ OwnB w.heap.size wr g (patchK l p X j) ∧ Below w.heap.size w wr) (fun _ i _ => 4 - (intOf i).toNat)
          case atStart => exact ⟨0, by omega, rfl, rfl, ho, c1⟩
          case round =>
            obtain ⟨j, hj, rfl, rfl, hoq, hwq⟩ := hrel
            clear ho c1
            by_cases hlt2 : j < 4
            · have hFl : (patchK l p X j).length = l.length := patchK_length _ _ _ _
              have cg := hoq.cell (p + j) (by omega)
              have fg := hoq.frozen (p + j)
              have ho7 := hoq.set (p + j) (lo8 (X >>> (8 * j))) (by omega)
              have c7 := hwq.setCell (p := ⟨g, p + j, none⟩) hoq.1 (.int .u8 (vb (lo8 (X >>> (8 * j)))))
              have hij : (p : Int) + (j : Int) < (l.length : Int) := by omega
              have hij0 : (0 : Int) ≤ (p : Int) + (j : Int) := by omega
              have htn : ((p : Int) + (j : Int)).toNat = p + j := by omega
              have HS := Lib.hid (shr_8 X j)
              clear hFl
              go_wp2
              go_roundw
              case rel => exact ⟨j + 1, by omega, by go_num, by rw [HS.out], ho7, c7⟩
              case measure => simp [intOf]; omega
            · have HJ := Lib.hid (show patchK l p X j = patchL l p want by rw [HXX.out, show j = 4 by omega])
              go_wp2
              go_ret2
              refine ⟨g, cap1, ?_, ?_, hwq, ?_⟩
              · rw [patchL_length]; rfl
              · rw [← HJ.out]; exact hoq
              · rw [patchL_length]; exact hgc
end Go.Proofs.YtpmfpbfbfahniaaDoor
