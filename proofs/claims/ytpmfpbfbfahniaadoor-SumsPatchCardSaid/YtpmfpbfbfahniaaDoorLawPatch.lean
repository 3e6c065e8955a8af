/- The walk of the statement SumsPatch. -/
import Derived.Test.YtpmfpbfbfahniaaDoorRefPatch
import Derived.Test.YtpmfpbfbfahniaaDoorLawKnownS
namespace Go.Proofs.YtpmfpbfbfahniaaDoor
open Go.RowKit
open Lime
attribute [local go_sem] g_eq32 g_ne32 g_eq8 g_ne8
set_option maxRecDepth 100000 in
set_option maxHeartbeats 2000000 in
theorem patch_walk (cap : Nat) (a : Option Addr) (l : List UInt8) (p : Int) (want : BitVec 32) (w : World) (hb : BytesAt w a l) (hlc : l.length ≤ cap) (hh : HalfLaid w) :
    Calls Tryd.prog 11 #[.slice a l.length cap, .int .i64 p, .int .u32 (vu want)] w fun e w' => e = .returned (.bool true) ∧ Below w.heap.size w w' := by
  have hm := hb.1
  by_cases hl : 2000 < l.length
  · have qd : decide (2000 < (l.length : Int)) = true := by simp; omega
    go_enter Tryd.func11, Tryd.ntmps11
    go_wp2_with fail
    refine (shown_any w hh).mono ?_
    rintro e w1 ⟨rfl, hB⟩
    go_wp2
    go_ret
    exact ⟨rfl, hB⟩
  have qd : decide (2000 < (l.length : Int)) = false := by simp; omega
  have hl2 : l.length ≤ 2000 := by omega
  clear hl
  by_cases hr : p < 0 ∨ (l.length : Int) - 4 < p
  · have HR := Lib.hid hr
    clear hr
    go_enter Tryd.func11, Tryd.ntmps11
    go_wp2_with (at_builtin; (with_reducible refine wpList_copy_bytes _ rfl (.tmp 17) (.tmp 18) rfl w.heap.size l _ cap ?_ ?_ hb (by omega) (Nat.le_refl _) ?_); rfl; rfl; intro g cap1 W1 ho hgw hB1 hgc)
    refine (patch_range cap a l p want W1 hm HR.out).mono ?_
    rintro e w2 ⟨rfl, rfl⟩
    go_wp2_with fail
    refine (refpatch_range cap a l p want W1 hm HR.out).mono ?_
    rintro e w2 ⟨rfl, rfl⟩
    go_wp2_with fail
    refine (same_yes 0 0 none none [] W1 (bytes_nil _ _) (bytes_nil _ _)).mono ?_
    rintro e w2 ⟨rfl, hB⟩
    have c2 := hB1.trans (hB.mono hB1.size)
    have ho2 := ho.below hB
    clear hB hB1 ho
    go_wp2_with fail
    refine (same_yes cap cap1 a (some ⟨g, 0, none⟩) l w2 (hb.below c2) (ho2.bytes hm)).mono ?_
    rintro e w3 ⟨rfl, hB⟩
    have c3 := c2.trans (hB.mono c2.size)
    clear hB c2 ho2
    go_wp2_with fail
    refine (shown_any w3 (hh.below c3)).mono ?_
    rintro e w4 ⟨rfl, hB⟩
    go_wp2
    go_ret
    exact ⟨rfl, c3.trans (hB.mono c3.size)⟩
  · obtain ⟨k, rfl⟩ : ∃ k : Nat, p = (k : Int) := ⟨p.toNat, by omega⟩
    have hk : k + 4 ≤ l.length := by omega
    clear hr
    obtain ⟨L, hL⟩ : ∃ L, L = patchL l k want := ⟨_, rfl⟩
    have HLL := Lib.hid (show L.length = l.length by rw [hL, patchL_length])
    have HLC := Lib.hid (show crc L = want by rw [hL]; exact crc_patch l k want hk)
    have HLO : Hid (∀ i, i < k ∨ k + 3 < i → at8 L i = at8 l i) := fun i hi => by rw [hL]; exact at8_out l k want i hk hi
    have HP : Hid (∀ W, BytesAt W a l → HalfLaid W → Calls Tryd.prog 30 #[.slice a l.length cap, .int .i64 (k : Int), .int .u32 (vu want)] W (PatchV W L)) := fun W h1 h2 => by rw [hL]; exact patch_ok cap a l k want W h1 hlc hl2 hk h2
    have HR : Hid (∀ W, BytesAt W a l → Calls Tryd.prog 31 #[.slice a l.length cap, .int .i64 (k : Int), .int .u32 (vu want)] W (PatchV W L)) := fun W h1 => by rw [hL]; exact refpatch_ok cap a l k want W h1 hlc hl2 hk
    clear hL
    have hlm : L.length ≤ 9223372036854775807 := by rw [HLL.out]; exact hm
    go_enter Tryd.func11, Tryd.ntmps11
    go_wp2_with (at_builtin; (with_reducible refine wpList_copy_bytes _ rfl (.tmp 17) (.tmp 18) rfl w.heap.size l _ cap ?_ ?_ hb (by omega) (Nat.le_refl _) ?_); rfl; rfl; intro g cap1 W1 ho hgw hB1 hgc)
    refine (HP.out W1 (hb.below hB1) (hh.below hB1)).mono ?_
    rintro e w2 ⟨g1, cap2, rfl, ho1, hB, hgc1⟩
    have c2 := hB1.trans (hB.mono hB1.size)
    have ho2 := ho.below hB
    have oP := ho1.mono hB1.size
    clear hB hB1 ho ho1 HP
    go_wp2_with fail
    refine (HR.out w2 (hb.below c2)).mono ?_
    rintro e w3 ⟨g2, cap3, rfl, ho1, hB, hgc2⟩
    have c3 := c2.trans (hB.mono c2.size)
    have ho3 := ho2.below hB
    have oP3 := oP.below hB
    clear hB ho2 oP HR
    go_wp2_with fail
    refine (same_yes cap2 cap3 (some ⟨g1, 0, none⟩) (some ⟨g2, 0, none⟩) L w3 (oP3.bytes hlm) (ho1.bytes hlm)).mono ?_
    rintro e w4 ⟨rfl, hB⟩
    have c4 := c3.trans (hB.mono c3.size)
    have ho4 := ho3.below hB
    have oP4 := oP3.below hB
    clear hB ho3 oP3 ho1 c3 c2
    go_wp2_with fail
    refine (same_yes cap cap1 a (some ⟨g, 0, none⟩) l w4 (hb.below c4) (ho4.bytes hm)).mono ?_
    rintro e w5 ⟨rfl, hB⟩
    have c5 := c4.trans (hB.mono c4.size)
    have oP5 := oP4.below hB
    clear hB ho4 oP4 c4
    go_wp2_with fail
    go_loopw [12] (fun i wr => ∃ j : Nat, j ≤ L.length ∧ i = .int .i64 j ∧ OwnB w.heap.size wr g1 L ∧ Below w.heap.size w wr) (fun i _ => L.length - (intOf i).toNat)
    case atStart => exact ⟨0, by omega, rfl, oP5, c5⟩
    case round =>
      obtain ⟨j, hj, rfl, oq, cq⟩ := hrel
      clear oP5 c5
      by_cases hlt : j < L.length
      · have hjl : j < l.length := by rw [← HLL.out]; exact hlt
        obtain ⟨b, off, rfl, hc⟩ : ∃ b off, a = some ⟨b, off, none⟩ ∧ ∀ i, i < l.length → wr.cell? ⟨b, off + i, none⟩ = some (.int .u8 (vb (at8 l i))) := by
          rcases (hb.below cq).2 with h | h
          · omega
          · exact h
        have e1 := hc j hjl
        have e2 := oq.cell j hlt
        clear hc
        have i1 : (j : Int) < (l.length : Int) := by omega
        have i2 : (j : Int) < (L.length : Int) := by omega
        by_cases hin : j < k ∨ k + 3 < j
        · have he := HLO.out j hin
          have q : (at8 L j != at8 l j) = false := by rw [he]; simp
          clear he hin
          go_wp2
          go_region
          all_goals
            go_wp2
            go_roundw
            case rel => exact ⟨j + 1, by omega, by go_num, oq.drew, cq.drew⟩
            case measure => simp [intOf]; omega
        · have t1 : decide ((j : Int) < (k : Int)) = false := by simp; omega
          have t1' : decide (j < k) = false := by simp; omega
          have t2 : decide ((k : Int) + 3 < (j : Int)) = false := by simp; omega
          have e3 : IntKind.i64.wrap ((k : Int) + 3) = (k : Int) + 3 := IntWalk.i64_in _ (by omega)
          cases q : (at8 L j != at8 l j)
          all_goals
            go_wp2
            go_region
            all_goals
              go_wp2
              go_roundw
              case rel => exact ⟨j + 1, by omega, by go_num, oq.drew, cq.drew⟩
              case measure => simp [intOf]; omega
      · have hc1 := crc_any cap2 (some ⟨g1, 0, none⟩) L wr (oq.bytes hlm) (hh.below cq)
        rw [HLC.out] at hc1
        have HC1 := Lib.hid hc1
        clear hc1
        go_wp2_with fail
        refine HC1.out.mono ?_
        rintro e w6 ⟨rfl, hB⟩
        have c6 := cq.trans (hB.mono cq.size)
        clear HC1 hB
        go_wp2_with fail
        refine (shown_any w6 (hh.below c6)).mono ?_
        rintro e w7 ⟨rfl, hB⟩
        go_wp2
        go_ret
        exact ⟨rfl, c6.trans (hB.mono c6.size)⟩
end Go.Proofs.YtpmfpbfbfahniaaDoor
