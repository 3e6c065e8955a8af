/- The walk of the statement SumsLinear. -/
import Derived.Test.YtpmfpbfbfahniaaDoorShown
import Derived.Test.YtpmfpbfbfahniaaDoorLinMath
import Derived.Test.YtpmfpbfbfahniaaDoorMakeB
import Derived.Test.YtpmfpbfbfahniaaDoorSliceB
import Derived.Deep.RegionWith
import Derived.Deep.RegionHeld3
import Derived.Deep.DeepCutAuto
import Derived.Deep.DrawnRows
namespace Go.Proofs.YtpmfpbfbfahniaaDoor
open Go.RowKit
open Lime
attribute [local go_sem] g_eq32 g_ne32 g_eq8 g_ne8 g_xor8 g_xor32 g_same8
attribute [local go_sem ↓] Go.wp_at_zero Go.wp_at_succ
theorem bytes_some {w : World} {a : Option Addr} {l : List UInt8} (h : BytesAt w a l) (h0 : 0 < l.length) : ∃ b off, a = some ⟨b, off, none⟩ ∧ b < w.heap.size ∧ ∀ i, i < l.length → w.cell? ⟨b, off + i, none⟩ = some (.int .u8 (vb (at8 l i))) := by
  rcases h.2 with h | ⟨b, off, ha, hc⟩
  · omega
  · exact ⟨b, off, ha, block_lt_of_cell (hc 0 h0), hc⟩
/-- three rows of the walk's own, in different blocks -/
structure Lin3 (w W : World) (gx gy gz : Nat) (x y z : List UInt8) : Prop where
  hB : Below w.heap.size w W
  ox : OwnB w.heap.size W gx x
  oy : OwnB w.heap.size W gy y
  oz : OwnB w.heap.size W gz z
theorem Lin3.below {w W W' : World} {gx gy gz : Nat} {x y z : List UInt8} (h : Lin3 w W gx gy gz x y z) (hb : Below W.heap.size W W') : Lin3 w W' gx gy gz x y z :=
  ⟨h.hB.trans (hb.mono h.hB.size), h.ox.below hb, h.oy.below hb, h.oz.below hb⟩
theorem Lin3.drew {w W : World} {gx gy gz : Nat} {x y z : List UInt8} (h : Lin3 w W gx gy gz x y z) : Lin3 w W.drew gx gy gz x y z := ⟨h.hB.drew, h.ox, h.oy, h.oz⟩
theorem Lin3.setx {w W : World} {gx gy gz : Nat} {x y z : List UInt8} (h : Lin3 w W gx gy gz x y z) (h1 : gx ≠ gy) (h2 : gx ≠ gz) (i : Nat) (c : UInt8) (hi : i < x.length) : Lin3 w (W.setCell ⟨gx, i, none⟩ (.int .u8 (vb c))) gx gy gz (x.set i c) y z :=
  ⟨h.hB.setCell (p := ⟨gx, i, none⟩) h.ox.1 _, h.ox.set i c hi, h.oy.far ⟨gx, i, none⟩ (Ne.symm h1) _, h.oz.far ⟨gx, i, none⟩ (Ne.symm h2) _⟩
theorem Lin3.sety {w W : World} {gx gy gz : Nat} {x y z : List UInt8} (h : Lin3 w W gx gy gz x y z) (h1 : gx ≠ gy) (h2 : gy ≠ gz) (i : Nat) (c : UInt8) (hi : i < y.length) : Lin3 w (W.setCell ⟨gy, i, none⟩ (.int .u8 (vb c))) gx gy gz x (y.set i c) z :=
  ⟨h.hB.setCell (p := ⟨gy, i, none⟩) h.oy.1 _, h.ox.far ⟨gy, i, none⟩ h1 _, h.oy.set i c hi, h.oz.far ⟨gy, i, none⟩ (Ne.symm h2) _⟩
theorem Lin3.setz {w W : World} {gx gy gz : Nat} {x y z : List UInt8} (h : Lin3 w W gx gy gz x y z) (h1 : gx ≠ gz) (h2 : gy ≠ gz) (i : Nat) (c : UInt8) (hi : i < z.length) : Lin3 w (W.setCell ⟨gz, i, none⟩ (.int .u8 (vb c))) gx gy gz x y (z.set i c) :=
  ⟨h.hB.setCell (p := ⟨gz, i, none⟩) h.oz.1 _, h.ox.far ⟨gz, i, none⟩ h1 _, h.oy.far ⟨gz, i, none⟩ h2 _, h.oz.set i c hi⟩
theorem crc_len (cap n : Nat) (a : Option Addr) (l : List UInt8) (W : World) (hb : BytesAt W a l) (hl : n = l.length) (hh : HalfLaid W) :
    Calls Tryd.prog 14 #[.slice a n cap] W fun e w' => e = .returned (.int .u32 (vu (crc l))) ∧ Below W.heap.size W w' := by
  subst hl; exact crc_any cap a l W hb hh
theorem mix_len (cap n : Nat) (a : Option Addr) (l : List UInt8) (W : World) (hb : BytesAt W a l) (hl : n = l.length) :
    Calls Tryd.prog 24 #[.slice a n cap] W fun e w' => e = .returned (.int .u64 (mixL l)) ∧ Below W.heap.size W w' := by
  subst hl; exact mix_any cap a l W hb
theorem roll_len (n : Nat) (a : List UInt8) (v : UInt8) (W : World) (hn : n = a.length) (h0 : 0 < n) (h1 : n ≤ 500) :
    Calls Tryd.prog 22 #[.int .u64 (mixL a), .int .i64 (n : Int), .int .u8 (vb (at8 a 0)), .int .u8 (vb v)] W fun e w' => e = .returned (.tuple #[.int .u64 (mixL (a.drop 1 ++ [v])), .int .i64 0]) ∧ Below W.heap.size W w' := by
  obtain ⟨m, hm, hlt, his⟩ := mixL_is a
  have h := roll_yes m (n : Int) (at8 a 0) v W hlt his (by omega) (by omega)
  cases a with
  | nil => simp at hn; omega
  | cons o t =>
    have e0 : at8 (o :: t) 0 = o := by simp [at8]
    rw [e0] at h ⊢
    have hr := roll_next o v t
    rw [hm] at hr ⊢
    rw [← hn] at hr
    rw [hr] at h
    exact h
/-- one row of the walk's own -/
structure Lin1 (w W : World) (g : Nat) (l : List UInt8) : Prop where
  hB : Below w.heap.size w W
  o : OwnB w.heap.size W g l
theorem Lin1.below {w W W' : World} {g : Nat} {l : List UInt8} (h : Lin1 w W g l) (hb : Below W.heap.size W W') : Lin1 w W' g l := ⟨h.hB.trans (hb.mono h.hB.size), h.o.below hb⟩
theorem Lin1.drew {w W : World} {g : Nat} {l : List UInt8} (h : Lin1 w W g l) : Lin1 w W.drew g l := ⟨h.hB.drew, h.o⟩
theorem own_emptyB (W : World) (g0 base : Nat) (h : W.heap[g0]? = some (.cells #[] 5 (0, 0))) (hb : base ≤ g0) : W.ownsRow base 5 1 (.slice (some ⟨g0, 0, none⟩) ([] : List UInt8).length 0) ([] : List UInt8).length (bvals []) :=
  ⟨by simp [bvals], .inr ⟨g0, 0, #[], rfl, hb, h, by simp, by unfold maxLen; omega, by simp, by simp [bvals]⟩⟩
theorem keep_grow {w W W' : World} {bs : List (Nat × Obj)} (h : Keep w W bs) {g0 : Nat} (hg : W.grownBy W' (some g0)) (hb : w.heap.size ≤ g0) : Below w.heap.size w W' := h.hB.grown hg h.hB.size (fun k e => by cases e; exact hb)
theorem bytes_at_block (W : World) (g : Nat) (v : UInt8) (h : W.heap[g]? = some (.cells #[.int .u8 (vb v)] 5 (0, 0))) : BytesAt W (some ⟨g, 0, none⟩) [v] :=
  ⟨by simp, .inr ⟨g, 0, rfl, fun i hi => by
    obtain rfl : i = 0 := by simp at hi; omega
    exact cell_of_row W g 0 _ _ _ h⟩⟩
set_option maxRecDepth 100000 in
set_option maxHeartbeats 4000000 in
theorem linear_walk (ca cb cc : Nat) (aa ab ac : Option Addr) (a b c : List UInt8) (w : World) (ha : BytesAt w aa a) (hb : BytesAt w ab b) (hc : BytesAt w ac c) (hla : a.length ≤ ca) (hh : HalfLaid w) :
    Calls Tryd.prog 8 #[.slice aa a.length ca, .slice ab b.length cb, .slice ac c.length cc] w fun e w' => e = .returned (.bool true) ∧ Below w.heap.size w w' := by
  have hma := ha.1
  have hmb := hb.1
  have hmc := hc.1
  by_cases hall : (0 < a.length ∧ a.length ≤ 500) ∧ (0 < b.length ∧ b.length ≤ 500) ∧ (0 < c.length ∧ c.length ≤ 500)
  · obtain ⟨⟨a1, a2⟩, ⟨b1, b2⟩, ⟨c1, c2⟩⟩ := hall
    have qa1 : decide (500 < (a.length : Int)) = false := by simp; omega
    have qb1 : decide (500 < (b.length : Int)) = false := by simp; omega
    have qc1 : decide (500 < (c.length : Int)) = false := by simp; omega
    obtain ⟨n, hn⟩ : ∃ n, n = a.length := ⟨_, rfl⟩
    obtain ⟨nb, hnb⟩ : ∃ n, n = b.length := ⟨_, rfl⟩
    obtain ⟨nc, hnc⟩ : ∃ n, n = c.length := ⟨_, rfl⟩
    have HN := Lib.hid hn
    have HNB := Lib.hid hnb
    have HNC := Lib.hid hnc
    rw [← hn] at a1 a2 qa1 hma hla ⊢
    rw [← hnb] at b1 b2 qb1 hmb ⊢
    rw [← hnc] at c1 c2 qc1 hmc ⊢
    have qa2 : ((n : Int) == 0) = false := by simp; omega
    have qb2 : ((nb : Int) == 0) = false := by simp; omega
    have qc2 : ((nc : Int) == 0) = false := by simp; omega
    clear hn hnb hnc
    have hmk := fun W => run_make_bytes .i64 .i64 n (by omega) W
    go_enter Tryd.func8, Tryd.ntmps8
    go_upto_region 4 with fail
    go_cut [8, 9, 10] (fun x y z wx => ∃ gx gy gz : Nat, x = .slice (some ⟨gx, 0, none⟩) n n ∧ y = .slice (some ⟨gy, 0, none⟩) n n ∧ z = .slice (some ⟨gz, 0, none⟩) n n ∧ gx ≠ gy ∧ gx ≠ gz ∧ gy ≠ gz ∧ Lin3 w wx gx gy gz (List.replicate n 0) (List.replicate n 0) (List.replicate n 0))
    case first =>
      have k3 := ((((Keep.start w).alloc (.cells (zb n) 5)).allocAt (.cells (zb n) 5) (w.heap.size + 1) (by simp)).allocAt (.cells (zb n) 5) (w.heap.size + 1 + 1) (by simp)).drew
      have o0 := own_zeros _ w.heap.size n w.heap.size (k3.at 2 _ rfl) (Nat.le_refl _)
      have o1 := own_zeros _ (w.heap.size + 1) n w.heap.size (k3.at 1 _ rfl) (by omega)
      have o2 := own_zeros _ (w.heap.size + 1 + 1) n w.heap.size (k3.at 0 _ rfl) (by omega)
      have O0 := Lib.hid o0
      have O1 := Lib.hid o1
      have O2 := Lib.hid o2
      have HB3 := Lib.hid k3.hB
      clear o0 o1 o2 k3
      go_region
      all_goals
        go_wp2_with fail
        go_meet
        exact ⟨_, _, _, rfl, rfl, rfl, by omega, by omega, by omega, HB3.out, by first | exact O0.out | exact O1.out | exact O2.out, by first | exact O0.out | exact O1.out | exact O2.out, by first | exact O0.out | exact O1.out | exact O2.out⟩
    case rest =>
      obtain ⟨gx, gy, gz, rfl, rfl, rfl, nxy, nxz, nyz, L0⟩ := hcut
      clear hmk qa1 qb1 qc1 qa2
      obtain ⟨ba, oa, rfl, hba, cea⟩ := bytes_some ha (by rw [← HN.out]; omega)
      obtain ⟨bb, ob, rfl, hbb, ceb⟩ := bytes_some hb (by rw [← HNB.out]; omega)
      obtain ⟨bc, oc, rfl, hbc, cec⟩ := bytes_some hc (by rw [← HNC.out]; omega)
      rw [← HN.out] at cea
      rw [← HNB.out] at ceb
      rw [← HNC.out] at cec
      have CA := Lib.hid cea
      have CB := Lib.hid ceb
      have CC := Lib.hid cec
      clear cea ceb cec
      obtain ⟨fx, hfx⟩ : ∃ f : Nat → UInt8, f = fun i => at8 b (i % nb) := ⟨_, rfl⟩
      obtain ⟨fy, hfy⟩ : ∃ f : Nat → UInt8, f = fun i => at8 c (i % nc) := ⟨_, rfl⟩
      obtain ⟨fz, hfz⟩ : ∃ f : Nat → UInt8, f = fun i => at8 a i ^^^ fx i ^^^ fy i := ⟨_, rfl⟩
      have HFX := Lib.hid hfx
      have HFY := Lib.hid hfy
      have HFZ := Lib.hid hfz
      clear hfx hfy hfz
      have L1 : Lin3 w wc gx gy gz (stK fx n 0) (stK fy n 0) (stK fz n 0) := by rw [← stK_zero, ← stK_zero, ← stK_zero]; exact L0
      clear L0
      go_wp2_with fail
      go_loopw [11] (fun i wr => ∃ k : Nat, k ≤ n ∧ i = .int .i64 k ∧ Lin3 w wr gx gy gz (stK fx n k) (stK fy n k) (stK fz n k)) (fun i _ => n - (intOf i).toNat)
      case atStart => exact ⟨0, by omega, rfl, L1⟩
      case round =>
        obtain ⟨k, hk, rfl, Lk⟩ := hrel
        clear L1
        by_cases hlt : k < n
        · obtain ⟨kb, hkb⟩ : ∃ kb, kb = k % nb := ⟨_, rfl⟩
          obtain ⟨kc, hkc⟩ : ∃ kc, kc = k % nc := ⟨_, rfl⟩
          have lb1 : kb < nb := by rw [hkb]; exact Nat.mod_lt _ b1
          have lc1 : kc < nc := by rw [hkc]; exact Nat.mod_lt _ c1
          have tb : (k : Int).tmod (nb : Int) = (kb : Int) := by rw [Int.tmod_eq_emod_of_nonneg (by omega), hkb]; push_cast; rfl
          have tc : (k : Int).tmod (nc : Int) = (kc : Int) := by rw [Int.tmod_eq_emod_of_nonneg (by omega), hkc]; push_cast; rfl
          have tb' : (k : Int) % (nb : Int) = (kb : Int) := by rw [hkb]; push_cast; rfl
          have tc' : (k : Int) % (nc : Int) = (kc : Int) := by rw [hkc]; push_cast; rfl
          have eb := (Lk.hB.cell (p := ⟨bb, ob + kb, none⟩) hbb).trans (CB.out kb lb1)
          have ec := (Lk.hB.cell (p := ⟨bc, oc + kc, none⟩) hbc).trans (CC.out kc lc1)
          rw [show at8 b kb = fx k by rw [HFX.out, hkb]] at eb
          rw [show at8 c kc = fy k by rw [HFY.out, hkc]] at ec
          clear hkb hkc
          have x0 := Lk.ox.cell k (by rw [stK_length]; exact hlt)
          have x1 := Lk.ox.frozen k
          have y0 := Lk.oy.cell k (by rw [stK_length]; exact hlt)
          have y1 := Lk.oy.frozen k
          have i1 : (k : Int) < (n : Int) := by omega
          have i2 : (kb : Int) < (nb : Int) := by omega
          have i3 : (kc : Int) < (nc : Int) := by omega
          have w1 : IntKind.i64.wrap (kb : Int) = (kb : Int) := IntWalk.i64_in _ (by omega)
          have w2 : IntKind.i64.wrap (kc : Int) = (kc : Int) := IntWalk.i64_in _ (by omega)
          have L2 := ((Lk.setx nxy nxz k (fx k) (by rw [stK_length]; exact hlt)).sety nxy nyz k (fy k) (by rw [stK_length]; exact hlt)).drew
          rw [stK_set, stK_set] at L2
          have HL2 := Lib.hid L2
          clear L2
          go_upto_region 8 with fail
          go_cut [] (fun wx => Lin3 w wx gx gy gz (stK fx n (k + 1)) (stK fy n (k + 1)) (stK fz n k))
          case first =>
            go_region
            all_goals
              go_wp2_with fail
              go_meet
              exact HL2.out
          case rest =>
            have L3 := hcut
            clear hcut HL2 x0 x1 y0 y1 eb ec tb tc tb' tc' Lk
            have ea := (L3.hB.cell (p := ⟨ba, oa + k, none⟩) hba).trans (CA.out k hlt)
            have x0 := L3.ox.cell k (by rw [stK_length]; exact hlt)
            have y0 := L3.oy.cell k (by rw [stK_length]; exact hlt)
            rw [at8_stK fx n (k + 1) k hlt (by omega)] at x0
            rw [at8_stK fy n (k + 1) k hlt (by omega)] at y0
            have z0 := L3.oz.cell k (by rw [stK_length]; exact hlt)
            have z1 := L3.oz.frozen k
            have L4 := (L3.setz nxz nyz k (fz k) (by rw [stK_length]; exact hlt)).drew
            rw [stK_set] at L4
            rw [show fz k = at8 a k ^^^ fx k ^^^ fy k by rw [HFZ.out]] at L4
            have HL4 := Lib.hid L4
            clear L4 L3
            go_wp2
            go_region
            all_goals
              go_wp2
              go_roundw
              case rel => exact ⟨k + 1, by omega, by go_num, HL4.out⟩
              case measure => simp [intOf]; omega
        · have ex : stK fx n k = repL b n := by rw [stK_all _ _ _ (by omega), HFX.out, HNB.out]; rfl
          have ey : stK fy n k = repL c n := by rw [stK_all _ _ _ (by omega), HFY.out, HNC.out]; rfl
          have ez : stK fz n k = xorL a (repL b n) (repL c n) n := by
            rw [stK_all _ _ _ (by omega), HFZ.out, xorL]
            apply List.map_congr_left
            intro i hi
            have hi' : i < n := List.mem_range.1 hi
            rw [at8_repL _ _ _ hi', at8_repL _ _ _ hi', HFX.out, HFY.out, HNB.out, HNC.out]
          rw [ex, ey, ez] at Lk
          clear ex ey ez
          have lX : (repL b n).length = n := repL_length _ _
          have lY : (repL c n).length = n := repL_length _ _
          have lZ : (xorL a (repL b n) (repL c n) n).length = n := xorL_length _ _ _ _
          have HZ := Lib.hid (crc_xorL a (repL b n) (repL c n) n HN.out.symm lX lY)
          generalize repL b n = X at Lk lX lZ HZ
          generalize repL c n = Y at Lk lY lZ HZ
          generalize xorL a X Y n = Z at Lk lZ HZ
          have C1 := Lib.hid (crc_len n n (some ⟨gz, 0, none⟩) Z wr (Lk.oz.bytes (by rw [lZ]; exact hma)) lZ.symm (hh.below Lk.hB))
          rw [HZ.out] at C1
          have LX := Lib.hid lX
          have LY := Lib.hid lY
          clear lX lY lZ HZ
          go_wp2_with fail
          refine C1.out.mono ?_
          clear C1
          rintro e w3 ⟨rfl, hB⟩
          have L3 := Lk.below hB
          clear Lk hB
          go_wp2_with fail
          refine (crc_len ca n (some ⟨ba, oa, none⟩) a w3 (ha.below L3.hB) HN.out (hh.below L3.hB)).mono ?_
          rintro e w4 ⟨rfl, hB⟩
          have L4 := L3.below hB
          clear L3 hB
          go_wp2_with fail
          refine (crc_len n n (some ⟨gx, 0, none⟩) X w4 (L4.ox.bytes (by rw [LX.out]; exact hma)) LX.out.symm (hh.below L4.hB)).mono ?_
          rintro e w5 ⟨rfl, hB⟩
          have L5 := L4.below hB
          clear L4 hB
          go_wp2_with fail
          refine (crc_len n n (some ⟨gy, 0, none⟩) Y w5 (L5.oy.bytes (by rw [LY.out]; exact hma)) LY.out.symm (hh.below L5.hB)).mono ?_
          rintro e w6 ⟨rfl, hB⟩
          have hB6 := (L5.below hB).hB
          clear L5 hB LX LY
          have ha6 := ha.below hB6
          have hs6 := hB6.size
          obtain ⟨po, hpo⟩ : ∃ po, po = (at8 b 0).toNat % n := ⟨_, rfl⟩
          have lpo : po < n := by rw [hpo]; exact Nat.mod_lt _ a1
          have tp : (vb (at8 b 0)).tmod (n : Int) = (po : Int) := by rw [Int.tmod_eq_emod_of_nonneg (vb_nonneg _), hpo]; unfold vb; push_cast; rfl
          have tp' : vb (at8 b 0) % (n : Int) = (po : Int) := by rw [hpo]; unfold vb; push_cast; rfl
          have vb8 : IntKind.i64.wrap (vb (at8 b 0)) = vb (at8 b 0) := IntWalk.i64_in _ (by have := vb_nonneg (at8 b 0); have := vb_lt (at8 b 0); omega)
          have qn : ((n : Int) == 0) = false := by simp; omega
          clear hpo
          have ipo : (po : Int) < (n : Int) := by omega
          go_upto_region 15 with (at_builtin; (with_reducible refine wpList_copy_bytes _ rfl (.tmp 107) (.tmp 108) rfl w.heap.size a _ ca ?_ ?_ ha6 (by rw [← HN.out]; omega) hs6 ?_); rfl; (rw [← HN.out]; rfl); intro g1 cap1 W7 ho7 hgw7 hB7 hgc7; rw [← HN.out]; have hB8 := hB6.trans (hB7.mono hs6); have db0 := (hB8.cell (p := ⟨bb, ob + 0, none⟩) hbb).trans (CB.out 0 b1); have dc0 := (hB8.cell (p := ⟨bc, oc + 0, none⟩) hbc).trans (CC.out 0 c1); rw [Nat.add_zero] at db0 dc0; have dg := ho7.cell po (by rw [← HN.out]; exact lpo); have dgf := ho7.frozen po)
          have L8 : Lin1 w (W7.setCell ⟨g1, po, none⟩ (.int .u8 (vb (at8 c 0)))) g1 (a.set po (at8 c 0)) := ⟨hB8.setCell (p := ⟨g1, po, none⟩) ho7.1 _, ho7.set po _ (by rw [← HN.out]; exact lpo)⟩
          revert L8
          generalize W7.setCell ⟨g1, po, none⟩ (.int .u8 (vb (at8 c 0))) = W8
          intro L8
          clear ho7 hgw7 hB7 hB8 db0 dc0 dg dgf ha6 hs6 hB6 tp tp' vb8 qn
          have hpl : (a.set po (at8 c 0)).length = n := by rw [List.length_set, HN.out]
          have HPL := Lib.hid hpl
          clear hpl
          have HMC := Lib.hid (mix_change a po (at8 c 0) (by rw [← HN.out]; exact lpo))
          obtain ⟨one, hone⟩ : ∃ one, one = a.set po (at8 c 0) := ⟨_, rfl⟩
          rw [← hone] at L8 HPL HMC
          clear hone
          obtain ⟨nx, hnx⟩ : ∃ nx, nx = a.drop 1 ++ [at8 c 0] := ⟨_, rfl⟩
          have HNX := Lib.hid hnx
          clear hnx
          have HRO : Hid (∀ W, Calls Tryd.prog 22 #[.int .u64 (mixL a), .int .i64 (n : Int), .int .u8 (vb (at8 a 0)), .int .u8 (vb (at8 c 0))] W fun e w' => e = .returned (.tuple #[.int .u64 (mixL nx), .int .i64 0]) ∧ Below W.heap.size W w') := fun W => by rw [HNX.out]; exact roll_len n a (at8 c 0) W HN.out a1 a2
          have HMA : Hid (∀ W, Lin1 w W g1 one → Calls Tryd.prog 24 #[.slice (some ⟨ba, oa, none⟩) n ca] W fun e w' => e = .returned (.int .u64 (mixL a)) ∧ Lin1 w w' g1 one) := fun W h => (mix_len ca n (some ⟨ba, oa, none⟩) a W (ha.below h.hB) HN.out).mono fun e w' ⟨h1, h2⟩ => ⟨h1, h.below h2⟩
          have CA0 : Hid (∀ W, Lin1 w W g1 one → W.cell? ⟨ba, oa, none⟩ = some (.int .u8 (vb (at8 a 0)))) := fun W h => (h.hB.cell (p := ⟨ba, oa, none⟩) hba).trans (CA.out 0 a1)
          have CC0 : Hid (∀ W, Lin1 w W g1 one → W.cell? ⟨bc, oc, none⟩ = some (.int .u8 (vb (at8 c 0)))) := fun W h => (h.hB.cell (p := ⟨bc, oc, none⟩) hbc).trans (CC.out 0 c1)
          go_cut [14, 15] (fun h e wx => h = .int .u64 (mixL nx) ∧ e = .int .i64 0 ∧ Lin1 w wx g1 one)
          case first =>
            have ea := CA0.out W8 L8
            have ec := CC0.out W8 L8
            have L8d := L8.drew
            go_region_held3 (fun w' => w'.cell? ⟨ba, oa, none⟩ = some (.int .u8 (vb (at8 a 0))) ∧ w'.cell? ⟨bc, oc, none⟩ = some (.int .u8 (vb (at8 c 0)))) (go_keep) (first | (go_at_call 24; refine (HMA.out _ (by first | exact L8 | exact L8d)).mono ?_; rintro e w9 ⟨rfl, L9⟩; have fa := CA0.out w9 L9; have fc := CC0.out w9 L9) | (go_at_call 22; refine (HRO.out _).mono ?_; rintro e w10 ⟨rfl, hB10⟩; have L10 := L9.below hB10; have ga := CA0.out w10 L10; have gc := CC0.out w10 L10))
            all_goals
              go_wp2_with fail
              go_meet
              exact ⟨rfl, rfl, L10⟩
          case rest =>
            obtain ⟨rfl, rfl, L9⟩ := hcut
            clear L8 HRO
            have hfr : ∀ W : World, (Instr.sliceAt 23 (.slice (some ⟨ba, oa, none⟩) n ca) (some (.int .i64 1)) none none).run Tryd.prog W = .ok (.slice (fromA (some ⟨ba, oa, none⟩) ca 1) (n - 1) (ca - 1)) W := fun W => run_slice_from (some ⟨ba, oa, none⟩) n ca 1 (by omega) W
            have HT : Hid (∀ W, Below w.heap.size w W → BytesAt W (fromA (some ⟨ba, oa, none⟩) ca 1) (a.drop 1)) := fun W h => (ha.below h).from ca 1 (by rw [← HN.out]; omega) (by rw [← HN.out]; exact hla)
            have HTL := Lib.hid (show n - 1 = (a.drop 1).length by rw [List.length_drop, ← HN.out])
            go_upto_region 16 with fail
            go_cut [16] (fun s wx => ∃ g2 cap2 : Nat, s = .slice (some ⟨g2, 0, none⟩) n cap2 ∧ OwnB w.heap.size wx g2 nx ∧ Lin1 w wx g1 one)
            case first =>
              have ec := CC0.out wc L9
              have hws := L9.hB.size
              have ka := ((Keep.start wc).alloc (.cells #[] 5)).drew
              have kb := (((Keep.start wc).alloc (.cells #[] 5)).allocAt (.cells #[.int .u8 (vb (at8 c 0))] 5) (wc.heap.size + 1) (by simp)).drew
              have kc := (((Keep.start wc).alloc (.cells #[.int .u8 (vb (at8 c 0))] 5)).allocAt (.cells #[] 5) (wc.heap.size + 1) (by simp)).drew
              have n1 := World.new_ne wc _ ec
              have BA := L9.below ka.hB
              have BB := L9.below kb.hB
              have BC := L9.below kc.hB
              have hlen1 : ([] : List UInt8).length + (a.drop 1).length ≤ 1000000 := by rw [← HTL.out]; simp; omega
              have hlen2 : (([] : List UInt8) ++ a.drop 1).length + [at8 c 0].length ≤ 1000000 := by rw [List.nil_append, ← HTL.out]; simp; omega
              go_region_held3 (fun w' => w'.cell? ⟨bc, oc, none⟩ = some (.int .u8 (vb (at8 c 0)))) (go_keep)
                (first
                  | (refine step_append_bytes (by rfl) (.tmp 135) (.tmp 137) (by rfl) w.heap.size _ 0 [] (a.drop 1) 0 (n - 1) _ (ca - 1) (by rfl) (by rfl) rfl HTL.out (by first | exact own_emptyB _ wc.heap.size w.heap.size (ka.at 0 _ rfl) hws | exact own_emptyB _ wc.heap.size w.heap.size (kb.at 1 _ rfl) hws | exact own_emptyB _ (wc.heap.size + 1) w.heap.size (kc.at 0 _ rfl) (by omega)) (HT.out _ (by first | exact BA.hB | exact BB.hB | exact BC.hB)) hlen1 (by first | exact BA.hB.size | exact BB.hB.size | exact BC.hB.size) ?_; intro gA capA WA hoA hgA hatA; have LA : Lin1 w WA g1 one := (by first | exact L9.below (keep_grow ka hgA (Nat.le_refl _)) | exact L9.below (keep_grow kb hgA (Nat.le_refl _)) | exact L9.below (keep_grow kc hgA (by omega))); have bA : Below wc.heap.size wc WA := (by first | exact keep_grow ka hgA (Nat.le_refl _) | exact keep_grow kb hgA (Nat.le_refl _) | exact keep_grow kc hgA (by omega)); have hgA2 : wc.heap.size ≤ gA := (by rcases hatA with e | e <;> rw [e] <;> first | exact Nat.le_refl _ | (simp; done) | (simp; omega)); have cA := CC0.out WA LA; have nA := World.new_ne WA _ cA)
                  | (refine step_append_bytes (by rfl) (.tmp 138) (.tmp 142) (by rfl) w.heap.size gA capA ([] ++ a.drop 1) [at8 c 0] _ 1 _ 1 (by rfl) (by rfl) (by first | exact HTL.out | (rw [Nat.zero_add]; exact HTL.out)) rfl (by first | exact hoA | exact hoA.alloc _) (by first | exact bytes_at_block _ _ _ (heap_alloc_new _ _) | exact bytes_at_block _ _ _ ((hgA.block _ (kb.lt 0 _ rfl) (by simp)).trans (kb.at 0 _ rfl)) | exact bytes_at_block _ _ _ ((hgA.block _ (kc.lt 1 _ rfl) (by simp)).trans (kc.at 1 _ rfl))) hlen2 (by first | exact LA.hB.size | (have := LA.hB.size; simp; omega)) ?_; intro gB capB WB hoB hgB hatB; have LB : Lin1 w WB g1 one := (by first | exact L9.below (bA.grown hgB bA.size (fun k e => by cases e; exact hgA2)) | exact L9.below ((bA.alloc bA.size _).grown hgB (by have := bA.size; simp; omega) (fun k e => by cases e; exact hgA2))); have cB := CC0.out WB LB))
              all_goals
                go_wp2_with fail
                go_meet
                refine ⟨gB, capB, by rw [show n - 1 + 1 = n by omega], ?_, LB⟩
                have := own_of_row hoB
                rw [List.nil_append, ← HNX.out] at this
                exact this
            case rest =>
              obtain ⟨g2, cap2, rfl, o2, L10⟩ := hcut
              have L11 : Lin3 w wc g1 g2 g2 one nx nx := ⟨L10.hB, L10.o, o2, o2⟩
              have HNXL := Lib.hid (show n = nx.length by rw [HNX.out, List.length_append, ← HTL.out]; simp; omega)
              clear L9 L10 o2 CA0 CC0 HT HTL hfr HMA
              have M1 : Hid (∀ W, Lin3 w W g1 g2 g2 one nx nx → Calls Tryd.prog 24 #[.slice (some ⟨g1, 0, none⟩) n cap1] W fun e w' => e = .returned (.int .u64 (mixL one)) ∧ Lin3 w w' g1 g2 g2 one nx nx) := fun W h => (mix_len cap1 n (some ⟨g1, 0, none⟩) one W (h.ox.bytes (by rw [HPL.out]; exact hma)) HPL.out.symm).mono fun e w' ⟨h1, h2⟩ => ⟨h1, h.below h2⟩
              have M2 : Hid (∀ W, Lin3 w W g1 g2 g2 one nx nx → Calls Tryd.prog 24 #[.slice (some ⟨ba, oa, none⟩) n ca] W fun e w' => e = .returned (.int .u64 (mixL a)) ∧ Lin3 w w' g1 g2 g2 one nx nx) := fun W h => (mix_len ca n (some ⟨ba, oa, none⟩) a W (ha.below h.hB) HN.out).mono fun e w' ⟨h1, h2⟩ => ⟨h1, h.below h2⟩
              have M3 : Hid (∀ W, Lin3 w W g1 g2 g2 one nx nx → Calls Tryd.prog 24 #[.slice (some ⟨g2, 0, none⟩) n cap2] W fun e w' => e = .returned (.int .u64 (mixL nx)) ∧ Lin3 w w' g1 g2 g2 one nx nx) := fun W h => (mix_len cap2 n (some ⟨g2, 0, none⟩) nx W (h.oy.bytes (by rw [← HNXL.out]; exact hma)) HNXL.out).mono fun e w' ⟨h1, h2⟩ => ⟨h1, h.below h2⟩
              have M4 : Hid (∀ W, Lin3 w W g1 g2 g2 one nx nx → Calls Tryd.prog 13 #[] W fun e w' => e = .returned (.bool true) ∧ Lin3 w w' g1 g2 g2 one nx nx) := fun W h => (shown_any W (hh.below h.hB)).mono fun e w' ⟨h1, h2⟩ => ⟨h1, h.below h2⟩
              have CA1 : Hid (∀ W, Lin3 w W g1 g2 g2 one nx nx → W.cell? ⟨ba, oa + po, none⟩ = some (.int .u8 (vb (at8 a po)))) := fun W h => (h.hB.cell (p := ⟨ba, oa + po, none⟩) hba).trans (CA.out po lpo)
              have CC1 : Hid (∀ W, Lin3 w W g1 g2 g2 one nx nx → W.cell? ⟨bc, oc, none⟩ = some (.int .u8 (vb (at8 c 0)))) := fun W h => (h.hB.cell (p := ⟨bc, oc, none⟩) hbc).trans (CC.out 0 c1)
              have hmc := HMC.out
              clear HMC
              have L11d := L11.drew
              have ea := CA1.out wc L11
              have ec := CC1.out wc L11
              go_upto_region 17 with fail
              go_region_held3 (fun w' => w'.cell? ⟨ba, oa + po, none⟩ = some (.int .u8 (vb (at8 a po))) ∧ w'.cell? ⟨bc, oc, none⟩ = some (.int .u8 (vb (at8 c 0)))) (go_keep)
                (first
                  | (go_at_call 24; (with_reducible refine (M1.out _ (by first | exact L11 | exact L11d)).mono ?_); rintro e v1 ⟨rfl, N1⟩; have fa := CA1.out v1 N1; have fc := CC1.out v1 N1)
                  | (go_at_call 24; (with_reducible refine (M2.out _ N1).mono ?_); rintro e v2 ⟨rfl, N2⟩; have ga := CA1.out v2 N2; have gc := CC1.out v2 N2)
                  | (go_at_call 24; (with_reducible refine (M3.out _ N2).mono ?_); rintro e v3 ⟨rfl, N3⟩; have ja := CA1.out v3 N3; have jc := CC1.out v3 N3)
                  | (go_at_call 13; (with_reducible refine (M4.out _ N3).mono ?_); rintro e v4 ⟨rfl, N4⟩; have ka := CA1.out v4 N4; have kc := CC1.out v4 N4))
              all_goals
                go_wp2
                go_ret
                exact ⟨rfl, N4.hB⟩
  · have hcase : (500 < a.length) ∨ (a.length ≤ 500 ∧ a.length = 0) ∨ (a.length ≤ 500 ∧ 0 < a.length ∧ 500 < b.length) ∨ (a.length ≤ 500 ∧ 0 < a.length ∧ b.length ≤ 500 ∧ b.length = 0) ∨ (a.length ≤ 500 ∧ 0 < a.length ∧ b.length ≤ 500 ∧ 0 < b.length ∧ 500 < c.length) ∨ (a.length ≤ 500 ∧ 0 < a.length ∧ b.length ≤ 500 ∧ 0 < b.length ∧ c.length ≤ 500 ∧ c.length = 0) := by omega
    clear hall
    rcases hcase with h1 | ⟨h1, h2⟩ | ⟨h1, h2, h3⟩ | ⟨h1, h2, h3, h4⟩ | ⟨h1, h2, h3, h4, h5⟩ | ⟨h1, h2, h3, h4, h5, h6⟩
    · have q1 : decide (500 < (a.length : Int)) = true := by simp; omega
      go_enter Tryd.func8, Tryd.ntmps8
      go_wp2_with fail
      refine (shown_any w hh).mono ?_
      rintro e w1 ⟨rfl, hB⟩
      go_wp2
      go_ret
      exact ⟨rfl, hB⟩
    · have q1 : decide (500 < (a.length : Int)) = false := by simp; omega
      have q2 : ((a.length : Int) == 0) = true := by simp; exact List.eq_nil_of_length_eq_zero (by assumption)
      clear h2
      go_enter Tryd.func8, Tryd.ntmps8
      go_wp2_with fail
      refine (shown_any w hh).mono ?_
      rintro e w1 ⟨rfl, hB⟩
      go_wp2
      go_ret
      exact ⟨rfl, hB⟩
    · have q1 : decide (500 < (a.length : Int)) = false := by simp; omega
      have q2 : ((a.length : Int) == 0) = false := by simp; exact List.ne_nil_of_length_pos (by assumption)
      have q3 : decide (500 < (b.length : Int)) = true := by simp; omega
      go_enter Tryd.func8, Tryd.ntmps8
      go_wp2_with fail
      refine (shown_any w hh).mono ?_
      rintro e w1 ⟨rfl, hB⟩
      go_wp2
      go_ret
      exact ⟨rfl, hB⟩
    · have q1 : decide (500 < (a.length : Int)) = false := by simp; omega
      have q2 : ((a.length : Int) == 0) = false := by simp; exact List.ne_nil_of_length_pos (by assumption)
      have q3 : decide (500 < (b.length : Int)) = false := by simp; omega
      have q4 : ((b.length : Int) == 0) = true := by simp; exact List.eq_nil_of_length_eq_zero (by assumption)
      clear h4
      go_enter Tryd.func8, Tryd.ntmps8
      go_wp2_with fail
      refine (shown_any w hh).mono ?_
      rintro e w1 ⟨rfl, hB⟩
      go_wp2
      go_ret
      exact ⟨rfl, hB⟩
    · have q1 : decide (500 < (a.length : Int)) = false := by simp; omega
      have q2 : ((a.length : Int) == 0) = false := by simp; exact List.ne_nil_of_length_pos (by assumption)
      have q3 : decide (500 < (b.length : Int)) = false := by simp; omega
      have q4 : ((b.length : Int) == 0) = false := by simp; exact List.ne_nil_of_length_pos (by assumption)
      have q5 : decide (500 < (c.length : Int)) = true := by simp; omega
      go_enter Tryd.func8, Tryd.ntmps8
      go_wp2_with fail
      refine (shown_any w hh).mono ?_
      rintro e w1 ⟨rfl, hB⟩
      go_wp2
      go_ret
      exact ⟨rfl, hB⟩
    · have q1 : decide (500 < (a.length : Int)) = false := by simp; omega
      have q2 : ((a.length : Int) == 0) = false := by simp; exact List.ne_nil_of_length_pos (by assumption)
      have q3 : decide (500 < (b.length : Int)) = false := by simp; omega
      have q4 : ((b.length : Int) == 0) = false := by simp; exact List.ne_nil_of_length_pos (by assumption)
      have q5 : decide (500 < (c.length : Int)) = false := by simp; omega
      have q6 : ((c.length : Int) == 0) = true := by simp; exact List.eq_nil_of_length_eq_zero (by assumption)
      clear h6
      go_enter Tryd.func8, Tryd.ntmps8
      go_wp2_with fail
      refine (shown_any w hh).mono ?_
      rintro e w1 ⟨rfl, hB⟩
      go_wp2
      go_ret
      exact ⟨rfl, hB⟩
end Go.Proofs.YtpmfpbfbfahniaaDoor
