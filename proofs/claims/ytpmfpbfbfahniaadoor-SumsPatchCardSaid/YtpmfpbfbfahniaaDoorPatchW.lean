/- The walk of Patch: the program's, over its parts. -/
import Derived.Test.YtpmfpbfbfahniaaDoorPatch
import Derived.Test.YtpmfpbfbfahniaaDoorBackw
import Derived.Test.YtpmfpbfbfahniaaDoorOwnB
import Derived.Test.YtpmfpbfbfahniaaDoorSliceB
import Derived.Deep.RegionHeld3
namespace Go.Proofs.YtpmfpbfbfahniaaDoor
open Go.RowKit Go.Shelf
open Lime
attribute [local go_sem] Oper.semAt_some
attribute [local go_sem high] q_shr32 q_shl32 q_shr32k q_shl32k q_shr32n q_shl32n g_com32
attribute [local go_sem] g_xor32 g_and15 g_and15_lt g_wrap8 vu_nonneg g_not32 g_not32' g_same32 g_lo8 g_eq32 g_ne32 g_eq8 g_ne8
/-- a new slice with these bytes -/
def NewB (w : World) (l : List UInt8) (e : Ending) (w' : World) : Prop := ∃ g cap, e = .returned (.slice (some ⟨g, 0, none⟩) l.length cap) ∧ OwnB w.heap.size w' g l ∧ Below w.heap.size w w' ∧ l.length ≤ cap
theorem eql_nil (w : World) (t e : TypeId) (ad : Addr) (n c : Nat) (h : Tryd.prog.underlying t = some (.slice e)) : (binOp .eql t (.slice (some ad) n c) (.slice none 0 0)).run Tryd.prog w = .ok (.bool false) w := by
  simp only [binOp]
  simp [Op.equal, Op.maxDepth, Lib.run_equalIn_slice_nil w 9999 t e (some ad) n c 0 0 h]
set_option maxRecDepth 100000 in
set_option maxHeartbeats 1000000 in
theorem clone_any (cap : Nat) (ad : Addr) (l : List UInt8) (w : World) (hb : BytesAt w (some ad) l) (hl : l.length ≤ 1000000) :
    Calls Tryd.prog 42 #[.slice (some ad) l.length cap] w (NewB w l) := by
  have hm := hb.1
  have hnil := fun W n c => eql_nil W 23 5 ad n c Tryd.underlying23
  go_enter Tryd.func42, Tryd.ntmps42
  go_wp2_with (at_builtin; (with_reducible refine wpList_copy_bytes _ rfl (.tmp 5) (.tmp 6) rfl w.heap.size l _ cap ?_ ?_ hb hl (Nat.le_refl _) ?_); rfl; rfl; intro g cap1 W1 ho hgw hB1 hgc)
  go_ret
  exact ⟨g, cap1, rfl, ho, hB1, hgc⟩
set_option maxRecDepth 100000 in
set_option maxHeartbeats 1000000 in
theorem same_yes (ca cb : Nat) (a b : Option Addr) (l : List UInt8) (w : World) (ha : BytesAt w a l) (hb : BytesAt w b l) :
    Calls Tryd.prog 32 #[.slice a l.length ca, .slice b l.length cb] w fun e w' => e = .returned (.bool true) ∧ Below w.heap.size w w' := by
  have hm := ha.1
  have HA := Lib.hid ha
  have HB := Lib.hid hb
  clear ha hb
  go_enter Tryd.func32, Tryd.ntmps32
  go_wp2
  go_loopw [5] (fun i wr => ∃ k : Nat, k ≤ l.length ∧ i = .int .i64 k ∧ Below w.heap.size w wr) (fun i _ => l.length - (intOf i).toNat)
  case atStart => exact ⟨0, Nat.zero_le _, rfl, Below.refl _ _⟩
  case round =>
    obtain ⟨k, hk, rfl, hw⟩ := hrel
    by_cases hlt : k < l.length
    · rcases (HA.out.below hw).2 with h0 | ⟨b1, o1, rfl, hc1⟩
      · omega
      rcases (HB.out.below hw).2 with h0 | ⟨b2, o2, rfl, hc2⟩
      · omega
      have e1 := hc1 k hlt
      have e2 := hc2 k hlt
      clear hc1 hc2
      have q : (at8 l k != at8 l k) = false := by simp
      have hki : (k : Int) < (l.length : Int) := by omega
      go_wp2
      go_region
      all_goals
        go_wp2
        go_roundw
        case rel => exact ⟨k + 1, by omega, by go_num, hw.drew⟩
        case measure => simp [intOf]; omega
    · go_wp2
      go_ret
      exact ⟨rfl, hw⟩
/-- the register while bytes are undone from behind -/
def unS (r : BitVec 32) : List (Nat × UInt8) → BitVec 32 := List.foldl (fun r x => b8 r ^^^ x8 x.2) r
theorem unS_snoc (r : BitVec 32) (pre : List (Nat × UInt8)) (x : Nat × UInt8) : unS r (pre ++ [x]) = b8 (unS r pre) ^^^ x8 x.2 := by
  unfold unS; rw [List.foldl_append]; rfl
theorem unS_bwd (l : List UInt8) (r : BitVec 32) (k : Nat) (hk : k ≤ l.length) : unS r (bwd l k) = unreg (l.drop (l.length - k)) r := by
  induction k with
  | zero => rw [Nat.sub_zero, List.drop_length]; rfl
  | succ k ih =>
    rw [bwd_succ, unS_snoc, ih (by omega)]
    have hlt : l.length - 1 - k < l.length := by omega
    rw [show l.length - (k + 1) = l.length - 1 - k by omega, List.drop_eq_getElem_cons hlt, unreg_cons, show l.length - 1 - k + 1 = l.length - k by omega]
    congr 2
    simp [at8, hlt]
theorem unS_all (l : List UInt8) (r : BitVec 32) : unS r (bwd l l.length) = unreg l r := by
  rw [unS_bwd l r l.length (Nat.le_refl _), Nat.sub_self]; rfl
/-- Patch: a new slice, and no error -/
def PatchV (w : World) (l : List UInt8) (e : Ending) (w' : World) : Prop := ∃ g cap, e = .returned (.tuple #[.slice (some ⟨g, 0, none⟩) l.length cap, .int .i64 0]) ∧ OwnB w.heap.size w' g l ∧ Below w.heap.size w w' ∧ l.length ≤ cap
theorem Keep.far {w W : World} {bs : List (Nat × Obj)} (h : Keep w W bs) (g i : Nat) (v : Value) (hg : w.heap.size ≤ g) (hn : ∀ x ∈ bs, x.1 ≠ g) : Keep w (W.setCell ⟨g, i, none⟩ v) bs :=
  ⟨h.hB.setCell (p := ⟨g, i, none⟩) hg v, fun x hx => (Below.heap_setCell W ⟨g, i, none⟩ v x.1 (hn x hx)).trans (h.hb x hx)⟩
theorem OwnB.mono {base base' g : Nat} {W : World} {l : List UInt8} (h : OwnB base W g l) (hb : base' ≤ base) : OwnB base' W g l := ⟨Nat.le_trans hb h.1, h.2⟩
theorem OwnB.putObj {base g : Nat} {W : World} {l : List UInt8} (h : OwnB base W g l) (D : Nat) (o o' : Obj) (hl : W.heap[D]? = some o) (ho : o.isCells = false) : OwnB base (W.putObj D o') g l := by
  have hlt := h.lt
  obtain ⟨h1, cur, hc, h2⟩ := h
  refine ⟨h1, cur, ((grownBy_putObj' W D o').block g hlt (fun e => ?_)).trans hc, h2⟩
  cases e
  rw [hc] at hl
  cases hl
  cases ho
set_option maxRecDepth 100000 in
set_option maxHeartbeats 4000000 in
theorem patch_ok (cap : Nat) (a : Option Addr) (l : List UInt8) (p : Nat) (want : BitVec 32) (w : World) (hb : BytesAt w a l) (hlc : l.length ≤ cap) (hl : l.length ≤ 2000) (hp : p + 4 ≤ l.length) (hh : HalfLaid w) :
    Calls Tryd.prog 30 #[.slice a l.length cap, .int .i64 (p : Int), .int .u32 (vu want)] w (PatchV w (patchL l p want)) := by
  have q1 : decide ((p : Int) < 0) = false := by simp
  have q2 : decide ((l.length : Int) - 4 < (p : Int)) = false := by simp; omega
  have hm := hb.1
  obtain ⟨ad, hadr⟩ : ∃ ad, a = some ad := by
    rcases hb.2 with h | ⟨b, off, ha, _⟩
    · omega
    · exact ⟨_, ha⟩
  have HAD := Lib.hid hadr
  clear hadr
  have hfr : ∀ W : World, (Instr.sliceAt 23 (.slice a l.length cap) (some (.int .i64 ((p : Int) + 4))) none none).run Tryd.prog W = .ok (.slice (fromA a cap (p + 4)) (l.length - (p + 4)) (cap - (p + 4))) W := fun W => run_slice_from a l.length cap (p + 4) (by omega) W
  have k1 := (Keep.start w).alloc (.cells #[.int .u32 (vu (~~~ want))] 22)
  refine (callsIn_wide (n := 3)).1 ?_
  refine callsIn_of_wp_marks Tryd.func30 rfl trivial ?_ rfl
  simp only [Tryd.ntmps30, List.size_toArray, List.length_cons, List.length_nil, Nat.reduceAdd, Nat.reduceSub, Array.replicate_succ, Array.replicate_zero, List.push_toArray, List.append_toArray, List.nil_append, List.cons_append]
  gi_wp2_with (refine ⟨trivial, ?_⟩; gi_at_call 35; refine (backward_in _ _ _ _ _).mono ?_; rintro e w2 ⟨rfl, rfl⟩)
  have k4 := (k1.allocAt (.cells #[.slice (fromA a cap (p + 4)) (l.length - (p + 4)) (cap - (p + 4))] 23) (w.heap.size + 1) (by simp)).swap (cs := [(w.heap.size, .cells #[.int .u32 (vu (~~~ want))] 22), (w.heap.size + 1, .cells #[.slice (fromA a cap (p + 4)) (l.length - (p + 4)) (cap - (p + 4))] 23)]) (by simp)
  clear k1 hfr
  revert k4
  generalize (w.alloc (.cells #[.int .u32 (vu (~~~ want))] 22)).alloc (.cells #[.slice (fromA a cap (p + 4)) (l.length - (p + 4)) (cap - (p + 4))] 23) = W0
  intro k4
  have hTl : (l.drop (p + 4)).length = l.length - (p + 4) := List.length_drop
  have hbT := hb.from cap (p + 4) hp hlc
  have hblk : (l.drop (p + 4)).length = 0 ∨ ∃ b off, fromA a cap (p + 4) = some ⟨b, off, none⟩ ∧ b < w.heap.size ∧ ∀ j, j < (l.drop (p + 4)).length → W0.cell? ⟨b, off + j, none⟩ = some (.int .u8 (vb (at8 (l.drop (p + 4)) j))) := by
    rcases hbT.blocks with h | ⟨b, off, ha, hlt, hc⟩
    · exact .inl h
    · exact .inr ⟨b, off, ha, hlt, fun j hj => (k4.hB.cell (p := ⟨b, off + j, none⟩) hlt).trans (hc j hj)⟩
  have zB := k4.lt 1 _ rfl
  dsimp only at zB
  have hle := k4.hB.size
  have hcs : W0.heap[w.heap.size + 1]? = some (.cells #[.slice (fromA a cap (p + 4)) (l.drop (p + 4)).length (cap - (p + 4))] 23 (0, 0)) := by rw [hTl]; exact k4.at 1 _ rfl
  refine wpIn_rangeFunc_ownG rfl (by omega) (gf := 44) (lb := #[.pointer (some ⟨w.heap.size + 1, 0, none⟩)]) rfl trivial (enters_of Tryd.func44 (by kernel_rfl) rfl)
    (bwd_stops _ (by omega) (w.heap.size + 1) w.heap.size (cap - (p + 4)) (fromA a cap (p + 4)) (l.drop (p + 4)) W0 hle hbT.1 hcs hblk) KpB.t (KpB.b hle zB) (Below.refl _ _) (fun _ => rfl)
    (fun pre W => Keep w W [(w.heap.size, .cells #[.int .u32 (vu (unS (~~~ want) pre))] 22), (w.heap.size + 1, .cells #[.slice (fromA a cap (p + 4)) (l.length - (p + 4)) (cap - (p + 4))] 23)])
    (fun _ _ _ => False)
    (keep_ownFrom w _ (fun pre => [(w.heap.size, .cells #[.int .u32 (vu (unS (~~~ want) pre))] 22), (w.heap.size + 1, .cells #[.slice (fromA a cap (p + 4)) (l.length - (p + 4)) (cap - (p + 4))] 23)]) hle (by intro s x hx; simp only [List.mem_cons, List.not_mem_nil, or_false] at hx; rcases hx with rfl | rfl <;> rfl))
    (fun _ _ _ _ _ hs _ _ => hs)
    k4
    (fun x => { tmps := #[.slice a l.length cap, .int .i64 (p : Int), .int .u32 (vu want), undef, undef, undef, .slice none 0 0, .int .i64 0, .pointer (some ⟨w.heap.size, 0, none⟩), undef, .int .u8 (vb x.2), undef, undef, .int .i64 (p : Int), .bool false, .bool false, .int .i64 (p : Int),
      .slice a l.length cap, .int .i64 (l.length : Int), .int .i64 ((l.length : Int) - 4), .bool false, .bool false, .int .u32 (vu want), .int .u32 (vu (~~~ want)), .slice a l.length cap, .int .i64 (p : Int), .int .i64 ((p : Int) + 4),
      .slice (fromA a cap (p + 4)) (l.length - (p + 4)) (cap - (p + 4)), .func (.func 44) #[] #[.pointer (some ⟨w.heap.size + 1, 0, none⟩)], .int .i64 (x.1 : Int), .int .u8 (vb x.2), undef, undef, undef, undef, undef, undef, undef, undef, undef, undef, undef, undef, undef, undef, undef, undef, undef, undef, undef, undef, undef, undef, undef, undef, undef, undef, undef, undef, undef, undef, undef, undef, undef, undef], defers := [] }) ?assign ?body ?done ?stop
  case assign =>
    intro lp x W K hK
    gi_wp2
    exact hK
  case body =>
    rintro lp pre x W hK _
    have HN := Lib.hid (unS_snoc (~~~ want) pre x)
    generalize unS (~~~ want) pre = r at hK HN
    have hhW := hh.below hK.hB
    have cr := hK.cell 0 w.heap.size _ _ rfl 0 (.int .u32 (vu r)) rfl
    have fr := hK.frozen 0 w.heap.size _ _ rfl 0
    gi_wp2_with (refine ⟨trivial, ?_⟩; gi_at_call 36; refine (CallsIn.inRound lp (callsIn_wide.2 (back_any r W hhW))).mono ?_; rintro e w' ⟨rfl, rfl⟩)
    have e1 := hK.put [] (Nat.le_refl _) (by simp) 0 (.int .u32 (vu (b8 r ^^^ x8 x.2)))
    refine ⟨(KeepsOthers.setCell _ _ _).from _, ⟨(Below.refl _ _).setCell (by simp) _, ?_⟩, ?_⟩
    · rw [e1.at 1 _ rfl, hK.at 1 _ rfl]
    · dsimp only; rw [HN.out]; exact e1
  case stop =>
    rintro D c pre W _ _ h _
    exact h.elim
  case done =>
    rintro D ys W hD rfl hK hDf
    have hDw : w.heap.size + 1 < D := by omega
    have hu := unS_all (l.drop (p + 4)) (~~~ want)
    rw [hu] at hK
    obtain ⟨U, hU⟩ : ∃ U, U = unreg (l.drop (p + 4)) (~~~ want) := ⟨_, rfl⟩
    rw [← hU] at hK
    have HX := Lib.hid (show patchX l p want = b8n 4 U ^^^ ~~~ crc (l.take p) by rw [hU]; rfl)
    have hK2 : Keep w W [(w.heap.size, .cells #[.int .u32 (vu U)] 22), (D, .deferred (some []))] := ⟨hK.hB, by
      intro x hx
      simp only [List.mem_cons, List.not_mem_nil, or_false] at hx
      rcases hx with rfl | rfl
      · exact hK.at 0 _ rfl
      · exact hDf⟩
    clear hK hu hU hDf hD zB hcs hblk hTl hbT k4 hle q1 q2
    have hup := fun W => run_slice_upto a l.length cap p (by omega) W
    gi_wp2
    gi_loopw [36] (fun i wr => ∃ k : Nat, k ≤ 4 ∧ i = .int .i64 k ∧ Keep w wr [(w.heap.size, .cells #[.int .u32 (vu (b8n k U))] 22), (D, .deferred (some []))]) (fun i _ => 4 - (intOf i).toNat)
    case atStart => exact ⟨0, Nat.zero_le _, rfl, hK2⟩
    case round =>
      obtain ⟨k, hk, rfl, kr⟩ := hrel
      clear hK2
      have cr := kr.cell 0 w.heap.size _ _ rfl 0 (.int .u32 (vu (b8n k U))) rfl
      have fr := kr.frozen 0 w.heap.size _ _ rfl 0
      by_cases hlt : k < 4
      · have HS := Lib.hid (b8n_succ k U)
        have hhW := hh.below kr.hB
        have e1 := kr.put [] (Nat.le_refl _) (by simp; omega) 0 (.int .u32 (vu (b8 (b8n k U))))
        gi_wp2_with (refine ⟨trivial, ?_⟩; gi_at_call 36; refine (callsIn_wide.2 (back_any _ wr hhW)).mono ?_; rintro e w' ⟨rfl, rfl⟩)
        go_roundw
        case rel => exact ⟨k + 1, by omega, by go_num, by rw [HS.out]; exact e1⟩
        case measure => simp [intOf]; omega
      · obtain ⟨k4, hk4⟩ : ∃ j, j = b8n k U := ⟨_, rfl⟩
        have hx4 : b8n 4 U = k4 := by rw [hk4, show k = 4 by omega]
        have HX2 := Lib.hid (show patchX l p want = k4 ^^^ ~~~ crc (l.take p) by rw [HX.out, hx4])
        rw [← hk4] at kr cr
        clear hx4 hk4 HX
        have hmx : Tryd.prog.follows .mixedOrders = true := by kernel_rfl
        have hbt := (hb.below kr.hB).upto cap p (by omega)
        have hc1 := crc_any cap (upA a cap) (l.take p) wr.drew hbt (hh.below kr.drew.hB)
        rw [show (l.take p).length = p by simp; omega] at hc1
        have HC := Lib.hid hc1
        clear hc1 hbt
        gi_wp2
        refine wpIn_mono (Q := NoPanic _) ?_ NoPanic.imp
        gi_region_with_o (refine ⟨trivial, ?_⟩; gi_at_call 14; refine (callsIn_wide.2 HC.out).mono ?_; rintro e w4 ⟨rfl, hB4⟩; have kr4 : Keep w w4 [(w.heap.size, .cells #[.int .u32 (vu k4)] 22), (D, .deferred (some []))] := kr.drew.below hB4; have cr4 := kr4.cell 0 w.heap.size _ _ rfl 0 (.int .u32 (vu k4)) rfl; have fr4 := kr4.frozen 0 w.heap.size _ _ rfl 0)
        all_goals refine NoPanic.normal ?_
        all_goals
          have k5 := kr4.put [] (Nat.le_refl _) (by simp; omega) 0 (.int .u32 (vu (k4 ^^^ ~~~ crc (l.take p))))
          revert k5
          generalize w4.setCell ⟨w.heap.size, 0, none⟩ (.int .u32 (vu (k4 ^^^ ~~~ crc (l.take p)))) = W5
          intro k5
          rw [← HX2.out] at k5
          clear kr4 cr4 fr4 hB4 kr cr fr hup HC
          have hb5 := hb.below k5.hB
          rw [HAD.out] at hb5
          have HCL := Lib.hid (clone_any cap ad l W5 hb5 (by omega))
          rw [← HAD.out] at HCL
          have z0 := k5.lt 0 _ rfl
          have zD := k5.lt 1 _ rfl
          dsimp only at z0 zD
          have hWs := k5.hB.size
          clear hb5
          gi_wp2_with (refine ⟨trivial, ?_⟩; gi_at_call 42; refine (callsIn_wide.2 HCL.out).mono ?_; rintro e w6 ⟨g, cap1, rfl, ho, hB6, hgc⟩)
          have k6 := k5.below hB6
          have hgW := ho.1
          have ho6 := ho.mono hWs
          clear ho hB6 k5 HCL
          obtain ⟨X, hX⟩ : ∃ X, patchX l p want = X := ⟨_, rfl⟩
          rw [hX] at k6
          have HXX := Lib.hid (show patchL l p want = patchK l p X 4 by rw [← hX]; rfl)
          clear hX
          gi_loopw [50] (fun i wr => ∃ j : Nat, j ≤ 4 ∧ i = .int .i64 j ∧ Keep w wr [(w.heap.size, .cells #[.int .u32 (vu X)] 22), (D, .deferred (some []))] ∧ OwnB w.heap.size wr g (patchK l p X j)) (fun i _ => 4 - (intOf i).toNat)
          case atStart => exact ⟨0, Nat.zero_le _, rfl, k6, ho6⟩
          case round =>
            obtain ⟨j, hj, rfl, kq, hoq⟩ := hrel
            clear k6 ho6
            have cx := kq.cell 0 w.heap.size _ _ rfl 0 (.int .u32 (vu X)) rfl
            by_cases hlt2 : j < 4
            · have hpj : p + j < l.length := by omega
              have hFl : (patchK l p X j).length = l.length := patchK_length _ _ _ _
              have cg := hoq.cell (p + j) (by omega)
              have fg := hoq.frozen (p + j)
              have ho7 := hoq.set (p + j) (lo8 (X >>> (8 * j))) (by omega)
              have k7 := kq.far g (p + j) (.int .u8 (vb (lo8 (X >>> (8 * j))))) (by omega) (by simp; omega)
              have hij : (p : Int) + (j : Int) < (l.length : Int) := by omega
              have hij0 : (0 : Int) ≤ (p : Int) + (j : Int) := by omega
              have htn : ((p : Int) + (j : Int)).toNat = p + j := by omega
              clear hFl
              gi_wp2
              go_roundw
              case rel => exact ⟨j + 1, by omega, by go_num, k7, ho7⟩
              case measure => simp [intOf]; omega
            · have hj4 : j = 4 := by omega
              have HJ := Lib.hid (show patchK l p X j = patchL l p want by rw [HXX.out, hj4])
              clear hj4
              have hDq := kq.at 1 _ rfl
              dsimp only at hDq
              gi_wp2
              refine ⟨by simp, .inl ⟨_, _, rfl, run_takeDeferred hDq, ?_⟩⟩
              refine ⟨.tuple #[.slice (some ⟨g, 0, none⟩) l.length cap1, .int .i64 0], by simp [results, Tryd.results30, go_sem], g, cap1, ?_, ?_, ?_, ?_⟩
              · rw [patchL_length]
              · rw [← HJ.out]; exact hoq.putObj D _ _ hDq rfl
              · exact kq.hB.trans (belowK_b (w := w) (Nat.le_refl _) wr D _ _ (by omega) hDq rfl rfl)
              · rw [patchL_length]; exact hgc
end Go.Proofs.YtpmfpbfbfahniaaDoor
