/- The walk of Locate. -/
import Derived.Test.YtpmfpbfbfahniaaDoorBackw
import Derived.Deep.RegionHeld3
namespace Go.Proofs.YtpmfpbfbfahniaaDoor
open Go.RowKit Go.Shelf
open Lime
attribute [local go_sem] Oper.semAt_some
attribute [local go_sem high] q_shr32 q_shl32 q_shr32k q_shl32k q_shr32n q_shl32n g_com32
attribute [local go_sem] g_xor32 g_and15 g_and15_lt g_wrap8 vu_nonneg g_not32 g_not32' g_same32 g_and1 g_odd g_ne0 g_lo8 g_xor8
theorem g_eq0 (x : BitVec 32) : (vu x == 0) = (x == 0#32) := g_eq32 x 0#32
attribute [local go_sem] g_eq0
/-- what Locate holds when changes have been looked at: the difference, the place, the byte -/
def locS (d : BitVec 32) : List (Nat × UInt8) → BitVec 32 × Int × UInt8 := List.foldl (fun s x => (b8 s.1, bif decide ((b8 s.1).toNat < 256) then ((x.1 : Int), x.2 ^^^ lo8 (b8 s.1)) else s.2)) (d, -1, 0)
theorem locS_snoc (d : BitVec 32) (pre : List (Nat × UInt8)) (x : Nat × UInt8) : locS d (pre ++ [x]) = (b8 (locS d pre).1, bif decide ((b8 (locS d pre).1).toNat < 256) then ((x.1 : Int), x.2 ^^^ lo8 (b8 (locS d pre).1)) else (locS d pre).2) := by
  unfold locS; rw [List.foldl_append]; rfl
theorem results_loc {fn : Func} {p q r : Tmp} (h : fn.results = #[.cell p 3, .cell q 5, .tmp r]) (tmps : Array Value) (w : World) (g1 g2 : Nat) (v1 v2 : Value)
    (hp : tmps.getD p undef = .pointer (some ⟨g1, 0, none⟩)) (hq : tmps.getD q undef = .pointer (some ⟨g2, 0, none⟩)) (h1 : w.cell? ⟨g1, 0, none⟩ = some v1) (h2 : w.cell? ⟨g2, 0, none⟩ = some v2) :
    (results fn tmps).run Tryd.prog w = .ok (.tuple #[v1, v2, tmps.getD r undef]) w := by
  have hp' : tmps[p]?.getD undef = .pointer (some ⟨g1, 0, none⟩) := by simpa using hp
  have hq' : tmps[q]?.getD undef = .pointer (some ⟨g2, 0, none⟩) := by simpa using hq
  simp [results, h, hp', hq', asAddr, go_sem, h1, h2]
def locV (s : BitVec 32 × Int × UInt8) : Value := if s.2.1 < 0 then .tuple #[.int .i64 0, .int .u8 0, .int .i64 4] else .tuple #[.int .i64 s.2.1, .int .u8 (vb s.2.2), .int .i64 0]
set_option maxRecDepth 100000 in
set_option maxHeartbeats 1000000 in
theorem locate_long (cap : Nat) (a : Option Addr) (l : List UInt8) (want : BitVec 32) (w : World) (hb : BytesAt w a l) (hl : 1000 < l.length) :
    Calls Tryd.prog 18 #[.slice a l.length cap, .int .u32 (vu want)] w fun e w' => e = .returned (.tuple #[.int .i64 0, .int .u8 0, .int .i64 3]) ∧ Below w.heap.size w w' := by
  have hm := hb.1
  go_enter Tryd.func18, Tryd.ntmps18
  go_wp2
  exact bodyPost_ret (v := .tuple #[.int .i64 0, .int .u8 0, .int .i64 3]) (by simp [results, Tryd.results18, go_sem]) rfl ⟨rfl, ((Below.refl _ _).alloc (Nat.le_refl _) _).alloc (by simp) _⟩
set_option maxRecDepth 100000 in
set_option maxHeartbeats 1000000 in
theorem locate_twice (cap : Nat) (a : Option Addr) (l : List UInt8) (want : BitVec 32) (w : World) (hb : BytesAt w a l) (hl : l.length ≤ 1000) (hh : HalfLaid w) (he : crc l = want) :
    Calls Tryd.prog 18 #[.slice a l.length cap, .int .u32 (vu want)] w fun e w' => e = .returned (.tuple #[.int .i64 0, .int .u8 0, .int .i64 8]) ∧ Below w.heap.size w w' := by
  have k1 := ((Keep.start w).alloc (.cells #[.int .i64 0] 3)).allocAt (.cells #[.int .u8 0] 5) (w.heap.size + 1) (by simp)
  have HC := Lib.hid (crc_any cap a l _ (hb.below k1.hB) (hh.below k1.hB))
  have q : (crc l ^^^ want == 0#32) = true := by simp [he]
  have hm := hb.1
  have qd : decide (1000 < (l.length : Int)) = false := by simp; omega
  clear he
  go_enter Tryd.func18, Tryd.ntmps18
  go_wp2_with fail
  refine HC.out.mono ?_
  clear HC
  rintro e w1 ⟨rfl, hB⟩
  have k2 := k1.below hB
  clear k1 hB
  have c0 := k2.cell 1 w.heap.size _ _ rfl 0 (.int .i64 0) rfl
  have c1 := k2.cell 0 (w.heap.size + 1) _ _ rfl 0 (.int .u8 0) rfl
  have f0 := k2.frozen 1 w.heap.size _ _ rfl 0
  have f1 := k2.frozen 0 (w.heap.size + 1) _ _ rfl 0
  have z := k2.lt 0 _ rfl
  have z0 := k2.lt 1 _ rfl
  dsimp only at z z0
  have k4 := (((k2.swap (cs := [(w.heap.size, .cells #[.int .i64 0] 3), (w.heap.size + 1, .cells #[.int .u8 0] 5)]) (by simp)).setCell (Nat.le_refl _) (by simp) 0 (.int .i64 0)).swap (cs := [(w.heap.size + 1, .cells #[.int .u8 0] 5), (w.heap.size, .cells #[.int .i64 0] 3)]) (by simp)).setCell (by omega) (by simp) 0 (.int .u8 0)
  have k5 := k4.alloc (.cells #[.int .u32 (vu (crc l ^^^ want))] 22)
  clear k4
  go_wp2
  exact bodyPost_ret (results_loc rfl _ _ w.heap.size (w.heap.size + 1) _ _ rfl rfl (k5.cell 2 _ _ _ rfl 0 _ rfl) (k5.cell 1 _ _ _ rfl 0 _ rfl)) rfl ⟨rfl, k5.hB⟩
set_option maxRecDepth 100000 in
set_option maxHeartbeats 2000000 in
theorem locate_rest (cap : Nat) (a : Option Addr) (l : List UInt8) (want : BitVec 32) (w : World) (hb : BytesAt w a l) (hl : l.length ≤ 1000) (hh : HalfLaid w) (he : crc l ≠ want) :
    Calls Tryd.prog 18 #[.slice a l.length cap, .int .u32 (vu want)] w fun e w' => e = .returned (locV (locS (crc l ^^^ want) (bwd l l.length))) ∧ Below w.heap.size w w' := by
  have k1 := ((Keep.start w).alloc (.cells #[.int .i64 0] 3)).allocAt (.cells #[.int .u8 0] 5) (w.heap.size + 1) (by simp)
  have HC := Lib.hid (crc_any cap a l _ (hb.below k1.hB) (hh.below k1.hB))
  have q : (crc l ^^^ want == 0#32) = false := by simp [he]
  have hm := hb.1
  have qd : decide (1000 < (l.length : Int)) = false := by simp; omega
  clear he
  refine (callsIn_wide (n := 3)).1 ?_
  refine callsIn_of_wp_marks Tryd.func18 rfl trivial ?_ rfl
  simp only [Tryd.ntmps18, List.size_toArray, List.length_cons, List.length_nil, Nat.reduceAdd, Nat.reduceSub, Array.replicate_succ, Array.replicate_zero, List.push_toArray, List.append_toArray, List.nil_append, List.cons_append]
  gi_wp2_with (first | (refine ⟨trivial, ?_⟩; gi_at_call 14; refine (callsIn_wide.2 HC.out).mono ?_; rintro e w1 ⟨rfl, hB⟩; have k2 := k1.below hB; clear HC k1 hB; have c0 := k2.cell 1 w.heap.size _ _ rfl 0 (.int .i64 0) rfl; have f0 := k2.frozen 1 w.heap.size _ _ rfl 0; have z := k2.lt 0 _ rfl; have z0 := k2.lt 1 _ rfl; dsimp only at z z0) | (refine ⟨trivial, ?_⟩; gi_at_call 35; refine (backward_in _ _ _ _ _).mono ?_; rintro e w2 ⟨rfl, rfl⟩))
  have k3 := (((k2.swap (cs := [(w.heap.size, .cells #[.int .i64 0] 3), (w.heap.size + 1, .cells #[.int .u8 0] 5)]) (by simp)).setCell (Nat.le_refl _) (by simp) 0 (.int .i64 (-1))).alloc (.cells #[.int .u32 (vu (crc l ^^^ want))] 22)).allocAt (.cells #[.slice a l.length cap] 23) (w1.heap.size + 1) (by simp)
  have k4 := k3.swap (cs := [(w1.heap.size, .cells #[.int .u32 (vu (crc l ^^^ want))] 22), (w.heap.size, .cells #[.int .i64 (-1)] 3), (w.heap.size + 1, .cells #[.int .u8 0] 5), (w1.heap.size + 1, .cells #[.slice a l.length cap] 23)]) (by simp)
  clear k2 c0 f0 k3
  revert k4
  generalize ((w1.setCell ⟨w.heap.size, 0, none⟩ (.int .i64 (-1))).alloc (.cells #[.int .u32 (vu (crc l ^^^ want))] 22)).alloc (.cells #[.slice a l.length cap] 23) = W0
  intro k4
  have hblk : l.length = 0 ∨ ∃ b off, a = some ⟨b, off, none⟩ ∧ b < w.heap.size ∧ ∀ j, j < l.length → W0.cell? ⟨b, off + j, none⟩ = some (.int .u8 (vb (at8 l j))) := by
    rcases hb.blocks with h | ⟨b, off, ha, hlt, hc⟩
    · exact .inl h
    · exact .inr ⟨b, off, ha, hlt, fun j hj => (k4.hB.cell (p := ⟨b, off + j, none⟩) hlt).trans (hc j hj)⟩
  have zB := k4.lt 3 _ rfl
  dsimp only at zB
  refine wpIn_rangeFunc_ownG rfl (by omega) (gf := 44) (lb := #[.pointer (some ⟨w1.heap.size + 1, 0, none⟩)]) rfl trivial (enters_of Tryd.func44 (by kernel_rfl) rfl)
    (bwd_stops _ (by omega) (w1.heap.size + 1) w.heap.size cap a l W0 k4.hB.size hm (k4.at 3 _ rfl) hblk) KpB.t (KpB.b k4.hB.size zB) (Below.refl _ _) (fun _ => rfl)
    (fun pre W => Keep w W [(w1.heap.size, .cells #[.int .u32 (vu (locS (crc l ^^^ want) pre).1)] 22), (w.heap.size, .cells #[.int .i64 (locS (crc l ^^^ want) pre).2.1] 3), (w.heap.size + 1, .cells #[.int .u8 (vb (locS (crc l ^^^ want) pre).2.2)] 5), (w1.heap.size + 1, .cells #[.slice a l.length cap] 23)])
    (fun _ _ _ => False)
    (keep_ownFrom w _ (fun pre => [(w1.heap.size, .cells #[.int .u32 (vu (locS (crc l ^^^ want) pre).1)] 22), (w.heap.size, .cells #[.int .i64 (locS (crc l ^^^ want) pre).2.1] 3), (w.heap.size + 1, .cells #[.int .u8 (vb (locS (crc l ^^^ want) pre).2.2)] 5), (w1.heap.size + 1, .cells #[.slice a l.length cap] 23)]) k4.hB.size (by intro s x hx; simp only [List.mem_cons, List.not_mem_nil, or_false] at hx; rcases hx with rfl | rfl | rfl | rfl <;> rfl))
    (fun _ _ _ _ _ hs _ _ => hs)
    k4
    (fun x => { tmps := #[.slice a l.length cap, .int .u32 (vu want), undef, undef, .pointer (some ⟨w.heap.size, 0, none⟩), .pointer (some ⟨w.heap.size + 1, 0, none⟩), .int .i64 0, .pointer (some ⟨w1.heap.size, 0, none⟩), .int .i64 (x.1 : Int), .int .u8 (vb x.2),
      .slice a l.length cap, .int .i64 (l.length : Int), .bool false, .slice a l.length cap, .int .u32 (vu (crc l)), .int .u32 (vu want), .int .u32 (vu (crc l ^^^ want)), .int .u32 (vu (crc l ^^^ want)), .bool false, .slice a l.length cap,
      .func (.func 44) #[] #[.pointer (some ⟨w1.heap.size + 1, 0, none⟩)], .int .i64 (x.1 : Int), .int .u8 (vb x.2), undef, undef, undef, undef, undef, undef, undef, undef, undef, undef, undef, undef, undef], defers := [] }) ?assign ?body ?done ?stop
  case assign =>
    intro lp x W K hK
    gi_wp2
    exact hK
  case body =>
    rintro lp pre x W hK _
    have HN := Lib.hid (locS_snoc (crc l ^^^ want) pre x)
    generalize locS (crc l ^^^ want) pre = s at hK HN
    obtain ⟨r, p, v⟩ := s
    dsimp only at hK HN
    have hmx : Tryd.prog.follows .mixedOrders = true := by kernel_rfl
    have hhW := hh.below hK.hB
    have cr := hK.cell 0 w1.heap.size _ _ rfl 0 (.int .u32 (vu r)) rfl
    have fr := hK.frozen 0 w1.heap.size _ _ rfl 0
    have ca := hK.cell 1 w.heap.size _ _ rfl 0 (.int .i64 p) rfl
    have fa := hK.frozen 1 w.heap.size _ _ rfl 0
    have cv := hK.cell 2 (w.heap.size + 1) _ _ rfl 0 (.int .u8 (vb v)) rfl
    have fv := hK.frozen 2 (w.heap.size + 1) _ _ rfl 0
    have n1 : w.heap.size ≠ w1.heap.size := by omega
    have n2 : w.heap.size + 1 ≠ w1.heap.size := by omega
    have n3 : w1.heap.size ≠ w.heap.size := by omega
    have n4 : w1.heap.size ≠ w.heap.size + 1 := by omega
    by_cases hb8 : (b8 r).toNat < 256
    · have qb : decide (vu (b8 r) < 256) = true := by unfold vu; simp; omega
      gi_wp2_with (refine ⟨trivial, ?_⟩; gi_at_call 36; refine (CallsIn.inRound lp (callsIn_wide.2 (back_any r W hhW))).mono ?_; rintro e w' ⟨rfl, rfl⟩)
      have e1 := (hK.put [] (by omega) (by simp; omega) 0 (.int .u32 (vu (b8 r)))).put [(w1.heap.size, .cells #[.int .u32 (vu (b8 r))] 22)] (Nat.le_refl _) (by simp; omega) 0 (.int .i64 (x.1 : Int))
      have e2 := (Keep.put [(w1.heap.size, .cells #[.int .u32 (vu (b8 r))] 22), (w.heap.size, .cells #[.int .i64 (x.1 : Int)] 3)] e1 (by omega) (by simp; omega) 0 (.int .u8 (vb (x.2 ^^^ lo8 (b8 r))))).drew
      have E2 := Lib.hid e2
      clear e1 e2
      gi_region_with_o (fail)
      all_goals gi_wp2
      all_goals
        refine ⟨((((KeepsOthers.setCell _ _ _).trans (KeepsOthers.setCell _ _ _)).trans (KeepsOthers.setCell _ _ _)).trans (KeepsOthers.drew _)).from _, ⟨((((Below.refl _ _).setCell (by simp; omega) _).setCell (by simp) _).setCell (by simp) _).drew, ?_⟩, ?_⟩
        · rw [E2.out.at 3 _ rfl, hK.at 3 _ rfl]
        · dsimp only; rw [HN.out, decide_eq_true hb8]; exact E2.out
    · have qb : decide (vu (b8 r) < 256) = false := by unfold vu; simp; omega
      gi_wp2_with (refine ⟨trivial, ?_⟩; gi_at_call 36; refine (CallsIn.inRound lp (callsIn_wide.2 (back_any r W hhW))).mono ?_; rintro e w' ⟨rfl, rfl⟩)
      have e1 := hK.put [] (by omega) (by simp; omega) 0 (.int .u32 (vu (b8 r)))
      refine ⟨(KeepsOthers.setCell _ _ _).from _, ⟨(Below.refl _ _).setCell (by simp; omega) _, ?_⟩, ?_⟩
      · rw [e1.at 3 _ rfl, hK.at 3 _ rfl]
      · dsimp only; rw [HN.out, decide_eq_false hb8]; exact e1
  case done =>
    rintro D ys W hD rfl hK hDf
    obtain ⟨s, hs⟩ : ∃ s, locS (crc l ^^^ want) (bwd l l.length) = s := ⟨_, rfl⟩
    have HV := Lib.hid (show locV (locS (crc l ^^^ want) (bwd l l.length)) = locV s by rw [hs])
    rw [hs] at hK
    clear hs
    obtain ⟨r, p, v⟩ := s
    dsimp only at hK
    have ca := hK.cell 1 w.heap.size _ _ rfl 0 (.int .i64 p) rfl
    have fa := hK.frozen 1 w.heap.size _ _ rfl 0
    have cv := hK.cell 2 (w.heap.size + 1) _ _ rfl 0 (.int .u8 (vb v)) rfl
    have fv := hK.frozen 2 (w.heap.size + 1) _ _ rfl 0
    have hmx : Tryd.prog.follows .mixedOrders = true := by kernel_rfl
    by_cases hp : p < 0
    · have HW := Lib.hid (show locV (r, p, v) = .tuple #[.int .i64 0, .int .u8 0, .int .i64 4] from if_pos hp)
      have qp : decide (p < 0) = true := by simpa using hp
      clear hp
      have e1 := Keep.put [(w1.heap.size, .cells #[.int .u32 (vu r)] 22), (w.heap.size, .cells #[.int .i64 0] 3)] (Keep.put [(w1.heap.size, .cells #[.int .u32 (vu r)] 22)] hK (Nat.le_refl _) (by simp; omega) 0 (.int .i64 0)) (by omega) (by simp; omega) 0 (.int .u8 0)
      have hD' := ((KeepsOthers.setCell W ⟨w.heap.size, 0, none⟩ (.int .i64 0)).trans (KeepsOthers.setCell _ ⟨w.heap.size + 1, 0, none⟩ (.int .u8 0))).same D _ hDf rfl
      have hle := k4.hB.size
      have e2 := e1.putObj D _ (.deferred none) (by omega) hD' rfl (by intro x hx; simp only [List.mem_cons, List.not_mem_nil, or_false, List.cons_append, List.nil_append] at hx; rcases hx with rfl | rfl | rfl | rfl <;> rfl)
      gi_wp2
      refine ⟨by simp, .inl ⟨_, _, rfl, run_takeDeferred hD', ?_⟩⟩
      exact ⟨_, results_loc rfl _ _ w.heap.size (w.heap.size + 1) _ _ rfl rfl (e2.cell 1 _ _ _ rfl 0 _ rfl) (e2.cell 2 _ _ _ rfl 0 _ rfl), by rw [HV.out, HW.out]; rfl, e2.hB⟩
    · have HW := Lib.hid (show locV (r, p, v) = .tuple #[.int .i64 p, .int .u8 (vb v), .int .i64 0] from if_neg hp)
      have qp : decide (p < 0) = false := by simpa using hp
      clear hp
      have e1 := (Keep.put [(w1.heap.size, .cells #[.int .u32 (vu r)] 22), (w.heap.size, .cells #[.int .i64 p] 3)] (Keep.put [(w1.heap.size, .cells #[.int .u32 (vu r)] 22)] hK (Nat.le_refl _) (by simp; omega) 0 (.int .i64 p)) (by omega) (by simp; omega) 0 (.int .u8 (vb v))).drew
      have hD' := (((KeepsOthers.setCell W ⟨w.heap.size, 0, none⟩ (.int .i64 p)).trans (KeepsOthers.setCell _ ⟨w.heap.size + 1, 0, none⟩ (.int .u8 (vb v)))).trans (KeepsOthers.drew _)).same D _ hDf rfl
      have hle := k4.hB.size
      have e2 := e1.putObj D _ (.deferred none) (by omega) hD' rfl (by intro x hx; simp only [List.mem_cons, List.not_mem_nil, or_false, List.cons_append, List.nil_append] at hx; rcases hx with rfl | rfl | rfl | rfl <;> rfl)
      have E2 := Lib.hid e2
      have HD := Lib.hid hD'
      clear e1 e2 hD'
      gi_wp2
      refine wpIn_mono (Q := NoPanic _) ?_ NoPanic.imp
      gi_region_with_o (fail)
      all_goals refine NoPanic.normal ?_
      all_goals gi_wp2
      all_goals
        refine ⟨by simp, .inl ⟨_, _, rfl, run_takeDeferred HD.out, ?_⟩⟩
        exact ⟨_, results_loc rfl _ _ w.heap.size (w.heap.size + 1) _ _ rfl rfl (E2.out.cell 1 _ _ _ rfl 0 _ rfl) (E2.out.cell 2 _ _ _ rfl 0 _ rfl), by rw [HV.out, HW.out]; rfl, E2.out.hB⟩
  case stop =>
    rintro D c pre W _ _ h _
    exact h.elim
end Go.Proofs.YtpmfpbfbfahniaaDoor
