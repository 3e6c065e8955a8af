/- The walk of Open: the frame of a sector. -/
import Derived.Test.YtfbkfdoekgnldaaGreatDoorSealW
import Derived.Deep.QuietTactic
import Derived.BigQuiet
import Derived.Deep.RegionWith
namespace Go.Proofs.YtfbkfdoekgnldaaGreatDoor
open Go.RowKit
open Lime
attribute [local go_sem high] q_shr32 q_shl32 q_shr32k q_shl32k q_shr32n q_shl32n g_com32 run_eql_sector run_neq_sector
attribute [local go_sem] g_xor32 g_or32 g_add32 g_wrap8 vu_nonneg g_same32 g_lo8 setRow_alloc_at setRow_alloc_past setRow_drew sec_set sec_set76 g_same8 sec_get g_ne32 g_eq32
/-- the value of a frame -/
def frV (k : Int) (q : BitVec 32) (d : ByteArray) : Value := .agg #[.int .i64 k, .int .u32 (vu q), .string d]
set_option maxRecDepth 100000 in
set_option maxHeartbeats 1000000 in
theorem open_range (p : Int) (s : Sector) (w : World) (h : p < 0 ∨ 256 ≤ p) :
    Calls Tryz.prog 53 #[.int .i64 p, .agg (sec s)] w fun e w' =>
      e = .returned (.tuple #[frV 0 0#32 ByteArray.empty, .int .i64 7]) ∧ Below w.heap.size w w' := by
  have h4 : (p < 0) ∨ (0 ≤ p ∧ 256 ≤ p) := by omega
  clear h
  rcases h4 with h | ⟨h1, h⟩
  · go_enter Tryz.func53, Tryz.ntmps53
    go_wp2_with (((with_reducible refine wpList_box_sector rfl _ rfl s ?_ ?_); rfl))
    exact bodyPost_ret (v := .tuple #[frV 0 0#32 ByteArray.empty, .int .i64 7]) (by simp [results, Tryz.results53, go_sem]; rfl) rfl ⟨rfl, (((Below.refl _ _).alloc (Nat.le_refl _) _).alloc (by simp) _).alloc (by simp; omega) _⟩
  · go_enter Tryz.func53, Tryz.ntmps53
    go_wp2_with (((with_reducible refine wpList_box_sector rfl _ rfl s ?_ ?_); rfl))
    exact bodyPost_ret (v := .tuple #[frV 0 0#32 ByteArray.empty, .int .i64 7]) (by simp [results, Tryz.results53, go_sem]; rfl) rfl ⟨rfl, (((Below.refl _ _).alloc (Nat.le_refl _) _).alloc (by simp) _).alloc (by simp; omega) _⟩

theorem byte_int (c : UInt8) : IntKind.i64.wrap (vb c) = vb c := IntWalk.i64_in _ (by have := vb_nonneg c; have := vb_lt c; omega)
theorem frame_size : (Tryz.prog.info? 49).map (·.size) = some 3 := by kernel_rfl
theorem wpList_load_frame {ops : Array Oper} {rest : List Oper} {o : Oper} {a : Act} {w : World} {Q : Exit → Act → World → Prop} (hgd : o.guard = none) (x : Operand) (ho : o.op = .load 49 x)
    (g : Nat) (cs : Array Value) (hx : a.eval x = .pointer (some ⟨g, 0, none⟩)) (hg : w.heap[g]? = some (.cells cs 49 (0, 0))) (hc : cs.size = 3)
    (h : wpList Tryz.prog ops Q rest (a.put o.dst (.agg cs)) w) : wpList Tryz.prog ops Q (o :: rest) a w :=
  wpList_load_row hgd _ x ho g hx _ _ _ _ hg Tryz.underlying49 rfl (by rw [hc]; exact frame_size) h
theorem wpList_store_frame {ops : Array Oper} {rest : List Oper} {o : Oper} {a : Act} {w : World} {Q : Exit → Act → World → Prop} (hgd : o.guard = none) (x y : Operand) (ho : o.op = .store 49 x y)
    (g : Nat) (cs old : Array Value) (hx : a.eval x = .pointer (some ⟨g, 0, none⟩)) (hy : a.eval y = .agg cs) (hg : w.heap[g]? = some (.cells old 49 (0, 0))) (hc : cs.size = 3) (ho3 : old.size = 3) (h1 : cs.toList.all (·.oneCell') = true)
    (h : wpList Tryz.prog ops Q rest (a.put o.dst undef) (w.setRow g cs)) : wpList Tryz.prog ops Q (o :: rest) a w :=
  wpList_store_row hgd _ x y ho g _ hx hy _ _ hg (by rw [hc]; exact frame_size) (by rw [hc, ho3]) (by rw [← Array.all_toList]; exact h1) h
/-- two results: a frame in a cell, and a value -/
theorem results_frame2 {fn : Func} {p q : Tmp} (h : fn.results = #[.cell p 49, .tmp q]) (tmps : Array Value) (w : World) (g : Nat) (cs : Array Value)
    (hp : tmps.getD p undef = .pointer (some ⟨g, 0, none⟩)) (hg : w.heap[g]? = some (.cells cs 49 (0, 0))) (hc : cs.size = 3) :
    (results fn tmps).run Tryz.prog w = .ok (.tuple #[.agg cs, tmps.getD q undef]) w := by
  have hp' : tmps[p]?.getD undef = .pointer (some ⟨g, 0, none⟩) := by simpa using hp
  have hl := run_loadVar_row (P := Tryz.prog) w g _ _ _ _ _ hg Tryz.underlying49 rfl (by rw [hc]; exact frame_size)
  simp [results, h, hp', asAddr, hl]
/-- the memory of Open once its numbers are laid -/
structure OpenInv (w W : World) (s : Sector) : Prop where
  hB : Below w.heap.size w W
  hs : W.heap[w.heap.size]? = some (.cells (sec s) 53 (0, 0))
  hr : W.heap[w.heap.size + 1]? = some (.cells #[.int .i64 0, .int .u32 0, .string ⟨#[]⟩] 49 (0, 0))
  hn : W.heap[w.heap.size + 1 + 1]? = some (.cells #[.int .i64 0, .int .u32 0, .string ⟨#[]⟩] 49 (0, 0))
  h1 : W.heap[w.heap.size + 1 + 1 + 1]? = some (.cells #[.slice (some ⟨w.heap.size, 4, none⟩) 4 4] 96 (0, 0))
  h2 : W.heap[w.heap.size + 1 + 1 + 1 + 1]? = some (.cells #[.slice (some ⟨w.heap.size, 120, none⟩) 4 4] 96 (0, 0))
  h3 : W.heap[w.heap.size + 1 + 1 + 1 + 1 + 1]? = some (.cells #[.slice (some ⟨w.heap.size, 124, none⟩) 4 4] 96 (0, 0))
theorem OpenInv.sz {w W : World} {s : Sector} (h : OpenInv w W s) : w.heap.size + 1 + 1 + 1 + 1 + 1 < W.heap.size := (Array.getElem?_eq_some_iff.1 h.h3).1
theorem OpenInv.below {w W W' : World} {s : Sector} (h : OpenInv w W s) (hb : Below W.heap.size W W') : OpenInv w W' s := by
  have := h.sz
  exact ⟨h.hB.trans (hb.mono (by omega)), (hb.block _ (by omega)).trans h.hs, (hb.block _ (by omega)).trans h.hr, (hb.block _ (by omega)).trans h.hn,
    (hb.block _ (by omega)).trans h.h1, (hb.block _ (by omega)).trans h.h2, (hb.block _ (by omega)).trans h.h3⟩
theorem OpenInv.drew {w W : World} {s : Sector} (h : OpenInv w W s) : OpenInv w W.drew s := ⟨h.hB.drew, h.hs, h.hr, h.hn, h.h1, h.h2, h.h3⟩
def fr0 : Obj := .cells #[.int .i64 0, .int .u32 0, .string ⟨#[]⟩] 49
theorem OpenInv.start (w : World) (s : Sector) : OpenInv w ((((((w.alloc (.cells (sec s) 53)).alloc fr0).alloc fr0).alloc (.cells #[.slice (some ⟨w.heap.size, 4, none⟩) 4 4] 96)).alloc
    (.cells #[.slice (some ⟨w.heap.size, 120, none⟩) 4 4] 96)).alloc (.cells #[.slice (some ⟨w.heap.size, 124, none⟩) 4 4] 96)) s := by
  refine ⟨?_, ?_, ?_, ?_, ?_, ?_, ?_⟩
  · exact ((((((Below.refl _ _).alloc (Nat.le_refl _) _).alloc (by simp) _).alloc (by simp; omega) _).alloc (by simp; omega) _).alloc (by simp; omega) _).alloc (by simp; omega) _
  · rw [Below.heap_alloc _ _ _ (by simp; omega), Below.heap_alloc _ _ _ (by simp; omega), Below.heap_alloc _ _ _ (by simp; omega), Below.heap_alloc _ _ _ (by simp; omega), Below.heap_alloc _ _ _ (by simp)]; exact heap_alloc_eq _ _ _ (by simp)
  · rw [Below.heap_alloc _ _ _ (by simp), Below.heap_alloc _ _ _ (by simp), Below.heap_alloc _ _ _ (by simp), Below.heap_alloc _ _ _ (by simp)]; exact heap_alloc_eq _ _ _ (by simp)
  · rw [Below.heap_alloc _ _ _ (by simp), Below.heap_alloc _ _ _ (by simp), Below.heap_alloc _ _ _ (by simp)]; exact heap_alloc_eq _ _ _ (by simp)
  · rw [Below.heap_alloc _ _ _ (by simp), Below.heap_alloc _ _ _ (by simp)]; exact heap_alloc_eq _ _ _ (by simp)
  · rw [Below.heap_alloc _ _ _ (by simp)]; exact heap_alloc_eq _ _ _ (by simp)
  · exact heap_alloc_eq _ _ _ (by simp)
theorem OpenInv.ret {w W : World} {s : Sector} (h : OpenInv w W s) (cs : Array Value) : (W.setRow (w.heap.size + 1) cs).heap[w.heap.size + 1]? = some (.cells cs 49 (0, 0)) ∧ Below w.heap.size w (W.setRow (w.heap.size + 1) cs) :=
  ⟨setRow_heap W _ _ _ _ _ h.hr, h.hB.trans ⟨rfl, rfl, rfl, by simp, fun k hk => setRow_other W _ _ _ (by omega)⟩⟩
theorem OpenInv.put3 {w W : World} {s : Sector} (h : OpenInv w W s) (a b c : Value) :
    (((W.setCell ⟨w.heap.size + 1, 0, none⟩ a).setCell ⟨w.heap.size + 1, 1, none⟩ b).setCell ⟨w.heap.size + 1, 2, none⟩ c).drew.heap[w.heap.size + 1]? = some (.cells #[a, b, c] 49 (0, 0)) ∧
    Below w.heap.size w (((W.setCell ⟨w.heap.size + 1, 0, none⟩ a).setCell ⟨w.heap.size + 1, 1, none⟩ b).setCell ⟨w.heap.size + 1, 2, none⟩ c).drew := by
  refine ⟨?_, (((h.hB.setCell (by simp) _).setCell (by simp) _).setCell (by simp) _).drew⟩
  rw [heap_drew, heap_setCell_same _ _ 2 _ _ _ (heap_setCell_same _ _ 1 _ _ _ (heap_setCell_same _ _ 0 _ _ _ h.hr))]
  rfl
/-- the bytes of a frame -/
def frData (s : Sector) : ByteArray := ⟨((s.toList.drop 8).take (sat s 2).toNat).toArray⟩
/-- the bytes behind the content are 0 -/
def tailZ (s : Sector) : Bool := (List.range 120).all fun i => decide (i < 8 + (sat s 2).toNat) || sat s i == 0
/-- what Open returns at a place -/
def openCode (p : Nat) (s : Sector) : Int :=
  if s = zsec then 70 else if getN s 124 ≠ crc (s.toList.take 124) then 71
  else if sat s 0 ≠ 76 ∨ sat s 1 = 0 ∨ 112 < (sat s 2).toNat ∨ sat s 3 ≠ 0 ∨ 256 ≤ (getN s 120).toNat then 6
  else if tailZ s = false then 6
  else if (getN s 120).toNat ≠ p then 72 else 0
def openV (p : Nat) (s : Sector) : Value :=
  .tuple #[if openCode p s = 0 then frV (vb (sat s 1)) (getN s 4) (frData s) else frV 0 0#32 ByteArray.empty, .int .i64 (openCode p s)]
/-- so many bytes behind the content are 0 -/
def TailTo (s : Sector) (m k : Nat) : Prop := ∀ j, j < k → sat s (8 + m + j) = 0
theorem TailTo.bad {s : Sector} {m k : Nat} (hm : m = (sat s 2).toNat) (hk : 8 + m + k < 120) (h : sat s (8 + m + k) ≠ 0) : tailZ s = false := by
  rw [tailZ, List.all_eq_false]
  refine ⟨8 + m + k, by simp; omega, ?_⟩
  simp [h]; omega
theorem TailTo.good {s : Sector} {m : Nat} (hm : m = (sat s 2).toNat) (h : TailTo s m (112 - m)) : tailZ s = true := by
  rw [tailZ, List.all_eq_true]
  intro i hi
  simp at hi
  by_cases hl : i < 8 + (sat s 2).toNat
  · simp [hl]
  · have := h (i - (8 + m)) (by omega)
    rw [show 8 + m + (i - (8 + m)) = i by omega] at this
    simp [this]
set_option maxRecDepth 100000 in
set_option maxHeartbeats 2000000 in
theorem open_any (p : Nat) (s : Sector) (w : World) (hp : p < 256) (hh : HalfLaid w) :
    Calls Tryz.prog 53 #[.int .i64 (p : Int), .agg (sec s)] w fun e w' =>
      e = .returned (openV p s) ∧ Below w.heap.size w w' := by
  have d1 : decide ((p : Int) < 0) = false := by simp
  have d2 : decide (256 ≤ (p : Int)) = false := by simp; omega
  have v0 := vb_nonneg (sat s 2)
  have v1 := vb_lt (sat s 2)
  have hgt : Tryz.prog.eqGuardType Tryz.prog.depth 53 = false := by kernel_rfl
  go_enter Tryz.func53, Tryz.ntmps53
  go_wp2_with (((with_reducible refine wpList_box_sector rfl _ rfl s ?_ ?_); rfl))
  refine (number_any w.heap.size 4 _ (by omega)).mono ?_
  rintro e w1 ⟨rfl, rfl⟩
  go_wp2_with fail
  refine (number_any w.heap.size 120 _ (by omega)).mono ?_
  rintro e w1 ⟨rfl, rfl⟩
  go_wp2_with fail
  refine (number_any w.heap.size 124 _ (by omega)).mono ?_
  rintro e w1 ⟨rfl, hw1⟩
  have hinv := OpenInv.start w s
  unfold fr0 at hinv
  rw [hw1] at hinv
  clear hw1
  have hs1 := hinv.hs
  have c2 : w1.cell? ⟨w.heap.size, 2, none⟩ = some _ := (cell_of_row w1 _ _ _ _ _ hinv.hs).trans (sec_get s 2 (by omega))
  by_cases hz : s = zsec
  · have hzb : seqB s zsec = true := by simp [seqB, hz]
    have HV : Hid (openV p s = .tuple #[frV 0 0#32 ByteArray.empty, .int .i64 70]) := by simp [Hid, openV, openCode, hz]
    clear hz
    have hn1 := hinv.hn
    have hr1 := hinv.hr
    go_wp2_with (first | ((with_reducible refine wpList_load_sector rfl _ rfl w.heap.size s ?_ hs1 ?_); rfl) | (with_reducible refine wpList_build_sector rfl rfl ?_) | ((with_reducible refine wpList_load_frame rfl _ rfl (w.heap.size + 1 + 1) _ ?_ hn1 ?_ ?_); rfl; rfl) | ((with_reducible refine wpList_store_frame rfl _ _ rfl (w.heap.size + 1) #[.int .i64 0, .int .u32 0, .string ⟨#[]⟩] _ ?_ ?_ hr1 ?_ ?_ ?_ ?_); rfl; rfl; rfl; rfl; rfl))
    refine bodyPost_ret (results_frame2 rfl _ _ (w.heap.size + 1) _ rfl (hinv.ret _).1 rfl) rfl ⟨?_, (hinv.ret _).2⟩
    rw [HV.out]; rfl
  · have hzb : seqB s zsec = false := by simp [seqB, hz]
    have hn1 := hinv.hn
    have hr1 := hinv.hr
    go_wp2_with (first | ((with_reducible refine wpList_load_sector rfl _ rfl w.heap.size s ?_ hs1 ?_); rfl) | (with_reducible refine wpList_build_sector rfl rfl ?_))
    have hh1 := hh.below hinv.hB
    have hl1 : w1.cell? ⟨w.heap.size + 1 + 1 + 1 + 1 + 1, 0, none⟩ = some (.slice (some ⟨w.heap.size, 124, none⟩) 4 4) := cell_of_row w1 _ 0 _ _ _ hinv.h3
    have hsl := fun W => run_slice_to_sector w.heap.size 124 (by omega) W
    have hcr : ∀ W, W = w1.drew → Calls Tryz.prog 88 #[.slice (some ⟨w.heap.size, 0, none⟩) 124 128] W fun e w' => e = .returned (.int .u32 (vu (crc (s.toList.take 124)))) ∧ Below W.heap.size W w' := by
      rintro W rfl
      have hc := crc_any 128 (some ⟨w.heap.size, 0, none⟩) (s.toList.take 124) w1.drew (sec_bytes (w := w1.drew) hs1 124 (by omega)) hh1
      rw [take_len s 124 (by omega)] at hc
      exact hc
    have HC := Lib.hid hcr
    have HR := Lib.hid (numread_any (w.heap.size + 1 + 1 + 1 + 1 + 1) w.heap.size 124 s _ w1.drew (by omega) hl1 hs1)
    clear hcr
    go_region_with (first | (go_at_call 104; refine HR.out.mono ?_; rintro e w' ⟨rfl, rfl⟩) | (go_at_call 88; refine (HC.out _ rfl).mono ?_; rintro e w' ⟨rfl, hB⟩))
    have hinv2 := hinv.drew.below hB
    have hn2 := hinv2.hn
    have hr2 := hinv2.hr
    have hs2 := hinv2.hs
    have HR2 := Lib.hid (numread_any (w.heap.size + 1 + 1 + 1 + 1) w.heap.size 120 s _ w' (by omega) (cell_of_row w' _ 0 _ _ _ hinv2.h2) hs2)
    have s0 : w'.cell? ⟨w.heap.size, 0, none⟩ = some (.int .u8 (vb (sat s 0))) := (cell_of_row w' _ _ _ _ _ hs2).trans (sec_get s 0 (by omega))
    have s1 : w'.cell? ⟨w.heap.size, 1, none⟩ = some (.int .u8 (vb (sat s 1))) := (cell_of_row w' _ _ _ _ _ hs2).trans (sec_get s 1 (by omega))
    have s3 : w'.cell? ⟨w.heap.size, 3, none⟩ = some (.int .u8 (vb (sat s 3))) := (cell_of_row w' _ _ _ _ _ hs2).trans (sec_get s 3 (by omega))
    clear hB HC HR hsl hl1 hh1 hr1 hn1 c2 hs1 hinv hzb
    by_cases hsum : getN s 124 = crc (s.toList.take 124)
    case neg =>
      have hq : (getN s 124 != crc (s.toList.take 124)) = true := by simpa using hsum
      rw [hq]
      have HV : Hid (openV p s = .tuple #[frV 0 0#32 ByteArray.empty, .int .i64 71]) := by simp [Hid, openV, openCode, hz, hsum]
      clear hsum hz
      go_wp2_with (first | ((with_reducible refine wpList_load_frame rfl _ rfl (w.heap.size + 1 + 1) _ ?_ hn2 ?_ ?_); rfl; rfl) | ((with_reducible refine wpList_store_frame rfl _ _ rfl (w.heap.size + 1) #[.int .i64 0, .int .u32 0, .string ⟨#[]⟩] _ ?_ ?_ hr2 ?_ ?_ ?_ ?_); rfl; rfl; rfl; rfl; rfl) | (go_at_call 104; refine HR2.out.mono ?_; rintro e w' ⟨rfl, rfl⟩))
      refine bodyPost_ret (results_frame2 rfl _ _ (w.heap.size + 1) _ rfl (hinv2.ret _).1 rfl) rfl ⟨?_, (hinv2.ret _).2⟩
      rw [HV.out]; rfl
    have hq : (getN s 124 != crc (s.toList.take 124)) = false := by simpa using hsum
    rw [hq]
    by_cases t0 : sat s 0 = 76
    case neg =>
      have q0 : (vb (sat s 0) != 76) = true := by rw [show (76 : Int) = vb 76 from rfl, g_ne8]; simpa using t0
      have HV : Hid (openV p s = .tuple #[frV 0 0#32 ByteArray.empty, .int .i64 6]) := by simp [Hid, openV, openCode, hz, hsum, t0]
      clear hsum hz t0
      go_wp2_with (first | ((with_reducible refine wpList_load_frame rfl _ rfl (w.heap.size + 1 + 1) _ ?_ hn2 ?_ ?_); rfl; rfl) | ((with_reducible refine wpList_store_frame rfl _ _ rfl (w.heap.size + 1) #[.int .i64 0, .int .u32 0, .string ⟨#[]⟩] _ ?_ ?_ hr2 ?_ ?_ ?_ ?_); rfl; rfl; rfl; rfl; rfl) | (go_at_call 104; refine HR2.out.mono ?_; rintro e w' ⟨rfl, rfl⟩))
      refine bodyPost_ret (results_frame2 rfl _ _ (w.heap.size + 1) _ rfl (hinv2.ret _).1 rfl) rfl ⟨?_, (hinv2.ret _).2⟩
      rw [HV.out]; rfl
    have q0 : (vb (sat s 0) != 76) = false := by rw [show (76 : Int) = vb 76 from rfl, g_ne8]; simpa using t0
    by_cases t1 : sat s 1 = 0
    case pos =>
      have q1 : (vb (sat s 1) == 0) = true := by rw [show (0 : Int) = vb 0 from rfl, g_eq8]; simpa using t1
      have HV : Hid (openV p s = .tuple #[frV 0 0#32 ByteArray.empty, .int .i64 6]) := by simp [Hid, openV, openCode, hz, hsum, t1]
      clear hsum hz t0 t1
      go_wp2_with (first | ((with_reducible refine wpList_load_frame rfl _ rfl (w.heap.size + 1 + 1) _ ?_ hn2 ?_ ?_); rfl; rfl) | ((with_reducible refine wpList_store_frame rfl _ _ rfl (w.heap.size + 1) #[.int .i64 0, .int .u32 0, .string ⟨#[]⟩] _ ?_ ?_ hr2 ?_ ?_ ?_ ?_); rfl; rfl; rfl; rfl; rfl) | (go_at_call 104; refine HR2.out.mono ?_; rintro e w' ⟨rfl, rfl⟩))
      refine bodyPost_ret (results_frame2 rfl _ _ (w.heap.size + 1) _ rfl (hinv2.ret _).1 rfl) rfl ⟨?_, (hinv2.ret _).2⟩
      rw [HV.out]; rfl
    have q1 : (vb (sat s 1) == 0) = false := by rw [show (0 : Int) = vb 0 from rfl, g_eq8]; simpa using t1
    have hm : vb (sat s 2) = ((sat s 2).toNat : Int) := rfl
    by_cases t2 : 112 < (sat s 2).toNat
    case pos =>
      have q2 : decide (120 < 8 + vb (sat s 2)) = true := by simp; omega
      have HV : Hid (openV p s = .tuple #[frV 0 0#32 ByteArray.empty, .int .i64 6]) := by simp [Hid, openV, openCode, hz, hsum, t2]
      clear hsum hz t0 t1 hm t2
      go_wp2_with (first | ((with_reducible refine wpList_load_frame rfl _ rfl (w.heap.size + 1 + 1) _ ?_ hn2 ?_ ?_); rfl; rfl) | ((with_reducible refine wpList_store_frame rfl _ _ rfl (w.heap.size + 1) #[.int .i64 0, .int .u32 0, .string ⟨#[]⟩] _ ?_ ?_ hr2 ?_ ?_ ?_ ?_); rfl; rfl; rfl; rfl; rfl) | (go_at_call 104; refine HR2.out.mono ?_; rintro e w' ⟨rfl, rfl⟩))
      refine bodyPost_ret (results_frame2 rfl _ _ (w.heap.size + 1) _ rfl (hinv2.ret _).1 rfl) rfl ⟨?_, (hinv2.ret _).2⟩
      rw [HV.out]; rfl
    have q2 : decide (120 < 8 + vb (sat s 2)) = false := by simp; omega
    by_cases t3 : sat s 3 = 0
    case neg =>
      have q3 : (vb (sat s 3) != 0) = true := by rw [show (0 : Int) = vb 0 from rfl, g_ne8]; simpa using t3
      have HV : Hid (openV p s = .tuple #[frV 0 0#32 ByteArray.empty, .int .i64 6]) := by simp [Hid, openV, openCode, hz, hsum, t3]
      clear hsum hz t0 t1 hm t2 t3
      go_wp2_with (first | ((with_reducible refine wpList_load_frame rfl _ rfl (w.heap.size + 1 + 1) _ ?_ hn2 ?_ ?_); rfl; rfl) | ((with_reducible refine wpList_store_frame rfl _ _ rfl (w.heap.size + 1) #[.int .i64 0, .int .u32 0, .string ⟨#[]⟩] _ ?_ ?_ hr2 ?_ ?_ ?_ ?_); rfl; rfl; rfl; rfl; rfl) | (go_at_call 104; refine HR2.out.mono ?_; rintro e w' ⟨rfl, rfl⟩))
      refine bodyPost_ret (results_frame2 rfl _ _ (w.heap.size + 1) _ rfl (hinv2.ret _).1 rfl) rfl ⟨?_, (hinv2.ret _).2⟩
      rw [HV.out]; rfl
    have q3 : (vb (sat s 3) != 0) = false := by rw [show (0 : Int) = vb 0 from rfl, g_ne8]; simpa using t3
    by_cases t4 : 256 ≤ (getN s 120).toNat
    case pos =>
      have q4 : decide (256 ≤ vu (getN s 120)) = true := by unfold vu; simp; omega
      have HV : Hid (openV p s = .tuple #[frV 0 0#32 ByteArray.empty, .int .i64 6]) := by simp [Hid, openV, openCode, hz, hsum, t4]
      clear hsum hz t0 t1 hm t2 t3 t4
      go_wp2_with (first | ((with_reducible refine wpList_load_frame rfl _ rfl (w.heap.size + 1 + 1) _ ?_ hn2 ?_ ?_); rfl; rfl) | ((with_reducible refine wpList_store_frame rfl _ _ rfl (w.heap.size + 1) #[.int .i64 0, .int .u32 0, .string ⟨#[]⟩] _ ?_ ?_ hr2 ?_ ?_ ?_ ?_); rfl; rfl; rfl; rfl; rfl) | (go_at_call 104; refine HR2.out.mono ?_; rintro e w' ⟨rfl, rfl⟩))
      refine bodyPost_ret (results_frame2 rfl _ _ (w.heap.size + 1) _ rfl (hinv2.ret _).1 rfl) rfl ⟨?_, (hinv2.ret _).2⟩
      rw [HV.out]; rfl
    have q4 : decide (256 ≤ vu (getN s 120)) = false := by unfold vu; simp; omega
    have HV0 : Hid (openCode p s = if tailZ s = false then 6 else if (getN s 120).toNat ≠ p then 72 else 0) := by
      simp [Hid, openCode, hz, hsum, t0, t1, t2, t3, t4]
    clear hsum hz t0 t1 t3 t4
    obtain ⟨m, hm'⟩ : ∃ m, m = (sat s 2).toNat := ⟨_, rfl⟩
    rw [← hm'] at hm t2
    obtain ⟨off, hoff, hsl⟩ : ∃ off, (0 < 112 - m → off = 8 + m) ∧ ∀ W, (Instr.sliceAt 53 (.pointer (some ⟨w.heap.size, 0, none⟩)) (some (.int .i64 (8 + vb (sat s 2)))) (some (.int .i64 120)) (some (.int .i64 120))).run Tryz.prog W = .ok (.slice (some ⟨w.heap.size, off, none⟩) (112 - m) (112 - m)) W := by
      rw [hm]
      by_cases hlt : 8 + m < 120
      · refine ⟨8 + m, fun _ => rfl, fun W => ?_⟩
        have := run_slice3_sector w.heap.size (8 + m) 120 hlt (by omega) W
        rw [show 120 - (8 + m) = 112 - m by omega] at this
        exact this
      · obtain rfl : m = 112 := by omega
        exact ⟨0, fun h => by omega, fun W => by
          have hb := run_bound
          simp only [Instr.sliceAt, Sem.run_bind, run_underlying Tryz.underlying53, Result.andThen_ok, Instr.sureAddr, Instr.sliceBounds, Sem.run_pure, byte_size]
          rw [show (8 : Int) + ((112 : Nat) : Int) = ((120 : Nat) : Int) from rfl, show (120 : Int) = ((120 : Nat) : Int) from rfl, hb 120 128 _ (by omega), Result.andThen_ok, hb 120 120 _ (by omega), Result.andThen_ok, hb 120 120 _ (by omega), Result.andThen_ok]
          rfl⟩
    have HM : Hid (vb (sat s 2) = (m : Int) ∧ m = (sat s 2).toNat) := ⟨hm, hm'⟩
    clear hm hm'
    obtain ⟨L, hL⟩ : ∃ L, L = 112 - m := ⟨_, rfl⟩
    rw [← hL] at hoff hsl
    have HLL := Lib.hid hL
    have hL1 : L ≤ 112 := by omega
    clear hL
    go_wp2_with (go_at_call 104; refine HR2.out.mono ?_; rintro e w' ⟨rfl, rfl⟩)
    clear hsl q0 q1 q2 q3 q4 hq s0 s3 d1 d2
    go_loop [79] (fun i => ∃ k : Nat, k ≤ L ∧ i = .int .i64 k ∧ TailTo s m k) (fun i => L - (intOf i).toNat)
    case atStart => exact ⟨0, Nat.zero_le _, rfl, fun j hj => by omega⟩
    case round =>
      obtain ⟨k, hk, rfl, ht⟩ := hrel
      by_cases hlt : k < L
      · obtain rfl := hoff (by omega)
        have hkk : 8 + m + k < 128 := by have := HLL.out; omega
        have hc : w'.cell? ⟨w.heap.size, 8 + m + k, none⟩ = some (.int .u8 (vb (sat s (8 + m + k)))) := (cell_of_row w' _ _ _ _ _ hs2).trans (sec_get s _ hkk)
        by_cases hb0 : sat s (8 + m + k) = 0
        · have qb : (vb (sat s (8 + m + k)) != 0) = false := by rw [show (0 : Int) = vb 0 from rfl, g_ne8]; simpa using hb0
          have ht' : TailTo s m (k + 1) := fun j hj => by
            rcases Nat.lt_or_ge j k with h | h
            · exact ht j h
            · rw [show j = k by omega]; exact hb0
          have HT := Lib.hid ht'
          clear hb0 ht ht' hoff
          go_wp2
          go_round
          case rel => exact ⟨k + 1, by omega, by go_num, HT.out⟩
          case measure => simp [intOf]; omega
        · have qb : (vb (sat s (8 + m + k)) != 0) = true := by rw [show (0 : Int) = vb 0 from rfl, g_ne8]; simpa using hb0
          have HV : Hid (openV p s = .tuple #[frV 0 0#32 ByteArray.empty, .int .i64 6]) := by
            have h1 := TailTo.bad HM.out.2 (by have := HLL.out; omega) hb0
            simp [Hid, openV, HV0.out, h1]
          clear hb0 ht hoff
          go_wp2_with (first | ((with_reducible refine wpList_load_frame rfl _ rfl (w.heap.size + 1 + 1) _ ?_ hn2 ?_ ?_); rfl; rfl) | ((with_reducible refine wpList_store_frame rfl _ _ rfl (w.heap.size + 1) #[.int .i64 0, .int .u32 0, .string ⟨#[]⟩] _ ?_ ?_ hr2 ?_ ?_ ?_ ?_); rfl; rfl; rfl; rfl; rfl) | (go_at_call 104; refine HR2.out.mono ?_; rintro e w' ⟨rfl, rfl⟩))
          refine bodyPost_ret (results_frame2 rfl _ _ (w.heap.size + 1) _ rfl (hinv2.ret _).1 rfl) rfl ⟨?_, (hinv2.ret _).2⟩
          rw [HV.out]; rfl
      · have htz : tailZ s = true := TailTo.good HM.out.2 (by have := HLL.out; rw [← this, show L = k by omega]; exact ht)
        have HV1 : Hid (openCode p s = if (getN s 120).toNat ≠ p then 72 else 0) := by
          have := HV0.out
          rw [htz] at this
          show openCode p s = _
          simpa using this
        clear htz ht hoff HV0
        by_cases hpl : (getN s 120).toNat = p
        · have q5 : (vu (getN s 120) != (p : Int)) = false := by simp [vu, hpl]
          have HV : Hid (openV p s = .tuple #[frV (vb (sat s 1)) (getN s 4) (frData s), .int .i64 0]) := by
            simp [Hid, openV, HV1.out, hpl]
          clear hpl HV1
          go_wp2_with (go_at_call 104; refine HR2.out.mono ?_; rintro e w' ⟨rfl, rfl⟩)
          have hsl2 : ∀ W, (Instr.sliceAt 53 (.pointer (some ⟨w.heap.size, 0, none⟩)) (some (.int .i64 8)) (some (.int .i64 (8 + vb (sat s 2)))) none).run Tryz.prog W = .ok (.slice (some ⟨w.heap.size, 8, none⟩) m 120) W := fun W => by
            rw [HM.out.1]
            have := run_slice2_sector w.heap.size 8 (8 + m) (by omega) (by omega) (by omega) W
            rw [show 8 + m - 8 = m by omega] at this
            exact this
          have hcv : (convert 96 9 (.slice (some ⟨w.heap.size, 8, none⟩) m 120)).run Tryz.prog w'.drew = .ok (.string (frData s)) w'.drew := by
            have := run_string_sector w'.drew w.heap.size 8 m 120 s _ hs2 (by omega)
            rw [this, frData, ← HM.out.2]
          have HR4 := Lib.hid (numread_any (w.heap.size + 1 + 1 + 1) w.heap.size 4 s _ w'.drew (by omega) (cell_of_row w' _ 0 _ _ _ hinv2.h1) hs2)
          have r0 : w'.cell? ⟨w.heap.size + 1, 0, none⟩ = some (.int .i64 0) := cell_of_row w' _ 0 _ _ _ hr2
          have r1 : w'.cell? ⟨w.heap.size + 1, 1, none⟩ = some (.int .u32 0) := cell_of_row w' _ 1 _ _ _ hr2
          have r2 : w'.cell? ⟨w.heap.size + 1, 2, none⟩ = some (.string ⟨#[]⟩) := cell_of_row w' _ 2 _ _ _ hr2
          have f0 : w'.frozen? ⟨w.heap.size + 1, 0, none⟩ = false := frozen_of_row w' _ _ _ _ hr2
          have f1 : w'.frozen? ⟨w.heap.size + 1, 1, none⟩ = false := frozen_of_row w' _ _ _ _ hr2
          have f2 : w'.frozen? ⟨w.heap.size + 1, 2, none⟩ = false := frozen_of_row w' _ _ _ _ hr2
          have b1 := byte_int (sat s 1)
          go_region_with (go_at_call 104; refine HR4.out.mono ?_; rintro e w' ⟨rfl, rfl⟩)
          all_goals go_wp2
          all_goals
            refine bodyPost_ret (results_frame2 rfl _ _ (w.heap.size + 1) #[.int .i64 (vb (sat s 1)), .int .u32 (vu (getN s 4)), .string (frData s)] rfl (hinv2.put3 _ _ _).1 rfl) rfl ⟨?_, (hinv2.put3 _ _ _).2⟩
            rw [HV.out]; rfl
        · have q5 : (vu (getN s 120) != (p : Int)) = true := by simp [vu]; omega
          have HV : Hid (openV p s = .tuple #[frV 0 0#32 ByteArray.empty, .int .i64 72]) := by
            simp [Hid, openV, HV1.out, hpl]
          clear hpl HV1
          go_wp2_with (first | ((with_reducible refine wpList_load_frame rfl _ rfl (w.heap.size + 1 + 1) _ ?_ hn2 ?_ ?_); rfl; rfl) | ((with_reducible refine wpList_store_frame rfl _ _ rfl (w.heap.size + 1) #[.int .i64 0, .int .u32 0, .string ⟨#[]⟩] _ ?_ ?_ hr2 ?_ ?_ ?_ ?_); rfl; rfl; rfl; rfl; rfl) | (go_at_call 104; refine HR2.out.mono ?_; rintro e w' ⟨rfl, rfl⟩))
          refine bodyPost_ret (results_frame2 rfl _ _ (w.heap.size + 1) _ rfl (hinv2.ret _).1 rfl) rfl ⟨?_, (hinv2.ret _).2⟩
          rw [HV.out]; rfl
end Go.Proofs.YtfbkfdoekgnldaaGreatDoor
