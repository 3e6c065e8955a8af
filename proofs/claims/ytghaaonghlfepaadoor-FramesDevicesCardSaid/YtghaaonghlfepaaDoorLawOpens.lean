/- The walk of the statement FramesOpens. -/
import Derived.Test.YtghaaonghlfepaaDoorOddW
import Derived.Test.YtghaaonghlfepaaDoorKeep
namespace Go.Proofs.YtghaaonghlfepaaDoor
open Go.RowKit
open Lime
attribute [local go_sem high] q_shr32 q_shl32 q_shr32k q_shl32k q_shr32n q_shl32n g_com32 run_eql_sector run_neq_sector
attribute [local go_sem] g_xor32 g_or32 g_add32 g_wrap8 vu_nonneg g_same32 g_lo8 setRow_alloc_at setRow_alloc_past setRow_drew sec_set sec_set76 g_same8 sec_get g_ne32 g_eq32 g_kind g_w64_8
theorem ChAt.below {w w' : World} {ch : Value} {l : List (UInt8 × UInt8)} (h : ChAt w ch l) (hb : Below w.heap.size w w') : ChAt w' ch l := by
  obtain ⟨a, cap, e, hl, hc⟩ := h
  refine ⟨a, cap, e, hl, ?_⟩
  rcases hc with h | ⟨b, off, ha, hlt, hc⟩
  · exact .inl h
  · exact .inr ⟨b, off, ha, Nat.lt_of_lt_of_le hlt hb.size, fun i hi => ⟨(hb.cell (p := ⟨b, off + i * 2, none⟩) hlt).trans (hc i hi).1, (hb.cell (p := ⟨b, off + i * 2 + 1, none⟩) hlt).trans (hc i hi).2⟩⟩
/-- what Open returns, at whatever place -/
def openVI (p : Int) (s : Sector) : Value := if 0 ≤ p ∧ p < 256 then openV p.toNat s else .tuple #[frV 0 0#32 ByteArray.empty, .int .i64 7]
theorem open_int_any (p : Int) (s : Sector) (w : World) (hh : HalfLaid w) :
    Calls Tryd.prog 14 #[.int .i64 p, .agg (sec s)] w fun e w' => e = .returned (openVI p s) ∧ Below w.heap.size w w' := by
  unfold openVI
  by_cases h : 0 ≤ p ∧ p < 256
  · rw [if_pos h]
    have := open_any p.toNat s w (by omega) hh
    rwa [show ((p.toNat : Nat) : Int) = p by omega] at this
  · rw [if_neg h]; exact open_range p s w (by omega)
theorem refopen_int_any (p : Int) (s : Sector) (w : World) :
    Calls Tryd.prog 15 #[.int .i64 p, .agg (sec s)] w fun e w' => e = .returned (openVI p s) ∧ Below w.heap.size w w' := by
  unfold openVI
  by_cases h : 0 ≤ p ∧ p < 256
  · rw [if_pos h]
    have := refopen_any p.toNat s w (by omega)
    rwa [show ((p.toNat : Nat) : Int) = p by omega] at this
  · rw [if_neg h]; exact refopen_range p s w (by omega)
theorem openVI_shape (p : Int) (s : Sector) : ∃ (fk : Int) (fq : BitVec 32) (fd : ByteArray) (c : Int), openVI p s = .tuple #[.agg #[.int .i64 fk, .int .u32 (vu fq), .string fd], .int .i64 c] := by
  unfold openVI
  split
  · obtain ⟨fk, fq, fd, h, _⟩ := openV_shape p.toNat s
    exact ⟨fk, fq, fd, _, h⟩
  · exact ⟨0, 0#32, ByteArray.empty, 7, rfl⟩
def frC (fk : Int) (fq : BitVec 32) (fd : ByteArray) : Obj := .cells #[.int .i64 fk, .int .u32 (vu fq), .string fd] 24
set_option maxRecDepth 100000 in
set_option maxHeartbeats 2000000 in
theorem opens_walk (p : Int) (at_ : UInt8) (k : Int) (q : BitVec 32) (d : ByteArray) (ch : Value) (fx : Bool) (l : List (UInt8 × UInt8)) (w : World) (hd : d.size ≤ 9223372036854775807) (hch : ChAt w ch l) (hh : HalfLaid w) :
    Calls Tryd.prog 4 #[.int .i64 p, .agg (oddC at_ k q d ch fx)] w fun e w' =>
      e = .returned (.bool true) ∧ Below w.heap.size w w' := by
  have k0 := (Keep.start w).alloc (.cells (oddC at_ k q d ch fx) 34)
  have HO := Lib.hid (odd_any at_ k q d ch fx l (w.alloc (.cells (oddC at_ k q d ch fx) 34)) hd (hch.below k0.hB))
  go_enter Tryd.func4, Tryd.ntmps4
  unfold oddC at *
  go_wp2_with fail
  refine HO.out.mono ?_
  clear HO hch
  rintro e w1 ⟨s, rfl, hB⟩
  have k1 := k0.below hB
  clear hB k0
  have k2 := k1.alloc (.cells (sec s) 27)
  have hs := k2.at 0 _ rfl
  have H1 := Lib.hid (open_int_any p s _ (hh.below k2.hB))
  go_wp2_with (first | (with_reducible refine wpList_alloc_sector rfl rfl ?_) | ((with_reducible refine wpList_store_sector rfl _ _ rfl w1.heap.size s zsec ?_ ?_ ?_ ?_); rfl; rfl; exact heap_alloc_new _ _) | ((with_reducible refine wpList_load_sector rfl _ rfl w1.heap.size s ?_ hs ?_); rfl))
  refine H1.out.mono ?_
  clear H1 hs
  rintro e w2 ⟨rfl, hB⟩
  obtain ⟨fk, fq, fd, fc, hV⟩ := openVI_shape p s
  have HV := Lib.hid hV
  rw [hV]
  clear hV
  have k3 := (k2.below hB).alloc (.cells #[.int .i64 fk, .int .u32 (vu fq), .string fd] 24)
  clear hB k2 k1
  have hs := k3.at 1 _ rfl
  have H2 := Lib.hid (refopen_int_any p s (w2.alloc (.cells #[.int .i64 fk, .int .u32 (vu fq), .string fd] 24)))
  go_wp2_with ((with_reducible refine wpList_load_sector rfl _ rfl w1.heap.size s ?_ hs ?_); rfl)
  refine H2.out.mono ?_
  clear H2 hs
  rintro e w3 ⟨rfl, hB⟩
  rw [HV.out]
  clear HV
  have k4 := (k3.below hB).alloc (.cells #[.int .i64 fk, .int .u32 (vu fq), .string fd] 24)
  clear hB k3
  have hs := k4.at 2 _ rfl
  have c0 := k4.cell 3 w.heap.size _ _ rfl 0 (.int .u8 (vb at_)) rfl
  have H1 := Lib.hid (open_int_any (vb at_) s _ (hh.below k4.hB))
  have b8 := byte_int at_
  go_wp2_with ((with_reducible refine wpList_load_sector rfl _ rfl w1.heap.size s ?_ hs ?_); rfl)
  refine H1.out.mono ?_
  clear H1 hs c0
  rintro e w4 ⟨rfl, hB⟩
  obtain ⟨gk, gq, gd, gc, hV⟩ := openVI_shape (vb at_) s
  have HV := Lib.hid hV
  rw [hV]
  clear hV
  have k5 := (k4.below hB).alloc (.cells #[.int .i64 gk, .int .u32 (vu gq), .string gd] 24)
  clear hB k4
  have hs := k5.at 3 _ rfl
  have c0 := k5.cell 4 w.heap.size _ _ rfl 0 (.int .u8 (vb at_)) rfl
  have H2 := Lib.hid (refopen_int_any (vb at_) s (w4.alloc (.cells #[.int .i64 gk, .int .u32 (vu gq), .string gd] 24)))
  go_wp2_with ((with_reducible refine wpList_load_sector rfl _ rfl w1.heap.size s ?_ hs ?_); rfl)
  refine H2.out.mono ?_
  clear H2 hs c0
  rintro e w5 ⟨rfl, hB⟩
  rw [HV.out]
  clear HV
  have k5' := k5.below hB
  have k6 := k5'.alloc (.cells #[.int .i64 gk, .int .u32 (vu gq), .string gd] 24)
  clear hB k5
  have HA := Lib.hid (awake_any _ (hh.below k6.hB))
  have a0 := k5'.cell 0 w4.heap.size _ _ rfl 0 (.int .i64 gk) rfl
  have a1 := k5'.cell 0 w4.heap.size _ _ rfl 1 (.int .u32 (vu gq)) rfl
  have a2 := k5'.cell 0 w4.heap.size _ _ rfl 2 (.string gd) rfl
  have b0 := k5'.cell 1 w3.heap.size _ _ rfl 0 (.int .i64 fk) rfl
  have b1 := k5'.cell 1 w3.heap.size _ _ rfl 1 (.int .u32 (vu fq)) rfl
  have b2 := k5'.cell 1 w3.heap.size _ _ rfl 2 (.string fd) rfl
  have c0 := k5'.cell 2 w2.heap.size _ _ rfl 0 (.int .i64 fk) rfl
  have c1 := k5'.cell 2 w2.heap.size _ _ rfl 1 (.int .u32 (vu fq)) rfl
  have c2 := k5'.cell 2 w2.heap.size _ _ rfl 2 (.string fd) rfl
  have z4 := k5'.lt 0 _ rfl
  have z3 := k5'.lt 1 _ rfl
  have z2 := k5'.lt 2 _ rfl
  dsimp only at z4 z3 z2
  go_wp2_with (go_at_call 10; refine HA.out.mono ?_; rintro e w6 ⟨rfl, hB⟩)
  go_ret
  exact ⟨rfl, (k6.below hB).hB⟩
end Go.Proofs.YtghaaonghlfepaaDoor
