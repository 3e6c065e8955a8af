/- The walk of the statement FramesSeals: it returns true. -/
import Derived.Test.YtghaaonghlfepaaDoorRef7
import Derived.Test.YtghaaonghlfepaaDoorAwake7
namespace Go.Proofs.YtghaaonghlfepaaDoor
open Go.RowKit
open Lime
attribute [local go_sem high] q_shr32 q_shl32 q_shr32k q_shl32k q_shr32n q_shl32n g_com32 run_eql_sector run_neq_sector
attribute [local go_sem] g_xor32 g_or32 g_add32 g_wrap8 vu_nonneg g_same32 g_lo8 setRow_alloc_at setRow_alloc_past setRow_drew sec_set sec_set76 g_same8 sec_get g_ne32 g_eq32
theorem seqB_self (s : Sector) : seqB s s = true := by simp [seqB]
set_option maxRecDepth 100000 in
set_option maxHeartbeats 1000000 in
theorem seals_walk (p kind k : Int) (seq : BitVec 32) (d : ByteArray) (w : World) (hd : d.size ≤ 9223372036854775807) (hh : HalfLaid w) :
    Calls Tryd.prog 3 #[.int .i64 p, .int .i64 kind, .agg #[.int .i64 k, .int .u32 (vu seq), .string d]] w fun e w' =>
      e = .returned (.bool true) ∧ Below w.heap.size w w' := by
  have hgt : Tryd.prog.eqGuardType Tryd.prog.depth 27 = false := by kernel_rfl
  by_cases hl : 300 < d.size
  · go_enter Tryd.func3, Tryd.ntmps3
    go_wp2_with fail
    have hBa := (Below.refl w.heap.size w).alloc (Nat.le_refl _) (.cells #[.int .i64 k, .int .u32 (vu seq), .string d] 24)
    refine (awake_any _ (hh.below hBa)).mono ?_
    rintro e w1 ⟨rfl, hB⟩
    go_wp2
    go_ret
    exact ⟨rfl, hBa.trans (hB.mono hBa.size)⟩
  · go_enter Tryd.func3, Tryd.ntmps3
    go_wp2_with fail
    have hBa := (Below.refl w.heap.size w).alloc (Nat.le_refl _) (.cells #[.int .i64 k, .int .u32 (vu seq), .string d] 24)
    have hfa : (w.alloc (.cells #[.int .i64 k, .int .u32 (vu seq), .string d] 24)).heap[w.heap.size]? = some (.cells #[.int .i64 k, .int .u32 (vu seq), .string d] 24 (0, 0)) := heap_alloc_new _ _
    refine (seal_any p kind seq d _ hd (hh.below hBa)).mono ?_
    rintro e w1 ⟨rfl, hB⟩
    have hf1 := (hB.block w.heap.size (by simp)).trans hfa
    have hB1 : Below w.heap.size w w1 := hBa.trans (hB.mono hBa.size)
    have hz1 : w.heap.size < w1.heap.size := (Array.getElem?_eq_some_iff.1 hf1).1
    have c1 : w1.cell? ⟨w.heap.size, 1, none⟩ = some (.int .u32 (vu seq)) := cell_of_row w1 _ 1 _ _ _ hf1
    have c2 : w1.cell? ⟨w.heap.size, 2, none⟩ = some (.string d) := cell_of_row w1 _ 2 _ _ _ hf1
    clear hB hBa hfa
    obtain ⟨x, hx⟩ : ∃ x, sealS p kind seq d = x := ⟨_, rfl⟩
    have HX := Lib.hid hx
    rw [hx]
    clear hx
    obtain ⟨sx, cx⟩ := x
    unfold sealV
    dsimp only
    go_wp2_with (first | (with_reducible refine wpList_alloc_sector rfl rfl ?_) | ((with_reducible refine wpList_store_sector rfl _ _ rfl w1.heap.size sx zsec ?_ ?_ ?_ ?_); rfl; rfl; exact heap_alloc_new _ _))
    have hBb := hB1.alloc hB1.size (.cells (sec sx) 27)
    have hsb : (w1.alloc (.cells (sec sx) 27)).heap[w1.heap.size]? = some (.cells (sec sx) 27 (0, 0)) := heap_alloc_new _ _
    have hc2 := refseal_any p kind seq d (w1.alloc (.cells (sec sx) 27)) hd
    rw [HX.out] at hc2
    unfold sealV at hc2
    dsimp only at hc2
    refine hc2.mono ?_
    clear hc2
    rintro e w2 ⟨rfl, hB⟩
    have hs2 := (hB.block w1.heap.size (by simp)).trans hsb
    have hB2 : Below w.heap.size w w2 := hBb.trans (hB.mono hBb.size)
    have hz2 : w1.heap.size < w2.heap.size := (Array.getElem?_eq_some_iff.1 hs2).1
    have hBc := hB2.alloc hB2.size (.cells (sec sx) 27)
    have HA := Lib.hid (awake_any _ (hh.below hBc))
    have hss := seqB_self sx
    clear hB hBb hsb hf1 hB1 c1 c2
    go_wp2_with (first | (with_reducible refine wpList_alloc_sector rfl rfl ?_) | ((with_reducible refine wpList_store_sector rfl _ _ rfl w2.heap.size sx zsec ?_ ?_ ?_ ?_); rfl; rfl; exact heap_alloc_new _ _) | ((with_reducible refine wpList_load_sector rfl _ rfl w1.heap.size sx ?_ ?_ ?_); rfl; exact (Below.heap_alloc _ _ _ hz2).trans hs2) | ((with_reducible refine wpList_load_sector rfl _ rfl w2.heap.size sx ?_ ?_ ?_); rfl; exact heap_alloc_new _ _) | (go_at_call 10; refine HA.out.mono ?_; rintro e w3 ⟨rfl, hB3⟩))
    go_ret
    exact ⟨rfl, hBc.trans (hB3.mono hBc.size)⟩
end Go.Proofs.YtghaaonghlfepaaDoor
