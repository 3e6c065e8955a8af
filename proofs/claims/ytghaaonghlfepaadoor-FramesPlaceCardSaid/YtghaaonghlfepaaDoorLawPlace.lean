/- The walk of the statement FramesPlace. -/
import Derived.Test.YtghaaonghlfepaaDoorOddB
namespace Go.Proofs.YtghaaonghlfepaaDoor
open Go.RowKit
open Lime
attribute [local go_sem high] q_shr32 q_shl32 q_shr32k q_shl32k q_shr32n q_shl32n g_com32 run_eql_sector run_neq_sector
attribute [local go_sem] g_xor32 g_or32 g_add32 g_wrap8 vu_nonneg g_same32 g_lo8 setRow_alloc_at setRow_alloc_past setRow_drew sec_set sec_set76 g_same8 sec_get g_ne32 g_eq32 g_kind g_w64_8
set_option maxRecDepth 100000 in
set_option maxHeartbeats 1000000 in
theorem place_walk (at_ other : UInt8) (k : Int) (q : BitVec 32) (d : ByteArray) (ch : Value) (fx : Bool) (w : World) (hd : d.size ≤ 9223372036854775807) (hh : HalfLaid w) :
    Calls Tryd.prog 6 #[.agg (oddC at_ k q d ch fx), .int .u8 (vb other)] w fun e w' =>
      e = .returned (.bool true) ∧ Below w.heap.size w w' := by
  have hBa := (Below.refl w.heap.size w).alloc (Nat.le_refl _) (.cells (oddC at_ k q d ch fx) 34)
  by_cases hl : 112 < d.size
  · go_enter Tryd.func6, Tryd.ntmps6
    unfold oddC at *
    go_wp2_with fail
    refine (awake_any _ (hh.below hBa)).mono ?_
    rintro e w1 ⟨rfl, hB⟩
    go_wp2
    go_ret
    exact ⟨rfl, hBa.trans (hB.mono hBa.size)⟩
  · go_enter Tryd.func6, Tryd.ntmps6
    have hla : (w.alloc (.cells (oddC at_ k q d ch fx) 34)).heap[w.heap.size]? = some (.cells (oddC at_ k q d ch fx) 34 (0, 0)) := heap_alloc_new _ _
    unfold oddC at *
    go_wp2_with fail
    have hd1 : d.data.toList.length = d.size := by simp
    obtain ⟨lb, hlb⟩ : ∃ lb : UInt8, vb lb = d.size := ⟨UInt8.ofNat d.size, by unfold vb; simp; omega⟩
    have hlb' : lb.toNat = d.data.toList.length := by rw [hd1]; unfold vb at hlb; omega
    refine (seal_ok at_.toNat (kindB k) lb q d _ at_.toNat_lt (kind_one k) (by omega) hlb (hh.below hBa)).mono ?_
    rintro e w1 ⟨rfl, hB⟩
    have hf1 := (hB.block w.heap.size (by simp)).trans hla
    have hB1 : Below w.heap.size w w1 := hBa.trans (hB.mono hBa.size)
    have hz1 : w.heap.size < w1.heap.size := (Array.getElem?_eq_some_iff.1 hf1).1
    have c0 : w1.cell? ⟨w.heap.size, 0, none⟩ = some (.int .u8 (vb at_)) := cell_of_row w1 _ 0 _ _ _ hf1
    have ho := open_seal (kindB k) lb d.data.toList q at_.toNat other.toNat (by omega) hlb' (kind_ne k) at_.toNat_lt
    obtain ⟨S, hS⟩ : ∃ S, sealOf (kindB k) lb d.data.toList q at_.toNat = S := ⟨_, rfl⟩
    rw [hS] at ho ⊢
    clear hS hB hBa hla hlb hlb' hd1 hf1
    go_wp2_with (first | (with_reducible refine wpList_alloc_sector rfl rfl ?_) | ((with_reducible refine wpList_store_sector rfl _ _ rfl w1.heap.size S zsec ?_ ?_ ?_ ?_); rfl; rfl; exact heap_alloc_new _ _) | ((with_reducible refine wpList_load_sector rfl _ rfl w1.heap.size S ?_ ?_ ?_); rfl; exact heap_alloc_new _ _))
    have hBb := hB1.alloc hB1.size (.cells (sec S) 27)
    refine (open_any other.toNat S _ other.toNat_lt (hh.below hBb)).mono ?_
    rintro e w2 ⟨rfl, hB⟩
    have hB2 : Below w.heap.size w w2 := hBb.trans (hB.mono hBb.size)
    have c2 : w2.cell? ⟨w.heap.size, 0, none⟩ = some (.int .u8 (vb at_)) := by
      exact ((hB.cell (by simp; omega)).trans (World.cell?_of_block (Below.heap_alloc _ _ _ hz1))).trans c0
    obtain ⟨fk, fq, fd, hV, -, -⟩ := openV_shape other.toNat S
    rw [hV]
    have hBc := hB2.alloc hB2.size (.cells #[.int .i64 fk, .int .u32 (vu fq), .string fd] 24)
    have hz2 : w.heap.size < w2.heap.size := by have := hB.size; simp at this; omega
    have HA := Lib.hid (awake_any _ (hh.below hBc))
    clear hB hBb hV hB1 c0 hz1 hB2
    by_cases he : at_ = other
    · subst he
      rw [if_neg (fun h => h rfl)] at ho
      rw [ho]
      clear ho
      go_wp2_with (go_at_call 10; refine HA.out.mono ?_; rintro e w3 ⟨rfl, hB3⟩)
      go_ret
      exact ⟨rfl, hBc.trans (hB3.mono hBc.size)⟩
    · have hq : (vb other == vb at_) = false := by rw [g_eq8]; simpa using fun h => he h.symm
      rw [if_pos (fun h => he (UInt8.toNat_inj.1 h))] at ho
      rw [ho]
      clear ho he
      go_wp2_with (go_at_call 10; refine HA.out.mono ?_; rintro e w3 ⟨rfl, hB3⟩)
      go_ret
      exact ⟨rfl, hBc.trans (hB3.mono hBc.size)⟩
end Go.Proofs.YtghaaonghlfepaaDoor
