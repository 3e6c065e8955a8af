/- The examples that each statement on frames asks first. -/
import Derived.Test.YtghaaonghlfepaaDoorOpenW
namespace Go.Proofs.YtghaaonghlfepaaDoor
open Go.RowKit
open Lime
attribute [local go_sem high] q_shr32 q_shl32 q_shr32k q_shl32k q_shr32n q_shl32n g_com32 run_eql_sector run_neq_sector
attribute [local go_sem] g_xor32 g_or32 g_add32 g_wrap8 vu_nonneg g_same32 g_lo8 setRow_alloc_at setRow_alloc_past setRow_drew sec_set sec_set76 g_same8 sec_get g_ne32 g_eq32
def exL : List UInt8 := [76, 2, 2, 0, 2, 1, 0, 0] ++ ([97, 98, 0, 0, 0, 0, 0, 0] ++ ([0, 0, 0, 0, 0, 0, 0, 0] ++ ([0, 0, 0, 0, 0, 0, 0, 0] ++ ([0, 0, 0, 0, 0, 0, 0, 0] ++ ([0, 0, 0, 0, 0, 0, 0, 0] ++ ([0, 0, 0, 0, 0, 0, 0, 0] ++ ([0, 0, 0, 0, 0, 0, 0, 0] ++ ([0, 0, 0, 0, 0, 0, 0, 0] ++ ([0, 0, 0, 0, 0, 0, 0, 0] ++ ([0, 0, 0, 0, 0, 0, 0, 0] ++ ([0, 0, 0, 0, 0, 0, 0, 0] ++ ([0, 0, 0, 0, 0, 0, 0, 0] ++ ([0, 0, 0, 0, 0, 0, 0, 0] ++ ([0, 0, 0, 0, 0, 0, 0, 0] ++ ([3, 0, 0, 0])))))))))))))))
theorem ex_crc : crc exL = 3112780839#32 := by
  unfold crc on exL
  rw [reg_append,
    show reg (~~~0#32) [76, 2, 2, 0, 2, 1, 0, 0] = 2507400618#32 by decide +kernel,
    reg_append,
    show reg 2507400618#32 [97, 98, 0, 0, 0, 0, 0, 0] = 4264384530#32 by decide +kernel,
    reg_append,
    show reg 4264384530#32 [0, 0, 0, 0, 0, 0, 0, 0] = 1653762386#32 by decide +kernel,
    reg_append,
    show reg 1653762386#32 [0, 0, 0, 0, 0, 0, 0, 0] = 3127996136#32 by decide +kernel,
    reg_append,
    show reg 3127996136#32 [0, 0, 0, 0, 0, 0, 0, 0] = 297125821#32 by decide +kernel,
    reg_append,
    show reg 297125821#32 [0, 0, 0, 0, 0, 0, 0, 0] = 1406033543#32 by decide +kernel,
    reg_append,
    show reg 1406033543#32 [0, 0, 0, 0, 0, 0, 0, 0] = 2118505718#32 by decide +kernel,
    reg_append,
    show reg 2118505718#32 [0, 0, 0, 0, 0, 0, 0, 0] = 2147483626#32 by decide +kernel,
    reg_append,
    show reg 2147483626#32 [0, 0, 0, 0, 0, 0, 0, 0] = 526430027#32 by decide +kernel,
    reg_append,
    show reg 526430027#32 [0, 0, 0, 0, 0, 0, 0, 0] = 793801269#32 by decide +kernel,
    reg_append,
    show reg 793801269#32 [0, 0, 0, 0, 0, 0, 0, 0] = 4190448697#32 by decide +kernel,
    reg_append,
    show reg 4190448697#32 [0, 0, 0, 0, 0, 0, 0, 0] = 2526979733#32 by decide +kernel,
    reg_append,
    show reg 2526979733#32 [0, 0, 0, 0, 0, 0, 0, 0] = 976353602#32 by decide +kernel,
    reg_append,
    show reg 976353602#32 [0, 0, 0, 0, 0, 0, 0, 0] = 3202993845#32 by decide +kernel,
    reg_append,
    show reg 3202993845#32 [0, 0, 0, 0, 0, 0, 0, 0] = 2626207786#32 by decide +kernel,
    show reg 2626207786#32 [3, 0, 0, 0] = 1182186456#32 by decide +kernel]
  rfl
/-- the sector of the example, byte by byte -/
def exS : Sector := ⟨#[76, 2, 2, 0, 2, 1, 0, 0, 97, 98, 0, 0, 0, 0, 0, 0, 0, 0, 0, 0, 0, 0, 0, 0, 0, 0, 0, 0, 0, 0, 0, 0, 0, 0, 0, 0, 0, 0, 0, 0, 0, 0, 0, 0, 0, 0, 0, 0, 0, 0, 0, 0, 0, 0, 0, 0, 0, 0, 0, 0, 0, 0, 0, 0, 0, 0, 0, 0, 0, 0, 0, 0, 0, 0, 0, 0, 0, 0, 0, 0, 0, 0, 0, 0, 0, 0, 0, 0, 0, 0, 0, 0, 0, 0, 0, 0, 0, 0, 0, 0, 0, 0, 0, 0, 0, 0, 0, 0, 0, 0, 0, 0, 0, 0, 0, 0, 0, 0, 0, 0, 3, 0, 0, 0, 39, 68, 137, 185], rfl⟩

theorem ex_num : (sealNum 2 2 [97, 98] 258#32 3).toList.take 124 = exL := by decide +kernel
theorem ex_seal : sealOf 2 2 [97, 98] 258#32 3 = exS := by
  rw [sealOf, ex_num, ex_crc]
  apply Vector.toArray_inj.1
  decide +kernel
theorem ex_take : exS.toList.take 124 = exL := by decide +kernel
theorem ex_ne : ¬ exS = zsec := by decide +kernel
theorem ex_code (p : Nat) : openCode p exS = if 3 ≠ p then 72 else 0 := by
  have h1 : getN exS 124 = crc (exS.toList.take 124) := by rw [ex_take, ex_crc]; decide +kernel
  have h2 : ¬ (sat exS 0 ≠ 76 ∨ sat exS 1 = 0 ∨ 112 < (sat exS 2).toNat ∨ sat exS 3 ≠ 0 ∨ 256 ≤ (getN exS 120).toNat) := by decide +kernel
  have h3 : tailZ exS = true := by decide +kernel
  have h4 : (getN exS 120).toNat = 3 := by decide +kernel
  rw [openCode, if_neg ex_ne, if_neg (fun h => h h1), if_neg h2, h3, h4]
  rfl
theorem ex_open3 : openV 3 exS = .tuple #[.agg #[.int .i64 2, .int .u32 258, .string ⟨#[97, 98]⟩], .int .i64 0] := by
  have h0 : openCode 3 exS = 0 := ex_code 3
  have h1 : sat exS 1 = 2 := by decide +kernel
  have h2 : getN exS 4 = 258#32 := by decide +kernel
  have h3 : frData exS = ⟨#[97, 98]⟩ := by
    have : ((exS.toList.drop 8).take (sat exS 2).toNat) = [97, 98] := by decide +kernel
    rw [frData, this]
  rw [openV, h0, h1, h2, h3]; rfl
theorem ex_open4 : openV 4 exS = .tuple #[.agg #[.int .i64 0, .int .u32 0, .string ⟨#[]⟩], .int .i64 72] := by
  have h0 : openCode 4 exS = 72 := ex_code 4
  rw [openV, h0]; rfl
theorem ex_blank : openV 3 zsec = .tuple #[.agg #[.int .i64 0, .int .u32 0, .string ⟨#[]⟩], .int .i64 70] := by
  have h0 : openCode 3 zsec = 70 := by rw [openCode, if_pos rfl]
  rw [openV, h0]; rfl
theorem ex_12 : (⟨((exS.toList.drop 0).take 12).toArray⟩ : ByteArray) = ⟨#[76, 2, 2, 0, 2, 1, 0, 0, 97, 98, 0, 0]⟩ := by
  have : ((exS.toList.drop 0).take 12) = [76, 2, 2, 0, 2, 1, 0, 0, 97, 98, 0, 0] := by decide +kernel
  rw [this]
theorem ex_120 : sat exS 120 = 3 := by decide +kernel
theorem ex_121 : sat exS 121 = 0 := by decide +kernel
set_option maxRecDepth 100000 in
set_option maxHeartbeats 2000000 in
theorem awake_any (w : World) (hh : HalfLaid w) :
    Calls Tryd.prog 10 #[] w fun e w' => e = .returned (.bool true) ∧ Below w.heap.size w w' := by
  have hc1 := seal_ok 3 2 2 258#32 ⟨#[97, 98]⟩ w (by decide) (by decide) (by decide) (by decide) hh
  rw [show (⟨#[97, 98]⟩ : ByteArray).data.toList = [97, 98] from rfl, ex_seal] at hc1
  have HC1 := Lib.hid hc1
  clear hc1
  go_enter Tryd.func10, Tryd.ntmps10
  go_wp2_with fail
  refine HC1.out.mono ?_
  clear HC1
  rintro e w1 ⟨rfl, hB1⟩
  go_wp2_with (first | (with_reducible refine wpList_alloc_sector rfl rfl ?_) | ((with_reducible refine wpList_store_sector rfl _ _ rfl w1.heap.size exS zsec ?_ ?_ ?_ ?_); rfl; rfl; exact heap_alloc_new _ _) | ((with_reducible refine wpList_load_sector rfl _ rfl w1.heap.size exS ?_ ?_ ?_); rfl; exact heap_alloc_new _ _))
  have hBa : Below w.heap.size w (w1.alloc (.cells (sec exS) 27)) := hB1.alloc hB1.size _
  have hsa : (w1.alloc (.cells (sec exS) 27)).heap[w1.heap.size]? = some (.cells (sec exS) 27 (0, 0)) := heap_alloc_new _ _
  have hc2 := open_any 3 exS _ (by decide) (hh.below hBa)
  rw [ex_open3] at hc2
  refine hc2.mono ?_
  clear hc2
  rintro e w2 ⟨rfl, hB2⟩
  have hs2 := (hB2.block w1.heap.size (by simp)).trans hsa
  have hz2 : w1.heap.size < w2.heap.size := (Array.getElem?_eq_some_iff.1 hs2).1
  have hBb : Below w.heap.size w w2 := hBa.trans (hB2.mono hBa.size)
  clear hB2 hsa hBa
  go_wp2_with ((with_reducible refine wpList_load_sector rfl _ rfl w1.heap.size exS ?_ ?_ ?_); rfl; exact (Below.heap_alloc _ _ _ hz2).trans hs2)
  have hBc : Below w.heap.size w (w2.alloc (.cells #[.int .i64 2, .int .u32 258, .string ⟨#[97, 98]⟩] 24)) := hBb.alloc hBb.size _
  have hfc : (w2.alloc (.cells #[.int .i64 2, .int .u32 258, .string ⟨#[97, 98]⟩] 24)).heap[w2.heap.size]? = some (.cells #[.int .i64 2, .int .u32 258, .string ⟨#[97, 98]⟩] 24 (0, 0)) := heap_alloc_new _ _
  have hc3 := open_any 4 exS _ (by decide) (hh.below hBc)
  rw [ex_open4] at hc3
  refine hc3.mono ?_
  clear hc3
  rintro e w3 ⟨rfl, hB3⟩
  have hs3 := (hB3.block w1.heap.size (by simp; omega)).trans ((Below.heap_alloc _ _ _ hz2).trans hs2)
  have hf3 := (hB3.block w2.heap.size (by simp)).trans hfc
  have hBd : Below w.heap.size w w3 := hBc.trans (hB3.mono hBc.size)
  have hz3 : w2.heap.size < w3.heap.size := (Array.getElem?_eq_some_iff.1 hf3).1
  clear hB3 hBc hfc hBb hs2
  go_wp2_with (with_reducible refine wpList_build_sector rfl rfl ?_)
  have hBe := hBd.alloc hBd.size (.cells #[.int .i64 0, .int .u32 0, .string ⟨#[]⟩] 24)
  have hc4 := open_any 3 zsec _ (by decide) (hh.below hBe)
  rw [ex_blank] at hc4
  refine hc4.mono ?_
  clear hc4
  rintro e w4 ⟨rfl, hB4⟩
  have hs4 := (hB4.block w1.heap.size (by simp; omega)).trans ((Below.heap_alloc _ _ _ (by omega)).trans hs3)
  have hf4 := (hB4.block w2.heap.size (by simp; omega)).trans ((Below.heap_alloc _ _ _ hz3).trans hf3)
  have hBf : Below w.heap.size w w4 := hBe.trans (hB4.mono hBe.size)
  have hz4 : w2.heap.size < w4.heap.size := (Array.getElem?_eq_some_iff.1 hf4).1
  clear hB4 hBe hBd hs3 hf3
  have c0 : w4.cell? ⟨w2.heap.size, 0, none⟩ = some (.int .i64 2) := cell_of_row w4 _ 0 _ _ _ hf4
  have c1 : w4.cell? ⟨w2.heap.size, 1, none⟩ = some (.int .u32 258) := cell_of_row w4 _ 1 _ _ _ hf4
  have c2 : w4.cell? ⟨w2.heap.size, 2, none⟩ = some (.string ⟨#[97, 98]⟩) := cell_of_row w4 _ 2 _ _ _ hf4
  have hz5 : w1.heap.size < w4.heap.size := by omega
  have hsl := fun W => run_slice_to_sector w1.heap.size 12 (by omega) W
  have hcv : (convert 44 9 (.slice (some ⟨w1.heap.size, 0, none⟩) 12 128)).run Tryd.prog (w4.alloc (.cells #[.int .i64 0, .int .u32 0, .string ⟨#[]⟩] 24)) = .ok (.string ⟨#[76, 2, 2, 0, 2, 1, 0, 0, 97, 98, 0, 0]⟩) (w4.alloc (.cells #[.int .i64 0, .int .u32 0, .string ⟨#[]⟩] 24)) := by
    rw [run_string_sector _ w1.heap.size 0 12 128 exS _ ((Below.heap_alloc _ _ _ (by omega)).trans hs4) (by omega), ex_12]
  have p0 : w4.cell? ⟨w1.heap.size, 120, none⟩ = some (.int .u8 3) := by rw [cell_of_row w4 _ 120 _ _ _ hs4, sec_get _ _ (by omega), ex_120]; rfl
  have p1 : w4.cell? ⟨w1.heap.size, 121, none⟩ = some (.int .u8 0) := by rw [cell_of_row w4 _ 121 _ _ _ hs4, sec_get _ _ (by omega), ex_121]; rfl
  go_wp2
  go_ret
  exact ⟨rfl, hBf.alloc hBf.size _⟩
end Go.Proofs.YtghaaonghlfepaaDoor
