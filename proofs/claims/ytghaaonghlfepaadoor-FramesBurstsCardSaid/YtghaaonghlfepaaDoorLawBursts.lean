/- The walk of the statement FramesBursts. -/
import Derived.Test.YtghaaonghlfepaaDoorFlip
namespace Go.Proofs.YtghaaonghlfepaaDoor
open Go.RowKit
open Lime
attribute [local go_sem high] q_shr32 q_shl32 q_shr32k q_shl32k q_shr32n q_shl32n g_com32 run_eql_sector run_neq_sector
attribute [local go_sem] g_xor32 g_or32 g_add32 g_wrap8 vu_nonneg g_same32 g_lo8 setRow_alloc_at setRow_alloc_past setRow_drew sec_set sec_set76 g_same8 sec_get g_ne32 g_eq32 g_kind g_w64_8 g_rem2 g_xor8
theorem of_u16 {n : Int} (h : (Lit.int .u16 n).wf = true) : ∃ b : Nat, n = (b : Int) ∧ b < 65536 := by
  have hb : 0 ≤ n ∧ n < 65536 := by
    simp only [Lit.wf, Bool.and_eq_true, decide_eq_true_eq] at h
    have h1 : IntKind.u16.min = 0 := by decide
    have h2 : IntKind.u16.max = 65535 := by decide
    omega
  exact ⟨n.toNat, by omega, by omega⟩
theorem shl_bit (m : Nat) (t : TypeId) : binOp .shl t (.int .u8 1) (.int .u64 ((m % 8 : Nat) : Int)) = pure (.int .u8 (vb (bit8 m))) := by
  have h8 : m % 8 < 8 := by omega
  have hb : bit8 m = bit8 (m % 8) := by unfold bit8; rw [Nat.mod_mod]
  rw [hb]
  generalize m % 8 = n at h8
  match n, h8 with
  | 0, _ => rfl
  | 1, _ => rfl
  | 2, _ => rfl
  | 3, _ => rfl
  | 4, _ => rfl
  | 5, _ => rfl
  | 6, _ => rfl
  | 7, _ => rfl
set_option maxRecDepth 100000 in
set_option maxHeartbeats 1000000 in
theorem bursts_walk (at_ : UInt8) (b : Nat) (wh : BitVec 32) (k : Int) (q : BitVec 32) (d : ByteArray) (ch : Value) (fx : Bool) (w : World) (hb16 : b < 65536) (hd : d.size ≤ 9223372036854775807) (hh : HalfLaid w) :
    Calls Tryd.prog 7 #[.agg (oddC at_ k q d ch fx), .int .u16 (b : Int), .int .u32 (vu wh)] w fun e w' =>
      e = .returned (.bool true) ∧ Below w.heap.size w w' := by
  have hBa := (Below.refl w.heap.size w).alloc (Nat.le_refl _) (.cells (oddC at_ k q d ch fx) 34)
  by_cases hl : 112 < d.size
  · go_enter Tryd.func7, Tryd.ntmps7
    unfold oddC at *
    go_wp2_with fail
    refine (awake_any _ (hh.below hBa)).mono ?_
    rintro e w1 ⟨rfl, hB⟩
    go_wp2
    go_ret
    exact ⟨rfl, hBa.trans (hB.mono hBa.size)⟩
  · go_enter Tryd.func7, Tryd.ntmps7
    have hla : (w.alloc (.cells (oddC at_ k q d ch fx) 34)).heap[w.heap.size]? = some (.cells (oddC at_ k q d ch fx) 34 (0, 0)) := heap_alloc_new _ _
    unfold oddC at *
    go_wp2_with fail
    have hd1 : d.data.toList.length = d.size := by simp
    obtain ⟨lb, hlb⟩ : ∃ lb : UInt8, vb lb = d.size := ⟨UInt8.ofNat d.size, by unfold vb; simp; omega⟩
    have hlb' : lb.toNat = d.data.toList.length := by rw [hd1]; unfold vb at hlb; omega
    refine (seal_ok at_.toNat (kindB k) lb q d _ at_.toNat_lt (kind_one k) (by omega) hlb (hh.below hBa)).mono ?_
    rintro e w1 ⟨rfl, hB⟩
    have hf1 := (hB.block w.heap.size (by simp)).trans hla
    have hB1 : Below w.heap.size w w1 := hBa.trans (hB.mono hBa.size)
    have hz1 : w.heap.size < w1.heap.size := (Array.getElem?_eq_some_iff.1 hf1).1
    have c0 : w1.cell? ⟨w.heap.size, 0, none⟩ = some (.int .u8 (vb at_)) := cell_of_row w1 _ 0 _ _ _ hf1
    obtain ⟨p, hp⟩ : ∃ p, p = b % 1024 := ⟨_, rfl⟩
    have ho := flip_open (kindB k) lb d.data.toList q at_.toNat p wh (by omega) hlb' (kind_ne k) at_.toNat_lt
    obtain ⟨S, hS⟩ : ∃ S, sealOf (kindB k) lb d.data.toList q at_.toNat = S := ⟨_, rfl⟩
    rw [hS] at ho ⊢
    have HO := Lib.hid ho
    clear ho
    clear hS hB hBa hla hlb hlb' hd1 hf1
    go_wp2_with (first | (with_reducible refine wpList_alloc_sector rfl rfl ?_) | ((with_reducible refine wpList_store_sector rfl _ _ rfl (w1.alloc (.cells (sec S) 27)).heap.size S zsec ?_ ?_ ?_ ?_); rfl; rfl; exact heap_alloc_new _ _) | ((with_reducible refine wpList_store_sector rfl _ _ rfl w1.heap.size S zsec ?_ ?_ ?_ ?_); rfl; rfl; exact heap_alloc_new _ _) | ((with_reducible refine wpList_load_sector rfl _ rfl w1.heap.size S ?_ ?_ ?_); rfl; exact heap_alloc_new _ _))
    go_loopw [10] (fun i wr => ∃ j : Nat, j ≤ 32 ∧ i = .int .i64 j ∧ wr = (w1.alloc (.cells (sec (flipK S p wh j)) 27)).alloc (.cells (sec S) 27)) (fun i _ => 32 - (intOf i).toNat)
    case atStart => exact ⟨0, by omega, rfl, rfl⟩
    case round =>
      obtain ⟨j, hj, rfl, rfl⟩ := hrel
      by_cases hlt : j < 32
      · have hpm : p < 1024 := by omega
        have hmod : ((b : Int)).tmod 1024 = (p : Int) := by rw [Int.tmod_eq_emod_of_nonneg (by omega)]; omega
        clear hp
        obtain ⟨m, hm⟩ : ∃ m, m = p + j := ⟨_, rfl⟩
        have hms : (p : Int) + (j : Int) = (m : Int) := by omega
        have HM := Lib.hid hm
        clear hm
        by_cases h1 : m < 1024
        · cases h2 : odd32 (wh >>> j)
          · have hfl : flipK S p wh (j + 1) = flipK S p wh j := by rw [flipK, h2]; simp
            have HF := Lib.hid hfl
            clear hfl
            go_wp2
            go_roundw
            case rel => exact ⟨j + 1, by omega, by go_num, by rw [HF.out]⟩
            case measure => simp [intOf]; omega
          · have hfl : flipK S p wh (j + 1) = sput (flipK S p wh j) (m / 8) (sat (flipK S p wh j) (m / 8) ^^^ bit8 m) := by rw [flipK, h2, ← HM.out]; simp [h1, flip1]
            have HF := Lib.hid hfl
            clear hfl
            have hsh : binOp .shl 5 (.int .u8 1) (.int .u64 ((m % 8 : Nat) : Int)) = pure (.int .u8 (vb (bit8 m))) := shl_bit m _
            obtain ⟨r, hr⟩ : ∃ r, r = m / 8 := ⟨_, rfl⟩
            obtain ⟨t, ht⟩ : ∃ t, t = m % 8 := ⟨_, rfl⟩
            rw [← hr] at HF
            rw [← ht] at hsh
            have hq8 : (m : Int).tdiv 8 = (r : Int) := by rw [Int.tdiv_eq_ediv_of_nonneg (by omega)]; omega
            have ht8 : (m : Int).tmod 8 = (t : Int) := by rw [Int.tmod_eq_emod_of_nonneg (by omega)]; omega
            have hr1 : r < 128 := by omega
            have ht1 : t < 8 := by omega
            clear hr ht
            obtain ⟨F, hF⟩ : ∃ F, F = flipK S p wh j := ⟨_, rfl⟩
            rw [← hF] at HF ⊢
            clear hF
            have hcl := sec_get F r hr1
            go_wp2
            go_roundw
            case rel => exact ⟨j + 1, by omega, by go_num, by rw [HF.out]⟩
            case measure => simp [intOf]; omega
        · have hfl : flipK S p wh (j + 1) = flipK S p wh j := by rw [flipK, ← HM.out]; simp [h1]
          have HF := Lib.hid hfl
          clear hfl
          go_wp2
          go_roundw
          case rel => exact ⟨j + 1, by omega, by go_num, by rw [HF.out]⟩
          case measure => simp [intOf]; omega
      · obtain rfl : j = 32 := by omega
        clear hp hlt hj
        obtain ⟨T, hT⟩ : ∃ T, flipK S p wh 32 = T := ⟨_, rfl⟩
        rw [hT] at HO ⊢
        clear hT
        have hBb := (hB1.alloc hB1.size (.cells (sec T) 27)).alloc (Nat.le_trans hB1.size (by simp)) (.cells (sec S) 27)
        have hT2 := heap_alloc2_old w1 (.cells (sec T) 27) (.cells (sec S) 27)
        have hS2 := heap_alloc2_new w1 (.cells (sec T) 27) (.cells (sec S) 27)
        go_wp2_with (((with_reducible refine wpList_load_sector rfl _ rfl w1.heap.size T ?_ ?_ ?_); rfl; exact hT2))
        refine (open_any at_.toNat T _ at_.toNat_lt (hh.below hBb)).mono ?_
        rintro e w2 ⟨rfl, hB⟩
        have hB2 : Below w.heap.size w w2 := hBb.trans (hB.mono hBb.size)
        have hT3 := (hB.block w1.heap.size (by simp; omega)).trans hT2
        have hS3 := (hB.block (w1.heap.size + 1) (by simp)).trans hS2
        have hz3 : w1.heap.size + 1 < w2.heap.size := (Array.getElem?_eq_some_iff.1 hS3).1
        obtain ⟨fk, fq, fd, hV, -, hne⟩ := openV_shape at_.toNat T
        rw [hV]
        have hBc := hB2.alloc hB2.size (.cells #[.int .i64 fk, .int .u32 (vu fq), .string fd] 24)
        have HA := Lib.hid (awake_any _ (hh.below hBc))
        have hT4 := (Below.heap_alloc w2 (.cells #[.int .i64 fk, .int .u32 (vu fq), .string fd] 24) w1.heap.size (by omega)).trans hT3
        have hS4 := (Below.heap_alloc w2 (.cells #[.int .i64 fk, .int .u32 (vu fq), .string fd] 24) (w1.heap.size + 1) (by omega)).trans hS3
        clear hB hBb hV hB1 c0 hT2 hS2 hT3 hS3
        by_cases he : T = S
        · have hc := HO.out.2 he
          have hq : seqB T S = true := by simp [seqB, he]
          rw [hc]
          clear he hc hne HO
          go_wp2_with (first | ((with_reducible refine wpList_load_sector rfl _ rfl w1.heap.size T ?_ hT4 ?_); rfl) | ((with_reducible refine wpList_load_sector rfl _ rfl (w1.heap.size + 1) S ?_ hS4 ?_); rfl) | (go_at_call 10; refine HA.out.mono ?_; rintro e w3 ⟨rfl, hB3⟩))
          go_ret
          exact ⟨rfl, hBc.trans (hB3.mono hBc.size)⟩
        · have hc : openCode at_.toNat T ≠ 0 := fun h => he (HO.out.1 h)
          obtain ⟨rfl, rfl, rfl⟩ := hne hc
          have hq : seqB T S = false := by simp [seqB, he]
          generalize openCode at_.toNat T = c at hc
          have hcq : (c == 0) = false := by simpa using hc
          clear he hc hne HO
          go_wp2_with (first | ((with_reducible refine wpList_load_sector rfl _ rfl w1.heap.size T ?_ hT4 ?_); rfl) | ((with_reducible refine wpList_load_sector rfl _ rfl (w1.heap.size + 1) S ?_ hS4 ?_); rfl) | (go_at_call 10; refine HA.out.mono ?_; rintro e w3 ⟨rfl, hB3⟩))
          go_ret
          exact ⟨rfl, hBc.trans (hB3.mono hBc.size)⟩
end Go.Proofs.YtghaaonghlfepaaDoor
