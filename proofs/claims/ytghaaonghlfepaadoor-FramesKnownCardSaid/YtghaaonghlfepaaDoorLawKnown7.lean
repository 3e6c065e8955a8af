/- The walk of the statement FramesKnown. -/
import Derived.Test.YtghaaonghlfepaaDoorGetPut
import Derived.Test.YtghaaonghlfepaaDoorFlip
import Derived.Test.YtghaaonghlfepaaDoorAwake7
import Derived.Test.YtghaaonghlfepaaDoorMakeB
namespace Go.Proofs.YtghaaonghlfepaaDoor
open Go.RowKit
open Lime
attribute [local go_sem] Oper.semAt_some
attribute [local go_sem high] q_shr32 q_shl32 q_shr32k q_shl32k q_shr32n q_shl32n g_com32 run_eql_sector run_neq_sector
attribute [local go_sem] g_xor32 g_or32 g_add32 g_wrap8 vu_nonneg g_same32 g_lo8 setRow_alloc_at setRow_alloc_past setRow_drew sec_set sec_set76 g_same8 sec_get g_ne32 g_eq32
theorem u8_inc (c : UInt8) : IntKind.u8.wrap (vb c + 1) = vb (c + 1) := by
  unfold vb
  have e : (c + 1).toNat = (c.toNat + 1) % 256 := by simp [UInt8.toNat_add]
  rw [e]
  have := c.toNat_lt
  by_cases h : c.toNat = 255
  · rw [h]; decide
  · have h2 : IntKind.u8.wrap ((c.toNat : Int) + 1) = (c.toNat : Int) + 1 := by
      unfold IntKind.wrap; simp [IntKind.signed, IntKind.bits]; omega
    rw [h2]; omega
theorem u8_ne (c : UInt8) : ¬ c + 1 = c := by
  intro h
  have h2 := congrArg UInt8.toNat h
  rw [UInt8.toNat_add] at h2
  have := c.toNat_lt
  have h3 : (1 : UInt8).toNat = 1 := rfl
  rw [h3] at h2
  omega
theorem at8_zeros (n i : Nat) (h : i < n) : at8 (List.replicate n (0 : UInt8)) i = 0 := by simp [at8, h]
/-- the example with one byte changed is no frame -/
theorem ex_changed (i : Nat) (hi : i < 128) : ¬ openCode 3 (sput exS i (sat exS i + 1)) = 0 := by
  intro h
  have hf := (openCode_zero h).1.sum
  have h0 : openCode 3 exS = 0 := ex_code 3
  have hs := (openCode_zero h0).1.sum
  have e := burst_frame exS (sput exS i (sat exS i + 1)) (8 * i) hs hf (fun j hj => by
    rw [bitsOf_getD, bitsOf_getD]
    show (sat (sput exS i (sat exS i + 1)) (j / 8)).toBitVec.getLsbD (j % 8) = (sat exS (j / 8)).toBitVec.getLsbD (j % 8)
    rw [sat_put _ _ _ _ hi, if_neg (by omega)])
  have e2 := congrArg (fun s => sat s i) e
  rw [sat_put _ _ _ _ hi, if_pos rfl] at e2
  exact u8_ne _ e2
theorem ex_get5 : getV ((Dv.new 64).at 5) 5 (if (Dv.new 64).at 5 = 0 then (Dv.new 64).look 5 else zsec) = .tuple #[.agg #[.int .i64 0, .int .u32 0, .string ⟨#[]⟩], .int .i64 70] := by
  have h1 : (Dv.new 64).at 5 = 0 := Dv.at_ok rfl (by decide) (by simp [Dv.new])
  rw [h1, if_pos rfl, Dv.look_new]
  unfold getV openVI
  rw [if_pos rfl, if_pos (by decide)]
  have h0 : openCode 5 zsec = 70 := by rw [openCode, if_pos rfl]
  show openV 5 zsec = _
  rw [openV, h0]; rfl
set_option maxRecDepth 100000 in
set_option maxHeartbeats 4000000 in
theorem known7_law (w : World) (hh : HalfLaid w) :
    Calls Tryd.prog 8 #[] w fun e w' => e = .returned (.bool true) ∧ Below w.heap.size w w' := by
  have HAW : Hid (∀ w', Below w.heap.size w w' → Calls Tryd.prog 10 #[] w' fun e w'' => e = .returned (.bool true) ∧ Below w'.heap.size w' w'') := fun w' hB => awake_any w' (hh.below hB)
  have HHL := Lib.hid hh
  have hc1 := seal_ok 3 2 2 258#32 ⟨#[97, 98]⟩ w (by decide) (by decide) (by decide) (by decide) hh
  rw [show (⟨#[97, 98]⟩ : ByteArray).data.toList = [97, 98] from rfl, ex_seal] at hc1
  have HC1 := Lib.hid hc1
  have HNE := Lib.hid ex_changed
  obtain ⟨T, hT⟩ : ∃ T, T = exS := ⟨_, rfl⟩
  rw [← hT] at HC1 HNE
  clear hc1 hh hT
  go_enter Tryd.func8, Tryd.ntmps8
  go_wp2_with fail
  refine HC1.out.mono ?_
  clear HC1
  rintro e w1 ⟨rfl, hB1⟩
  have h1 := ((Has.start w).below hB1).alloc (.cells (sec T) 27)
  have H1 := Lib.hid h1
  clear hB1 h1
  go_wp2_with (first | (with_reducible refine wpList_alloc_sector rfl rfl ?_) | ((with_reducible refine wpList_store_sector rfl _ _ rfl w1.heap.size T zsec ?_ ?_ ?_ ?_); rfl; rfl; exact heap_alloc_new _ _))
  go_loopw [3] (fun i wr => ∃ k : Nat, k ≤ 128 ∧ i = .int .i64 k ∧ Has w wr [Blk _ w1.heap.size (.cells (sec T) 27)]) (fun i _ => 128 - (intOf i).toNat)
  case atStart => exact ⟨0, by omega, rfl, H1.out⟩
  case round =>
    obtain ⟨k, hk, rfl, hH⟩ := hrel
    clear H1
    by_cases hlt : k < 128
    · obtain ⟨U, hU⟩ : ∃ U, U = sput T k (sat T k + 1) := ⟨_, rfl⟩
      have hne := HNE.out k hlt
      rw [← hU] at hne
      have HU := Lib.hid hU
      have bT := (hH.blk 0 _ _ rfl).1
      have hcl := sec_get T k hlt
      have hinc := u8_inc (sat T k)
      have h2 := hH.alloc (.cells (sec U) 27)
      have HO := Lib.hid (open_any 3 U _ (by decide) (HHL.out.below h2.hB))
      have H2 := Lib.hid h2
      clear hU h2 HNE hH
      go_wp2_with (first | (with_reducible refine wpList_alloc_sector rfl rfl ?_) | ((with_reducible refine wpList_store_sector rfl _ _ rfl wr.heap.size T zsec ?_ ?_ ?_ ?_); rfl; rfl; exact heap_alloc_new _ _) | ((with_reducible refine wpList_load_sector rfl _ rfl w1.heap.size T ?_ bT ?_); rfl) | (rw [← HU.out]; (with_reducible refine wpList_load_sector rfl _ rfl wr.heap.size U ?_ ?_ ?_); rfl; exact heap_alloc_new _ _))
      refine HO.out.mono ?_
      clear HO
      rintro e w3 ⟨rfl, hB3⟩
      obtain ⟨fk, fq, fd, hV, -⟩ := openV_shape 3 U
      rw [hV]
      obtain ⟨c, hc⟩ : ∃ c, c = openCode 3 U := ⟨_, rfl⟩
      rw [← hc] at hne ⊢
      have hne2 : (c == 0) = false := by simpa using hne
      have h4 := (H2.out.below hB3).alloc (.cells #[.int .i64 fk, .int .u32 (vu fq), .string fd] 24)
      have H4 := Lib.hid h4.drop.drop
      clear h4 H2 hV hc hne hB3
      go_wp2_with fail
      go_roundw
      case rel => exact ⟨k + 1, by omega, by go_num, H4.out⟩
      case measure => simp [intOf]; omega
    · obtain rfl : k = 128 := by omega
      obtain ⟨Z, hZ⟩ : ∃ Z, Z = zsec := ⟨_, rfl⟩
      have HZ := Lib.hid hZ
      obtain ⟨d, hd⟩ : ∃ d : ByteArray, d = ⟨(List.replicate 113 (0 : UInt8)).toArray⟩ := ⟨_, rfl⟩
      have hd1 : d.size = 113 := by rw [hd]; rfl
      have h2 := hH.alloc (.cells (zb 113) 5)
      have bz := (h2.blk 0 _ _ rfl).1
      have hmk : ∀ W, (Instr.makeSlice 44 (.int .i64 113) (.int .i64 113)).run Tryd.prog W = .ok (.slice (some ⟨W.heap.size, 0, none⟩) 113 113) (W.alloc (.cells (zb 113) 5)) := fun W => run_make_bytes .i64 .i64 113 (by decide) W
      have hcv : (convert 44 9 (.slice (some ⟨wr.heap.size, 0, none⟩) 113 113)).run Tryd.prog (wr.alloc (.cells (zb 113) 5)) = .ok (.string d) (wr.alloc (.cells (zb 113) 5)) := by
        have := run_string_bytes (wr.alloc (.cells (zb 113) 5)) ⟨wr.heap.size, 0, none⟩ (List.replicate 113 0) 113 (fun i hi => by
          rw [List.length_replicate] at hi
          rw [Addr.add_lit, cell_of_row _ _ _ _ _ _ bz, Nat.zero_add, zb_get _ _ hi]
          rw [at8_zeros 113 i hi]; rfl)
        rw [List.length_replicate] at this
        rw [this, hd]
      have hs1 := seal_long 3 2 258#32 d (wr.alloc (.cells (zb 113) 5)) (by decide) (by decide) (by decide) (by decide) (by omega) (by omega)
      rw [← hZ] at hs1
      have HS1 := Lib.hid hs1
      have H2 := Lib.hid h2
      clear hs1 h2 hd hd1 hZ bz hlt hk hH HNE
      go_wp2_with fail
      refine HS1.out.mono ?_
      clear HS1
      rintro e w4 ⟨rfl, hB4⟩
      have h5 := (H2.out.below hB4).alloc (.cells (sec Z) 27)
      have H5 := Lib.hid h5
      have hs2 := seal_range 3 0 258#32 ⟨#[]⟩ (w4.alloc (.cells (sec Z) 27)) (.inr (.inr (.inl (by decide))))
      rw [← HZ.out] at hs2
      have HS2 := Lib.hid hs2
      clear hs2 h5 hB4 H2
      go_wp2_with (first | (with_reducible refine wpList_alloc_sector rfl rfl ?_) | ((with_reducible refine wpList_store_sector rfl _ _ rfl w4.heap.size Z zsec ?_ ?_ ?_ ?_); rfl; rfl; exact heap_alloc_new _ _))
      refine HS2.out.mono ?_
      clear HS2
      rintro e w5 ⟨rfl, hB5⟩
      have h6 := (H5.out.below hB5).alloc (.cells (sec Z) 27)
      have HN := Lib.hid (new_has h6 64 (by decide) (by decide))
      clear h6 hB5 H5
      go_wp2_with (first | (with_reducible refine wpList_alloc_sector rfl rfl ?_) | ((with_reducible refine wpList_store_sector rfl _ _ rfl w5.heap.size Z zsec ?_ ?_ ?_ ?_); rfl; rfl; exact heap_alloc_new _ _))
      refine HN.out.mono ?_
      clear HN
      rintro e w6 ⟨g, rfl, h7⟩
      have hg := get_has h7 (.head _) 5 HHL.out
      rw [ex_get5] at hg
      have HG := Lib.hid hg
      clear hg h7
      go_wp2_with fail
      refine HG.out.mono ?_
      clear HG
      rintro e w7 ⟨rfl, h8⟩
      have h9 := h8.alloc (.cells #[.int .i64 0, .int .u32 0, .string ⟨#[]⟩] 24)
      have HA := Lib.hid (HAW.out _ h9.hB)
      have HB9 := Lib.hid h9.hB
      clear h8 h9 HAW
      go_wp2_with fail
      refine HA.out.mono ?_
      clear HA
      rintro e w8 ⟨rfl, hB8⟩
      have HB8 := Lib.hid (HB9.out.trans (hB8.mono HB9.out.size))
      clear hB8
      go_wp2_with fail
      go_ret
      exact ⟨rfl, HB8.out⟩
end Go.Proofs.YtghaaonghlfepaaDoor
