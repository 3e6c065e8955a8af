/- The walk of the statement FramesBack. -/
import Derived.Test.YtghaaonghlfepaaDoorLawOpens
import Derived.Deep.DrawnRows
namespace Go.Proofs.YtghaaonghlfepaaDoor
open Go.RowKit
open Lime
attribute [local go_sem high] q_shr32 q_shl32 q_shr32k q_shl32k q_shr32n q_shl32n g_com32 run_eql_sector run_neq_sector
attribute [local go_sem] g_xor32 g_or32 g_add32 g_wrap8 vu_nonneg g_same32 g_lo8 setRow_alloc_at setRow_alloc_past setRow_drew sec_set sec_set76 g_same8 sec_get g_ne32 g_eq32 g_kind g_w64_8
/-- Open of Seal is the frame -/
theorem open_of_seal (at_ : UInt8) (k : Int) (q : BitVec 32) (d : ByteArray) (hd : d.size ≤ 112) (h1 : 1 ≤ k) (h2 : k ≤ 255) :
    ∃ S, sealS (vb at_) k q d = (S, 0) ∧ openVI (vb at_) S = .tuple #[.agg #[.int .i64 k, .int .u32 (vu q), .string d], .int .i64 0] := by
  have ha := vb_nonneg at_
  have ha' := vb_lt at_
  have hn : ¬ (vb at_ < 0 ∨ 256 ≤ vb at_ ∨ k < 1 ∨ 255 < k) := by omega
  obtain ⟨n, kb, lb, e1, e2, e3, e4, e5, e6⟩ := seal_args (vb at_) k q d hn (by omega)
  have hl : d.data.toList.length ≤ 112 := by simpa using hd
  have hb : lb.toNat = d.data.toList.length := by unfold vb at e5; simp at e5 ⊢; omega
  have hk : kb ≠ 0 := by intro h; rw [h] at e4; exact absurd e4 (by decide)
  refine ⟨_, e6, ?_⟩
  have hc := open_seal kb lb d.data.toList q n n hl hb hk e3
  rw [if_neg (fun h => h rfl)] at hc
  rw [openVI, if_pos ⟨ha, ha'⟩, e1, show ((n : Int)).toNat = n from rfl, openV, hc, if_pos rfl, seal_at1 _ _ _ _ _ hl, ← e2, open_seal_data _ _ _ _ _ hl hb]
  have h4 : getN (sealOf kb lb d.data.toList q n) 4 = q := seal_seq _ _ _ _ _ hl
  rw [h4]; rfl
/-- Seal of what Open returns is the sector -/
theorem seal_of_open (p : Int) (s : Sector) (fk : Int) (fq : BitVec 32) (fd : ByteArray) (h : openVI p s = .tuple #[.agg #[.int .i64 fk, .int .u32 (vu fq), .string fd], .int .i64 0]) :
    sealS p fk fq fd = (s, 0) := by
  unfold openVI at h
  by_cases hp : 0 ≤ p ∧ p < 256
  · rw [if_pos hp, openV] at h
    by_cases hc : openCode p.toNat s = 0
    · rw [if_pos hc] at h
      simp only [frV, Value.tuple.injEq, Array.mk.injEq, List.cons.injEq, Value.agg.injEq, Value.int.injEq, Value.string.injEq, true_and, and_true] at h
      obtain ⟨⟨h1, h2, h3⟩, -⟩ := h
      obtain ⟨hf, hpl⟩ := openCode_zero hc
      have := (same_formed hf.t2 hf.t4).2 hf
      rw [← h1, ← vu_inj.1 h2, ← h3, ← this]
      congr 1
      unfold vu; omega
    · rw [if_neg hc] at h
      simp only [Value.tuple.injEq, Array.mk.injEq, List.cons.injEq, Value.int.injEq, true_and, and_true] at h
      exact absurd h.2 hc
  · rw [if_neg hp] at h
    simp at h
theorem openVI_shape2 (p : Int) (s : Sector) : ∃ (fk : Int) (fq : BitVec 32) (fd : ByteArray) (c : Int), openVI p s = .tuple #[.agg #[.int .i64 fk, .int .u32 (vu fq), .string fd], .int .i64 c] ∧ fd.size ≤ 9223372036854775807 := by
  unfold openVI
  split
  · obtain ⟨fk, fq, fd, h, h0, h1⟩ := openV_shape p.toNat s
    refine ⟨fk, fq, fd, _, h, ?_⟩
    by_cases hc : openCode p.toNat s = 0
    · rw [(h0 hc).2.2]; exact frData_size s
    · rw [(h1 hc).2.2]; decide
  · exact ⟨0, 0#32, ByteArray.empty, 7, rfl, by decide⟩
/-- the store of a sector, under a name -/
def stSec (v x : Value) : Sem Unit := Instr.storeAt 27 v x
theorem st_sec (v x : Value) : Instr.storeAt 27 v x = stSec v x := rfl
theorem run_stSec (w : World) (g : Nat) (s s0 : Sector) (hg : w.heap[g]? = some (.cells (sec s0) 27 (0, 0))) :
    (stSec (.pointer (some ⟨g, 0, none⟩)) (.agg (sec s))).run Tryd.prog w = .ok () (w.setRow g (sec s)) := by
  have h := run_storeVar_row (P := Tryd.prog) w g _ 27 _ (sec s) hg (by rw [sec_size]; exact sector_size) (by rw [sec_size, sec_size]) (Array.all_eq_true_iff_forall_mem.2 (sec_one s))
  unfold stSec
  simp only [Instr.storeAt, Instr.sureAddr, Sem.run_bind, Sem.run_pure, Result.andThen_ok, h]
theorem run_stSec_new (w : World) (n : Nat) (s s0 : Sector) (hn : n = w.heap.size) :
    (stSec (.pointer (some ⟨n, 0, none⟩)) (.agg (sec s))).run Tryd.prog (w.alloc (.cells (sec s0) 27)) = .ok () (w.alloc (.cells (sec s) 27)) := by
  subst hn
  rw [run_stSec _ _ s s0 (heap_alloc_new _ _), setRow_alloc_at _ _ _ _ _ rfl]
/-- a new sector, under a name -/
def alSec (v : Value) : Sem Value := Instr.alloc 27 true v
theorem al_sec (v : Value) : Instr.alloc 27 true v = alSec v := rfl
theorem run_alSec (w : World) (v : Value) : (alSec v).run Tryd.prog w = .ok (.pointer (some ⟨w.heap.size, 0, none⟩)) (w.alloc (.cells (sec zsec) 27)) := run_alloc_sector w v
theorem there_block {W : World} {g : Nat} {cs : Array Value} {t : TypeId} (h : W.heap[g]? = some (.cells cs t (0, 0))) (n : Nat) (hn : n ≤ cs.size) : W.there g 0 n := fun j hj => by
  rw [Nat.zero_add]
  refine ⟨?_, frozen_of_row W g j _ _ h⟩
  rw [cell_of_row W g j _ _ _ h, Array.getElem?_eq_getElem (by omega)]; rfl
theorem setCells_from (g : Nat) (t : TypeId) : ∀ (vs : List Value) (o : Nat) (cur : Array Value) (W : World), W.heap[g]? = some (.cells cur t (0, 0)) → o + vs.length = cur.size →
    W.setCells g o vs = W.setRow g (cur.extract 0 o ++ vs.toArray)
  | [], o, cur, W, h, hs => by
    have e : cur.extract 0 o ++ ([] : List Value).toArray = cur := by
      simp at hs; subst hs; simp
    rw [e]; exact (setRow_self W g _ _ _ h).symm
  | v :: vs, o, cur, W, h, hs => by
    simp only [List.length_cons] at hs
    have h1 := heap_setCell_same W g o cur t v h
    show (W.setCell ⟨g, o, none⟩ v).setCells g (o + 1) vs = _
    rw [setCells_from g t vs (o + 1) _ _ h1 (by simp; omega), setCell_eq_setRow W g o _ _ _ _ h, setRow_setRow]
    congr 1
    apply Array.toList_inj.1
    apply List.ext_getElem?
    intro i
    have hlt : o < cur.size := by omega
    by_cases h1 : i < o
    · simp [List.getElem?_append, h1, show i < min (o + 1) cur.size by omega, show i < min o cur.size by omega, show i < o + 1 by omega, List.getElem?_take, List.getElem?_set, show ¬ o = i by omega]
    · by_cases h2 : i = o
      · subst h2
        simp [List.getElem?_append, show i < min (i + 1) cur.size by omega, show ¬ i < min i cur.size by omega, List.getElem?_take, List.getElem?_set, hlt, Nat.min_eq_left (Nat.le_of_lt hlt)]
      · have e1 : min (o + 1) cur.size = o + 1 := by omega
        have e2 : min o cur.size = o := by omega
        simp only [Array.toList_append, List.getElem?_append, Array.toList_extract, Array.toList_setIfInBounds, List.extract_eq_take_drop, List.drop_zero, Nat.sub_zero, List.length_take, List.length_set, Array.length_toList, e1, e2]
        rw [if_neg (by omega), if_neg (by omega), show i - o = (i - (o + 1)) + 1 by omega]
        simp
theorem setCells_whole (W : World) (g : Nat) (cur cs : Array Value) (t : TypeId) (h : W.heap[g]? = some (.cells cur t (0, 0))) (hs : cs.size = cur.size) : W.setCells g 0 cs.toList = W.setRow g cs := by
  rw [setCells_from g t cs.toList 0 cur W h (by simp; omega)]
  congr 1
  simp
attribute [local go_sem ↓ high] ld_sec st_sec al_sec
attribute [local go_sem] run_alSec
attribute [local go_sem ↓] Go.wp_at_zero Go.wp_at_succ
set_option maxRecDepth 100000 in
set_option maxHeartbeats 4000000 in
theorem back_walk (p : Int) (at_ : UInt8) (k : Int) (q : BitVec 32) (d : ByteArray) (ch : Value) (fx : Bool) (l : List (UInt8 × UInt8)) (w : World) (hk : (Lit.int .i64 k).wf = true) (hd : d.size ≤ 9223372036854775807) (hch : ChAt w ch l) (hh : HalfLaid w) :
    Calls Tryd.prog 5 #[.int .i64 p, .agg (oddC at_ k q d ch fx)] w fun e w' =>
      e = .returned (.bool true) ∧ Below w.heap.size w w' := by
  have k0 := (Keep.start w).alloc (.cells (oddC at_ k q d ch fx) 34)
  have hgt : Tryd.prog.eqGuardType Tryd.prog.depth 27 = false := by kernel_rfl
  have b8 := byte_int at_
  unfold oddC at *
  go_enter Tryd.func5, Tryd.ntmps5
  go_upto_region 1 with fail
  go_cut [32] (fun c wx => ∃ b : Bool, c = .bool b ∧ (b = true → d.size ≤ 112 ∧ 1 ≤ k ∧ k ≤ 255) ∧ Keep w wx [(w.heap.size, .cells #[.int .u8 (vb at_), .int .i64 k, .int .u32 (vu q), .string d, ch, .bool fx] 34)])
  case first =>
    have hcase : 112 < d.size ∨ (d.size ≤ 112 ∧ k < 1) ∨ (d.size ≤ 112 ∧ 1 ≤ k ∧ 255 < k) ∨ (d.size ≤ 112 ∧ 1 ≤ k ∧ k ≤ 255) := by omega
    rcases hcase with h1 | ⟨h1, h2⟩ | ⟨h1, h2, h3⟩ | ⟨h1, h2, h3⟩
    · have q1 : decide ((d.size : Int) ≤ 112) = false := by simp; omega
      go_wp2
      go_meet
      exact ⟨false, rfl, by simp, k0⟩
    · have q1 : decide ((d.size : Int) ≤ 112) = true := by simp; omega
      have q2 : decide (1 ≤ k) = false := by simp; omega
      go_wp2
      go_meet
      exact ⟨false, rfl, by simp, k0⟩
    · have q1 : decide ((d.size : Int) ≤ 112) = true := by simp; omega
      have q2 : decide (1 ≤ k) = true := by simp; omega
      have q3 : decide (k ≤ 255) = false := by simp; omega
      go_wp2
      go_meet
      exact ⟨false, rfl, by simp, k0⟩
    · have q1 : decide ((d.size : Int) ≤ 112) = true := by simp; omega
      have q2 : decide (1 ≤ k) = true := by simp; omega
      have q3 : decide (k ≤ 255) = true := by simp; omega
      go_wp2
      go_meet
      exact ⟨true, rfl, fun _ => ⟨h1, h2, h3⟩, k0⟩
  case rest =>
    obtain ⟨b, rfl, hb, k1⟩ := hcut
    clear k0
    go_upto_if 32 with fail
    go_cut [] (fun wx => Keep w wx [(w.heap.size, .cells #[.int .u8 (vb at_), .int .i64 k, .int .u32 (vu q), .string d, ch, .bool fx] 34)])
    case first =>
      cases b
      · go_wp2
        go_meet
        exact k1
      · obtain ⟨h1, h2, h3⟩ := hb rfl
        obtain ⟨S, hS, hO⟩ := open_of_seal at_ k q d h1 h2 h3
        have HS := Lib.hid hS
        have HO := Lib.hid hO
        clear hS hO hb
        have c0 := k1.cell 0 w.heap.size _ _ rfl 0 (.int .u8 (vb at_)) rfl
        have c1 := k1.cell 0 w.heap.size _ _ rfl 1 (.int .i64 k) rfl
        have c2 := k1.cell 0 w.heap.size _ _ rfl 2 (.int .u32 (vu q)) rfl
        have c3 := k1.cell 0 w.heap.size _ _ rfl 3 (.string d) rfl
        go_wp2_with fail
        refine (seal_any (vb at_) k q d _ hd (hh.below k1.hB)).mono ?_
        rw [HS.out]
        unfold sealV
        dsimp only
        rintro e w1 ⟨rfl, hB⟩
        have k2 := k1.below hB
        have k3 := k2.alloc (.cells (sec S) 27)
        have hs := k3.at 0 _ rfl
        clear c0 c1 c2 c3 hB k1
        have c0 := k3.cell 1 w.heap.size _ _ rfl 0 (.int .u8 (vb at_)) rfl
        go_wp2_with (first | (with_reducible refine wpList_alloc_sector rfl rfl ?_) | ((with_reducible refine wpList_store_sector rfl _ _ rfl w1.heap.size S zsec ?_ ?_ ?_ ?_); rfl; rfl; exact heap_alloc_new _ _) | ((with_reducible refine wpList_load_sector rfl _ rfl w1.heap.size S ?_ hs ?_); rfl))
        refine (open_int_any (vb at_) S _ (hh.below k3.hB)).mono ?_
        rw [HO.out]
        rintro e w2 ⟨rfl, hB⟩
        have k4 := k3.below hB
        have k5 := k4.alloc (.cells #[.int .i64 k, .int .u32 (vu q), .string d] 24)
        clear hB k2 k3 hs c0
        have c1 := k4.cell 1 w.heap.size _ _ rfl 1 (.int .i64 k) rfl
        have c2 := k4.cell 1 w.heap.size _ _ rfl 2 (.int .u32 (vu q)) rfl
        have c3 := k4.cell 1 w.heap.size _ _ rfl 3 (.string d) rfl
        have z1 := k4.lt 1 _ rfl
        dsimp only at z1
        go_wp2
        go_meet
        exact k5.swap (by simp)
    case rest =>
      have k2 := hcut
      clear k1 hb hcut
      have HO := Lib.hid (odd_any at_ k q d ch fx l wc hd (hch.below k2.hB))
      unfold oddC at HO
      have c0 := k2.cell 0 w.heap.size _ _ rfl 0 (.int .u8 (vb at_)) rfl
      have c1 := k2.cell 0 w.heap.size _ _ rfl 1 (.int .i64 k) rfl
      have c2 := k2.cell 0 w.heap.size _ _ rfl 2 (.int .u32 (vu q)) rfl
      have c3 := k2.cell 0 w.heap.size _ _ rfl 3 (.string d) rfl
      have c4 := k2.cell 0 w.heap.size _ _ rfl 4 ch rfl
      have c5 := k2.cell 0 w.heap.size _ _ rfl 5 (.bool fx) rfl
      go_wp2_with fail
      refine HO.out.mono ?_
      clear HO hch c0 c1 c2 c3 c4 c5
      rintro e w1 ⟨s, rfl, hB⟩
      have k3 := k2.below hB
      have k4 := (k3.alloc (.cells (sec s) 27)).allocAt (.cells #[.int .i64 p, .int .i64 (vb at_)] 39) (w1.heap.size + 1) (by simp)
      clear hB k2
      have c0 := k3.cell 0 w.heap.size _ _ rfl 0 (.int .u8 (vb at_)) rfl
      have z1 := k3.lt 0 _ rfl
      dsimp only at z1
      go_wp2_with (first | (with_reducible refine wpList_alloc_sector rfl rfl ?_) | ((with_reducible refine wpList_store_sector rfl _ _ rfl w1.heap.size s zsec ?_ ?_ ?_ ?_); rfl; rfl; exact heap_alloc_new _ _))
      clear k3 c0 z1
      go_loopw [11] (fun i wr => ∃ j : Nat, j ≤ 2 ∧ i = .int .i64 j ∧ Keep w wr [(w1.heap.size + 1, .cells #[.int .i64 p, .int .i64 (vb at_)] 39), (w1.heap.size, .cells (sec s) 27)]) (fun i _ => 2 - (intOf i).toNat)
      case atStart => exact ⟨0, Nat.zero_le _, rfl, k4.swap (by simp)⟩
      case round =>
        obtain ⟨j, hj, rfl, kr⟩ := hrel
        clear k4
        by_cases hlt : j < 2
        · obtain ⟨pj, hpj⟩ : ∃ pj : Int, (#[Value.int .i64 p, .int .i64 (vb at_)] : Array Value)[j]? = some (.int .i64 pj) := by
            rcases (show j = 0 ∨ j = 1 by omega) with rfl | rfl
            · exact ⟨p, rfl⟩
            · exact ⟨vb at_, rfl⟩
          have cp := kr.cell 0 (w1.heap.size + 1) _ _ rfl j (.int .i64 pj) hpj
          have hj2 : (j : Int) < 2 := by omega
          have hj0 : (0 : Int) ≤ (j : Int) := by omega
          have HP : Hid (∀ W : World, W.heap[w1.heap.size + 1]? = some (.cells #[.int .i64 p, .int .i64 (vb at_)] 39 (0, 0)) → W.cell? ⟨w1.heap.size + 1, j, none⟩ = some (.int .i64 pj)) := fun W hW => (cell_of_row W _ _ _ _ _ hW).trans hpj
          clear hpj
          obtain ⟨fk, fq, fd, cd, hV, hfd⟩ := openVI_shape2 pj s
          have HV := Lib.hid hV
          clear hV
          go_upto_region 11 with fail
          go_cut [12, 13] (fun f c wx => ∃ g : Nat, f = .pointer (some ⟨g, 0, none⟩) ∧ c = .int .i64 cd ∧ Keep w wx [(g, .cells #[.int .i64 fk, .int .u32 (vu fq), .string fd] 24), (w1.heap.size + 1, .cells #[.int .i64 p, .int .i64 (vb at_)] 39), (w1.heap.size, .cells (sec s) 27)])
          case first =>
            have z1 := kr.lt 0 _ rfl
            have z2 := kr.lt 1 _ rfl
            dsimp only at z1 z2
            have ka := kr.alloc (.cells #[.int .i64 0, .int .u32 0, .string ⟨#[]⟩] 24)
            have hld := run_ldSec wr.drew w1.heap.size s (kr.at 1 _ rfl)
            have hld2 := run_ldSec (wr.alloc (.cells #[.int .i64 0, .int .u32 0, .string ⟨#[]⟩] 24)).drew w1.heap.size s (ka.at 2 _ rfl)
            have HH1 : Hid (HalfLaid wr.drew) := hh.below kr.drew.hB
            have HH2 : Hid (HalfLaid (wr.alloc (.cells #[.int .i64 0, .int .u32 0, .string ⟨#[]⟩] 24)).drew) := hh.below ka.drew.hB
            go_region_with (go_at_call 14; refine (open_int_any pj s _ (by first | exact HH1.out | exact HH2.out)).mono ?_; rintro e w4 ⟨rfl, hB4⟩; rw [HV.out]; have k5 : Keep w w4 [(w1.heap.size + 1, .cells #[.int .i64 p, .int .i64 (vb at_)] 39), (w1.heap.size, .cells (sec s) 27)] := (by first | exact kr.drew.below hB4 | exact ka.drop.drew.below hB4); try (have hb4 : w4.heap[wr.heap.size]? = some (.cells #[.int .i64 0, .int .u32 0, .string ⟨#[]⟩] 24 (0, 0)) := (hB4.block wr.heap.size (by simp)).trans (heap_alloc_new wr _); have r0 : w4.cell? ⟨wr.heap.size, 0, none⟩ = some (.int .i64 0) := cell_of_row w4 _ 0 _ _ _ hb4; have r1 : w4.cell? ⟨wr.heap.size, 1, none⟩ = some (.int .u32 0) := cell_of_row w4 _ 1 _ _ _ hb4; have r2 : w4.cell? ⟨wr.heap.size, 2, none⟩ = some (.string ⟨#[]⟩) := cell_of_row w4 _ 2 _ _ _ hb4; have f0 : w4.frozen? ⟨wr.heap.size, 0, none⟩ = false := frozen_of_row w4 _ _ _ _ hb4; have f1 : w4.frozen? ⟨wr.heap.size, 1, none⟩ = false := frozen_of_row w4 _ _ _ _ hb4; have f2 : w4.frozen? ⟨wr.heap.size, 2, none⟩ = false := frozen_of_row w4 _ _ _ _ hb4))
            all_goals
              go_wp2_with fail
              go_meet
            all_goals
              first
                | exact ⟨w4.heap.size, rfl, rfl, k5.alloc _⟩
                | exact ⟨wr.heap.size, rfl, rfl, (((ka.drew.below hB4).setCell (by have := kr.hB.size; omega) (by simp; omega) 0 (.int .i64 fk)).setCell (by have := kr.hB.size; omega) (by simp; omega) 1 (.int .u32 (vu fq))).setCell (by have := kr.hB.size; omega) (by simp; omega) 2 (.string fd)⟩
          case rest =>
            obtain ⟨g, rfl, rfl, k6⟩ := hcut
            clear kr cp
            by_cases hcd : cd = 0
            · subst hcd
              have HW := Lib.hid (seal_of_open pj s fk fq fd HV.out)
              clear HV
              have cp : wc.cell? ⟨w1.heap.size + 1, j, none⟩ = some (.int .i64 pj) := HP.out wc (k6.at 1 _ rfl)
              have d0 := k6.cell 0 g _ _ rfl 0 (.int .i64 fk) rfl
              have d1 := k6.cell 0 g _ _ rfl 1 (.int .u32 (vu fq)) rfl
              have d2 := k6.cell 0 g _ _ rfl 2 (.string fd) rfl
              have zg := k6.lt 0 _ rfl
              have z1 := k6.lt 1 _ rfl
              have z2 := k6.lt 2 _ rfl
              dsimp only at z1 z2 zg
              go_upto_region 13 with fail
              go_cut [14, 15] (fun f c wx => ∃ g2 : Nat, f = .pointer (some ⟨g2, 0, none⟩) ∧ c = .int .i64 0 ∧ Keep w wx [(g2, .cells (sec s) 27), (w1.heap.size + 1, .cells #[.int .i64 p, .int .i64 (vb at_)] 39), (w1.heap.size, .cells (sec s) 27)])
              case first =>
                have ka := k6.alloc (.cells (sec zsec) 27)
                have HH1 : Hid (HalfLaid wc.drew) := hh.below k6.drew.hB
                have HH2 : Hid (HalfLaid (wc.alloc (.cells (sec zsec) 27)).drew) := hh.below ka.drew.hB
                have n1 := World.new_ne wc _ cp
                have n2 := World.new_ne wc _ d0
                have n3 := World.new_ne wc _ d1
                have n4 := World.new_ne wc _ d2
                obtain ⟨cs, hcs⟩ : ∃ cs : Array Value, cs = sec s := ⟨_, rfl⟩
                have hu := Tryd.underlying27
                have hi : (Tryd.prog.info? 27).map (·.size) = some cs.toList.length := by rw [hcs, Array.length_toList, sec_size]; exact sector_size
                have hl : cs.toList.length = 128 := by rw [hcs, Array.length_toList, sec_size]
                have hone : ∀ v ∈ cs.toList, v.oneCell' = true := by rw [hcs]; intro v hv; exact sec_one s v (by simpa using hv)
                have HTH : Hid (∀ W : World, (W.alloc (.cells (sec zsec) 27)).there W.heap.size 0 128) := fun W => there_block (heap_alloc_new W _) _ (by rw [sec_size]; omega)
                have HCS := Lib.hid hcs
                clear hcs
                go_region_held3 (fun w' => w'.cell? ⟨w1.heap.size + 1, j, none⟩ = some (.int .i64 pj) ∧ w'.cell? ⟨g, 0, none⟩ = some (.int .i64 fk) ∧ w'.cell? ⟨g, 1, none⟩ = some (.int .u32 (vu fq)) ∧ w'.cell? ⟨g, 2, none⟩ = some (.string fd)) (first | go_keep | (refine ⟨?_, ?_, ?_, ?_⟩ <;> (rw [World.cell?_setCells_out _ _ _ _ _ (by intro h; exfalso; simp at h; omega)]; first | assumption | (rw [World.cell?_alloc_lt _ _ _ (by simp; omega)]; assumption)))) ((go_at_call 11; refine (seal_any pj fk fq fd _ hfd (by first | exact HH1.out | exact HH2.out)).mono ?_; rw [HW.out]; unfold sealV; dsimp only; rw [← HCS.out]; rintro e w4 ⟨rfl, hB4⟩; have k5 : Keep w w4 [(g, .cells #[.int .i64 fk, .int .u32 (vu fq), .string fd] 24), (w1.heap.size + 1, .cells #[.int .i64 p, .int .i64 (vb at_)] 39), (w1.heap.size, .cells (sec s) 27)] := (by first | exact k6.drew.below hB4 | exact ka.drop.drew.below hB4); have x0 : w4.cell? ⟨w1.heap.size + 1, j, none⟩ = some (.int .i64 pj) := HP.out w4 (k5.at 1 _ rfl); have x1 := k5.cell 0 g _ _ rfl 0 (.int .i64 fk) rfl; have x2 := k5.cell 0 g _ _ rfl 1 (.int .u32 (vu fq)) rfl; have x3 := k5.cell 0 g _ _ rfl 2 (.string fd) rfl; have n5 := World.new_ne w4 _ x0; have n6 := World.new_ne w4 _ x1; have n7 := World.new_ne w4 _ x2; have n8 := World.new_ne w4 _ x3; have y1 := k5.lt 0 _ rfl; have y2 := k5.lt 1 _ rfl; dsimp only at y1 y2; have hth5 := HTH.out w4; try (have hb4 : w4.heap[wc.heap.size]? = some (.cells (sec zsec) 27 (0, 0)) := (hB4.block wc.heap.size (by simp)).trans (heap_alloc_new wc _); have hth4 : w4.there wc.heap.size 0 128 := there_block hb4 _ (by rw [sec_size]; omega))))
                all_goals
                  have hcs := HCS.out
                  subst hcs
                  go_wp2_with fail
                  go_meet
                all_goals
                  first
                    | (refine ⟨w4.heap.size, rfl, rfl, ?_⟩; rw [setCells_whole _ _ _ _ _ (heap_alloc_new _ _) (by rw [sec_size, sec_size]), setRow_alloc_at _ _ _ _ _ rfl]; exact k5.drop.alloc _)
                    | (refine ⟨wc.heap.size, rfl, rfl, ?_⟩; rw [setCells_whole _ _ _ _ _ hb4 (by rw [sec_size, sec_size])]; exact ((ka.drew.below hB4).swap (cs := [(wc.heap.size, .cells (sec zsec) 27), (w1.heap.size + 1, .cells #[.int .i64 p, .int .i64 (vb at_)] 39), (w1.heap.size, .cells (sec s) 27)]) (by simp)).setRow (by have := k6.hB.size; omega) (by simp; omega) _)
              case rest =>
                obtain ⟨g2, rfl, rfl, k7⟩ := hcut
                clear k6 cp d0 d1 d2 HW zg z1 z2
                have hq := seqB_self s
                have y1 := k7.at 0 _ rfl
                have y2 := k7.at 2 _ rfl
                have l1 := run_ldSec _ _ _ y1
                have l2 := run_ldSec _ _ _ y2
                go_wp2_with fail
                go_roundw
                case rel => exact ⟨j + 1, by omega, by go_num, k7.drop⟩
                case measure => simp [intOf]; omega
            · have qc : (cd != 0) = true := by simpa using hcd
              clear hcd
              go_wp2
              go_roundw
              case rel => exact ⟨j + 1, by omega, by go_num, k6.drop⟩
              case measure => simp [intOf]; omega
        · have HA := Lib.hid (awake_any _ (hh.below kr.hB))
          go_wp2_with fail
          refine HA.out.mono ?_
          rintro e w6 ⟨rfl, hB⟩
          go_wp2
          go_ret
          exact ⟨rfl, (kr.below hB).hB⟩
end Go.Proofs.YtghaaonghlfepaaDoor
