/- The walk of the reference's Open. -/
import Derived.Test.YtfbkfdoekgnldaaGreatDoorFrMath
import Derived.Test.YtfbkfdoekgnldaaGreatDoorOpenI
import Derived.Deep.SlicePairs
import Derived.Deep.RegionHeld3
import Derived.Deep.DeepCutAuto
namespace Go.Proofs.YtfbkfdoekgnldaaGreatDoor
open Go.RowKit
open Lime
attribute [local go_sem high] q_shr32 q_shl32 q_shr32k q_shl32k q_shr32n q_shl32n g_com32 run_eql_sector run_neq_sector
attribute [local go_sem] g_xor32 g_or32 g_add32 g_wrap8 vu_nonneg g_same32 g_lo8 setRow_alloc_at setRow_alloc_past setRow_drew sec_set sec_set76 g_same8 sec_get g_ne32 g_eq32
theorem run_loadAt_sector (w : World) (g : Nat) (s : Sector) (hg : w.heap[g]? = some (.cells (sec s) 53 (0, 0))) :
    (Instr.loadAt 53 (.pointer (some ⟨g, 0, none⟩))).run Tryz.prog w = .ok (.agg (sec s)) w := by
  have := run_loadVar_sector w g s hg
  simpa [Instr.loadAt, asAddr, Instr.sureAddr] using this
/-- the load of a sector, under a name -/
def ldSec (v : Value) : Sem Value := Instr.loadAt 53 v
theorem ld_sec (v : Value) : Instr.loadAt 53 v = ldSec v := rfl
theorem run_ldSec (w : World) (g : Nat) (s : Sector) (hg : w.heap[g]? = some (.cells (sec s) 53 (0, 0))) :
    (ldSec (.pointer (some ⟨g, 0, none⟩))).run Tryz.prog w = .ok (.agg (sec s)) w := run_loadAt_sector w g s hg
theorem wpList_build_frame {ops : Array Oper} {rest : List Oper} {o : Oper} {a : Act} {w : World} {Q : Exit → Act → World → Prop} (hgd : o.guard = none) (ho : o.op = .build 49 #[])
    (h : wpList Tryz.prog ops Q rest (a.put o.dst (.agg #[.int .i64 0, .int .u32 0, .string ⟨#[]⟩])) w) : wpList Tryz.prog ops Q (o :: rest) a w :=
  wpList_plain hgd fun _ hK => by
    have hr : (Instr.build 49 #[]).run Tryz.prog w = .ok (.agg #[.int .i64 0, .int .u32 0, .string ⟨#[]⟩]) w := by kernel_rfl
    unfold Oper.wp execOp
    simp only [ho, Sem.run_bind, List.map_toArray, List.map_nil, hr, Result.andThen_ok, Sem.run_pure]
    exact hK _ _ h
/-- the memory of the reference's Open: the sector, and the result -/
structure RoInv (w W : World) (s : Sector) : Prop where
  hB : Below w.heap.size w W
  hs : W.heap[w.heap.size]? = some (.cells (sec s) 53 (0, 0))
  hr : W.heap[w.heap.size + 1]? = some (.cells #[.int .i64 0, .int .u32 0, .string ⟨#[]⟩] 49 (0, 0))
theorem RoInv.sz {w W : World} {s : Sector} (h : RoInv w W s) : w.heap.size + 1 < W.heap.size := (Array.getElem?_eq_some_iff.1 h.hr).1
theorem RoInv.below {w W W' : World} {s : Sector} (h : RoInv w W s) (hb : Below W.heap.size W W') : RoInv w W' s := by
  have := h.sz
  exact ⟨h.hB.trans (hb.mono (by omega)), (hb.block _ (by omega)).trans h.hs, (hb.block _ (by omega)).trans h.hr⟩
theorem RoInv.drew {w W : World} {s : Sector} (h : RoInv w W s) : RoInv w W.drew s := ⟨h.hB.drew, h.hs, h.hr⟩
theorem RoInv.start (w : World) (s : Sector) : RoInv w ((w.alloc (.cells (sec s) 53)).alloc (.cells #[.int .i64 0, .int .u32 0, .string ⟨#[]⟩] 49)) s :=
  ⟨((Below.refl _ _).alloc (Nat.le_refl _) _).alloc (by simp) _, heap_alloc2_old _ _ _, heap_alloc2_new _ _ _⟩
theorem RoInv.ret {w W : World} {s : Sector} (h : RoInv w W s) (cs : Array Value) : (W.setRow (w.heap.size + 1) cs).heap[w.heap.size + 1]? = some (.cells cs 49 (0, 0)) ∧ Below w.heap.size w (W.setRow (w.heap.size + 1) cs) :=
  ⟨setRow_heap W _ _ _ _ _ h.hr, h.hB.trans ⟨rfl, rfl, rfl, by simp, fun k hk => setRow_other W _ _ _ (by omega)⟩⟩
theorem RoInv.alloc {w W : World} {s : Sector} (h : RoInv w W s) (o : Obj) : RoInv w (W.alloc o) s := h.below ((Below.refl _ _).alloc (Nat.le_refl _) _)
theorem RoInv.retA {w W : World} {s : Sector} (h : RoInv w W s) (cs : Array Value) (o : Obj) : ((W.setRow (w.heap.size + 1) cs).alloc o).heap[w.heap.size + 1]? = some (.cells cs 49 (0, 0)) ∧ Below w.heap.size w ((W.setRow (w.heap.size + 1) cs).alloc o) := by
  have := h.sz
  refine ⟨(Below.heap_alloc _ _ _ (by simp; omega)).trans (h.ret cs).1, (h.ret cs).2.alloc (by simp; omega) _⟩
set_option maxRecDepth 100000 in
set_option maxHeartbeats 1000000 in
theorem refopen_range (p : Int) (s : Sector) (w : World) (h : p < 0 ∨ 256 ≤ p) :
    Calls Tryz.prog 100 #[.int .i64 p, .agg (sec s)] w fun e w' =>
      e = .returned (.tuple #[frV 0 0#32 ByteArray.empty, .int .i64 7]) ∧ Below w.heap.size w w' := by
  have h4 : (p < 0) ∨ (0 ≤ p ∧ 256 ≤ p) := by omega
  clear h
  rcases h4 with h | ⟨h1, h⟩
  · go_enter Tryz.func100, Tryz.ntmps100
    go_wp2_with (((with_reducible refine wpList_box_sector rfl _ rfl s ?_ ?_); rfl))
    exact bodyPost_ret (v := .tuple #[frV 0 0#32 ByteArray.empty, .int .i64 7]) (by simp [results, Tryz.results100, go_sem]; rfl) rfl ⟨rfl, ((Below.refl _ _).alloc (Nat.le_refl _) _).alloc (by simp) _⟩
  · go_enter Tryz.func100, Tryz.ntmps100
    go_wp2_with (((with_reducible refine wpList_box_sector rfl _ rfl s ?_ ?_); rfl))
    exact bodyPost_ret (v := .tuple #[frV 0 0#32 ByteArray.empty, .int .i64 7]) (by simp [results, Tryz.results100, go_sem]; rfl) rfl ⟨rfl, ((Below.refl _ _).alloc (Nat.le_refl _) _).alloc (by simp) _⟩
/-- the sector of the parts that are read is the sector itself just where it is formed -/
theorem same_formed {s : Sector} (h2 : (sat s 2).toNat ≤ 112) (h4 : (getN s 120).toNat < 256) :
    sealS (vu (getN s 120)) (vb (sat s 1)) (getN s 4) (frData s) = (s, 0) ↔ Formed s := by
  have hsz : (frData s).size = (sat s 2).toNat := by have := dataL_len s h2; simpa [frData, dataL, ByteArray.size] using this
  have hdl : (frData s).data.toList = dataL s := by simp [frData, dataL]
  have hu : (vu (getN s 120)).toNat = (getN s 120).toNat := by unfold vu; simp
  have hk : UInt8.ofNat (vb (sat s 1)).toNat = sat s 1 := by unfold vb; simp
  have hlb : UInt8.ofNat (frData s).size = sat s 2 := by rw [hsz]; simp
  unfold sealS
  constructor
  · intro h
    split at h
    · simp at h
    · rename_i hn
      rw [if_neg (by omega)] at h
      simp only [Prod.mk.injEq, and_true] at h
      rw [hk, hlb, hdl, hu] at h
      have h1 : sat s 1 ≠ 0 := by intro e; rw [e] at hn; exact hn (.inr (.inr (.inl (by decide))))
      have := formed_of_seal (sat s 1) (sat s 2) (dataL s) (getN s 4) (getN s 120).toNat (by rw [dataL_len s h2]; exact h2) (dataL_len s h2).symm h1 h4
      rwa [h] at this
  · intro h
    have h1 : ¬ (vu (getN s 120) < 0 ∨ 256 ≤ vu (getN s 120) ∨ vb (sat s 1) < 1 ∨ 255 < vb (sat s 1)) := by
      have a := vb_lt (sat s 1)
      have b : vb (sat s 1) ≠ 0 := fun e => h.t1 (by apply vb_inj.1; rw [e]; rfl)
      have c := vb_nonneg (sat s 1)
      unfold vu; omega
    rw [if_neg h1, if_neg (by omega), hk, hlb, hdl, hu, formed_seal h]
theorem openCode_rest {p : Nat} {s : Sector} (hz : s ≠ zsec) (h2 : (sat s 2).toNat ≤ 112) (h4 : (getN s 120).toNat < 256) (hs : getN s 124 = crc (s.toList.take 124)) :
    openCode p s = if sealS (vu (getN s 120)) (vb (sat s 1)) (getN s 4) (frData s) = (s, 0) then (if (getN s 120).toNat ≠ p then 72 else 0) else 6 := by
  by_cases h : Formed s
  · rw [if_pos ((same_formed h2 h4).2 h), openCode, if_neg hz, if_neg (fun e => e hs), if_neg (by
      rintro (e | e | e | e | e)
      · exact e h.t0
      · exact h.t1 e
      · omega
      · exact e h.t3
      · omega), h.tail]
    simp
  · rw [if_neg (fun e => h ((same_formed h2 h4).1 e)), openCode, if_neg hz, if_neg (fun e => e hs)]
    split
    · rfl
    · rename_i hn
      simp only [not_or, Decidable.not_not] at hn
      obtain ⟨a, b, c, d, e⟩ := hn
      rw [if_pos]
      cases ht : tailZ s with
      | false => rfl
      | true => exact absurd ⟨hs, a, b, h2, d, h4, ht⟩ h
theorem RoInv.put3 {w W : World} {s : Sector} (h : RoInv w W s) (g : Nat) (old : Array Value) (hg : w.heap.size + 1 < g) (hb : W.heap[g]? = some (.cells old 49 (0, 0))) (a b c : Value) :
    RoInv w (((W.setCell ⟨g, 0, none⟩ a).setCell ⟨g, 1, none⟩ b).setCell ⟨g, 2, none⟩ c) s ∧ (((W.setCell ⟨g, 0, none⟩ a).setCell ⟨g, 1, none⟩ b).setCell ⟨g, 2, none⟩ c).heap[g]? = some (.cells (((old.setIfInBounds 0 a).setIfInBounds 1 b).setIfInBounds 2 c) 49 (0, 0)) := by
  have ho : ∀ (W : World) (i : Nat) (v : Value) (k : Nat), k ≠ g → (W.setCell ⟨g, i, none⟩ v).heap[k]? = W.heap[k]? := fun W i v k hk => by
    simp only [World.setCell]; rw [Array.getElem?_modify, if_neg (fun e => hk e.symm)]
  refine ⟨⟨((h.hB.setCell (by simp; omega) _).setCell (by simp; omega) _).setCell (by simp; omega) _, ?_, ?_⟩, ?_⟩
  · rw [ho _ _ _ _ (by omega), ho _ _ _ _ (by omega), ho _ _ _ _ (by omega)]; exact h.hs
  · rw [ho _ _ _ _ (by omega), ho _ _ _ _ (by omega), ho _ _ _ _ (by omega)]; exact h.hr
  · exact heap_setCell_same _ _ 2 _ _ _ (heap_setCell_same _ _ 1 _ _ _ (heap_setCell_same _ _ 0 _ _ _ hb))
theorem RoInv.put1 {w W : World} {s : Sector} (h : RoInv w W s) (g i : Nat) (old : Array Value) (hg : w.heap.size + 1 < g) (hb : W.heap[g]? = some (.cells old 49 (0, 0))) (c : Value) :
    RoInv w (W.setCell ⟨g, i, none⟩ c) s ∧ (W.setCell ⟨g, i, none⟩ c).heap[g]? = some (.cells (old.setIfInBounds i c) 49 (0, 0)) := by
  have ho : ∀ (W : World) (i : Nat) (v : Value) (k : Nat), k ≠ g → (W.setCell ⟨g, i, none⟩ v).heap[k]? = W.heap[k]? := fun W i v k hk => by
    simp only [World.setCell]; rw [Array.getElem?_modify, if_neg (fun e => hk e.symm)]
  refine ⟨⟨h.hB.setCell (by simp; omega) _, ?_, ?_⟩, ?_⟩
  · rw [ho _ _ _ _ (by omega)]; exact h.hs
  · rw [ho _ _ _ _ (by omega)]; exact h.hr
  · exact heap_setCell_same _ _ i _ _ _ hb
theorem u32_int (x : BitVec 32) : IntKind.i64.wrap (vu x) = vu x := IntWalk.i64_in _ (by have := vu_nonneg x; have := vu_lt x; omega)
theorem frData_size (s : Sector) : (frData s).size ≤ 9223372036854775807 := by
  have : (frData s).size ≤ 128 := by
    simp only [frData, ByteArray.size, List.size_toArray, List.length_take, List.length_drop, Vector.length_toList]; omega
  omega
attribute [local go_sem ↓ high] ld_sec
set_option maxRecDepth 100000 in
set_option maxHeartbeats 2000000 in
theorem refopen_any (p : Nat) (s : Sector) (w : World) (hp : p < 256) :
    Calls Tryz.prog 100 #[.int .i64 (p : Int), .agg (sec s)] w fun e w' =>
      e = .returned (openV p s) ∧ Below w.heap.size w w' := by
  have d1 : decide ((p : Int) < 0) = false := by simp
  have d2 : decide (256 ≤ (p : Int)) = false := by simp; omega
  have hgt : Tryz.prog.eqGuardType Tryz.prog.depth 53 = false := by kernel_rfl
  have hinv := RoInv.start w s
  by_cases hz : s = zsec
  · have hzb : seqB s zsec = true := by simp [seqB, hz]
    have HV : Hid (openV p s = .tuple #[frV 0 0#32 ByteArray.empty, .int .i64 70]) := by simp [Hid, openV, openCode, hz]
    clear hz
    go_enter Tryz.func100, Tryz.ntmps100
    go_wp2_with (first | ((with_reducible refine wpList_box_sector rfl _ rfl s ?_ ?_); rfl) | ((with_reducible refine wpList_load_sector rfl _ rfl w.heap.size s ?_ hinv.hs ?_); rfl) | (with_reducible refine wpList_build_sector rfl rfl ?_) | (with_reducible refine wpList_build_frame rfl rfl ?_) | ((with_reducible refine wpList_store_frame rfl _ _ rfl (w.heap.size + 1) #[.int .i64 0, .int .u32 0, .string ⟨#[]⟩] _ ?_ ?_ hinv.hr ?_ ?_ ?_ ?_); rfl; rfl; rfl; rfl; rfl))
    refine bodyPost_ret (results_frame2 rfl _ _ (w.heap.size + 1) _ rfl hinv.hr rfl) rfl ⟨?_, hinv.hB⟩
    rw [HV.out]; rfl
  · have hzb : seqB s zsec = false := by simp [seqB, hz]
    go_enter Tryz.func100, Tryz.ntmps100
    go_wp2_with (first | ((with_reducible refine wpList_box_sector rfl _ rfl s ?_ ?_); rfl) | ((with_reducible refine wpList_load_sector rfl _ rfl w.heap.size s ?_ hinv.hs ?_); rfl) | (with_reducible refine wpList_build_sector rfl rfl ?_))
    generalize ((w.alloc (.cells (sec s) 53)).alloc (.cells #[.int .i64 0, .int .u32 0, .string ⟨#[]⟩] 49)) = w1 at hinv ⊢
    have hld := run_ldSec w1.drew w.heap.size s hinv.hs
    have hsl := fun W => run_slice_to_sector w.heap.size 124 (by omega) W
    have hcr : ∀ W, W.heap[w.heap.size]? = some (.cells (sec s) 53 (0, 0)) → Calls Tryz.prog 44 #[.slice (some ⟨w.heap.size, 0, none⟩) 124 128] W fun e w' => e = .returned (.int .u32 (vu (crc (s.toList.take 124)))) ∧ W = w' := by
      intro W hW
      have hc := refcrc_any 128 (some ⟨w.heap.size, 0, none⟩) (s.toList.take 124) W (sec_bytes hW 124 (by omega))
      rw [take_len s 124 (by omega)] at hc
      exact hc
    have HC := Lib.hid hcr
    have hsz := hinv.sz
    clear hcr
    have hs1 := hinv.hs
    go_region_with (first | (go_at_call 108; refine (refnumbered_any 124 s _ (by omega)).mono ?_; rintro e w' ⟨rfl, hB⟩) | (go_at_call 44; refine (HC.out _ ?_).mono ?_; (first | exact hs1 | exact (hB.block _ (by simp; omega)).trans hs1); rintro e w' ⟨rfl, rfl⟩))
    have hinv2 := hinv.drew.below hB
    clear hinv hld hs1 hsz HC hB hsl
    by_cases hsum : getN s 124 = crc (s.toList.take 124)
    case neg =>
      have hq : (getN s 124 != crc (s.toList.take 124)) = true := by simpa using hsum
      rw [hq]
      have HV : Hid (openV p s = .tuple #[frV 0 0#32 ByteArray.empty, .int .i64 71]) := by simp [Hid, openV, openCode, hz, hsum]
      clear hsum hz
      have hr2 := hinv2.hr
      go_wp2_with (first | (with_reducible refine wpList_build_frame rfl rfl ?_) | ((with_reducible refine wpList_store_frame rfl _ _ rfl (w.heap.size + 1) #[.int .i64 0, .int .u32 0, .string ⟨#[]⟩] _ ?_ ?_ hr2 ?_ ?_ ?_ ?_); rfl; rfl; rfl; rfl; rfl))
      refine bodyPost_ret (results_frame2 rfl _ _ (w.heap.size + 1) _ rfl (hinv2.ret _).1 rfl) rfl ⟨?_, (hinv2.ret _).2⟩
      rw [HV.out]; rfl
    have hq : (getN s 124 != crc (s.toList.take 124)) = false := by simpa using hsum
    rw [hq]
    have hs2 := hinv2.hs
    go_wp2_with (first | ((with_reducible refine wpList_load_sector rfl _ rfl w.heap.size s ?_ hs2 ?_); rfl) | (go_at_call 108; refine (refnumbered_any 120 s _ (by omega)).mono ?_; rintro e w3 ⟨rfl, hB⟩))
    have hinv3 := hinv2.below hB
    clear hinv2 hB hs2 hq hzb d1 d2
    have hs3 := hinv3.hs
    have hz3 := hinv3.sz
    have hld := run_ldSec w3.drew w.heap.size s hs3
    have b1 := byte_int (sat s 1)
    have c1 : w3.cell? ⟨w.heap.size, 1, none⟩ = some (.int .u8 (vb (sat s 1))) := (cell_of_row w3 _ _ _ _ _ hs3).trans (sec_get s 1 (by omega))
    go_cut [7] (fun s7 wx => ∃ g : Nat, s7 = .pointer (some ⟨g, 0, none⟩) ∧ w.heap.size + 1 < g ∧ RoInv w wx s ∧ wx.heap[g]? = some (.cells #[.int .i64 (vb (sat s 1)), .int .u32 (vu (getN s 4)), .string ⟨#[]⟩] 49 (0, 0)))
    case first =>
      have n3 := World.new_ne w3 _ c1
      have hz0 : w.heap.size < w3.heap.size := by omega
      have hld2 := run_ldSec (w3.alloc (.cells #[.int .i64 0, .int .u32 0, .string ⟨#[]⟩] 49)).drew w.heap.size s (hinv3.alloc _).hs
      go_region_with (go_at_call 108; refine (refnumbered_any 4 s _ (by omega)).mono ?_; rintro e w4 ⟨rfl, hB4⟩; have hi4 : RoInv w w4 s := (by first | exact hinv3.drew.below hB4 | exact (hinv3.alloc _).drew.below hB4); have c4 : w4.cell? ⟨w.heap.size, 1, none⟩ = some (.int .u8 (vb (sat s 1))) := (cell_of_row w4 _ _ _ _ _ hi4.hs).trans (sec_get s 1 (by omega)); have hz4 : w.heap.size < w4.heap.size := (by have := hi4.sz; omega); have n4 := World.new_ne w4 _ c4; try (have hb4 : w4.heap[w3.heap.size]? = some (.cells #[.int .i64 0, .int .u32 0, .string ⟨#[]⟩] 49 (0, 0)) := (hB4.block w3.heap.size (by simp)).trans (heap_alloc_new w3 _); have r0 : w4.cell? ⟨w3.heap.size, 0, none⟩ = some (.int .i64 0) := cell_of_row w4 _ 0 _ _ _ hb4; have r1 : w4.cell? ⟨w3.heap.size, 1, none⟩ = some (.int .u32 0) := cell_of_row w4 _ 1 _ _ _ hb4; have r2 : w4.cell? ⟨w3.heap.size, 2, none⟩ = some (.string ⟨#[]⟩) := cell_of_row w4 _ 2 _ _ _ hb4; have f0 : w4.frozen? ⟨w3.heap.size, 0, none⟩ = false := frozen_of_row w4 _ _ _ _ hb4; have f1 : w4.frozen? ⟨w3.heap.size, 1, none⟩ = false := frozen_of_row w4 _ _ _ _ hb4; have f2 : w4.frozen? ⟨w3.heap.size, 2, none⟩ = false := frozen_of_row w4 _ _ _ _ hb4))
      all_goals
        go_wp2_with fail
        go_meet
        first
          | exact ⟨w4.heap.size, rfl, by have := hi4.sz; omega, hi4.alloc _, heap_alloc_new _ _⟩
          | exact ⟨w3.heap.size, rfl, by omega, (hi4.put3 _ _ (by omega) hb4 _ _ _).1, (hi4.put3 _ _ (by omega) hb4 _ _ _).2⟩
    case rest =>
      obtain ⟨g, rfl, hg, hinv, hf⟩ := hcut
      clear hinv3 hs3 hz3 hld c1
      have hr := hinv.hr
      have hs := hinv.hs
      have c2 : wc.cell? ⟨w.heap.size, 2, none⟩ = some (.int .u8 (vb (sat s 2))) := (cell_of_row wc _ _ _ _ _ hs).trans (sec_get s 2 (by omega))
      have b2 := byte_int (sat s 2)
      have v0 := vb_nonneg (sat s 2)
      have v1 := vb_lt (sat s 2)
      by_cases t4 : 256 ≤ (getN s 120).toNat
      case pos =>
        have q4 : decide (256 ≤ vu (getN s 120)) = true := by unfold vu; simp; omega
        have HV : Hid (openV p s = .tuple #[frV 0 0#32 ByteArray.empty, .int .i64 6]) := by simp [Hid, openV, openCode, hz, hsum, t4]
        clear hsum hz t4
        go_wp2_with (first | (with_reducible refine wpList_build_frame rfl rfl ?_) | ((with_reducible refine wpList_store_frame rfl _ _ rfl (w.heap.size + 1) #[.int .i64 0, .int .u32 0, .string ⟨#[]⟩] _ ?_ ?_ hr ?_ ?_ ?_ ?_); rfl; rfl; rfl; rfl; rfl))
        refine bodyPost_ret (results_frame2 rfl _ _ (w.heap.size + 1) _ rfl (hinv.ret _).1 rfl) rfl ⟨?_, (hinv.ret _).2⟩
        rw [HV.out]; rfl
      have q4 : decide (256 ≤ vu (getN s 120)) = false := by unfold vu; simp; omega
      by_cases t2 : 112 < (sat s 2).toNat
      case pos =>
        have q2 : decide (112 < vb (sat s 2)) = true := by unfold vb; simp; omega
        have HV : Hid (openV p s = .tuple #[frV 0 0#32 ByteArray.empty, .int .i64 6]) := by simp [Hid, openV, openCode, hz, hsum, t2]
        clear hsum hz t4 t2
        go_wp2_with (first | (with_reducible refine wpList_build_frame rfl rfl ?_) | ((with_reducible refine wpList_store_frame rfl _ _ rfl (w.heap.size + 1) #[.int .i64 0, .int .u32 0, .string ⟨#[]⟩] _ ?_ ?_ hr ?_ ?_ ?_ ?_); rfl; rfl; rfl; rfl; rfl))
        refine bodyPost_ret (results_frame2 rfl _ _ (w.heap.size + 1) _ rfl (hinv.ret _).1 rfl) rfl ⟨?_, (hinv.ret _).2⟩
        rw [HV.out]; rfl
      have q2 : decide (112 < vb (sat s 2)) = false := by unfold vb; simp; omega
      have HO := Lib.hid (openCode_rest (p := p) hz (by omega) (by omega) hsum)
      clear hsum hz
      obtain ⟨m, hm⟩ : ∃ m, m = (sat s 2).toNat := ⟨_, rfl⟩
      have hmm : vb (sat s 2) = (m : Int) := by rw [hm]; rfl
      have hsl2 : ∀ W, (Instr.sliceAt 53 (.pointer (some ⟨w.heap.size, 0, none⟩)) (some (.int .i64 8)) (some (.int .i64 (8 + vb (sat s 2)))) none).run Tryz.prog W = .ok (.slice (some ⟨w.heap.size, 8, none⟩) m 120) W := fun W => by
        rw [hmm]
        have := run_slice2_sector w.heap.size 8 (8 + m) (by omega) (by omega) (by omega) W
        rw [show 8 + m - 8 = m by omega] at this
        exact this
      have hcv : (convert 96 9 (.slice (some ⟨w.heap.size, 8, none⟩) m 120)).run Tryz.prog wc = .ok (.string (frData s)) wc := by
        have := run_string_sector wc w.heap.size 8 m 120 s _ hs (by omega)
        rw [this, frData, ← hm]
      have HM := Lib.hid hm
      clear hm hmm t4 t2
      have p1 := hinv.put1 g 2 _ hg hf (.string (frData s))
      have r2 : wc.cell? ⟨g, 2, none⟩ = some (.string ⟨#[]⟩) := cell_of_row wc _ 2 _ _ _ hf
      have f2 : wc.frozen? ⟨g, 2, none⟩ = false := frozen_of_row wc _ _ _ _ hf
      have b4 := u32_int (getN s 120)
      have k0 : (wc.setCell ⟨g, 2, none⟩ (.string (frData s))).cell? ⟨g, 0, none⟩ = some (.int .i64 (vb (sat s 1))) := cell_of_row _ _ 0 _ _ _ p1.2
      have k1 : (wc.setCell ⟨g, 2, none⟩ (.string (frData s))).cell? ⟨g, 1, none⟩ = some (.int .u32 (vu (getN s 4))) := cell_of_row _ _ 1 _ _ _ p1.2
      have k2 : (wc.setCell ⟨g, 2, none⟩ (.string (frData s))).cell? ⟨g, 2, none⟩ = some (.string (frData s)) := cell_of_row _ _ 2 _ _ _ p1.2
      have P1 := Lib.hid p1.2
      have P0 := p1.1
      clear p1
      go_wp2_with fail
      refine (refseal_any _ _ _ _ _ (frData_size s)).mono ?_
      rintro e w5 ⟨rfl, hB5⟩
      have hinv5 := P0.below hB5
      have hgW : g < (wc.setCell ⟨g, 2, none⟩ (.string (frData s))).heap.size := (Array.getElem?_eq_some_iff.1 P1.out).1
      have hf5 : w5.heap[g]? = some (.cells #[.int .i64 (vb (sat s 1)), .int .u32 (vu (getN s 4)), .string (frData s)] 49 (0, 0)) := (hB5.block _ hgW).trans P1.out
      clear hB5 hgW P0 P1 k0 k1 k2 b4 f2 r2 hcv hsl2 HM q2 q4 c2 hr hs hf hinv b2
      obtain ⟨x, hx⟩ : ∃ x, sealS (vu (getN s 120)) (vb (sat s 1)) (getN s 4) (frData s) = x := ⟨_, rfl⟩
      have ho := HO.out
      rw [hx] at ho ⊢
      clear hx HO
      obtain ⟨sx, cx⟩ := x
      unfold sealV
      dsimp only
      have hinv6 := hinv5.alloc (.cells (sec sx) 53)
      have hs6 := hinv6.hs
      have hr6 := hinv6.hr
      have hn6 : (w5.alloc (.cells (sec sx) 53)).heap[w5.heap.size]? = some (.cells (sec sx) 53 (0, 0)) := heap_alloc_new _ _
      have hf6 := (Below.heap_alloc w5 (.cells (sec sx) 53) g (Array.getElem?_eq_some_iff.1 hf5).1).trans hf5
      have hsz5 := hinv5.sz
      clear hf5
      have hl1 := run_ldSec _ _ _ hn6
      have hl2 := run_ldSec _ _ _ hs6
      by_cases hc : cx = 0
      case neg =>
        have HV : Hid (openV p s = .tuple #[frV 0 0#32 ByteArray.empty, .int .i64 6]) := by
          rw [if_neg (by simp [hc])] at ho
          simp [Hid, openV, ho]
        have qc : (cx != 0) = true := by simpa using hc
        clear ho hc
        go_wp2_with (first | (with_reducible refine wpList_alloc_sector rfl rfl ?_) | ((with_reducible refine wpList_store_sector rfl _ _ rfl w5.heap.size sx zsec ?_ ?_ ?_ ?_); rfl; rfl; exact heap_alloc_new _ _) | (with_reducible refine wpList_build_frame rfl rfl ?_) | ((with_reducible refine wpList_store_frame rfl _ _ rfl (w.heap.size + 1) #[.int .i64 0, .int .u32 0, .string ⟨#[]⟩] _ ?_ ?_ hr6 ?_ ?_ ?_ ?_); rfl; rfl; rfl; rfl; rfl))
        refine bodyPost_ret (results_frame2 rfl _ _ (w.heap.size + 1) _ rfl (hinv5.retA _ _).1 rfl) rfl ⟨?_, (hinv5.retA _ _).2⟩
        rw [HV.out]; rfl
      subst hc
      by_cases hsx : sx = s
      case neg =>
        have HV : Hid (openV p s = .tuple #[frV 0 0#32 ByteArray.empty, .int .i64 6]) := by
          rw [if_neg (by simp [hsx])] at ho
          simp [Hid, openV, ho]
        have qc : seqB sx s = false := by simp [seqB, hsx]
        clear ho hsx
        go_wp2_with (first | (with_reducible refine wpList_alloc_sector rfl rfl ?_) | ((with_reducible refine wpList_store_sector rfl _ _ rfl w5.heap.size sx zsec ?_ ?_ ?_ ?_); rfl; rfl; exact heap_alloc_new _ _) | ((with_reducible refine wpList_load_sector rfl _ rfl w5.heap.size sx ?_ hn6 ?_); rfl) | ((with_reducible refine wpList_load_sector rfl _ rfl w.heap.size s ?_ hs6 ?_); rfl) | (with_reducible refine wpList_build_frame rfl rfl ?_) | ((with_reducible refine wpList_store_frame rfl _ _ rfl (w.heap.size + 1) #[.int .i64 0, .int .u32 0, .string ⟨#[]⟩] _ ?_ ?_ hr6 ?_ ?_ ?_ ?_); rfl; rfl; rfl; rfl; rfl))
        refine bodyPost_ret (results_frame2 rfl _ _ (w.heap.size + 1) _ rfl (hinv5.retA _ _).1 rfl) rfl ⟨?_, (hinv5.retA _ _).2⟩
        rw [HV.out]; rfl
      subst hsx
      rw [if_pos rfl] at ho
      have qc : seqB sx sx = true := by simp [seqB]
      have b4 := u32_int (getN sx 120)
      by_cases hpl : (getN sx 120).toNat = p
      · have q5 : (vu (getN sx 120) != (p : Int)) = false := by simp [vu, hpl]
        have HV : Hid (openV p sx = .tuple #[frV (vb (sat sx 1)) (getN sx 4) (frData sx), .int .i64 0]) := by
          rw [if_neg (fun h => h hpl)] at ho
          simp [Hid, openV, ho]
        clear ho hpl
        go_wp2_with (first | (with_reducible refine wpList_alloc_sector rfl rfl ?_) | ((with_reducible refine wpList_store_sector rfl _ _ rfl w5.heap.size sx zsec ?_ ?_ ?_ ?_); rfl; rfl; exact heap_alloc_new _ _) | ((with_reducible refine wpList_load_sector rfl _ rfl w5.heap.size sx ?_ hn6 ?_); rfl) | ((with_reducible refine wpList_load_sector rfl _ rfl w.heap.size sx ?_ hs6 ?_); rfl) | ((with_reducible refine wpList_load_frame rfl _ rfl g _ ?_ hf6 ?_ ?_); rfl; rfl) | ((with_reducible refine wpList_store_frame rfl _ _ rfl (w.heap.size + 1) #[.int .i64 (vb (sat sx 1)), .int .u32 (vu (getN sx 4)), .string (frData sx)] _ ?_ ?_ hr6 ?_ ?_ ?_ ?_); rfl; rfl; rfl; rfl; rfl))
        refine bodyPost_ret (results_frame2 rfl _ _ (w.heap.size + 1) _ rfl (hinv5.retA _ _).1 rfl) rfl ⟨?_, (hinv5.retA _ _).2⟩
        rw [HV.out]; rfl
      · have q5 : (vu (getN sx 120) != (p : Int)) = true := by simp [vu]; omega
        have HV : Hid (openV p sx = .tuple #[frV 0 0#32 ByteArray.empty, .int .i64 72]) := by
          rw [if_pos hpl] at ho
          simp [Hid, openV, ho]
        clear ho hpl
        go_wp2_with (first | (with_reducible refine wpList_alloc_sector rfl rfl ?_) | ((with_reducible refine wpList_store_sector rfl _ _ rfl w5.heap.size sx zsec ?_ ?_ ?_ ?_); rfl; rfl; exact heap_alloc_new _ _) | ((with_reducible refine wpList_load_sector rfl _ rfl w5.heap.size sx ?_ hn6 ?_); rfl) | ((with_reducible refine wpList_load_sector rfl _ rfl w.heap.size sx ?_ hs6 ?_); rfl) | (with_reducible refine wpList_build_frame rfl rfl ?_) | ((with_reducible refine wpList_store_frame rfl _ _ rfl (w.heap.size + 1) #[.int .i64 0, .int .u32 0, .string ⟨#[]⟩] _ ?_ ?_ hr6 ?_ ?_ ?_ ?_); rfl; rfl; rfl; rfl; rfl))
        refine bodyPost_ret (results_frame2 rfl _ _ (w.heap.size + 1) _ rfl (hinv5.retA _ _).1 rfl) rfl ⟨?_, (hinv5.retA _ _).2⟩
        rw [HV.out]; rfl
theorem refopen_int_any (p : Int) (s : Sector) (w : World) :
    Calls Tryz.prog 100 #[.int .i64 p, .agg (sec s)] w fun e w' => e = .returned (openVI p s) ∧ Below w.heap.size w w' := by
  unfold openVI
  by_cases h : 0 ≤ p ∧ p < 256
  · rw [if_pos h]
    have := refopen_any p.toNat s w (by omega)
    rwa [show ((p.toNat : Nat) : Int) = p by omega] at this
  · rw [if_neg h]; exact refopen_range p s w (by omega)
end Go.Proofs.YtfbkfdoekgnldaaGreatDoor
