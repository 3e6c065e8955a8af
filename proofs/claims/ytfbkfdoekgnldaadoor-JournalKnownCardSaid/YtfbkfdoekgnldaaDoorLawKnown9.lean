/- The walk of the statement JournalKnown. -/
import Derived.Test.YtfbkfdoekgnldaaDoorJnAwake
namespace Go.Proofs.YtfbkfdoekgnldaaDoor
open Go.RowKit
open Lime
attribute [local go_sem] Oper.semAt_some setRow_alloc_at setRow_alloc_past setRow_drew g_same32 g_eq32 g_ne32
def sevR (k i : Nat) : Rec := if i < k then ⟨30 + (i : Int), 8, ⟨#[]⟩⟩ else ⟨0, 0, ⟨#[]⟩⟩
def sevL (k : Nat) : List Rec := [sevR k 0, sevR k 1, sevR k 2, sevR k 3, sevR k 4, sevR k 5, sevR k 6]
def sevC (k : Nat) : Array Value := (flat recL (sevL k)).toArray
theorem sevC_step (k : Nat) (h : k < 7) : ((((sevC k).setIfInBounds (k * 3) (.int .i64 (30 + (k : Int)))).setIfInBounds (k * 3 + 1) (.int .i64 8)).setIfInBounds (k * 3 + 2) (.string ⟨#[]⟩)) = sevC (k + 1) := by
  match k, h with
  | 0, _ => rfl
  | 1, _ => rfl
  | 2, _ => rfl
  | 3, _ => rfl
  | 4, _ => rfl
  | 5, _ => rfl
  | 6, _ => rfl
theorem sevC_at (k : Nat) (h : k < 7) : (sevC k)[k * 3]? = some (.int .i64 0) ∧ (sevC k)[k * 3 + 1]? = some (.int .i64 0) ∧ (sevC k)[k * 3 + 2]? = some (.string ⟨#[]⟩) := by
  match k, h with
  | 0, _ => exact ⟨rfl, rfl, rfl⟩
  | 1, _ => exact ⟨rfl, rfl, rfl⟩
  | 2, _ => exact ⟨rfl, rfl, rfl⟩
  | 3, _ => exact ⟨rfl, rfl, rfl⟩
  | 4, _ => exact ⟨rfl, rfl, rfl⟩
  | 5, _ => exact ⟨rfl, rfl, rfl⟩
  | 6, _ => exact ⟨rfl, rfl, rfl⟩
theorem run_make_seven (W : World) : (Instr.makeSlice 22 (.int .i64 7) (.int .i64 7)).run Tryd.prog W = .ok (.slice (some ⟨W.heap.size, 0, none⟩) 7 7) (W.alloc (.cells (sevC 0) 67)) := by
  obtain ⟨i0, hi, hz0, hz1, hz2⟩ := info_parts rec_info
  have := run_makeSlice (P := Tryd.prog) W 22 67 i0 (.agg #[.int .i64 0, .int .i64 0, .string ⟨#[]⟩]) Tryd.underlying22 hi hz0 .i64 .i64 7 7 (by omega) (by omega) (by rw [hz1]; simp) (by rw [hz2]; omega) (by omega)
  rw [hz1, show madeCells (Value.agg #[.int .i64 0, .int .i64 0, .string ⟨#[]⟩]).cells ((7 : Int).toNat * 3) = sevC 0 by kernel_rfl] at this
  exact this
def runA : List Rec := [⟨3, 8, ⟨#[]⟩⟩]
def runB : List Rec := [⟨30, 8, ⟨#[]⟩⟩, ⟨30, 8, ⟨#[]⟩⟩]
theorem vA : validM 64 nineL runA = 2 := by decide
theorem vB : validM 64 nineL runB = 8 := by decide
theorem vS : validM 64 nineL (sevL 7) = 12 := by decide
theorem known_math {S : Dv} (hf : Fresh S nineL 64) : headM S nineL = (q32 0, 0) ∧ lookM S nineL = ([], false, 0) ∧ replayM S nineL = (S, 0, 0) ∧ commitM S nineL (sevL 7) = (S, 12) ∧ commitM S nineL runA = (S, 2) ∧ commitM S nineL runB = (S, 8) := by
  have hck : nineL.check = 0 := by decide
  have h1 := head_of hck hf.t0.hd
  have h2 := look_T0 hf.calm.f (by decide) hf.t0
  have h3 := stale_T0 hf.calm.f (by decide) hf.t0
  refine ⟨h1, h2, ?_, ?_, ?_, ?_⟩
  · unfold replayM
    rw [h2, h1, if_neg (by simp), if_neg (by simp)]
    dsimp only
    rw [h3, if_neg (by simp), if_neg (by simp)]
  · have := commit_no (run := sevL 7) hf.calm hf.t0 (by rw [hf.len, vS]; decide)
    rw [this, hf.len, vS]
  · have := commit_no (run := runA) hf.calm hf.t0 (by rw [hf.len, vA]; decide)
    rw [this, hf.len, vA]
  · have := commit_no (run := runB) hf.calm hf.t0 (by rw [hf.len, vB]; decide)
    rw [this, hf.len, vB]
theorem vu_q0 : vu (q32 0) = 0 := by decide
set_option maxRecDepth 100000 in
set_option maxHeartbeats 4000000 in
theorem known9_law (w : World) (hh : HalfLaid w) :
    Calls Tryd.prog 6 #[] w fun e w' => e = .returned (.bool true) ∧ Below w.heap.size w w' := by
  have HAW : Hid (∀ w', Below w.heap.size w w' → Calls Tryd.prog 12 #[] w' fun e w'' => e = .returned (.bool true) ∧ Below w'.heap.size w' w'') := fun w' hB => awake9 w' (hh.below hB)
  have HF := Lib.hid (formatted_has (Has.start w) hh)
  have HHL := Lib.hid hh
  clear hh
  go_enter Tryd.func6, Tryd.ntmps6
  go_wp2_with fail
  refine HF.out.mono ?_
  clear HF
  rintro e w1 ⟨g, S, rfl, hfr, h1⟩
  obtain ⟨m1, m2, m3, m4, m5, m6⟩ := known_math hfr
  have M1 := Lib.hid m1
  have M2 := Lib.hid m2
  have M3 := Lib.hid m3
  have M4 := Lib.hid m4
  have M5 := Lib.hid m5
  have M6 := Lib.hid m6
  have H1 := Lib.hid h1
  clear hfr h1 m1 m2 m3 m4 m5 m6
  go_wp2_with fail
  refine (nine_any _).mono ?_
  rintro e w2 ⟨rfl, hB2⟩
  have hc := head_has (H1.out.below hB2) (.head _) nineL HHL.out
  rw [M1.out, vu_q0] at hc
  have HC := Lib.hid hc
  clear hc hB2 H1
  go_wp2_with fail
  refine HC.out.mono ?_
  clear HC
  rintro e w3 ⟨rfl, h3⟩
  have H3 := Lib.hid h3
  clear h3
  go_wp2_with fail
  refine (nine_any _).mono ?_
  rintro e w4 ⟨rfl, hB4⟩
  have hc := lookE_has (H3.out.below hB4) (.head _) nineL HHL.out
  rw [M2.out] at hc
  have HC := Lib.hid hc
  clear hc hB4 H3
  go_wp2_with fail
  refine HC.out.mono ?_
  clear HC
  rintro e w5 ⟨a, cap, rfl, h5⟩
  have H5 := Lib.hid h5.drop
  clear h5
  go_wp2_with fail
  refine (nine_any _).mono ?_
  rintro e w6 ⟨rfl, hB6⟩
  have hc := replay_at [] (H5.out.below hB6) nineL HHL.out
  rw [M3.out] at hc
  have HC := Lib.hid hc
  clear hc hB6 H5
  go_wp2_with fail
  refine HC.out.mono ?_
  clear HC
  rintro e w7 ⟨rfl, h7⟩
  have hmk := run_make_seven
  have H7 := Lib.hid (h7.alloc (.cells (sevC 0) 67))
  clear h7
  go_wp2_with fail
  clear hmk
  go_loopw [10] (fun i wr => ∃ k : Nat, k ≤ 7 ∧ i = .int .i64 (k : Int) ∧ Has w wr [Blk _ w7.heap.size (.cells (sevC k) 67), DevR _ g S]) (fun i _ => 7 - (intOf i).toNat)
  case atStart => exact ⟨0, by omega, rfl, H7.out⟩
  case round =>
    obtain ⟨k, hk, rfl, hH⟩ := hrel
    clear H7
    by_cases hlt : k < 7
    · obtain ⟨v0, v1, v2⟩ := sevC_at k hlt
      have hix := fun w => run_index_rec w7.heap.size 0 7 7 k hlt w
      simp only [Nat.zero_add] at hix
      have c0 := hH.cell 0 _ _ _ rfl (k * 3) _ v0
      have c1 := hH.cell 0 _ _ _ rfl (k * 3 + 1) _ v1
      have c2 := hH.cell 0 _ _ _ rfl (k * 3 + 2) _ v2
      have f0 := hH.frozen 0 _ _ _ rfl (k * 3)
      have f1 := hH.frozen 0 _ _ _ rfl (k * 3 + 1)
      have f2 := hH.frozen 0 _ _ _ rfl (k * 3 + 2)
      have h2 := Has.setCell [] (Has.setCell [] (Has.setCell [] hH (k * 3) (.int .i64 (30 + (k : Int)))) (k * 3 + 1) (.int .i64 8)) (k * 3 + 2) (.string ⟨#[]⟩)
      rw [sevC_step k hlt] at h2
      have H2 := Lib.hid h2
      have hw : wrap64 (30 + (k : Int)) = 30 + (k : Int) := by unfold wrap64; omega
      clear hH h2 v0 v1 v2
      go_wp2_with fail
      go_roundw
      case rel => exact ⟨k + 1, by omega, by go_num, H2.out⟩
      case measure => simp [intOf]; omega
    · obtain rfl : k = 7 := by omega
      have hrd : Has w wr [RunR _ (.slice (some ⟨w7.heap.size, 0, none⟩) (sevL 7).length 7) (sevL 7), DevR _ g S] := by
        refine hH.turn (r' := RunR _ (.slice (some ⟨w7.heap.size, 0, none⟩) (sevL 7).length 7) (sevL 7)) (fun F hP hF => ?_)
        obtain ⟨rfl, hb⟩ := hP
        exact ⟨Only.refl _ _, [w7.heap.size], ⟨rdl_block hb (sevL 7) rfl 7, fun k hk => .inr (by have := blksL_sub _ _ k hk; simpa [blks, Value.ownBlock] using this), by simp; exact (Array.getElem?_eq_some_iff.1 hb).1⟩, by simp⟩
      have H8 := Lib.hid hrd
      clear hH hrd
      go_wp2_with fail
      refine (costs_any 2 _).mono ?_
      rintro e w8 ⟨rfl, hB8⟩
      rw [if_neg (by decide)]
      have H9 := Lib.hid (H8.out.below hB8)
      clear hB8 H8
      go_wp2_with fail
      refine (nine_any _).mono ?_
      rintro e w9 ⟨rfl, hB9⟩
      have hc := commit_at [_] (H9.out.below hB9) nineL (.head _) (by decide) (by decide) HHL.out
      rw [M4.out] at hc
      have HC := Lib.hid hc
      clear hc hB9 H9
      go_wp2_with fail
      refine HC.out.mono ?_
      clear HC
      rintro e w10 ⟨rfl, h10⟩
      have H10 := Lib.hid h10.drop
      clear h10
      go_wp2_with fail
      refine (nine_any _).mono ?_
      rintro e w11 ⟨rfl, hB11⟩
      have h12 := (H10.out.below hB11).runBlk #[.int .i64 3, .int .i64 8, .string ⟨#[]⟩] runA rfl 1
      have hc := commit_at [_] h12 nineL (.head _) (by decide) (by decide) HHL.out
      rw [M5.out] at hc
      have HC := Lib.hid hc
      clear hc hB11 H10 h12
      go_wp2_with fail
      refine HC.out.mono ?_
      clear HC
      rintro e w12 ⟨rfl, h12⟩
      have H12 := Lib.hid h12.drop
      clear h12
      go_wp2_with fail
      refine (nine_any _).mono ?_
      rintro e w13 ⟨rfl, hB13⟩
      have h14 := (H12.out.below hB13).runBlk #[.int .i64 30, .int .i64 8, .string ⟨#[]⟩, .int .i64 30, .int .i64 8, .string ⟨#[]⟩] runB rfl 2
      have hc := commit_at [_] h14 nineL (.head _) (by decide) (by decide) HHL.out
      rw [M6.out] at hc
      have HC := Lib.hid hc
      clear hc hB13 H12 h14
      go_wp2_with fail
      refine HC.out.mono ?_
      clear HC
      rintro e w15 ⟨rfl, h15⟩
      have HA := Lib.hid (HAW.out _ h15.hB)
      have HB := Lib.hid h15.hB
      clear h15
      go_wp2_with fail
      refine HA.out.mono ?_
      clear HA
      rintro e w16 ⟨rfl, hB16⟩
      have HB2 := Lib.hid (HB.out.trans (hB16.mono HB.out.size))
      clear hB16
      go_wp2_with fail
      go_ret
      exact ⟨rfl, HB2.out⟩
end Go.Proofs.YtfbkfdoekgnldaaDoor
