/- The reference's Check and Costs; what a Commit turns, in plain Lean. -/
import Derived.Test.YtfbkfdoekgnldaaDoorJnAwake
import Derived.Test.YtfbkfdoekgnldaaDoorDevDiff
namespace Go.Proofs.YtfbkfdoekgnldaaDoor
open Go.RowKit
open Lime
attribute [local go_sem] Oper.semAt_some setRow_alloc_at setRow_alloc_past setRow_drew
set_option maxHeartbeats 1000000 in
theorem ref_check9 (l : Lay) (w : World) :
    Calls Tryd.prog 30 #[.agg #[.int .i64 l.first, .int .i64 l.size]] w fun e w' => e = .returned (.int .i64 l.check) ∧ Below w.heap.size w w' := by
  obtain ⟨f, s⟩ := l
  have HB := Lib.hid ((Below.refl _ w).alloc (Nat.le_refl _) (.cells #[.int .i64 f, .int .i64 s] 27))
  unfold Lay.check
  dsimp only
  by_cases h1 : s < 8
  · rw [if_pos (.inl h1)]
    go_enter Tryd.func30, Tryd.ntmps30
    go_wp2_with fail
    go_ret
    exact ⟨rfl, HB.out⟩
  by_cases h2 : 96 < s
  · rw [if_pos (.inr (.inl h2))]
    go_enter Tryd.func30, Tryd.ntmps30
    go_wp2_with fail
    go_ret
    exact ⟨rfl, HB.out⟩
  by_cases h3 : f < 0
  · rw [if_pos (.inr (.inr (.inl h3)))]
    go_enter Tryd.func30, Tryd.ntmps30
    go_wp2_with fail
    go_ret
    exact ⟨rfl, HB.out⟩
  have hw : wrap64 (256 - s) = 256 - s := by unfold wrap64; omega
  by_cases h4 : 256 - s < f
  · rw [if_pos (.inr (.inr (.inr h4)))]
    go_enter Tryd.func30, Tryd.ntmps30
    go_wp2_with fail
    go_ret
    exact ⟨rfl, HB.out⟩
  · rw [if_neg (by omega)]
    go_enter Tryd.func30, Tryd.ntmps30
    go_wp2_with fail
    go_ret
    exact ⟨rfl, HB.out⟩
set_option maxHeartbeats 1000000 in
theorem ref_costs9 (n : Int) (w : World) :
    Calls Tryd.prog 28 #[.int .i64 n] w fun e w' => e = .returned (if n < 0 ∨ 80 < n then .tuple #[.int .i64 0, .int .i64 0, .int .i64 12] else .tuple #[.int .i64 (2 * n + 2), .int .i64 3, .int .i64 0]) ∧ Below w.heap.size w w' := by
  by_cases h1 : n < 0
  · rw [if_pos (.inl h1)]
    go_enter Tryd.func28, Tryd.ntmps28
    go_wp2_with fail
    exact bodyPost_ret (results_tmp3 rfl _ _ _) rfl ⟨rfl, Below.refl _ _⟩
  by_cases h2 : 80 < n
  · rw [if_pos (.inr h2)]
    go_enter Tryd.func28, Tryd.ntmps28
    go_wp2_with fail
    exact bodyPost_ret (results_tmp3 rfl _ _ _) rfl ⟨rfl, Below.refl _ _⟩
  · rw [if_neg (by omega)]
    have hw : wrap64 (2 * n) = 2 * n := by unfold wrap64; omega
    have hw2 : wrap64 (2 * n + 2) = 2 * n + 2 := by unfold wrap64; omega
    go_enter Tryd.func28, Tryd.ntmps28
    go_wp2_with fail
    exact bodyPost_ret (results_tmp3 rfl _ _ _) rfl ⟨rfl, Below.refl _ _⟩
/-- what of two fresh devices turns by a Commit on one of them -/
theorem cost_math {F G : Dv} (hF : Fresh F nineL 64) (hG : Fresh G nineL 64) {run : List Rec} (h0 : (commitM F nineL run).2 = 0) :
    run.length ≤ 6 ∧ (commitM F nineL run).1.st.length = 64 ∧ F.taken = 8 ∧ (commitM F nineL run).1.taken = F.taken + (2 * run.length + 2) ∧ (commitM F nineL run).1.ca = [] ∧
      ∀ i ∈ diffK (commitM F nineL run).1 G 64, (1 ≤ i ∧ i ≤ 8) ∨ (run.any fun r => r.at_ == i) = true := by
  have hv : validM F.st.length nineL run = 0 := by
    by_cases hv : validM F.st.length nineL run = 0
    · exact hv
    · exfalso
      rw [commit_no (run := run) hF.calm hF.t0 hv] at h0
      exact hv h0
  have htk := hF.tk
  have e8 : nineL.size = 8 := rfl
  have e1 : nineL.first = 1 := rfl
  have hr := valid_ok hv
  have hrl : run.length ≤ 6 := by have := hr.len; have := (most_le nineL).1; omega
  rcases commit_run (run := run) hF.calm hF.t0 hF.pl hv (by decide) (by omega) with ⟨_, hd⟩ | ⟨h1, _⟩
  rotate_left
  · rw [h0] at h1; exact absurd h1 (by decide)
  have hlen := hF.len
  have hlenG := hG.len
  refine ⟨hrl, hd.len.trans hlen, by omega, by rw [hd.tk]; omega, hd.calm.ca, fun i hi => ?_⟩
  by_cases hin : 1 ≤ i ∧ i ≤ 8
  · exact .inl hin
  right
  by_cases hat : (run.any fun r => r.at_ == i) = true
  · exact hat
  exfalso
  have hi0 : ∃ k : Nat, k < 64 ∧ i = (k : Int) ∧ seqB ((commitM F nineL run).1.look i) (G.look i) = false := by
    unfold diffK at hi
    obtain ⟨h2, h3⟩ := List.mem_filter.1 hi
    obtain ⟨k, hk, rfl⟩ := List.mem_map.1 h2
    exact ⟨k, List.mem_range.1 hk, rfl, by simpa using h3⟩
  obtain ⟨k, hk, rfl, hq⟩ := hi0
  have hout : nineL.inside (k : Int) = false := by
    unfold Lay.inside
    rw [e1, e8]
    simp
    omega
  have h2 := hd.out (k : Int) (by omega) hout (fun r hr he => hat (List.any_eq_true.2 ⟨r, hr, by simpa using he⟩))
  have h3 := hF.pl (k : Int) (by omega) (by omega) hout
  have h4 := hG.pl (k : Int) (by omega) (by omega) hout
  have h5 : F.look (k : Int) = zsec := h3
  have h6 : G.look (k : Int) = zsec := h4
  rw [h2, h5, h6] at hq
  simp [seqB] at hq
theorem run_index_int (sb o n cap i : Nat) (h : i < n) (w : World) : (Instr.indexAt 37 (.slice (some ⟨sb, o, none⟩) n cap) (.int .i64 (i : Int))).run Tryd.prog w = .ok (.pointer (some ⟨sb, o + i, none⟩)) w := by
  have h1 : (0 : Int) ≤ i ∧ (i : Int) < n := by omega
  have hz : (sizeOf 3).run Tryd.prog w = .ok 1 w := by kernel_rfl
  simp only [Instr.indexAt, asIntOf, Sem.run_bind, Sem.run_pure, Result.andThen_ok, run_underlying Tryd.underlying37, if_pos h1, hz, Addr.add_lit, Int.toNat_natCast, Nat.mul_one]
end Go.Proofs.YtfbkfdoekgnldaaDoor
