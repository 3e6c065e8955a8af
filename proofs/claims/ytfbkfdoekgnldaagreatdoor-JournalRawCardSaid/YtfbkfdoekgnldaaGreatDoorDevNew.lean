/- The walk of New. -/
import Derived.Test.YtfbkfdoekgnldaaGreatDoorDevLd
namespace Go.Proofs.YtfbkfdoekgnldaaGreatDoor
open Go.RowKit
attribute [local go_sem] Oper.semAt_some
theorem zsec_cells : ∀ v ∈ sec zsec, v = .int .u8 0 := by
  intro v hv
  simp only [sec, zsec, Array.mem_map] at hv
  obtain ⟨c, hc, rfl⟩ := hv
  have : c = 0 := by simpa using hc
  subst this; rfl
theorem made_secs (n : Nat) : (madeCells (Value.agg (sec zsec)).cells (n * 128)).toList = flat secL (List.replicate n zsec) := by
  have hsz : (Value.agg (sec zsec)).cells.size = 128 := sec_size zsec
  have h1 : (madeCells (Value.agg (sec zsec)).cells (n * 128)).toList = List.replicate (n * 128) (.int .u8 0) := by
    rw [List.eq_replicate_iff]
    refine ⟨by simp [madeCells], fun v hv => ?_⟩
    simp only [madeCells, Array.toList_map, List.mem_map] at hv
    obtain ⟨i, hi, rfl⟩ := hv
    rw [hsz]
    have hlt : i % 128 < (Value.agg (sec zsec)).cells.size := by rw [hsz]; exact Nat.mod_lt _ (by decide)
    have e : (Value.agg (sec zsec)).cells[i % 128]! = (Value.agg (sec zsec)).cells[i % 128] := getElem!_pos (Value.agg (sec zsec)).cells (i % 128) hlt
    rw [e]
    exact zsec_cells _ (Array.getElem_mem hlt)
  have h2 : flat secL (List.replicate n zsec) = List.replicate (n * 128) (.int .u8 0) := by
    rw [List.eq_replicate_iff]
    refine ⟨by rw [flat_length secL_len]; simp, fun v hv => ?_⟩
    simp only [flat, List.mem_flatMap, List.mem_replicate] at hv
    obtain ⟨x, ⟨_, rfl⟩, hv⟩ := hv
    exact zsec_cells v (by simpa [secL] using hv)
  rw [h1, h2]
theorem make_secs (W : World) (n : Nat) (hn : n ≤ 100000) : ∃ W', (Instr.makeSlice 31 (.int .i64 (n : Int)) (.int .i64 (n : Int))).run Tryz.prog W = .ok (.slice (some ⟨W.heap.size, 0, none⟩) n n) W' ∧
    OwnS W' (.slice (some ⟨W.heap.size, 0, none⟩) n n) (List.replicate n zsec) ∧ Below W.heap.size W W' := by
  obtain ⟨i, hi1, hi2, hi3, hi4⟩ := info_parts sector_info3
  obtain ⟨W', h1, h2, h3⟩ := run_makeSlice_full (P := Tryz.prog) (w := W) 0 31 53 i _ 128 Tryz.underlying31 hi1 hi2 hi3 .i64 .i64 n (by omega) (by rw [hi4]; omega) (by unfold maxLen; omega) (Nat.zero_le _)
  refine ⟨W', h1, ?_, ⟨h3.os, h3.tape, h3.output, h3.size, fun k hk => h3.block k hk (by simp)⟩⟩
  rw [made_secs] at h2
  unfold OwnS OwnL
  rw [List.length_replicate]
  exact h2
/-- what New leaves -/
def NewV (W : World) (n : Int) (e : Ending) (W' : World) : Prop :=
  ((n < 64 ∨ 256 < n) ∧ e = .returned (.tuple #[.pointer none, .int .i64 7]) ∨ (64 ≤ n ∧ n ≤ 256) ∧ ∃ g F, e = .returned (.tuple #[pv g, .int .i64 0]) ∧ DevAt W' g (Dv.new n.toNat) F ∧ ∀ k ∈ F, W.heap.size ≤ k) ∧ Below W.heap.size W W'
theorem new_check (m : Nat) : (Dv.new m).checkE = if m < 64 ∨ 256 < m then 7 else 0 := by
  unfold Dv.checkE
  by_cases h : m < 64 ∨ 256 < m
  · rw [if_pos h, if_pos]
    simp only [Dv.rangeB, Dv.new, List.length_replicate, Bool.or_eq_true, decide_eq_true_eq]
    left; omega
  · rw [if_neg h, if_neg, if_neg (by simp [Dv.new])]
    simp only [Dv.rangeB, Dv.new, List.length_replicate, Bool.or_eq_true, decide_eq_true_eq, List.any_nil]
    simp; omega
theorem new_load (W : World) (m : Nat) (hm : m ≤ 257) (n : Int) (h1 : n < 64 ∨ 256 < n ↔ m < 64 ∨ 256 < m) (h2 : 64 ≤ n → n ≤ 256 → m = n.toNat) : ∃ W1, (Instr.makeSlice 31 (.int .i64 (m : Int)) (.int .i64 (m : Int))).run Tryz.prog W = .ok (.slice (some ⟨W.heap.size, 0, none⟩) m m) W1 ∧
    Calls Tryz.prog 14 #[.agg #[.slice (some ⟨W.heap.size, 0, none⟩) m m, .slice none 0 0, .int .i64 0, .int .i64 (-1), .bool false]] W1 fun e w' => ∃ p c, e = .returned (.tuple #[.pointer p, .int .i64 c]) ∧ NewV W n (.returned (.tuple #[.pointer p, .int .i64 c])) w' := by
  obtain ⟨W1, hrun, hO, hB⟩ := make_secs W m (by omega)
  refine ⟨W1, hrun, (load_any (S := Dv.new m) (uS := .slice (some ⟨W.heap.size, 0, none⟩) m m) (uC := .slice none 0 0) hO.rd ⟨none, 0, rfl, .inl rfl⟩ (by simp [Dv.new]; omega) (by simp [Dv.new])).mono ?_⟩
  rintro e w' ⟨h, hB2⟩
  have hB3 := hB.trans (hB2.mono hB.size)
  rw [new_check] at h
  rcases h with ⟨h, rfl⟩ | ⟨h, g, F, rfl, hD, hF⟩
  · have h3 : m < 64 ∨ 256 < m := by
      by_cases h4 : m < 64 ∨ 256 < m
      · exact h4
      · rw [if_neg h4] at h; exact absurd rfl h
    rw [if_pos h3]
    exact ⟨none, 7, rfl, .inl ⟨h1.2 h3, rfl⟩, hB3⟩
  · have h3 : ¬ (m < 64 ∨ 256 < m) := by
      intro h4; rw [if_pos h4] at h; cases h
    have h5 : ¬ (n < 64 ∨ 256 < n) := fun h => h3 (h1.1 h)
    refine ⟨_, 0, rfl, .inr ⟨by omega, g, F, rfl, ?_, fun k hk => Nat.le_trans hB.size (hF k hk)⟩, hB3⟩
    rw [← h2 (by omega) (by omega)]; exact hD
set_option maxRecDepth 100000 in
set_option maxHeartbeats 1000000 in
theorem new_any (W : World) (n : Int) : Calls Tryz.prog 7 #[.int .i64 n] W (NewV W n) := by
  rcases (show n < 0 ∨ (∃ m : Nat, n = m ∧ m ≤ 257) ∨ 257 < n by
    by_cases h1 : n < 0
    · exact .inl h1
    · by_cases h2 : 257 < n
      · exact .inr (.inr h2)
      · exact .inr (.inl ⟨n.toNat, by omega, by omega⟩)) with h | ⟨m, rfl, h⟩ | h
  · obtain ⟨W1, hrun, hL⟩ := new_load W 0 (by omega) n (by omega) (by omega)
    have HL := Lib.hid hL
    simp only [Int.natCast_zero] at hrun
    clear hL
    go_enter Tryz.func7, Tryz.ntmps7
    go_wp2_with (go_at_call 14; refine HL.out.mono ?_; rintro e w' ⟨p, c, rfl, hV⟩)
    go_ret2
    exact hV
  · obtain ⟨W1, hrun, hL⟩ := new_load W m h m (by omega) (by omega)
    have HL := Lib.hid hL
    have h0 : (0 : Int) ≤ (m : Int) := by omega
    have h7 : (m : Int) ≤ 257 := by omega
    clear hL h
    go_enter Tryz.func7, Tryz.ntmps7
    go_wp2_with (go_at_call 14; refine HL.out.mono ?_; rintro e w' ⟨p, c, rfl, hV⟩)
    go_ret2
    exact hV
  · obtain ⟨W1, hrun, hL⟩ := new_load W 257 (by omega) n (by omega) (by omega)
    have HL := Lib.hid hL
    have h0 : (0 : Int) ≤ n := by omega
    simp only [Int.cast_ofNat_Int] at hrun
    clear hL
    go_enter Tryz.func7, Tryz.ntmps7
    go_wp2_with (go_at_call 14; refine HL.out.mono ?_; rintro e w' ⟨p, c, rfl, hV⟩)
    go_ret2
    exact hV
end Go.Proofs.YtfbkfdoekgnldaaGreatDoor
