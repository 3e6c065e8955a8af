/- Devices that are none: a nil pointer, or a device that this package did not make. -/
import Derived.Test.YtfbkfdoekgnldaaGreatDoorDevHas
namespace Go.Proofs.YtfbkfdoekgnldaaGreatDoor
open Go.RowKit
attribute [local go_sem] Oper.semAt_some setRow_alloc_at setRow_alloc_past setRow_drew
/-- a device that is none -/
def NoDev (W : World) (v : Value) : Prop := v = .pointer none ∨ ∃ g, v = pv g ∧ W.cell? ⟨g, 5, none⟩ = some (.map none)
theorem NoDev.ptr {W : World} {v : Value} (h : NoDev W v) : ∃ p, v = .pointer p := by
  rcases h with rfl | ⟨g, rfl, _⟩ <;> exact ⟨_, rfl⟩
theorem NoDev.below {W W' : World} {v : Value} (h : NoDev W v) (hB : Below W.heap.size W W') : NoDev W' v := by
  rcases h with rfl | ⟨g, rfl, c⟩
  · exact .inl rfl
  · exact .inr ⟨g, rfl, (hB.cell (block_lt_of_cell c)).trans c⟩
set_option maxRecDepth 100000 in
theorem nd_ok {W : World} {v : Value} (h : NoDev W v) : Calls Tryz.prog 40 #[v] W fun e w' => e = .returned (.bool false) ∧ w' = W := by
  rcases h with rfl | ⟨g, rfl, c5⟩
  · go_enter Tryz.func40, Tryz.ntmps40
    go_wp2
    go_ret
    exact ⟨rfl, rfl⟩
  · have hne := map_ne W 88 none Tryz.underlying88
    go_enter Tryz.func40, Tryz.ntmps40
    go_wp2
    go_ret
    exact ⟨rfl, rfl⟩
set_option maxRecDepth 100000 in
theorem nd_ready {W : World} {v : Value} (h : NoDev W v) : Calls Tryz.prog 93 #[v] W fun e w' => e = .returned (.int .i64 1) ∧ w' = W := by
  have H := Lib.hid (nd_ok h)
  obtain ⟨p, rfl⟩ := h.ptr
  clear h
  go_enter Tryz.func93, Tryz.ntmps93
  go_wp2_with (go_at_call 40; refine H.out.mono ?_; rintro e w' ⟨rfl, rfl⟩)
  go_ret
  exact ⟨rfl, rfl⟩
set_option maxRecDepth 100000 in
theorem nd_at {W : World} {v : Value} (h : NoDev W v) (n : Int) : Calls Tryz.prog 85 #[v, .int .i64 n] W fun e w' => e = .returned (.int .i64 1) ∧ w' = W := by
  have H := Lib.hid (nd_ready h)
  obtain ⟨p, rfl⟩ := h.ptr
  clear h
  go_enter Tryz.func85, Tryz.ntmps85
  go_wp2_with (go_at_call 93; refine H.out.mono ?_; rintro e w' ⟨rfl, rfl⟩)
  go_ret
  exact ⟨rfl, rfl⟩
set_option maxRecDepth 100000 in
theorem nd_flush {W : World} {v : Value} (h : NoDev W v) : Calls Tryz.prog 59 #[v] W fun e w' => e = .returned (.int .i64 1) ∧ w' = W := by
  have H := Lib.hid (nd_ready h)
  obtain ⟨p, rfl⟩ := h.ptr
  clear h
  go_enter Tryz.func59, Tryz.ntmps59
  go_wp2_with (go_at_call 93; refine H.out.mono ?_; rintro e w' ⟨rfl, rfl⟩)
  go_ret
  exact ⟨rfl, rfl⟩
set_option maxRecDepth 100000 in
theorem nd_limit {W : World} {v : Value} (h : NoDev W v) (n : Int) : Calls Tryz.prog 36 #[v, .int .i64 n] W fun e w' => e = .returned (.int .i64 1) ∧ w' = W := by
  have H := Lib.hid (nd_ok h)
  obtain ⟨p, rfl⟩ := h.ptr
  clear h
  go_enter Tryz.func36, Tryz.ntmps36
  go_wp2_with (go_at_call 40; refine H.out.mono ?_; rintro e w' ⟨rfl, rfl⟩)
  go_ret
  exact ⟨rfl, rfl⟩
set_option maxRecDepth 100000 in
theorem nd_sectors {W : World} {v : Value} (h : NoDev W v) : Calls Tryz.prog 91 #[v] W fun e w' => e = .returned (.int .i64 0) ∧ w' = W := by
  have H := Lib.hid (nd_ok h)
  obtain ⟨p, rfl⟩ := h.ptr
  clear h
  go_enter Tryz.func91, Tryz.ntmps91
  go_wp2_with (go_at_call 40; refine H.out.mono ?_; rintro e w' ⟨rfl, rfl⟩)
  go_ret
  exact ⟨rfl, rfl⟩
set_option maxRecDepth 100000 in
theorem nd_read {W : World} {v : Value} (h : NoDev W v) (n : Int) : Calls Tryz.prog 52 #[v, .int .i64 n] W fun e w' => e = .returned (.tuple #[.agg (sec zsec), .int .i64 1]) ∧ Below W.heap.size W w' := by
  have hB := (Below.refl W.heap.size W).alloc (Nat.le_refl _) (.cells (sec zsec) 53)
  have H := Lib.hid (nd_at (h.below hB) n)
  have HB := Lib.hid hB
  have b1 : (W.alloc (.cells (sec zsec) 53)).heap[W.heap.size]? = some (.cells (sec zsec) 53 (0, 0)) := heap_alloc_new _ _
  obtain ⟨p, rfl⟩ := h.ptr
  clear h hB
  go_enter Tryz.func52, Tryz.ntmps52
  go_wp2_with (first | (with_reducible refine wpList_alloc_sector rfl rfl ?_) | (with_reducible refine wpList_build_sector rfl rfl ?_) | ((with_reducible refine wpList_store_sector rfl _ _ rfl W.heap.size zsec zsec ?_ ?_ b1 ?_); rfl; rfl) | (go_at_call 85; refine H.out.mono ?_; rintro e w' ⟨rfl, rfl⟩))
  refine bodyPost_ret (results_sector2 rfl _ _ W.heap.size zsec rfl ?_) rfl ⟨rfl, ?_⟩
  · first | exact b1 | exact setRow_heap _ _ _ _ _ _ b1
  · first | exact HB.out | exact HB.out.setRow (Nat.le_refl _) _
set_option maxRecDepth 100000 in
theorem nd_write {W : World} {v : Value} (h : NoDev W v) (n : Int) (x : Sector) : Calls Tryz.prog 78 #[v, .int .i64 n, .agg (sec x)] W fun e w' => e = .returned (.int .i64 1) ∧ Below W.heap.size W w' := by
  have hB := (Below.refl W.heap.size W).alloc (Nat.le_refl _) (.cells (sec x) 53)
  have H := Lib.hid (nd_at (h.below hB) n)
  have HB := Lib.hid hB
  obtain ⟨p, rfl⟩ := h.ptr
  clear h hB
  go_enter Tryz.func78, Tryz.ntmps78
  go_wp2_with (first | ((with_reducible refine wpList_box_sector rfl _ rfl x ?_ ?_); rfl) | (go_at_call 85; refine H.out.mono ?_; rintro e w' ⟨rfl, rfl⟩))
  go_ret
  exact ⟨rfl, HB.out⟩
set_option maxRecDepth 100000 in
theorem nd_crash {W : World} {v : Value} (h : NoDev W v) : Calls Tryz.prog 39 #[v, .slice none 0 0] W fun e w' => e = .returned (.int .i64 1) ∧ Below W.heap.size W w' := by
  have hB := (Below.refl W.heap.size W).alloc (Nat.le_refl _) (.cells #[v] 27)
  have H := Lib.hid (nd_ok (h.below hB))
  have HB := Lib.hid hB
  have c1 : (W.alloc (.cells #[v] 27)).cell? ⟨W.heap.size, 0, none⟩ = some v := cell_of_row _ _ 0 _ _ _ (heap_alloc_new _ _)
  obtain ⟨p, rfl⟩ := h.ptr
  clear h hB
  go_enter Tryz.func39, Tryz.ntmps39
  go_wp2_with (go_at_call 40; refine H.out.mono ?_; rintro e w' ⟨rfl, rfl⟩)
  go_ret
  exact ⟨rfl, HB.out⟩
set_option maxRecDepth 100000 in
theorem nd_save {W : World} {v : Value} (h : NoDev W v) : Calls Tryz.prog 11 #[v] W fun e w' => e = .returned (.agg #[.slice none 0 0, .slice none 0 0, .int .i64 0, .int .i64 0, .bool false]) ∧ Below W.heap.size W w' := by
  have hB := (Below.refl W.heap.size W).alloc (Nat.le_refl _) (.cells #[.slice none 0 0, .slice none 0 0, .int .i64 0, .int .i64 0, .bool false] 34)
  have H := Lib.hid (nd_ok (h.below hB))
  have HB := Lib.hid hB
  obtain ⟨p, rfl⟩ := h.ptr
  clear h hB
  go_enter Tryz.func11, Tryz.ntmps11
  go_wp2_with (go_at_call 40; refine H.out.mono ?_; rintro e w' ⟨rfl, rfl⟩)
  refine bodyPost_ret (results_st rfl _ _ W.heap.size _ rfl (heap_alloc_new _ _) rfl) rfl ⟨rfl, HB.out⟩
end Go.Proofs.YtfbkfdoekgnldaaGreatDoor
