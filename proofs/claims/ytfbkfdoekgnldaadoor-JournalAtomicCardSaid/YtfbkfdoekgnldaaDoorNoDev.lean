/- Devices that are none: a nil pointer, or a device that this package did not make. -/
import Derived.Test.YtfbkfdoekgnldaaDoorDevHas
namespace Go.Proofs.YtfbkfdoekgnldaaDoor
open Go.RowKit
attribute [local go_sem] Oper.semAt_some setRow_alloc_at setRow_alloc_past setRow_drew
/-- a device that is none -/
def NoDev (W : World) (v : Value) : Prop := v = .pointer none ∨ ∃ g, v = pv g ∧ W.cell? ⟨g, 5, none⟩ = some (.map none)
theorem NoDev.ptr {W : World} {v : Value} (h : NoDev W v) : ∃ p, v = .pointer p := by
  rcases h with rfl | ⟨g, rfl, _⟩ <;> exact ⟨_, rfl⟩
theorem NoDev.below {W W' : World} {v : Value} (h : NoDev W v) (hB : Below W.heap.size W W') : NoDev W' v := by
  rcases h with rfl | ⟨g, rfl, c⟩
  · exact .inl rfl
  · exact .inr ⟨g, rfl, (hB.cell (block_lt_of_cell c)).trans c⟩
set_option maxRecDepth 100000 in
theorem nd_ok {W : World} {v : Value} (h : NoDev W v) : Calls Tryd.prog 42 #[v] W fun e w' => e = .returned (.bool false) ∧ w' = W := by
  rcases h with rfl | ⟨g, rfl, c5⟩
  · go_enter Tryd.func42, Tryd.ntmps42
    go_wp2
    go_ret
    exact ⟨rfl, rfl⟩
  · have hne := map_ne W 84 none Tryd.underlying84
    go_enter Tryd.func42, Tryd.ntmps42
    go_wp2
    go_ret
    exact ⟨rfl, rfl⟩
set_option maxRecDepth 100000 in
theorem nd_ready {W : World} {v : Value} (h : NoDev W v) : Calls Tryd.prog 67 #[v] W fun e w' => e = .returned (.int .i64 1) ∧ w' = W := by
  have H := Lib.hid (nd_ok h)
  obtain ⟨p, rfl⟩ := h.ptr
  clear h
  go_enter Tryd.func67, Tryd.ntmps67
  go_wp2_with (go_at_call 42; refine H.out.mono ?_; rintro e w' ⟨rfl, rfl⟩)
  go_ret
  exact ⟨rfl, rfl⟩
set_option maxRecDepth 100000 in
theorem nd_at {W : World} {v : Value} (h : NoDev W v) (n : Int) : Calls Tryd.prog 61 #[v, .int .i64 n] W fun e w' => e = .returned (.int .i64 1) ∧ w' = W := by
  have H := Lib.hid (nd_ready h)
  obtain ⟨p, rfl⟩ := h.ptr
  clear h
  go_enter Tryd.func61, Tryd.ntmps61
  go_wp2_with (go_at_call 67; refine H.out.mono ?_; rintro e w' ⟨rfl, rfl⟩)
  go_ret
  exact ⟨rfl, rfl⟩
set_option maxRecDepth 100000 in
theorem nd_flush {W : World} {v : Value} (h : NoDev W v) : Calls Tryd.prog 41 #[v] W fun e w' => e = .returned (.int .i64 1) ∧ w' = W := by
  have H := Lib.hid (nd_ready h)
  obtain ⟨p, rfl⟩ := h.ptr
  clear h
  go_enter Tryd.func41, Tryd.ntmps41
  go_wp2_with (go_at_call 67; refine H.out.mono ?_; rintro e w' ⟨rfl, rfl⟩)
  go_ret
  exact ⟨rfl, rfl⟩
set_option maxRecDepth 100000 in
theorem nd_limit {W : World} {v : Value} (h : NoDev W v) (n : Int) : Calls Tryd.prog 11 #[v, .int .i64 n] W fun e w' => e = .returned (.int .i64 1) ∧ w' = W := by
  have H := Lib.hid (nd_ok h)
  obtain ⟨p, rfl⟩ := h.ptr
  clear h
  go_enter Tryd.func11, Tryd.ntmps11
  go_wp2_with (go_at_call 42; refine H.out.mono ?_; rintro e w' ⟨rfl, rfl⟩)
  go_ret
  exact ⟨rfl, rfl⟩
set_option maxRecDepth 100000 in
theorem nd_pending {W : World} {v : Value} (h : NoDev W v) : Calls Tryd.prog 16 #[v] W fun e w' => e = .returned (.int .i64 0) ∧ w' = W := by
  have H := Lib.hid (nd_ok h)
  obtain ⟨p, rfl⟩ := h.ptr
  clear h
  go_enter Tryd.func16, Tryd.ntmps16
  go_wp2_with (go_at_call 42; refine H.out.mono ?_; rintro e w' ⟨rfl, rfl⟩)
  go_ret
  exact ⟨rfl, rfl⟩
set_option maxRecDepth 100000 in
theorem nd_taken {W : World} {v : Value} (h : NoDev W v) : Calls Tryd.prog 31 #[v] W fun e w' => e = .returned (.int .i64 0) ∧ w' = W := by
  have H := Lib.hid (nd_ok h)
  obtain ⟨p, rfl⟩ := h.ptr
  clear h
  go_enter Tryd.func31, Tryd.ntmps31
  go_wp2_with (go_at_call 42; refine H.out.mono ?_; rintro e w' ⟨rfl, rfl⟩)
  go_ret
  exact ⟨rfl, rfl⟩
set_option maxRecDepth 100000 in
theorem nd_sectors {W : World} {v : Value} (h : NoDev W v) : Calls Tryd.prog 76 #[v] W fun e w' => e = .returned (.int .i64 0) ∧ w' = W := by
  have H := Lib.hid (nd_ok h)
  obtain ⟨p, rfl⟩ := h.ptr
  clear h
  go_enter Tryd.func76, Tryd.ntmps76
  go_wp2_with (go_at_call 42; refine H.out.mono ?_; rintro e w' ⟨rfl, rfl⟩)
  go_ret
  exact ⟨rfl, rfl⟩
set_option maxRecDepth 100000 in
theorem nd_read {W : World} {v : Value} (h : NoDev W v) (n : Int) : Calls Tryd.prog 68 #[v, .int .i64 n] W fun e w' => e = .returned (.tuple #[.agg (sec zsec), .int .i64 1]) ∧ Below W.heap.size W w' := by
  have hB := (Below.refl W.heap.size W).alloc (Nat.le_refl _) (.cells (sec zsec) 64)
  have H := Lib.hid (nd_at (h.below hB) n)
  have HB := Lib.hid hB
  have b1 : (W.alloc (.cells (sec zsec) 64)).heap[W.heap.size]? = some (.cells (sec zsec) 64 (0, 0)) := heap_alloc_new _ _
  obtain ⟨p, rfl⟩ := h.ptr
  clear h hB
  go_enter Tryd.func68, Tryd.ntmps68
  go_wp2_with (first | (with_reducible refine wpList_alloc_sector rfl rfl ?_) | (with_reducible refine wpList_build_sector rfl rfl ?_) | ((with_reducible refine wpList_store_sector rfl _ _ rfl W.heap.size zsec zsec ?_ ?_ b1 ?_); rfl; rfl) | (go_at_call 61; refine H.out.mono ?_; rintro e w' ⟨rfl, rfl⟩))
  refine bodyPost_ret (results_sector2 rfl _ _ W.heap.size zsec rfl ?_) rfl ⟨rfl, ?_⟩
  · first | exact b1 | exact setRow_heap _ _ _ _ _ _ b1
  · first | exact HB.out | exact HB.out.setRow (Nat.le_refl _) _
set_option maxRecDepth 100000 in
theorem nd_write {W : World} {v : Value} (h : NoDev W v) (n : Int) (x : Sector) : Calls Tryd.prog 26 #[v, .int .i64 n, .agg (sec x)] W fun e w' => e = .returned (.int .i64 1) ∧ Below W.heap.size W w' := by
  have hB := (Below.refl W.heap.size W).alloc (Nat.le_refl _) (.cells (sec x) 64)
  have H := Lib.hid (nd_at (h.below hB) n)
  have HB := Lib.hid hB
  obtain ⟨p, rfl⟩ := h.ptr
  clear h hB
  go_enter Tryd.func26, Tryd.ntmps26
  go_wp2_with (first | ((with_reducible refine wpList_box_sector rfl _ rfl x ?_ ?_); rfl) | (go_at_call 61; refine H.out.mono ?_; rintro e w' ⟨rfl, rfl⟩))
  go_ret
  exact ⟨rfl, HB.out⟩
set_option maxRecDepth 100000 in
theorem nd_crash {W : World} {v : Value} (h : NoDev W v) : Calls Tryd.prog 14 #[v, .slice none 0 0] W fun e w' => e = .returned (.int .i64 1) ∧ Below W.heap.size W w' := by
  have hB := (Below.refl W.heap.size W).alloc (Nat.le_refl _) (.cells #[v] 28)
  have H := Lib.hid (nd_ok (h.below hB))
  have HB := Lib.hid hB
  have c1 : (W.alloc (.cells #[v] 28)).cell? ⟨W.heap.size, 0, none⟩ = some v := cell_of_row _ _ 0 _ _ _ (heap_alloc_new _ _)
  obtain ⟨p, rfl⟩ := h.ptr
  clear h hB
  go_enter Tryd.func14, Tryd.ntmps14
  go_wp2_with (go_at_call 42; refine H.out.mono ?_; rintro e w' ⟨rfl, rfl⟩)
  go_ret
  exact ⟨rfl, HB.out⟩
set_option maxRecDepth 100000 in
theorem nd_save {W : World} {v : Value} (h : NoDev W v) : Calls Tryd.prog 18 #[v] W fun e w' => e = .returned (.agg #[.slice none 0 0, .slice none 0 0, .int .i64 0, .int .i64 0, .bool false]) ∧ Below W.heap.size W w' := by
  have hB := (Below.refl W.heap.size W).alloc (Nat.le_refl _) (.cells #[.slice none 0 0, .slice none 0 0, .int .i64 0, .int .i64 0, .bool false] 45)
  have H := Lib.hid (nd_ok (h.below hB))
  have HB := Lib.hid hB
  obtain ⟨p, rfl⟩ := h.ptr
  clear h hB
  go_enter Tryd.func18, Tryd.ntmps18
  go_wp2_with (go_at_call 42; refine H.out.mono ?_; rintro e w' ⟨rfl, rfl⟩)
  refine bodyPost_ret (results_st rfl _ _ W.heap.size _ rfl (heap_alloc_new _ _) rfl) rfl ⟨rfl, HB.out⟩
set_option maxRecDepth 100000 in
theorem nd_diff {W : World} {v u : Value} (h : NoDev W v) (hu : ∃ p, u = .pointer p) : Calls Tryd.prog 32 #[v, u] W fun e w' => e = .returned (.tuple #[.slice none 0 0, .int .i64 1]) ∧ w' = W := by
  have H := Lib.hid (nd_ok h)
  obtain ⟨p, rfl⟩ := h.ptr
  obtain ⟨q, rfl⟩ := hu
  clear h
  go_enter Tryd.func32, Tryd.ntmps32
  go_wp2_with (go_at_call 42; refine H.out.mono ?_; rintro e w' ⟨rfl, rfl⟩)
  go_ret2
  exact ⟨rfl, rfl⟩
end Go.Proofs.YtfbkfdoekgnldaaDoor
