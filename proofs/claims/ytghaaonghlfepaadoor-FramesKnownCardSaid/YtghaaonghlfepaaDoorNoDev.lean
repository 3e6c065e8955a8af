/- Devices that are none: a nil pointer, or a device that this package did not make. -/
import Derived.Test.YtghaaonghlfepaaDoorDevHas
namespace Go.Proofs.YtghaaonghlfepaaDoor
open Go.RowKit
attribute [local go_sem] Oper.semAt_some setRow_alloc_at setRow_alloc_past setRow_drew
/-- a device that is none -/
def NoDev (W : World) (v : Value) : Prop := v = .pointer none ∨ ∃ g, v = pv g ∧ W.cell? ⟨g, 5, none⟩ = some (.map none)
theorem NoDev.ptr {W : World} {v : Value} (h : NoDev W v) : ∃ p, v = .pointer p := by
  rcases h with rfl | ⟨g, rfl, _⟩ <;> exact ⟨_, rfl⟩
theorem NoDev.below {W W' : World} {v : Value} (h : NoDev W v) (hB : Below W.heap.size W W') : NoDev W' v := by
  rcases h with rfl | ⟨g, rfl, c⟩
  · exact .inl rfl
  · exact .inr ⟨g, rfl, (hB.cell (block_lt_of_cell c)).trans c⟩
set_option maxRecDepth 100000 in
theorem nd_ok {W : World} {v : Value} (h : NoDev W v) : Calls Tryd.prog 34 #[v] W fun e w' => e = .returned (.bool false) ∧ w' = W := by
  rcases h with rfl | ⟨g, rfl, c5⟩
  · go_enter Tryd.func34, Tryd.ntmps34
    go_wp2
    go_ret
    exact ⟨rfl, rfl⟩
  · have hne := map_ne W 80 none Tryd.underlying80
    go_enter Tryd.func34, Tryd.ntmps34
    go_wp2
    go_ret
    exact ⟨rfl, rfl⟩
set_option maxRecDepth 100000 in
theorem nd_ready {W : World} {v : Value} (h : NoDev W v) : Calls Tryd.prog 54 #[v] W fun e w' => e = .returned (.int .i64 1) ∧ w' = W := by
  have H := Lib.hid (nd_ok h)
  obtain ⟨p, rfl⟩ := h.ptr
  clear h
  go_enter Tryd.func54, Tryd.ntmps54
  go_wp2_with (go_at_call 34; refine H.out.mono ?_; rintro e w' ⟨rfl, rfl⟩)
  go_ret
  exact ⟨rfl, rfl⟩
set_option maxRecDepth 100000 in
theorem nd_at {W : World} {v : Value} (h : NoDev W v) (n : Int) : Calls Tryd.prog 46 #[v, .int .i64 n] W fun e w' => e = .returned (.int .i64 1) ∧ w' = W := by
  have H := Lib.hid (nd_ready h)
  obtain ⟨p, rfl⟩ := h.ptr
  clear h
  go_enter Tryd.func46, Tryd.ntmps46
  go_wp2_with (go_at_call 54; refine H.out.mono ?_; rintro e w' ⟨rfl, rfl⟩)
  go_ret
  exact ⟨rfl, rfl⟩
set_option maxRecDepth 100000 in
theorem nd_limit {W : World} {v : Value} (h : NoDev W v) (n : Int) : Calls Tryd.prog 20 #[v, .int .i64 n] W fun e w' => e = .returned (.int .i64 1) ∧ w' = W := by
  have H := Lib.hid (nd_ok h)
  obtain ⟨p, rfl⟩ := h.ptr
  clear h
  go_enter Tryd.func20, Tryd.ntmps20
  go_wp2_with (go_at_call 34; refine H.out.mono ?_; rintro e w' ⟨rfl, rfl⟩)
  go_ret
  exact ⟨rfl, rfl⟩
set_option maxRecDepth 100000 in
theorem nd_read {W : World} {v : Value} (h : NoDev W v) (n : Int) : Calls Tryd.prog 33 #[v, .int .i64 n] W fun e w' => e = .returned (.tuple #[.agg (sec zsec), .int .i64 1]) ∧ Below W.heap.size W w' := by
  have hB := (Below.refl W.heap.size W).alloc (Nat.le_refl _) (.cells (sec zsec) 27)
  have H := Lib.hid (nd_at (h.below hB) n)
  have HB := Lib.hid hB
  have b1 : (W.alloc (.cells (sec zsec) 27)).heap[W.heap.size]? = some (.cells (sec zsec) 27 (0, 0)) := heap_alloc_new _ _
  obtain ⟨p, rfl⟩ := h.ptr
  clear h hB
  go_enter Tryd.func33, Tryd.ntmps33
  go_wp2_with (first | (with_reducible refine wpList_alloc_sector rfl rfl ?_) | (with_reducible refine wpList_build_sector rfl rfl ?_) | ((with_reducible refine wpList_store_sector rfl _ _ rfl W.heap.size zsec zsec ?_ ?_ b1 ?_); rfl; rfl) | (go_at_call 46; refine H.out.mono ?_; rintro e w' ⟨rfl, rfl⟩))
  refine bodyPost_ret (results_sector2 rfl _ _ W.heap.size zsec rfl ?_) rfl ⟨rfl, ?_⟩
  · first | exact b1 | exact setRow_heap _ _ _ _ _ _ b1
  · first | exact HB.out | exact HB.out.setRow (Nat.le_refl _) _
set_option maxRecDepth 100000 in
theorem nd_write {W : World} {v : Value} (h : NoDev W v) (n : Int) (x : Sector) : Calls Tryd.prog 37 #[v, .int .i64 n, .agg (sec x)] W fun e w' => e = .returned (.int .i64 1) ∧ Below W.heap.size W w' := by
  have hB := (Below.refl W.heap.size W).alloc (Nat.le_refl _) (.cells (sec x) 27)
  have H := Lib.hid (nd_at (h.below hB) n)
  have HB := Lib.hid hB
  obtain ⟨p, rfl⟩ := h.ptr
  clear h hB
  go_enter Tryd.func37, Tryd.ntmps37
  go_wp2_with (first | ((with_reducible refine wpList_box_sector rfl _ rfl x ?_ ?_); rfl) | (go_at_call 46; refine H.out.mono ?_; rintro e w' ⟨rfl, rfl⟩))
  go_ret
  exact ⟨rfl, HB.out⟩
set_option maxRecDepth 100000 in
theorem nd_save {W : World} {v : Value} (h : NoDev W v) : Calls Tryd.prog 25 #[v] W fun e w' => e = .returned (.agg #[.slice none 0 0, .slice none 0 0, .int .i64 0, .int .i64 0, .bool false]) ∧ Below W.heap.size W w' := by
  have hB := (Below.refl W.heap.size W).alloc (Nat.le_refl _) (.cells #[.slice none 0 0, .slice none 0 0, .int .i64 0, .int .i64 0, .bool false] 53)
  have H := Lib.hid (nd_ok (h.below hB))
  have HB := Lib.hid hB
  obtain ⟨p, rfl⟩ := h.ptr
  clear h hB
  go_enter Tryd.func25, Tryd.ntmps25
  go_wp2_with (go_at_call 34; refine H.out.mono ?_; rintro e w' ⟨rfl, rfl⟩)
  refine bodyPost_ret (results_st rfl _ _ W.heap.size _ rfl (heap_alloc_new _ _) rfl) rfl ⟨rfl, HB.out⟩
end Go.Proofs.YtghaaonghlfepaaDoor
