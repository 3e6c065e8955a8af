/- The walks of slices.ContainsFunc over writes, with Load's closure, and over ints, with Crash's closure. -/
import Derived.Test.YtfbkfdoekgnldaaGreatDoorDevSave
namespace Go.Proofs.YtfbkfdoekgnldaaGreatDoor
open Go.RowKit
attribute [local go_sem] Oper.semAt_some
/-- is a write's sector out of range? -/
def oddW (n : Int) (x : Wr) : Bool := decide (x.1 < 0) || decide (n ≤ x.1)
set_option maxRecDepth 100000 in
theorem load1_any (x : Wr) (c : Nat) (n : Int) (W : World) (hc : W.cell? ⟨c, 0, none⟩ = some (.int .i64 n)) :
    Calls Tryz.prog 46 #[.agg (wrV x), .pointer (some ⟨c, 0, none⟩)] W fun e w' => e = .returned (.bool (oddW n x)) ∧ Below W.heap.size W w' := by
  have hlt : c < W.heap.size := block_lt_of_cell hc
  have hc' : (W.alloc (.cells (wrV x) 87)).cell? ⟨c, 0, none⟩ = some (.int .i64 n) := (((Below.refl _ W).alloc (Nat.le_refl _) _).cell (p := ⟨c, 0, none⟩) hlt).trans hc
  have hx : (W.alloc (.cells (wrV x) 87)).cell? ⟨W.heap.size, 0, none⟩ = some (.int .i64 x.1) := wr_at (heap_alloc_new W _)
  have hB : Below W.heap.size W (W.alloc (.cells (wrV x) 87)) := (Below.refl _ W).alloc (Nat.le_refl _) _
  revert hc' hx hB
  have hbx := fun (K : World) (h : W.alloc (.cells (wrV x) 87) = K) => h
  unfold oddW
  obtain ⟨y, hy⟩ : ∃ y, x.1 = y := ⟨_, rfl⟩
  rw [hy]
  clear hc
  by_cases h1 : y < 0
  · intro hc' hx hB
    clear hbx
    go_enter Tryz.func46, Tryz.ntmps46
    go_wp2_with (with_reducible refine wpList_box_wr rfl _ rfl x ?_ ?_; rfl)
    go_ret
    exact ⟨by simp [h1], hB⟩
  · intro hc' hx hB
    clear hbx
    go_enter Tryz.func46, Tryz.ntmps46
    go_wp2_with (with_reducible refine wpList_box_wr rfl _ rfl x ?_ ?_; rfl)
    go_ret
    exact ⟨by simp; intro h; omega, hB⟩
theorem any_take_succ {α : Type} (p : α → Bool) (l : List α) (k : Nat) (x : α) (hx : l[k]? = some x) : (l.take (k + 1)).any p = ((l.take k).any p || p x) := by
  rw [List.take_add_one, hx]; simp
theorem any_of_at {α : Type} (p : α → Bool) (l : List α) (k : Nat) (x : α) (hx : l[k]? = some x) (h : p x = true) : l.any p = true := List.any_eq_true.2 ⟨x, List.mem_of_getElem? hx, h⟩
set_option maxRecDepth 100000 in
set_option maxHeartbeats 1000000 in
theorem index_wr (v : Value) (l : List Wr) (c : Nat) (n : Int) (W : World) (hv : RdL W 129 wrL v l) (hl : l.length ≤ 1000000) (hc : W.cell? ⟨c, 0, none⟩ = some (.int .i64 n)) :
    Calls Tryz.prog 84 #[v, .func (.func 46) #[] #[.pointer (some ⟨c, 0, none⟩)]] W fun e w' =>
      (∃ k : Int, e = .returned (.int .i64 k) ∧ decide (0 ≤ k) = l.any (oddW n)) ∧ Below W.heap.size W w' := by
  have hv' := hv
  obtain ⟨a, cap, rfl, _⟩ := hv'
  have HV := Lib.hid hv
  have HC := Lib.hid hc
  have hlt : c < W.heap.size := block_lt_of_cell hc
  clear hv hc
  go_enter Tryz.func84, Tryz.ntmps84
  go_wp2
  go_loopw [8] (fun i wr => ∃ k : Nat, k ≤ l.length ∧ i = .int .i64 k ∧ (l.take k).any (oddW n) = false ∧ Below W.heap.size W wr) (fun i _ => l.length - (intOf i).toNat)
  case atStart => exact ⟨0, Nat.zero_le _, rfl, rfl, Below.refl _ _⟩
  case round =>
    obtain ⟨k, hk, rfl, hno, hB⟩ := hrel
    by_cases hlt2 : k < l.length
    · obtain ⟨x, hx⟩ : ∃ x, l[k]? = some x := ⟨_, List.getElem?_eq_getElem hlt2⟩
      obtain ⟨b, o, cap', hvb, hr⟩ := HV.out.elem wrL_len k x hx
      injection hvb with hvb _ hcap
      subst hcap
      subst hvb
      have hr' := rangeAt_below hr hB
      have hix : ∀ w, (Instr.indexAt 32 (.slice (some ⟨b, o, none⟩) l.length cap) (.int .i64 (k : Int))).run Tryz.prog w = .ok (.pointer (some ⟨b, o + k * 129, none⟩)) w := fun w => run_index_wr' b o l.length cap k hlt2 w
      have hc2 : wr.cell? ⟨c, 0, none⟩ = some (.int .i64 n) := (hB.cell (p := ⟨c, 0, none⟩) hlt).trans HC.out
      have HL := Lib.hid (load1_any x c n wr hc2)
      have hki : (k : Int) < (l.length : Int) := by omega
      have HN := Lib.hid (any_take_succ (oddW n) l k x hx)
      have HNO := Lib.hid hno
      have HY := Lib.hid (any_of_at (oddW n) l k x hx)
      clear hr hx hno hc2
      cases hq : oddW n x
      · rw [hq] at HL HN
        have HQ := Lib.hid hq
        clear hq
        go_wp2_with (first | ((with_reducible refine wpList_load_wrmid rfl _ rfl b (o + k * 129) x ?_ hr' ?_); rfl) | (go_at_call 46; refine HL.out.mono ?_; rintro e w' ⟨rfl, hB2⟩))
        go_roundw
        case rel => exact ⟨k + 1, by omega, by go_num, by rw [HN.out, HNO.out]; rfl, hB.trans (hB2.mono hB.size)⟩
        case measure => simp [intOf]; omega
      · rw [hq] at HL
        have HQ := Lib.hid hq
        clear hq
        go_wp2_with (first | ((with_reducible refine wpList_load_wrmid rfl _ rfl b (o + k * 129) x ?_ hr' ?_); rfl) | (go_at_call 46; refine HL.out.mono ?_; rintro e w' ⟨rfl, hB2⟩))
        go_ret
        exact ⟨⟨k, rfl, by rw [HY.out HQ.out]; simp⟩, hB.trans (hB2.mono hB.size)⟩
    · have hkk : k = l.length := by omega
      have HN : Hid (l.any (oddW n) = false) := by rw [hkk, List.take_length] at hno; exact hno
      clear hno
      go_wp2
      go_ret
      exact ⟨⟨-1, rfl, by rw [HN.out]; rfl⟩, hB⟩
set_option maxRecDepth 100000 in
theorem contains_wr (v : Value) (l : List Wr) (c : Nat) (n : Int) (W : World) (hv : RdL W 129 wrL v l) (hl : l.length ≤ 1000000) (hc : W.cell? ⟨c, 0, none⟩ = some (.int .i64 n)) :
    Calls Tryz.prog 45 #[v, .func (.func 46) #[] #[.pointer (some ⟨c, 0, none⟩)]] W fun e w' =>
      e = .returned (.bool (l.any (oddW n))) ∧ Below W.heap.size W w' := by
  have H := Lib.hid (index_wr v l c n W hv hl hc)
  clear hv hc
  go_enter Tryz.func45, Tryz.ntmps45
  go_wp2_with (go_at_call 84; refine H.out.mono ?_; rintro e w' ⟨⟨k, rfl, hk⟩, hB⟩)
  go_ret
  exact ⟨by rw [← hk]; rfl, hB⟩
end Go.Proofs.YtfbkfdoekgnldaaGreatDoor
