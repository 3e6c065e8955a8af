/- The walk of slices.ContainsFunc over ints with Crash's closure. -/
import Derived.Test.YtfbkfdoekgnldaaGreatDoorDevSt
import Derived.Test.YtfbkfdoekgnldaaGreatDoorClone
namespace Go.Proofs.YtfbkfdoekgnldaaGreatDoor
open Go.RowKit
attribute [local go_sem] Oper.semAt_some
def intL (i : Int) : List Value := [.int .i64 i]
theorem intL_len (i : Int) : (intL i).length = 1 := rfl
set_option maxRecDepth 100000 in
theorem crash1_any {W : World} {g mb : Nat} {S : Dv} {vS vC : Value} (h : DevIn W g S vS vC mb) (c : Nat) (hc : W.cell? ⟨c, 0, none⟩ = some (pv g)) (i : Int) :
    Calls Tryz.prog 81 #[.int .i64 i, .pointer (some ⟨c, 0, none⟩)] W fun e w' => e = .returned (.bool (S.odd i)) ∧ w' = W := by
  obtain ⟨a, cap, rfl, _, _⟩ := h.hC.shape
  have c1 := h.c1
  clear h
  unfold Dv.odd
  by_cases h1 : i < 0
  · go_enter Tryz.func81, Tryz.ntmps81
    go_wp2
    go_ret
    exact ⟨by simp [h1], rfl⟩
  · go_enter Tryz.func81, Tryz.ntmps81
    go_wp2
    go_ret
    exact ⟨by simp; intro h; omega, rfl⟩
theorem any_take_succ' {α : Type} (p : α → Bool) (l : List α) (k : Nat) (x : α) (hx : l[k]? = some x) : (l.take (k + 1)).any p = ((l.take k).any p || p x) := by
  rw [List.take_add_one, hx]; simp
/-- an int of a slice of ints -/
theorem RdL.int {W : World} {v : Value} {l : List Int} (h : RdL W 1 intL v l) (i : Nat) (x : Int) (hx : l[i]? = some x) : ∃ b o cap, v = .slice (some ⟨b, o, none⟩) l.length cap ∧ W.cell? ⟨b, o + i, none⟩ = some (.int .i64 x) := by
  obtain ⟨b, o, cap, hv, hr⟩ := h.elem intL_len i x hx
  refine ⟨b, o, cap, hv, ?_⟩
  have := hr 0 (.int .i64 x) rfl
  rwa [Nat.mul_one, Nat.add_zero] at this
set_option maxRecDepth 100000 in
set_option maxHeartbeats 1000000 in
theorem index_int {W : World} {g mb : Nat} {S : Dv} {vS vC : Value} (h : DevIn W g S vS vC mb) (c : Nat) (hc : W.cell? ⟨c, 0, none⟩ = some (pv g)) (v : Value) (l : List Int) (hv : RdL W 1 intL v l) (hl : l.length ≤ 1000000) :
    Calls Tryz.prog 101 #[v, .func (.func 81) #[] #[.pointer (some ⟨c, 0, none⟩)]] W fun e w' =>
      (∃ k : Int, e = .returned (.int .i64 k) ∧ decide (0 ≤ k) = l.any S.odd) ∧ w' = W := by
  have hv' := hv
  obtain ⟨a, cap, rfl, _⟩ := hv'
  have HV := Lib.hid hv
  have HL := Lib.hid (fun i => crash1_any h c hc i)
  clear hv hc h
  go_enter Tryz.func101, Tryz.ntmps101
  go_wp2
  go_loopw [8] (fun i wr => ∃ k : Nat, k ≤ l.length ∧ i = .int .i64 k ∧ (l.take k).any S.odd = false ∧ wr = W) (fun i _ => l.length - (intOf i).toNat)
  case atStart => exact ⟨0, Nat.zero_le _, rfl, rfl, rfl⟩
  case round =>
    obtain ⟨k, hk, rfl, hno, rfl⟩ := hrel
    by_cases hlt2 : k < l.length
    · obtain ⟨x, hx⟩ : ∃ x, l[k]? = some x := ⟨_, List.getElem?_eq_getElem hlt2⟩
      obtain ⟨b, o, cap', hvb, hcx⟩ := HV.out.int k x hx
      injection hvb with hvb _ hcap
      subst hcap
      subst hvb
      have hki : (k : Int) < (l.length : Int) := by omega
      have HN := Lib.hid (any_take_succ' S.odd l k x hx)
      have HNO := Lib.hid hno
      have HY : Hid (S.odd x = true → l.any S.odd = true) := fun h => List.any_eq_true.2 ⟨x, List.mem_of_getElem? hx, h⟩
      have HLx := Lib.hid (HL.out x)
      clear hx hno
      cases hq : S.odd x
      · rw [hq] at HLx HN
        clear hq HY
        go_wp2_with (go_at_call 81; refine HLx.out.mono ?_; rintro e w' ⟨rfl, rfl⟩)
        go_roundw
        case rel => exact ⟨k + 1, by omega, by go_num, by rw [HN.out, HNO.out]; rfl, trivial⟩
        case measure => simp [intOf]; omega
      · rw [hq] at HLx
        have HQ := Lib.hid hq
        clear hq
        go_wp2_with (go_at_call 81; refine HLx.out.mono ?_; rintro e w' ⟨rfl, rfl⟩)
        go_ret
        exact ⟨⟨k, rfl, by rw [HY.out HQ.out]; simp⟩, rfl⟩
    · have hkk : k = l.length := by omega
      have HN : Hid (l.any S.odd = false) := by rw [hkk, List.take_length] at hno; exact hno
      clear hno
      go_wp2
      go_ret
      exact ⟨⟨-1, rfl, by rw [HN.out]; rfl⟩, rfl⟩
set_option maxRecDepth 100000 in
theorem contains_int {W : World} {g mb : Nat} {S : Dv} {vS vC : Value} (h : DevIn W g S vS vC mb) (c : Nat) (hc : W.cell? ⟨c, 0, none⟩ = some (pv g)) (v : Value) (l : List Int) (hv : RdL W 1 intL v l) (hl : l.length ≤ 1000000) :
    Calls Tryz.prog 80 #[v, .func (.func 81) #[] #[.pointer (some ⟨c, 0, none⟩)]] W fun e w' =>
      e = .returned (.bool (l.any S.odd)) ∧ w' = W := by
  have H := Lib.hid (index_int h c hc v l hv hl)
  clear hv hc h
  go_enter Tryz.func80, Tryz.ntmps80
  go_wp2_with (go_at_call 101; refine H.out.mono ?_; rintro e w' ⟨⟨k, rfl, hk⟩, rfl⟩)
  go_ret
  exact ⟨by rw [← hk]; rfl, rfl⟩
theorem risesI_iff (l : List Int) : risesI l = true ↔ ∀ i, i + 1 < l.length → l.getD i 0 < l.getD (i + 1) 0 := by
  induction l with
  | nil => simp [risesI]
  | cons x r ih =>
    cases r with
    | nil => simp [risesI]
    | cons y r =>
      simp only [risesI, Bool.and_eq_true, decide_eq_true_eq]
      constructor
      · rintro ⟨h1, h2⟩ i hi
        cases i with
        | zero => simpa using h1
        | succ i => have := ih.1 h2 i (by simpa using hi); simpa using this
      · intro h
        refine ⟨by simpa using h 0 (by simp), ih.2 (fun i hi => ?_)⟩
        have := h (i + 1) (by simpa using hi)
        simpa using this
end Go.Proofs.YtfbkfdoekgnldaaGreatDoor
