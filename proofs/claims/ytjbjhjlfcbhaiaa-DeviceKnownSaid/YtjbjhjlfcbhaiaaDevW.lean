/- The walks of a device's calls that only read it: ok, ready, at, reads, Read, Pending, Taken, On, Sectors. -/
import Derived.Test.YtjbjhjlfcbhaiaaDevAt
import Derived.Deep.RegionHeld3
import Derived.Laws.Cover3
namespace Go.Proofs.Ytjbjhjlfcbhaiaa
open Go.RowKit
attribute [local go_sem] Oper.semAt_some
theorem map_ne (w : World) (t : TypeId) (m : Option Nat) (h : Try.prog.underlying t = some (.map 3 3)) : (binOp .neq t (.map m) (.map none)).run Try.prog w = .ok (.bool m.isSome) w := by
  simp only [binOp]
  have := run_equal_map_nil (P := Try.prog) w t 3 3 m h
  rw [Op.equal] at this
  cases m <;> simp [Op.equal, this, Result.andThen]
/-- a pointer to a device -/
abbrev pv (g : Nat) : Value := .pointer (some ⟨g, 0, none⟩)
set_option maxRecDepth 100000 in
theorem dev_ok0 {W : World} {g mb : Nat} (c5 : W.cell? ⟨g, 5, none⟩ = some (.map (some mb))) :
    Calls Try.prog 37 #[pv g] W fun e w' => e = .returned (.bool true) ∧ w' = W := by
  have hne := map_ne W 72 (some mb) Try.underlying72
  go_enter Try.func37, Try.ntmps37
  go_wp2
  go_ret
  exact ⟨rfl, rfl⟩
theorem dev_ok {W : World} {g mb : Nat} {S : Dv} {vS vC : Value} (h : DevIn W g S vS vC mb) :
    Calls Try.prog 37 #[pv g] W fun e w' => e = .returned (.bool true) ∧ w' = W := dev_ok0 h.c5
set_option maxRecDepth 100000 in
theorem dev_ready {W : World} {g mb : Nat} {S : Dv} {vS vC : Value} (h : DevIn W g S vS vC mb) :
    Calls Try.prog 43 #[pv g] W fun e w' => e = .returned (.int .i64 (if S.off then 13 else 0)) ∧ w' = W := by
  have c4 := h.c4
  have H := Lib.hid (dev_ok h)
  cases hb : S.off
  all_goals
    rw [hb] at c4
    clear hb
    go_enter Try.func43, Try.ntmps43
    go_wp2_with (go_at_call 37; refine H.out.mono ?_; rintro e w' ⟨rfl, rfl⟩)
    go_ret
    exact ⟨rfl, rfl⟩
set_option maxRecDepth 100000 in
theorem dev_at {W : World} {g mb : Nat} {S : Dv} {vS vC : Value} (h : DevIn W g S vS vC mb) (n : Int) :
    Calls Try.prog 41 #[pv g, .int .i64 n] W fun e w' => e = .returned (.int .i64 (S.at n)) ∧ w' = W := by
  obtain ⟨a, cap, rfl, hc1, hc2⟩ := h.hS.shape
  have c0 := h.c0
  have H := Lib.hid (dev_ready h)
  unfold Dv.at
  cases hb : S.off
  · by_cases h1 : n < 0
    · have HV := Lib.hid (show (if n < 0 ∨ (S.st.length : Int) ≤ n then (7 : Int) else 0) = 7 from if_pos (.inl h1))
      rw [hb] at H
      clear hb
      go_enter Try.func41, Try.ntmps41
      go_wp2_with (go_at_call 43; refine H.out.mono ?_; rintro e w' ⟨rfl, rfl⟩)
      go_ret
      exact ⟨by simp, rfl⟩
    · by_cases h2 : (S.st.length : Int) ≤ n
      · have HV := Lib.hid (show (if n < 0 ∨ (S.st.length : Int) ≤ n then (7 : Int) else 0) = 7 from if_pos (.inr h2))
        rw [hb] at H
        clear hb
        go_enter Try.func41, Try.ntmps41
        go_wp2_with (go_at_call 43; refine H.out.mono ?_; rintro e w' ⟨rfl, rfl⟩)
        go_ret
        exact ⟨by simp, rfl⟩
      · have HV := Lib.hid (show (if n < 0 ∨ (S.st.length : Int) ≤ n then (7 : Int) else 0) = 0 from if_neg (by omega))
        rw [hb] at H
        clear hb
        go_enter Try.func41, Try.ntmps41
        go_wp2_with (go_at_call 43; refine H.out.mono ?_; rintro e w' ⟨rfl, rfl⟩)
        go_ret
        exact ⟨by simp, rfl⟩
  · rw [hb] at H
    clear hb
    go_enter Try.func41, Try.ntmps41
    go_wp2_with (go_at_call 43; refine H.out.mono ?_; rintro e w' ⟨rfl, rfl⟩)
    go_ret
    exact ⟨rfl, rfl⟩
theorem wf_small (k : Int) (h1 : -9223372036854775808 ≤ k) (h2 : k ≤ 9223372036854775807) : (Lit.int .i64 k).wf = true := by
  simp only [Lit.wf, Bool.and_eq_true, decide_eq_true_eq]
  have e1 : IntKind.i64.min = -9223372036854775808 := by decide
  have e2 : IntKind.i64.max = 9223372036854775807 := by decide
  omega
set_option maxRecDepth 100000 in
theorem dev_reads {W : World} {g mb : Nat} {S : Dv} {vS vC : Value} (h : DevIn W g S vS vC mb) (n : Nat) (hn : n < S.st.length) :
    Calls Try.prog 42 #[pv g, .int .i64 (n : Int)] W fun e w' => (∃ b o, e = .returned (.pointer (some ⟨b, o, none⟩)) ∧ W.rangeAt b o (secL (S.look n))) ∧ w' = W := by
  have s2 := h.ok.s2
  have hl := h.hM.look n (wf_small _ (by omega) (by omega))
  have c5 := h.c5
  cases hx : newest S.ca n with
  | some i =>
    obtain ⟨s, h1, h2⟩ := newest_some hx
    obtain ⟨b, cap, rfl, _, hr⟩ := h.hC.range wrL_len i _ h1
    have c1 := h.c1
    have hi : i < S.ca.length := (List.getElem?_eq_some_iff.1 h1).1
    have hix := fun w => run_index_wr b S.ca.length cap i hi w
    have hlk : (Instr.lookup 72 (.map (some mb)) (.int .i64 n) true).run Try.prog W = .ok (.tuple #[.int .i64 (i : Int), .bool true]) W := by rw [hl, newM, hx]; rfl
    have HL := Lib.hid (show S.look n = s by unfold Dv.look; rw [h2]; rfl)
    clear hl hx h1 h2
    go_enter Try.func42, Try.ntmps42
    go_wp2
    go_ret
    refine ⟨⟨_, _, rfl, ?_⟩, rfl⟩
    rw [HL.out]
    intro j v hv
    have := hr (j + 1) v (by simpa [wrL] using hv)
    rwa [show i * 129 + (j + 1) = i * 129 + 1 + j by omega] at this
  | none =>
    have h2 := newest_none hx
    obtain ⟨s, hs⟩ : ∃ s, S.st[n]? = some s := ⟨_, List.getElem?_eq_getElem hn⟩
    obtain ⟨b, cap, rfl, _, hr⟩ := h.hS.range secL_len n _ hs
    have c0 := h.c0
    have hix := fun w => run_index_sec b S.st.length cap n hn w
    have hlk : (Instr.lookup 72 (.map (some mb)) (.int .i64 n) true).run Try.prog W = .ok (.tuple #[.int .i64 0, .bool false]) W := by rw [hl, newM, hx]; rfl
    have HL := Lib.hid (show S.look n = s by unfold Dv.look; rw [h2]; simp [hs])
    clear hl hx h2
    go_enter Try.func42, Try.ntmps42
    go_wp2
    go_ret
    exact ⟨⟨_, _, rfl, by rw [HL.out]; exact hr⟩, rfl⟩
/-- what Read returns -/
def Dv.readV (S : Dv) (n : Int) : Value := .tuple #[.agg (sec (if S.at n = 0 then S.look n else zsec)), .int .i64 (S.at n)]
theorem there_row {W : World} {b : Nat} {C : Array Value} {t : TypeId} (h : W.heap[b]? = some (.cells C t (0, 0))) (n : Nat) (hn : n ≤ C.size) : W.there b 0 n := fun j hj => by
  rw [cell_of_row W b _ _ _ _ h]
  exact ⟨by simp; omega, frozen_of_row W b _ _ _ h⟩
end Go.Proofs.Ytjbjhjlfcbhaiaa
