/- The state of the reference as one of the things of a walk; its calls. -/
import Derived.Test.YtghaaonghlfepaaDoorRefLim
import Derived.Test.YtghaaonghlfepaaDoorDevHas
namespace Go.Proofs.YtghaaonghlfepaaDoor
open Go.RowKit
/-- a state that can be read, as one of the things of a walk -/
def StR (B : Nat) (uS uC : Value) (S : Dv) : Res B where
  P W F := StIn W S uS uC ∧ (∀ k ∈ blksL uS S.st ++ blksL uC S.ca, k < B ∨ k ∈ F) ∧ ∀ k ∈ F, k < W.heap.size
  lt W F h := h.2.2
  stay W W' F h h0 h1 := by
    obtain ⟨h, hb, hl⟩ := h
    have hs : ∀ k ∈ blksL uS S.st ++ blksL uC S.ca, W'.heap[k]? = W.heap[k]? := fun k hk => by rcases hb k hk with hk | hk; exact h0 k hk; exact h1 k hk
    refine ⟨⟨?_, ?_, h.l1, h.l2⟩, hb, fun k hk => ?_⟩
    · have h3 := h.hS
      cases hq : S.st with
      | nil => rw [hq] at h3; obtain ⟨a, cap, hv, _⟩ := h3; exact ⟨a, cap, hv, .inl rfl⟩
      | cons x l => rw [hq] at h3 hs; exact h3.stay (fun k hk => hs k (List.mem_append_left _ hk))
    · have h3 := h.hC
      cases hq : S.ca with
      | nil => rw [hq] at h3; obtain ⟨a, cap, hv, _⟩ := h3; exact ⟨a, cap, hv, .inl rfl⟩
      | cons x l => rw [hq] at h3 hs; exact h3.stay (fun k hk => hs k (List.mem_append_right _ hk))
    · have := h1 k hk
      rw [Array.getElem?_eq_getElem (hl k hk)] at this
      exact (Array.getElem?_eq_some_iff.1 this).1
theorem StIn.blt {W : World} {S : Dv} {uS uC : Value} (h : StIn W S uS uC) : ∀ k ∈ blksL uS S.st ++ blksL uC S.ca, k < W.heap.size := fun k hk => by
  rcases List.mem_append.1 hk with hk | hk
  · exact h.hS.lt secL_len (by decide) k hk
  · exact h.hC.lt wrL_len (by decide) k hk
theorem Has.addSt {w W : World} {rs : List (Res w.heap.size)} {S : Dv} {uS uC : Value} (h : Has w W rs) (hr : StIn w S uS uC) : Has w W (StR _ uS uC S :: rs) :=
  h.more (Below.refl _ _) _ [] ⟨hr.below h.hB, fun k hk => .inl (hr.blt k hk), by simp⟩ (by simp)
theorem Has.st {w W : World} {rs : List (Res w.heap.size)} {S : Dv} {uS uC : Value} (h : Has w W rs) (hr : StR _ uS uC S ∈ rs) : StIn W S uS uC := by
  obtain ⟨F, ⟨hO, _⟩, _⟩ := h.mem hr
  exact hO
/-- what a call of the reference leaves -/
theorem Has.stRes {w W W' : World} {rs : List (Res w.heap.size)} {S S' : Dv} {uS uC : Value} {code : Int} {e : Ending} (h : Has w W (StR _ uS uC S :: rs)) (hr : StRes W S uS uC S' code e W') :
    ∃ vS vC, e = .returned (.tuple #[.agg (stCells vS vC S'), .int .i64 code]) ∧ Has w W' (StR _ vS vC S' :: rs) := by
  obtain ⟨vS, vC, rfl, hin, hk, hB⟩ := hr
  obtain ⟨F, ⟨h0, hb, hl⟩, hF, _, hT⟩ := h.focus
  refine ⟨vS, vC, rfl, hT W' (StR _ vS vC S') ((blksL vS S'.st ++ blksL vC S'.ca).filter fun k => decide (w.heap.size ≤ k)) (Only.of_below hB) ⟨hin, fun k hk2 => ?_, fun k hk2 => hin.blt k (List.mem_filter.1 hk2).1⟩ (fun k hk2 => ?_)⟩
  · by_cases hlt : k < w.heap.size
    · exact .inl hlt
    · exact .inr (List.mem_filter.2 ⟨hk2, by simpa using hlt⟩)
  · obtain ⟨h1, h2⟩ := List.mem_filter.1 hk2
    simp only [decide_eq_true_eq] at h2
    rcases hk k h1 with h3 | h3
    · rcases hb k h3 with h4 | h4
      · omega
      · exact .inl h4
    · exact .inr h3
end Go.Proofs.YtghaaonghlfepaaDoor
