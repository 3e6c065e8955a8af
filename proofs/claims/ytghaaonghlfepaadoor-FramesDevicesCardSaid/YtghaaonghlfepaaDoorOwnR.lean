/- A slice that a walk owns, as one of the things it owns; appended to. -/
import Derived.Test.YtghaaonghlfepaaDoorDevHas
namespace Go.Proofs.YtghaaonghlfepaaDoor
open Go.RowKit
def OwnR (B : Nat) {α : Type} (e : TypeId) (m : Nat) (c : α → List Value) (v : Value) (l : List α) : Res B where
  P W F := OwnL W e m c v l ∧ F = blks v
  lt W F h := by obtain ⟨h, rfl⟩ := h; exact h.lt
  stay W W' F h _ h1 := by obtain ⟨h, rfl⟩ := h; exact ⟨h.stay h1, rfl⟩
theorem OwnR.nil {w W : World} {rs : List (Res w.heap.size)} (h : Has w W rs) {α : Type} (e : TypeId) (m : Nat) (c : α → List Value) : Has w W (OwnR _ e m c (.slice none 0 0) [] :: rs) :=
  h.more (Below.refl _ _) _ [] ⟨World.ownsRow_nil _ _ _ _, rfl⟩ (by simp)
theorem int_info : (Tryd.prog.info? 3).map (fun i => (i.zero, i.size, i.bytes)) = some (some (.int .i64 0), 1, 8) := by kernel_rfl
theorem Has.ownRd {w W : World} {rs : List (Res w.heap.size)} {α : Type} {e : TypeId} {m : Nat} {c : α → List Value} {v : Value} {l : List α} (h : Has w W rs) (hr : OwnR _ e m c v l ∈ rs) : OwnL W e m c v l := by
  obtain ⟨F, ⟨hO, _⟩, _⟩ := h.mem hr
  exact hO
end Go.Proofs.YtghaaonghlfepaaDoor
