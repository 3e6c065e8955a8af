/- A slice that a walk owns, as one of the things it owns; appended to. -/
import Derived.Test.YtfbkfdoekgnldaaGreatDoorDevHas
namespace Go.Proofs.YtfbkfdoekgnldaaGreatDoor
open Go.RowKit
def OwnR (B : Nat) {α : Type} (e : TypeId) (m : Nat) (c : α → List Value) (v : Value) (l : List α) : Res B where
  P W F := OwnL W e m c v l ∧ F = blks v
  lt W F h := by obtain ⟨h, rfl⟩ := h; exact h.lt
  stay W W' F h _ h1 := by obtain ⟨h, rfl⟩ := h; exact ⟨h.stay h1, rfl⟩
theorem OwnR.nil {w W : World} {rs : List (Res w.heap.size)} (h : Has w W rs) {α : Type} (e : TypeId) (m : Nat) (c : α → List Value) : Has w W (OwnR _ e m c (.slice none 0 0) [] :: rs) :=
  h.more (Below.refl _ _) _ [] ⟨World.ownsRow_nil _ _ _ _, rfl⟩ (by simp)
theorem int_info : (Tryz.prog.info? 3).map (fun i => (i.zero, i.size, i.bytes)) = some (some (.int .i64 0), 1, 8) := by kernel_rfl
/-- 'append(v, x)' of ints, x in a row of its own that was just made -/
theorem Has.pushInt {w W : World} {rs : List (Res w.heap.size)} {v : Value} {l : List Int} (h : Has w W (OwnR _ 3 1 intL v l :: rs)) (x : Int) (hl : l.length ≤ 100000) :
    ∃ v' W', (Builtin.append_ #[82, 82] 82 #[v, .slice (some ⟨W.heap.size, 0, none⟩) 1 1]).run Tryz.prog (W.alloc (.cells #[.int .i64 x] 3)) = .ok v' W' ∧ Has w W' (OwnR _ 3 1 intL v' (l ++ [x]) :: rs) := by
  have h1 := h.below ((Below.refl _ _).alloc (Nat.le_refl _) (.cells #[.int .i64 x] 3))
  obtain ⟨F, ⟨hO, rfl⟩, hF, _, hT⟩ := h1.focus
  have hx : (W.alloc (.cells #[.int .i64 x] 3)).rangeAt W.heap.size 0 (intL x) := rangeAt_row (heap_alloc_new W _) _ _ (fun j u hu => by rw [Nat.zero_add]; simpa [intL] using hu)
  obtain ⟨v', W', hrun, hO2, hf, hOn⟩ := own_append_one intL_len (fun x u hu => by simp [intL] at hu; subst hu; rfl) 82 3 (.int .i64 0) 8 Tryz.underlying82 int_info rfl (by decide) (by decide) _ v l 82 hO x W.heap.size 0 1 hx (by omega)
  refine ⟨v', W', hrun, hT W' (OwnR _ 3 1 intL v' (l ++ [x])) _ hOn ⟨hO2, rfl⟩ (fun k hk => ?_)⟩
  rcases hf k hk with h | h
  · exact .inl h
  · right; omega
theorem Has.ownRd {w W : World} {rs : List (Res w.heap.size)} {α : Type} {e : TypeId} {m : Nat} {c : α → List Value} {v : Value} {l : List α} (h : Has w W rs) (hr : OwnR _ e m c v l ∈ rs) : OwnL W e m c v l := by
  obtain ⟨F, ⟨hO, _⟩, _⟩ := h.mem hr
  exact hO
end Go.Proofs.YtfbkfdoekgnldaaGreatDoor
