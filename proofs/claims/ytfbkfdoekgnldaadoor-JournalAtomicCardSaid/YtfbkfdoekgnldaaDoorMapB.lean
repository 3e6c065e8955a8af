/- Maps from int to bool that the program made: what lookups and stores do. -/
import Derived.Test.YtfbkfdoekgnldaaDoorMapI
namespace Go.Proofs.YtfbkfdoekgnldaaDoor
open Go.RowKit Go.ChangeMaps Go.MapKept
theorem plain_bool_inv {H : Type} {P : Program} {e : TypeId} (he : P.underlying e = some .bool) {v : Value} {z : DataW H × List MemPlace} (h : plainElem P e v = some z) : ∃ a, v = .bool a ∧ z = (.lit (.bool a), []) := by
  unfold plainElem at h
  rw [he] at h
  cases v <;> simp at h
  exact ⟨_, rfl, h.symm⟩
/-- block b is a map of at most n entries, in which those keys are true of which f says so -/
def MapB (W : World) (b n : Nat) (f : Int → Bool) : Prop :=
  ∃ D : DataW Unit, W.ownsMap Tryd.prog 3 (plainElem Tryd.prog 4) b n D ∧ Maps.IsMap D ∧
    ∀ k, (Lit.int .i64 k).wf = true → D.atKey (.int .i64 k) (.lit (.bool false)) = .lit (.bool (f k))
theorem MapB.lt {W : World} {b n : Nat} {f : Int → Bool} (h : MapB W b n f) : b < W.heap.size := by
  obtain ⟨D, h, _⟩ := h; exact h.lt
theorem MapB.stay {W W' : World} {b n : Nat} {f : Int → Bool} (h : MapB W b n f) (hb : W'.heap[b]? = W.heap[b]?) : MapB W' b n f := by
  obtain ⟨D, ⟨es, clock, h1, h2⟩, h3⟩ := h
  exact ⟨D, ⟨es, clock, hb.trans h1, h2⟩, h3⟩
theorem MapB.made (W : World) : MapB (W.alloc (.map #[] 0)) W.heap.size 0 (fun _ => false) :=
  ⟨.map [], World.ownsMap_made _ _ _ _, Maps.isMap_empty, fun _ _ => rfl⟩
theorem zero_bool (w : World) : (zeroValue 4).run Tryd.prog w = .ok (.bool false) w := by kernel_rfl
theorem MapB.look {W : World} {b n : Nat} {f : Int → Bool} (h : MapB W b n f) (k : Int) (hk : (Lit.int .i64 k).wf = true) :
    (Instr.lookup 117 (.map (some b)) (.int .i64 k) false).run Tryd.prog W = .ok (.bool (f k)) W := by
  obtain ⟨D, h1, _, h3⟩ := h
  have e2 := h3 k hk
  obtain ⟨v, ps, hrun, hv⟩ := h1.lookup (Maps.int_keyed Tryd.underlying3) Tryd.underlying117 (zero_bool W) (plainElem_bool Tryd.underlying4 false) (Maps.keyOf_int_mk Tryd.underlying3 hk)
  rw [e2] at hv
  obtain ⟨c, rfl, hc⟩ := plain_bool_inv Tryd.underlying4 hv
  have hcc : f k = c := by
    have h : (DataW.lit (Lit.bool (f k)) : DataW Unit) = .lit (.bool c) := congrArg Prod.fst hc
    simpa using h
  rw [hrun, hcc]
theorem MapB.store {W : World} {b n : Nat} {f : Int → Bool} (h : MapB W b n f) (hn : n < maxLen) (k : Int) (hk : (Lit.int .i64 k).wf = true) :
    ∃ W', (Instr.mapUpdate 117 (.map (some b)) (.int .i64 k) (.bool true)).run Tryd.prog W = .ok () W' ∧ MapB W' b (n + 1) (fun j => if j = k then true else f j) ∧ Only [b] W W' := by
  obtain ⟨D, h1, h2, h3⟩ := h
  obtain ⟨W', hrun, h4, hg⟩ := h1.update (Maps.int_keyed Tryd.underlying3) Tryd.underlying117 hn (Maps.keyOf_int_mk Tryd.underlying3 hk) (plainElem_bool Tryd.underlying4 true)
  refine ⟨W', hrun, ⟨_, h4, h2.put _ _, fun j hj => ?_⟩, (Only.refl _ _).grown hg (by simp)⟩
  by_cases e : j = k
  · subst e
    dsimp only
    rw [if_pos rfl, Maps.atKey_put_same h2 (isKey_int j)]
  · have hne : (Lit.int .i64 j) ≠ .int .i64 k := by intro e'; injection e' with _ e'; exact e e'
    dsimp only
    rw [if_neg e, Maps.atKey_put_other hne]
    exact h3 j hj
def MapR (B b n : Nat) (f : Int → Bool) : Res B where
  P W F := F = [b] ∧ MapB W b n f
  lt W F h k hk := by obtain ⟨rfl, h⟩ := h; simp at hk; subst hk; exact h.lt
  stay W W' F h _ h1 := by obtain ⟨rfl, h⟩ := h; exact ⟨rfl, h.stay (h1 b (by simp))⟩
theorem Has.madeMap {w W : World} {rs : List (Res w.heap.size)} (h : Has w W rs) : Has w (W.alloc (.map #[] 0)) (MapR _ W.heap.size 0 (fun _ => false) :: rs) :=
  h.more ((Below.refl _ _).alloc (Nat.le_refl _) _) _ [W.heap.size] ⟨rfl, MapB.made W⟩ (by simp)
theorem Has.lookMap {w W : World} {rs : List (Res w.heap.size)} {b n : Nat} {f : Int → Bool} (h : Has w W rs) (hr : MapR _ b n f ∈ rs) (k : Int) (hk : (Lit.int .i64 k).wf = true) :
    (Instr.lookup 117 (.map (some b)) (.int .i64 k) false).run Tryd.prog W = .ok (.bool (f k)) W := by
  obtain ⟨F, ⟨_, hM⟩, _⟩ := h.mem hr
  exact hM.look k hk
theorem Has.storeMap {w W : World} (l1 : List (Res w.heap.size)) {l2 : List (Res w.heap.size)} {b n : Nat} {f : Int → Bool} (h : Has w W (l1 ++ MapR _ b n f :: l2)) (hn : n < maxLen) (k : Int) (hk : (Lit.int .i64 k).wf = true) :
    ∃ W', (Instr.mapUpdate 117 (.map (some b)) (.int .i64 k) (.bool true)).run Tryd.prog W = .ok () W' ∧ Has w W' (l1 ++ MapR _ b (n + 1) (fun j => if j = k then true else f j) :: l2) := by
  obtain ⟨F, ⟨rfl, hM⟩, hF⟩ := h.mem (r := MapR _ b n f) (by simp)
  obtain ⟨W', hrun, hM', hO⟩ := hM.store hn k hk
  exact ⟨W', hrun, h.turnAt l1 (fun F hP _ => by
    obtain ⟨rfl, _⟩ := hP
    exact ⟨hO, [b], ⟨rfl, hM'⟩, by simp⟩)⟩
end Go.Proofs.YtfbkfdoekgnldaaDoor
