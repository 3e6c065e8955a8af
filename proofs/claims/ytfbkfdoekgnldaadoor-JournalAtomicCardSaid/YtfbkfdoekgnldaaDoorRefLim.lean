/- The reference's device: its state in memory; Copy. The reference's device: stable makes all writes of the cache stable. The reference's device: Reads, Read, Limit, Flush. The reference's device: Read, Limit, Flush. -/
import Derived.Test.YtfbkfdoekgnldaaDoorCopyL
import Derived.Test.YtfbkfdoekgnldaaDoorDevSave
import Derived.Test.YtfbkfdoekgnldaaDoorOrdT
import Derived.Test.YtfbkfdoekgnldaaDoorFilled
import Derived.Test.YtfbkfdoekgnldaaDoorDvMath
namespace Go.Proofs.YtfbkfdoekgnldaaDoor
open Go.RowKit
attribute [local go_sem] Oper.semAt_some
/-- a state whose slices can be read -/
structure StIn (W : World) (S : Dv) (uS uC : Value) : Prop where
  hS : RdL W 128 secL uS S.st
  hC : RdL W 129 wrL uC S.ca
  l1 : S.st.length ≤ 100000
  l2 : S.ca.length ≤ 100000
theorem StIn.below {W W' : World} {S : Dv} {uS uC : Value} (h : StIn W S uS uC) (hB : Below W.heap.size W W') : StIn W' S uS uC := ⟨h.hS.below hB, h.hC.below hB, h.l1, h.l2⟩
def zst5 : Array Value := #[.slice none 0 0, .slice none 0 0, .int .i64 0, .int .i64 0, .bool false]
theorem NewSt.st {W W' : World} {S : Dv} {e : Ending} (h : NewSt W S e W') (l1 : S.st.length ≤ 100000) (l2 : S.ca.length ≤ 100000) : ∃ uS uC, e = .returned (.agg (stCells uS uC S)) ∧ StIn W' S uS uC ∧ (∀ k ∈ blks uS, W.heap.size ≤ k) ∧ (∀ k ∈ blks uC, W.heap.size ≤ k) ∧ Below W.heap.size W W' := by
  obtain ⟨uS, uC, rfl, h1, h2, h3, h4, h5⟩ := h
  exact ⟨uS, uC, rfl, ⟨h1.rd, h2.rd, l1, l2⟩, h3, h4, h5⟩
theorem Has.more2 {w W W' : World} {rs : List (Res w.heap.size)} (h : Has w W rs) (hb : Below W.heap.size W W') (r1 r2 : Res w.heap.size) (F1 F2 : List Nat) (hP1 : r1.P W' F1) (hP2 : r2.P W' F2) (hn1 : ∀ k ∈ F1, W.heap.size ≤ k) (hn2 : ∀ k ∈ F2, W.heap.size ≤ k) (hd : ∀ k ∈ F1, k ∉ F2) : Has w W' (r1 :: r2 :: rs) := by
  obtain ⟨hB, F0, hF⟩ := h
  refine ⟨hB.trans (hb.mono hB.size), _, .cons hP1 (fun k hk => Nat.le_trans hB.size (hn1 k hk)) (fun k hk hm => ?_) (.cons hP2 (fun k hk => Nat.le_trans hB.size (hn2 k hk)) (fun k hk hm => ?_) (hF.stay (fun k hk => hb.block k (Nat.lt_of_lt_of_le hk hB.size)) (fun k hk => hb.block k (hF.lt k hk))))⟩
  · rcases List.mem_append.1 hm with hm | hm
    · exact hd k hk hm
    · have := hF.lt k hm; have := hn1 k hk; omega
  · have := hF.lt k hm; have := hn2 k hk; omega
/-- a new state among what a walk owns -/
theorem NewSt.has {w W W' : World} {rs : List (Res w.heap.size)} {S : Dv} {e : Ending} (h : Has w W rs) (hn : NewSt W S e W') : ∃ aS capS aC capC, e = .returned (.agg (stCells (.slice aS S.st.length capS) (.slice aC S.ca.length capC) S)) ∧
    Has w W' (OwnR _ 64 128 secL (.slice aS S.st.length capS) S.st :: OwnR _ 92 129 wrL (.slice aC S.ca.length capC) S.ca :: rs) := by
  obtain ⟨uS, uC, rfl, h1, h2, h3, h4, h5⟩ := hn
  have t1 := h1.typed
  have t2 := h2.typed
  obtain ⟨aS, capS, rfl, _⟩ := h1.shape
  obtain ⟨aC, capC, rfl, _⟩ := h2.shape
  refine ⟨aS, capS, aC, capC, rfl, h.more2 h5 _ _ _ _ ⟨h1, rfl⟩ ⟨h2, rfl⟩ h3 h4 (fun k hk hk' => ?_)⟩
  obtain ⟨cur, hc⟩ := t1 _ hk
  obtain ⟨cur', hc'⟩ := t2 _ hk'
  rw [hc] at hc'; injection hc' with hc'; injection hc' with _ hc' _; exact absurd hc' (by decide)
/-- a state is stored whole -/
theorem Has.store5 {w W : World} (l1 : List (Res w.heap.size)) {l2 : List (Res w.heap.size)} {b : Nat} {x0 x1 x2 x3 x4 : Value} {t : TypeId} (h : Has w W (l1 ++ Blk _ b (.cells #[x0, x1, x2, x3, x4] t (0, 0)) :: l2)) (v0 v1 v2 v3 v4 : Value) :
    Has w (((((W.setCell ⟨b, 0, none⟩ v0).setCell ⟨b, 1, none⟩ v1).setCell ⟨b, 2, none⟩ v2).setCell ⟨b, 3, none⟩ v3).setCell ⟨b, 4, none⟩ v4) (l1 ++ Blk _ b (.cells #[v0, v1, v2, v3, v4] t (0, 0)) :: l2) :=
  ((((h.setCell l1 0 v0).setCell l1 1 v1).setCell l1 2 v2).setCell l1 3 v3).setCell l1 4 v4
theorem Has.newSt {W W' : World} {rs : List (Res W.heap.size)} {S : Dv} {uS uC : Value} {e : Ending} (h : Has W W' rs) (h1 : OwnR _ 64 128 secL uS S.st ∈ rs) (h2 : OwnR _ 92 129 wrL uC S.ca ∈ rs) (he : e = .returned (.agg (stCells uS uC S))) : NewSt W S e W' := by
  obtain ⟨F, ⟨hO, rfl⟩, hF⟩ := h.mem h1
  obtain ⟨F2, ⟨hO2, rfl⟩, hF2⟩ := h.mem h2
  exact ⟨uS, uC, he, hO, hO2, hF, hF2, h.hB⟩
end Go.Proofs.YtfbkfdoekgnldaaDoor
namespace Go.Proofs.YtfbkfdoekgnldaaDoor
open Go.RowKit
attribute [local go_sem] Oper.semAt_some
theorem Has.putL {w W : World} {α : Type} {c : α → List Value} {m : Nat} {e : TypeId} {v : Value} {l : List α} (l1 : List (Res w.heap.size)) {l2 : List (Res w.heap.size)} (h : Has w W (l1 ++ OwnR _ e m c v l :: l2)) (hm : ∀ x, (c x).length = m) (i : Nat) (x : α) (hi : i < l.length) :
    ∃ g cap, v = .slice (some ⟨g, 0, none⟩) l.length cap ∧ W.there g (i * m) m ∧ Has w (W.setCells g (i * m) (c x)) (l1 ++ OwnR _ e m c v (l.set i x) :: l2) := by
  have h0 := h.perm List.perm_middle
  obtain ⟨F, ⟨hO, rfl⟩, hF, _, hT⟩ := h0.focus
  obtain ⟨g, cap, rfl, hb, h5⟩ := hO.put hm i x hi
  obtain ⟨g', cap', hv, _, ht⟩ := hO.there i hi
  injection hv with hv _ _
  injection hv with hv
  injection hv with hv
  subst hv
  exact ⟨g, cap, rfl, ht, (hT _ (OwnR _ e m c _ (l.set i x)) _ (Only.setCells g (.inl (by rw [hb]; simp)) _ _ (Only.refl _ _)) ⟨h5, rfl⟩ (fun k hk => .inl hk)).perm List.perm_middle.symm⟩
end Go.Proofs.YtfbkfdoekgnldaaDoor
namespace Go.Proofs.YtfbkfdoekgnldaaDoor
open Go.RowKit
attribute [local go_sem] Oper.semAt_some setRow_alloc_at setRow_alloc_past setRow_drew
/-- what a sector reads as behind the first k writes -/
def lookK (S : Dv) (n : Nat) (k : Nat) : Sector := (lastW (S.ca.take k) n).getD (S.st.getD n zsec)
theorem lookK_all (S : Dv) (n : Nat) : lookK S n S.ca.length = S.look n := by unfold lookK Dv.look; rw [List.take_length]; rfl
theorem lookK_succ (S : Dv) (n k : Nat) (p : Int) (X : Sector) (h : S.ca[k]? = some (p, X)) : lookK S n (k + 1) = if p = n then X else lookK S n k := by
  unfold lookK
  rw [List.take_add_one, h, Option.toList_some, lastW_snoc]
  dsimp only
  split <;> rfl
end Go.Proofs.YtfbkfdoekgnldaaDoor
namespace Go.Proofs.YtfbkfdoekgnldaaDoor
open Go.RowKit
attribute [local go_sem] Oper.semAt_some setRow_alloc_at setRow_alloc_past setRow_drew
theorem results_st2 {fn : Func} {p q : Tmp} (h : fn.results = #[.cell p 45, .tmp q]) (tmps : Array Value) (w : World) (g : Nat) (cs : Array Value)
    (hp : tmps.getD p undef = .pointer (some ⟨g, 0, none⟩)) (hg : w.heap[g]? = some (.cells cs 45 (0, 0))) (hc : cs.size = 5) :
    (results fn tmps).run Tryd.prog w = .ok (.tuple #[.agg cs, tmps.getD q undef]) w := by
  have hp' : tmps[p]?.getD undef = .pointer (some ⟨g, 0, none⟩) := by simpa using hp
  have hl := run_loadVar_row (P := Tryd.prog) w g _ _ _ _ _ hg Tryd.underlying45 rfl (by rw [hc]; exact st_size)
  simp [results, h, hp', asAddr, hl]
/-- the blocks that a list in memory has -/
def blksL {α : Type} (v : Value) (l : List α) : List Nat := if l.isEmpty then [] else blks v
theorem blksL_sub {α : Type} (v : Value) (l : List α) : ∀ k ∈ blksL v l, k ∈ blks v := by
  intro k hk; unfold blksL at hk; split at hk
  · cases hk
  · exact hk
/-- a state and an error -/
def StRes (W : World) (S : Dv) (uS uC : Value) (S' : Dv) (code : Int) (e : Ending) (W' : World) : Prop :=
  ∃ vS vC, e = .returned (.tuple #[.agg (stCells vS vC S'), .int .i64 code]) ∧ StIn W' S' vS vC ∧ (∀ k ∈ blksL vS S'.st ++ blksL vC S'.ca, k ∈ blksL uS S.st ++ blksL uC S.ca ∨ W.heap.size ≤ k) ∧ Below W.heap.size W W'
theorem StIn.res {W W' : World} {uS uC : Value} {S S' : Dv} {code : Int} (h : StIn W S uS uC) (hB : Below W.heap.size W W') (h1 : S'.st = S.st) (h2 : S'.ca = S.ca) : StRes W S uS uC S' code (.returned (.tuple #[.agg (stCells uS uC S'), .int .i64 code])) W' := by
  have h' := h.below hB
  exact ⟨uS, uC, rfl, ⟨by rw [h1]; exact h'.hS, by rw [h2]; exact h'.hC, by rw [h1]; exact h.l1, by rw [h2]; exact h.l2⟩, fun k hk => .inl (by rw [h1, h2] at hk; exact hk), hB⟩
theorem NewSt.res {W W' : World} {rs : List (Res W.heap.size)} {S0 S : Dv} {uS uC vS vC : Value} {code : Int} (h : Has W W' rs) (h1 : OwnR _ 64 128 secL vS S.st ∈ rs) (h2 : OwnR _ 92 129 wrL vC S.ca ∈ rs) (l1 : S.st.length ≤ 100000) (l2 : S.ca.length ≤ 100000) :
    StRes W S0 uS uC S code (.returned (.tuple #[.agg (stCells vS vC S), .int .i64 code])) W' := by
  obtain ⟨F, ⟨hO, rfl⟩, hF⟩ := h.mem h1
  obtain ⟨F2, ⟨hO2, rfl⟩, hF2⟩ := h.mem h2
  refine ⟨vS, vC, rfl, ⟨hO.rd, hO2.rd, l1, l2⟩, fun k hk => .inr ?_, h.hB⟩
  rcases List.mem_append.1 hk with hk | hk
  · exact hF k (blksL_sub _ _ k hk)
  · exact hF2 k (blksL_sub _ _ k hk)
/-- a list that can be read, as one of the things of a walk -/
def RdR (B : Nat) {α : Type} (m : Nat) (c : α → List Value) (v : Value) (l : List α) : Res B where
  P W F := RdL W m c v l ∧ (∀ k ∈ blksL v l, k < B ∨ k ∈ F) ∧ ∀ k ∈ F, k < W.heap.size
  lt W F h := h.2.2
  stay W W' F h h0 h1 := by
    obtain ⟨h, hb, hl⟩ := h
    refine ⟨?_, hb, fun k hk => ?_⟩
    · cases l with
      | nil => obtain ⟨a, cap, hv, _⟩ := h; exact ⟨a, cap, hv, .inl rfl⟩
      | cons x l => exact h.stay (fun k hk => by rcases hb k hk with hk | hk; exact h0 k hk; exact h1 k hk)
    · have := h1 k hk
      rw [Array.getElem?_eq_getElem (hl k hk)] at this
      exact (Array.getElem?_eq_some_iff.1 this).1
theorem RdL.lt {α : Type} {c : α → List Value} {m : Nat} {W : World} {v : Value} {l : List α} (h : RdL W m c v l) (hm : ∀ x, (c x).length = m) (hm0 : 0 < m) : ∀ k ∈ blksL v l, k < W.heap.size := by
  intro k hk
  cases l with
  | nil => simp [blksL] at hk
  | cons x l =>
    obtain ⟨b, o, cap, rfl, hr⟩ := h.elem hm 0 x rfl
    have hk' : k ∈ blks (.slice (some ⟨b, o, none⟩) (x :: l).length cap) := hk
    simp [blks, Value.ownBlock] at hk'
    subst hk'
    have hc : (c x)[0]? = some ((c x)[0]'(by rw [hm]; exact hm0)) := List.getElem?_eq_getElem _
    exact block_lt_of_cell (hr 0 _ hc)
theorem Has.addRd {w W : World} {rs : List (Res w.heap.size)} {α : Type} {c : α → List Value} {m : Nat} {v : Value} {l : List α} (h : Has w W rs) (hr : RdL w m c v l) (hm : ∀ x, (c x).length = m) (hm0 : 0 < m) : Has w W (RdR _ m c v l :: rs) :=
  h.more (Below.refl _ _) _ [] ⟨hr.below h.hB, fun k hk => .inl (hr.lt hm hm0 k hk), by simp⟩ (by simp)
theorem Has.asRd {w W : World} {rs : List (Res w.heap.size)} {α : Type} {c : α → List Value} {m : Nat} {e : TypeId} {v : Value} {l : List α} (h : Has w W (OwnR _ e m c v l :: rs)) : Has w W (RdR _ m c v l :: rs) := by
  obtain ⟨F, ⟨hO, rfl⟩, hF, _, hT⟩ := h.focus
  exact hT W (RdR _ m c v l) (blks v) (Only.refl _ _) ⟨hO.rd, fun k hk => .inr (blksL_sub _ _ k hk), hO.lt⟩ (fun k hk => .inl hk)
theorem Has.rd {w W : World} {rs : List (Res w.heap.size)} {α : Type} {c : α → List Value} {m : Nat} {v : Value} {l : List α} (h : Has w W rs) (hr : RdR _ m c v l ∈ rs) : RdL W m c v l := by
  obtain ⟨F, ⟨hO, _⟩, _⟩ := h.mem hr
  exact hO
/-- what is known of a boxed state beside an empty one -/
theorem box2 (W : World) (u0 u1 u2 u3 u4 : Value) : Has W ((W.alloc (.cells #[u0, u1, u2, u3, u4] 45)).alloc (.cells #[.slice none 0 0, .slice none 0 0, .int .i64 0, .int .i64 0, .bool false] 45)) [Blk _ (W.heap.size + 1) (.cells #[.slice none 0 0, .slice none 0 0, .int .i64 0, .int .i64 0, .bool false] 45), Blk _ W.heap.size (.cells #[u0, u1, u2, u3, u4] 45)] :=
  ((Has.start W).alloc _).allocAt _ (W.heap.size + 1) (by simp)
end Go.Proofs.YtfbkfdoekgnldaaDoor
