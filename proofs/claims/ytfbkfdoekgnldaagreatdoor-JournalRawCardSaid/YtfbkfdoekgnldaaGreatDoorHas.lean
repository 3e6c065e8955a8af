/- Several things in memory that a walk owns, none of which shares a block with another one: carried over calls that turn one of them. -/
import Derived.Test.YtfbkfdoekgnldaaGreatDoorKeep
namespace Go.Proofs.YtfbkfdoekgnldaaGreatDoor
open Go.RowKit
/-- all blocks but these (and new ones) are as they were -/
structure Only (F : List Nat) (w w' : World) : Prop where
  os : w'.os = w.os
  tape : w'.tape = w.tape
  output : w'.output = w.output
  size : w.heap.size ≤ w'.heap.size
  block : ∀ k, k < w.heap.size → k ∉ F → w'.heap[k]? = w.heap[k]?
theorem Only.refl (F : List Nat) (w : World) : Only F w w := ⟨rfl, rfl, rfl, Nat.le_refl _, fun _ _ _ => rfl⟩
theorem Only.trans {F G : List Nat} {a b c : World} (h : Only F a b) (k : Only G b c) (hG : ∀ x ∈ G, x ∈ F ∨ a.heap.size ≤ x) : Only F a c :=
  ⟨k.os.trans h.os, k.tape.trans h.tape, k.output.trans h.output, Nat.le_trans h.size k.size, fun i hi hn =>
    (k.block i (Nat.lt_of_lt_of_le hi h.size) (fun e => by rcases hG i e with h | h; exact hn h; omega)).trans (h.block i hi hn)⟩
theorem Only.step {F : List Nat} {a b c : World} (h : Only F a b) (k : Only F b c) : Only F a c := h.trans k (fun _ h => .inl h)
theorem Only.mono {F G : List Nat} {a b : World} (h : Only F a b) (hs : ∀ x ∈ F, x ∈ G) : Only G a b :=
  ⟨h.os, h.tape, h.output, h.size, fun i hi hn => h.block i hi (fun e => hn (hs i e))⟩
theorem Only.drew {F : List Nat} {a b : World} (h : Only F a b) : Only F a b.drew := ⟨h.os, h.tape, h.output, h.size, h.block⟩
theorem Only.drewN {F : List Nat} {a b : World} (h : Only F a b) (n : Nat) : Only F a (b.drewN n) := ⟨h.os, h.tape, h.output, h.size, h.block⟩
theorem Only.alloc {F : List Nat} {a b : World} (h : Only F a b) (o : Obj) : Only F a (b.alloc o) :=
  ⟨h.os, h.tape, h.output, Nat.le_trans h.size (by simp), fun i hi hn => (heap_alloc_old b o (Nat.lt_of_lt_of_le hi h.size)).trans (h.block i hi hn)⟩
theorem Only.setCell {F : List Nat} {a b : World} (h : Only F a b) (p : Addr) (v : Value) (hp : p.block ∈ F ∨ a.heap.size ≤ p.block) : Only F a (b.setCell p v) :=
  ⟨h.os, h.tape, h.output, by simpa using h.size, fun i hi hn => (Below.heap_setCell b p v i (fun e => by subst e; rcases hp with hp | hp; exact hn hp; omega)).trans (h.block i hi hn)⟩
theorem Only.setCells {F : List Nat} (a0 : Nat) {a : World} (hp : a0 ∈ F ∨ a.heap.size ≤ a0) : ∀ (vs : List Value) (o : Nat) {b : World}, Only F a b → Only F a (b.setCells a0 o vs)
  | [], _, _, h => h
  | v :: r, o, _, h => Only.setCells a0 hp r (o + 1) (h.setCell ⟨a0, o, none⟩ v hp)
theorem Only.setRow {F : List Nat} {a b : World} (h : Only F a b) (g : Nat) (cs : Array Value) (hp : g ∈ F ∨ a.heap.size ≤ g) : Only F a (b.setRow g cs) :=
  ⟨h.os, h.tape, h.output, by simpa using h.size, fun i hi hn => (setRow_other b _ _ _ (fun e => by subst e; rcases hp with hp | hp; exact hn hp; omega)).trans (h.block i hi hn)⟩
theorem Only.grown {F : List Nat} {a b c : World} {row : Option Nat} (h : Only F a b) (g : b.grownBy c row) (hr : ∀ k, row = some k → k ∈ F ∨ a.heap.size ≤ k) : Only F a c :=
  h.trans (G := row.toList) ⟨g.os, g.tape, g.output, g.size, fun i hi hn => g.block i hi (fun e => hn (by simp [← e]))⟩ (fun x hx => hr x (by simpa using hx))
theorem Only.of_below {F : List Nat} {a b : World} (h : Below a.heap.size a b) : Only F a b := ⟨h.os, h.tape, h.output, h.size, fun i hi _ => h.block i hi⟩
theorem Only.below {F : List Nat} {a b : World} (h : Only F a b) {B : Nat} (hB : B ≤ a.heap.size) (hF : ∀ x ∈ F, B ≤ x) : Below B a b :=
  ⟨h.os, h.tape, h.output, h.size, fun i hi => h.block i (by omega) (fun e => by have := hF i e; omega)⟩
theorem Only.nil_below {a b : World} (h : Only [] a b) : Below a.heap.size a b := h.below (Nat.le_refl _) (by simp)
theorem Only.thenBelow {F : List Nat} {a b c : World} (h : Only F a b) (k : Below b.heap.size b c) : Only F a c := h.step (Only.of_below k)

/-- a thing in memory: what it says of a world, and of which blocks -/
structure Res (B : Nat) where
  P : World → List Nat → Prop
  lt : ∀ W F, P W F → ∀ k ∈ F, k < W.heap.size
  stay : ∀ W W' F, P W F → (∀ k, k < B → W'.heap[k]? = W.heap[k]?) → (∀ k ∈ F, W'.heap[k]? = W.heap[k]?) → P W' F
/-- the things lie in a world, apart from one another -/
inductive Holds {B : Nat} (W : World) : List (Res B) → List Nat → Prop
  | nil : Holds W [] []
  | cons {r : Res B} {rs : List (Res B)} {f fs : List Nat} : r.P W f → (∀ k ∈ f, B ≤ k) → (∀ k ∈ f, k ∉ fs) → Holds W rs fs → Holds W (r :: rs) (f ++ fs)
theorem Holds.ge {B : Nat} {W : World} {rs : List (Res B)} {F : List Nat} (h : Holds W rs F) : ∀ k ∈ F, B ≤ k := by
  induction h with
  | nil => simp
  | cons _ hb _ _ ih => intro k hk; rcases List.mem_append.1 hk with h | h; exact hb k h; exact ih k h
theorem Holds.lt {B : Nat} {W : World} {rs : List (Res B)} {F : List Nat} (h : Holds W rs F) : ∀ k ∈ F, k < W.heap.size := by
  induction h with
  | nil => simp
  | cons hP _ _ _ ih => intro k hk; rcases List.mem_append.1 hk with h | h; exact Res.lt _ _ _ hP k h; exact ih k h
theorem Holds.stay {B : Nat} {W W' : World} {rs : List (Res B)} {F : List Nat} (h : Holds W rs F) (h0 : ∀ k, k < B → W'.heap[k]? = W.heap[k]?) (h1 : ∀ k ∈ F, W'.heap[k]? = W.heap[k]?) : Holds W' rs F := by
  induction h with
  | nil => exact .nil
  | cons hP hb hd _ ih => exact .cons (Res.stay _ _ _ _ hP h0 (fun k hk => h1 k (List.mem_append_left _ hk))) hb hd (ih (fun k hk => h1 k (List.mem_append_right _ hk)))
/-- what a walk that began at w owns at W -/
structure Has (w W : World) (rs : List (Res w.heap.size)) : Prop where
  hB : Below w.heap.size w W
  hs : ∃ F, Holds W rs F
theorem Has.start (w : World) : Has w w [] := ⟨Below.refl _ _, _, .nil⟩
theorem Holds.swap {B : Nat} {W : World} {r s : Res B} {rs : List (Res B)} {F : List Nat} (h : Holds W (r :: s :: rs) F) : ∃ F', Holds W (s :: r :: rs) F' ∧ ∀ k, k ∈ F' ↔ k ∈ F := by
  cases h with
  | cons hP hb hd h =>
    cases h with
    | cons hP' hb' hd' h =>
      refine ⟨_, .cons hP' hb' (fun k hk hm => ?_) (.cons hP hb (fun k hk hm => hd k hk (List.mem_append_right _ hm)) h), fun k => ?_⟩
      · rcases List.mem_append.1 hm with hm | hm
        · exact hd k hm (List.mem_append_left _ hk)
        · exact hd' k hk hm
      · simp only [List.mem_append]; constructor <;> (intro h; rcases h with h | h | h <;> simp [h])
theorem Holds.perm {B : Nat} {W : World} {rs rs' : List (Res B)} (hp : rs.Perm rs') : ∀ {F : List Nat}, Holds W rs F → ∃ F', Holds W rs' F' ∧ ∀ k, k ∈ F' ↔ k ∈ F := by
  induction hp with
  | nil => intro F h; exact ⟨F, h, fun _ => Iff.rfl⟩
  | cons x _ ih =>
    intro F h
    cases h with
    | cons hP hb hd h =>
      obtain ⟨F', h', he⟩ := ih h
      exact ⟨_, .cons hP hb (fun k hk hm => hd k hk ((he k).1 hm)) h', fun k => by simp [he]⟩
  | swap x y l => intro F h; exact h.swap
  | trans _ _ ih1 ih2 =>
    intro F h
    obtain ⟨F1, h1, e1⟩ := ih1 h
    obtain ⟨F2, h2, e2⟩ := ih2 h1
    exact ⟨F2, h2, fun k => (e2 k).trans (e1 k)⟩
theorem Has.perm {w W : World} {rs rs' : List (Res w.heap.size)} (h : Has w W rs) (hp : rs.Perm rs') : Has w W rs' := by
  obtain ⟨hB, F, hF⟩ := h
  obtain ⟨F', hF', _⟩ := hF.perm hp
  exact ⟨hB, F', hF'⟩
theorem Has.drop {w W : World} {r : Res w.heap.size} {rs : List (Res w.heap.size)} (h : Has w W (r :: rs)) : Has w W rs := by
  obtain ⟨hB, F, hF⟩ := h
  cases hF with
  | cons _ _ _ h => exact ⟨hB, _, h⟩
theorem Has.below {w W W' : World} {rs : List (Res w.heap.size)} (h : Has w W rs) (hb : Below W.heap.size W W') : Has w W' rs := by
  obtain ⟨hB, F, hF⟩ := h
  exact ⟨hB.trans (hb.mono hB.size), F, hF.stay (fun k hk => hb.block k (Nat.lt_of_lt_of_le hk hB.size)) (fun k hk => hb.block k (hF.lt k hk))⟩
theorem Has.drew {w W : World} {rs : List (Res w.heap.size)} (h : Has w W rs) : Has w W.drew rs := by
  obtain ⟨hB, F, hF⟩ := h
  exact ⟨hB.drew, F, hF.stay (fun _ _ => rfl) (fun _ _ => rfl)⟩
theorem Has.drewN {w W : World} {rs : List (Res w.heap.size)} (h : Has w W rs) (n : Nat) : Has w (W.drewN n) rs := by
  obtain ⟨hB, F, hF⟩ := h
  exact ⟨hB.trans ⟨rfl, rfl, rfl, Nat.le_refl _, fun _ _ => rfl⟩, F, hF.stay (fun _ _ => rfl) (fun _ _ => rfl)⟩
/-- a thing more, all of whose blocks are new -/
theorem Has.more {w W W' : World} {rs : List (Res w.heap.size)} (h : Has w W rs) (hb : Below W.heap.size W W') (r : Res w.heap.size) (F : List Nat) (hP : r.P W' F) (hn : ∀ k ∈ F, W.heap.size ≤ k) : Has w W' (r :: rs) := by
  obtain ⟨hB, F0, hF⟩ := h
  refine ⟨hB.trans (hb.mono hB.size), _, .cons hP (fun k hk => Nat.le_trans hB.size (hn k hk)) (fun k hk hm => ?_) (hF.stay (fun k hk => hb.block k (Nat.lt_of_lt_of_le hk hB.size)) (fun k hk => hb.block k (hF.lt k hk)))⟩
  have := hF.lt k hm; have := hn k hk; omega
/-- the first thing is turned into another one -/
theorem Has.turn {w W W' : World} {r r' : Res w.heap.size} {rs : List (Res w.heap.size)} (h : Has w W (r :: rs))
    (hstep : ∀ F, r.P W F → (∀ k ∈ F, w.heap.size ≤ k) → Only F W W' ∧ ∃ F', r'.P W' F' ∧ ∀ k ∈ F', k ∈ F ∨ W.heap.size ≤ k) : Has w W' (r' :: rs) := by
  obtain ⟨hB, F, hF⟩ := h
  cases hF with
  | @cons _ _ f fs hP hb hd hr =>
    obtain ⟨hO, F', hP', hsub⟩ := hstep _ hP hb
    have hlt := hr.lt
    have hge := hr.ge
    refine ⟨hB.trans (hO.below hB.size hb), _, .cons hP' (fun k hk => ?_) (fun k hk hm => ?_) (hr.stay (fun k hk => ?_) (fun k hk => ?_))⟩
    · rcases hsub k hk with h | h
      · exact hb k h
      · exact Nat.le_trans hB.size h
    · rcases hsub k hk with h | h
      · exact hd k h hm
      · have := hlt k hm; omega
    · exact hO.block k (Nat.lt_of_lt_of_le hk hB.size) (fun e => by have := hb k e; omega)
    · exact hO.block k (hlt k hk) (fun e => hd k e hk)
theorem Has.head {w W : World} {r : Res w.heap.size} {rs : List (Res w.heap.size)} (h : Has w W (r :: rs)) : ∃ F, r.P W F ∧ ∀ k ∈ F, w.heap.size ≤ k := by
  obtain ⟨hB, F, hF⟩ := h
  cases hF with
  | cons hP hb _ _ => exact ⟨_, hP, hb⟩
theorem Has.mem {w W : World} {r : Res w.heap.size} {rs : List (Res w.heap.size)} (h : Has w W rs) (hr : r ∈ rs) : ∃ F, r.P W F ∧ ∀ k ∈ F, w.heap.size ≤ k := by
  obtain ⟨a, b, rfl⟩ := List.append_of_mem hr
  exact (h.perm (rs' := r :: (a ++ b)) List.perm_middle).head
theorem Has.get {w W : World} {rs : List (Res w.heap.size)} (h : Has w W rs) (n : Nat) (r : Res w.heap.size) (hr : rs[n]? = some r) : ∃ F, r.P W F ∧ ∀ k ∈ F, w.heap.size ≤ k := h.mem (List.mem_of_getElem? hr)
/-- a thing in the midst is turned -/
theorem Has.turnAt {w W W' : World} (l1 : List (Res w.heap.size)) {l2 : List (Res w.heap.size)} {r r' : Res w.heap.size} (h : Has w W (l1 ++ r :: l2))
    (hstep : ∀ F, r.P W F → (∀ k ∈ F, w.heap.size ≤ k) → Only F W W' ∧ ∃ F', r'.P W' F' ∧ ∀ k ∈ F', k ∈ F ∨ W.heap.size ≤ k) : Has w W' (l1 ++ r' :: l2) :=
  ((h.perm List.perm_middle).turn hstep).perm List.perm_middle.symm
/-- a block of the walk's own -/
def Blk (B g : Nat) (o : Obj) : Res B where
  P W F := F = [g] ∧ W.heap[g]? = some o
  lt W F h k hk := by obtain ⟨rfl, h⟩ := h; simp at hk; subst hk; exact (Array.getElem?_eq_some_iff.1 h).1
  stay W W' F h _ h1 := by obtain ⟨rfl, h⟩ := h; exact ⟨rfl, (h1 g (by simp)).trans h⟩
theorem Has.blk {w W : World} {rs : List (Res w.heap.size)} (h : Has w W rs) (n g : Nat) (o : Obj) (hr : rs[n]? = some (Blk _ g o)) : W.heap[g]? = some o ∧ w.heap.size ≤ g := by
  obtain ⟨F, ⟨rfl, hP⟩, hF⟩ := h.get n _ hr
  exact ⟨hP, hF g (by simp)⟩
theorem Has.alloc {w W : World} {rs : List (Res w.heap.size)} (h : Has w W rs) (o : Obj) : Has w (W.alloc o) (Blk _ W.heap.size o :: rs) :=
  h.more ((Below.refl _ _).alloc (Nat.le_refl _) o) _ [W.heap.size] ⟨rfl, heap_alloc_new _ _⟩ (by simp)
theorem Has.allocAt {w W : World} {rs : List (Res w.heap.size)} (h : Has w W rs) (o : Obj) (n : Nat) (hn : n = W.heap.size) : Has w (W.alloc o) (Blk _ n o :: rs) := by subst hn; exact h.alloc o
theorem Has.setCell {w W : World} (l1 : List (Res w.heap.size)) {l2 : List (Res w.heap.size)} {g : Nat} {cs : Array Value} {t : TypeId} (h : Has w W (l1 ++ Blk _ g (.cells cs t (0, 0)) :: l2)) (i : Nat) (v : Value) :
    Has w (W.setCell ⟨g, i, none⟩ v) (l1 ++ Blk _ g (.cells (cs.setIfInBounds i v) t (0, 0)) :: l2) := by
  refine h.turnAt l1 (fun F hP _ => ?_)
  obtain ⟨rfl, hP⟩ := hP
  exact ⟨(Only.refl _ _).setCell _ _ (.inl (by simp)), [g], ⟨rfl, heap_setCell_same W g i _ _ _ hP⟩, by simp⟩
theorem Has.setRow {w W : World} (l1 : List (Res w.heap.size)) {l2 : List (Res w.heap.size)} {g : Nat} {cs : Array Value} {t : TypeId} (h : Has w W (l1 ++ Blk _ g (.cells cs t (0, 0)) :: l2)) (cs' : Array Value) :
    Has w (W.setRow g cs') (l1 ++ Blk _ g (.cells cs' t (0, 0)) :: l2) := by
  refine h.turnAt l1 (fun F hP _ => ?_)
  obtain ⟨rfl, hP⟩ := hP
  exact ⟨(Only.refl _ _).setRow _ _ (.inl (by simp)), [g], ⟨rfl, setRow_heap W g cs _ _ _ hP⟩, by simp⟩
theorem Has.cell {w W : World} {rs : List (Res w.heap.size)} (h : Has w W rs) (n g : Nat) (cs : Array Value) (t : TypeId) (hx : rs[n]? = some (Blk _ g (.cells cs t (0, 0)))) (i : Nat) (v : Value) (hv : cs[i]? = some v) : W.cell? ⟨g, i, none⟩ = some v :=
  (cell_of_row W g i _ _ _ (h.blk n _ _ hx).1).trans hv
theorem Has.frozen {w W : World} {rs : List (Res w.heap.size)} (h : Has w W rs) (n g : Nat) (cs : Array Value) (t : TypeId) (hx : rs[n]? = some (Blk _ g (.cells cs t (0, 0)))) (i : Nat) : W.frozen? ⟨g, i, none⟩ = false :=
  frozen_of_row W g _ _ _ (h.blk n _ _ hx).1
end Go.Proofs.YtfbkfdoekgnldaaGreatDoor
