/- An array of 64 frames without numbers: made, written, read. What transactions and troubles leave at the places outside of the journal. The walk of there: whether the places outside of a journal have frames. The walk of troubled: a crash, and replays with trouble. The walk of the statement JournalAtomic. -/
import Derived.Test.YtfbkfdoekgnldaaDoorJnWork
import Derived.Test.YtfbkfdoekgnldaaDoorJnNum
namespace Go.Proofs.YtfbkfdoekgnldaaDoor
open Go.RowKit
def frL (x : Int × ByteArray) : List Value := [.int .i64 x.1, .int .u32 0, .string x.2]
theorem frL_len (x : Int × ByteArray) : (frL x).length = 3 := rfl
/-- the cells of an array of frames -/
def frA (l : List (Int × ByteArray)) : Array Value := (flat frL l).toArray
theorem frA_size (l : List (Int × ByteArray)) : (frA l).size = l.length * 3 := by simp [frA, flat_length frL_len]
def fz64 : List (Int × ByteArray) := List.replicate 64 (0, ⟨#[]⟩)
theorem zc_fr : Tryd.zeroCells77 = frA fz64 := by kernel_rfl
theorem frA_cell (l : List (Int × ByteArray)) (k : Nat) (x : Int × ByteArray) (hk : l[k]? = some x) (j : Nat) (v : Value) (hv : (frL x)[j]? = some v) : (frA l)[k * 3 + j]? = some v := by
  have hj : j < 3 := by have := (List.getElem?_eq_some_iff.1 hv).1; rwa [frL_len] at this
  have := flat_cell frL_len l k x hk j hj
  rw [hv] at this
  simpa [frA] using this
theorem frA_put {W : World} {b : Nat} {l : List (Int × ByteArray)} {t : TypeId} (h : W.heap[b]? = some (.cells (frA l) t (0, 0))) (k : Nat) (s : Int × ByteArray) (hk : k < l.length) :
    (W.setCells b (k * 3) (frL s)).heap[b]? = some (.cells (frA (l.set k s)) t (0, 0)) := by
  have hle : k * 3 + 3 ≤ l.length * 3 := by omega
  rw [setCells_block W b (frL s) (k * 3) _ t h (by rw [frL_len, frA_size]; exact hle)]
  unfold frA
  rw [flat_set frL_len l k s hk, frL_len]
theorem Has.setFr {w W : World} (l1 : List (Res w.heap.size)) {l2 : List (Res w.heap.size)} {g : Nat} {l : List (Int × ByteArray)} {t : TypeId} (h : Has w W (l1 ++ Blk _ g (.cells (frA l) t (0, 0)) :: l2)) (k : Nat) (s : Int × ByteArray) (hk : k < l.length) :
    Has w (W.setCells g (k * 3) (frL s)) (l1 ++ Blk _ g (.cells (frA (l.set k s)) t (0, 0)) :: l2) := by
  refine h.turnAt l1 (fun F hP _ => ?_)
  obtain ⟨rfl, hP⟩ := hP
  exact ⟨Only.setCells g (.inl (by simp)) _ _ (Only.refl _ _), [g], ⟨rfl, frA_put hP k s hk⟩, by simp⟩
theorem run_index_fr (b : Nat) (q : IntKind) (k : Int) (h0 : 0 ≤ k) (h : k < 64) (w : World) : (Instr.indexAt 77 (.pointer (some ⟨b, 0, none⟩)) (.int q k)).run Tryd.prog w = .ok (.pointer (some ⟨b, k.toNat * 3, none⟩)) w := by
  have h1 : (0 : Int) ≤ k ∧ k < ((64 : Nat) : Int) := ⟨h0, by omega⟩
  have hz : (sizeOf 76).run Tryd.prog w = .ok 3 w := by kernel_rfl
  simp only [Instr.indexAt, asIntOf, Instr.sureAddr, Sem.run_bind, Sem.run_pure, Result.andThen_ok, run_underlying Tryd.underlying77, if_pos h1, hz, Addr.add_lit, Nat.zero_add]
theorem run_index_frn (b : Nat) (k : Nat) (h : k < 64) (w : World) : (Instr.indexAt 77 (.pointer (some ⟨b, 0, none⟩)) (.int .i64 (k : Int))).run Tryd.prog w = .ok (.pointer (some ⟨b, k * 3, none⟩)) w := by
  have := run_index_fr b .i64 (k : Int) (by omega) (by omega) w
  simpa using this
theorem fr_info : (Tryd.prog.info? 77).map (fun i => (i.zero, i.size)) = some (some (.agg (frA fz64)), 192) := by kernel_rfl
theorem fr_size : (Tryd.prog.info? 77).map (·.size) = some 192 := by kernel_rfl
theorem frA_one (l : List (Int × ByteArray)) : ∀ v ∈ frA l, v.oneCell' = true := by
  intro v hv
  have hv : v ∈ flat frL l := by simpa [frA] using hv
  obtain ⟨x, _, hx⟩ := List.mem_flatMap.1 hv
  simp only [frL, List.mem_cons, List.not_mem_nil, or_false] at hx
  rcases hx with rfl | rfl | rfl <;> rfl
theorem run_alloc_fr (w : World) (v : Value) : (Instr.alloc 77 true v).run Tryd.prog w = .ok (.pointer (some ⟨w.heap.size, 0, none⟩)) (w.alloc (.cells (frA fz64) 77)) := by
  have hz : (zeroValue 77).run Tryd.prog w = .ok (.agg (frA fz64)) w := by
    have h := fr_info
    cases hq : Tryd.prog.info? 77 with
    | none => simp [hq] at h
    | some i =>
      simp only [hq, Option.map_some, Option.some.injEq, Prod.mk.injEq] at h
      simp [zeroValue, typeInfo, hq, h.1]
  simp [Instr.alloc, Sem.run_bind, hz, newVar, newRow, Value.cells]
section
variable {ops : Array Oper} {rest : List Oper} {o : Oper} {a : Act} {w : World} {Q : Exit → Act → World → Prop}
theorem wpList_alloc_fr (hgd : o.guard = none) (ho : o.op = .alloc 77)
    (h : wpList Tryd.prog ops Q rest (a.put o.dst (.pointer (some ⟨w.heap.size, 0, none⟩))) (w.alloc (.cells (frA fz64) 77))) : wpList Tryd.prog ops Q (o :: rest) a w :=
  wpList_plain hgd fun _ hK => by
    unfold Oper.wp execOp
    simp only [ho, Sem.run_bind, run_alloc_fr, Result.andThen_ok, Sem.run_pure]
    exact hK _ _ h
theorem wpList_load_fr (hw : Region.wanted o (yielded ops a.tmps) = true) (x : Operand) (ho : o.op = .load 77 x) (g : Nat) (l : List (Int × ByteArray)) (hl : l.length = 64) (hx : a.eval x = .pointer (some ⟨g, 0, none⟩)) (hg : w.heap[g]? = some (.cells (frA l) 77 (0, 0)))
    (h : wpList Tryd.prog ops Q rest (a.put o.dst (.agg (frA l))) w) : wpList Tryd.prog ops Q (o :: rest) a w :=
  wpList_step fun K hK => by
    rw [if_pos hw]
    exact wp_load_row _ x ho g hx _ _ _ _ hg Tryd.underlying77 rfl (by rw [frA_size, hl]; exact fr_size) (hK _ _ h)
theorem wpList_store_fr (hgd : o.guard = none) (x y : Operand) (ho : o.op = .store 77 x y) (g : Nat) (l l0 : List (Int × ByteArray)) (hl : l.length = 64) (hl0 : l0.length = 64) (hx : a.eval x = .pointer (some ⟨g, 0, none⟩)) (hy : a.eval y = .agg (frA l)) (hg : w.heap[g]? = some (.cells (frA l0) 77 (0, 0)))
    (h : wpList Tryd.prog ops Q rest (a.put o.dst undef) (w.setRow g (frA l))) : wpList Tryd.prog ops Q (o :: rest) a w :=
  wpList_store_row hgd _ x y ho g _ hx hy _ _ hg (by rw [frA_size, hl]; exact fr_size) (by rw [frA_size, frA_size, hl, hl0]) (Array.all_eq_true_iff_forall_mem.2 (frA_one l)) h
end
/-! ### a slice from its second trouble on -/
def tailA (a : Option Addr) (cap : Nat) : Option Addr := if cap = 1 then a else a.map (·.add (1 * 2))
theorem run_bound0 (i y : Nat) (c : BoundsCode) (h : i ≤ y) (w : World) : (Instr.sliceBound (.int .i64 (i : Int)) y c).run Tryd.prog w = .ok i w := by
  have h' : (0 : Int) ≤ i ∧ (i : Int) ≤ y := by omega
  simp [Instr.sliceBound, asIntOf, h']
theorem run_slice_tr (a : Option Addr) (len cap : Nat) (h : 1 ≤ len) (w : World) :
    (Instr.sliceAt 54 (.slice a len cap) (some (.int .i64 1)) none none).run Tryd.prog w = .ok (.slice (tailA a cap) (len - 1) (cap - 1)) w := by
  have hz : (sizeOf 25).run Tryd.prog w = .ok 2 w := by kernel_rfl
  have hb : ∀ (c : BoundsCode) (w : World), (Instr.sliceBound (.int .i64 1) len c).run Tryd.prog w = .ok 1 w := fun c w => run_bound0 1 len c h w
  simp only [Instr.sliceAt, Instr.slice, Sem.run_bind, run_underlying Tryd.underlying54, Result.andThen_ok, Instr.sliceBounds, hb, Sem.run_pure, hz]
  rfl
theorem rdl_tail {W : World} {a : Option Addr} {cap : Nat} {t : UInt8 × Int} {l : List (UInt8 × Int)} (h : RdL W 2 trL (.slice a (t :: l).length cap) (t :: l)) (hc : (t :: l).length ≤ cap) : RdL W 2 trL (.slice (tailA a cap) l.length (cap - 1)) l := by
  obtain ⟨a', cap', hv, h2⟩ := h
  injection hv with e1 _ e2
  subst e1 e2
  refine ⟨_, _, rfl, ?_⟩
  rcases h2 with h2 | ⟨b, o, rfl, hr⟩
  · cases h2
  · by_cases h0 : l = []
    · exact .inl h0
    · right
      have hc0 : ¬ cap = 1 := by
        intro e
        simp only [List.length_cons] at hc
        exact h0 (List.eq_nil_of_length_eq_zero (by omega))
      refine ⟨b, o + 2, by unfold tailA; rw [if_neg hc0]; rfl, fun j u hu => ?_⟩
      have := hr (j + 2) u (by rw [flat_cons]; exact hu)
      rw [show o + 2 + j = o + (j + 2) by omega]
      exact this
end Go.Proofs.YtfbkfdoekgnldaaDoor
namespace Go.Proofs.YtfbkfdoekgnldaaDoor
open Go.RowKit
section
variable {S C D : Dv} {l : Lay} {m n : Nat} {run : List Rec} {f g : Int → Option (Int × ByteArray)} {a b : List (Int × ByteArray)}
/-- what a frame at a place is, without its number -/
def wOf (x : Option (Int × ByteArray)) : Int × ByteArray := x.getD (0, ⟨#[]⟩)
structure Agree (f : Int → Option (Int × ByteArray)) (a : List (Int × ByteArray)) : Prop where
  len : a.length = 64
  at_ : ∀ p : Nat, p < 64 → a[p]? = some (wOf (f p))
  kinds : ∀ p x, f p = some x → x.1 ≠ 0
def okAt (x : Fr × Int) (w : Int × ByteArray) : Bool := (x.1.k == w.1 && decide (x.1.d = w.2)) && ((x.2 == 0) == (w.1 != 0)) && (x.2 == 0 || x.2 == 70)
def ThereP (S : Dv) (l : Lay) (a : List (Int × ByteArray)) (k : Nat) : Prop := ∀ i : Nat, i < k → l.inside (i : Int) = true ∨ ∀ w, a[i]? = some w → okAt (S.get i) w = true
open Classical in
noncomputable def thereM (S : Dv) (l : Lay) (a : List (Int × ByteArray)) : Bool := decide (ThereP S l a 64)
theorem there_step {i : Nat} {w : Int × ByteArray} (h : ThereP S l a i) (hw : a[i]? = some w) (hi : l.inside (i : Int) = true ∨ okAt (S.get i) w = true) : ThereP S l a (i + 1) := by
  intro j hj
  by_cases e : j = i
  · subst e
    exact hi.imp id (fun h w' hw' => by rw [hw] at hw'; injection hw' with e; rw [← e]; exact h)
  · exact h j (by omega)
theorem there_yes (h : ThereP S l a 64) : thereM S l a = true := by unfold thereM; simp [h]
theorem there_no {i : Nat} {w : Int × ByteArray} (hi : i < 64) (hw : a[i]? = some w) (ho : l.inside (i : Int) = false) (h : okAt (S.get i) w = false) : thereM S l a = false := by
  unfold thereM
  simp only [decide_eq_false_iff_not]
  intro hT
  rcases hT i hi with h1 | h1
  · rw [ho] at h1; cases h1
  · have := h1 w hw; rw [h] at this; cases this
theorem get_zsec (hS : Fits S l) {p : Int} (h0 : 0 ≤ p) (h1 : p < S.st.length) (h : S.look p = zsec) : S.get p = (fr0F, 70) := by
  have h2 := hS.n256
  rw [Dv.get_on hS.on h0 h1, h]
  unfold openF
  rw [if_pos (by omega)]
  have : openCode p.toNat zsec = 70 := by rw [openCode, if_pos rfl]
  rw [this, if_neg (by decide)]
theorem there_pl (hS : Fits S l) (hl : S.st.length = 64) (hf : Pl S l f) (ha : Agree f a) : thereM S l a = true := by
  refine there_yes fun i hi => ?_
  cases hin : l.inside (i : Int) with
  | true => exact .inl rfl
  | false =>
    right
    intro w hw
    rw [ha.at_ i hi] at hw
    injection hw with hw
    have h := hf (i : Int) (by omega) (by omega) hin
    cases hx : f (i : Int) with
    | none =>
      rw [hx] at h hw
      rw [get_zsec hS (by omega) (by omega) h, ← hw]
      rfl
    | some x =>
      rw [hx] at h hw
      obtain ⟨q, hq⟩ := h
      have hk := ha.kinds _ _ hx
      rw [hq, ← hw]
      unfold okAt wOf
      simp [hk]
theorem pl_there (hS : Fits S l) (hl : S.st.length = 64) (hf : Pl S l f) (hg : Agree g b) (ht : thereM S l b = true) : Pl S l g := by
  have hT : ThereP S l b 64 := by unfold thereM at ht; simpa using ht
  intro p h0 h1 hin
  have h := hf p h0 h1 hin
  obtain ⟨i, rfl⟩ : ∃ i : Nat, p = i := ⟨p.toNat, by omega⟩
  have hi : i < 64 := by omega
  rcases hT i hi with h2 | h2
  · rw [hin] at h2; cases h2
  · have h3 := h2 _ (hg.at_ i hi)
    unfold okAt at h3
    simp only [Bool.and_eq_true, beq_iff_eq, Bool.or_eq_true, decide_eq_true_eq] at h3
    obtain ⟨⟨⟨e1, e2⟩, e3⟩, _⟩ := h3
    cases hx : f (i : Int) with
    | none =>
      rw [hx] at h
      rw [get_zsec hS (by omega) (by omega) h] at e3
      cases hy : g (i : Int) with
      | none => exact h
      | some y =>
        exfalso
        have hk := hg.kinds _ _ hy
        rw [hy] at e3
        unfold wOf at e3
        simp [hk] at e3
    | some x =>
      rw [hx] at h
      obtain ⟨q, hq⟩ := h
      rw [hq] at e1 e2 e3
      cases hy : g (i : Int) with
      | none =>
        rw [hy] at e3
        unfold wOf at e3
        simp at e3
      | some y =>
        rw [hy] at e1 e2
        unfold wOf at e1 e2
        dsimp only [Option.getD_some] at e1 e2
        exact ⟨q, by rw [hq, e1, e2]⟩
/-- the records of a transaction, laid into a list of places -/
def putsA (a : List (Int × ByteArray)) : List Rec → List (Int × ByteArray)
  | [] => a
  | r :: rest => putsA (a.set r.at_.toNat (r.kind, r.data)) rest
theorem putsA_snoc (run : List Rec) (r : Rec) : ∀ a, putsA a (run ++ [r]) = (putsA a run).set r.at_.toNat (r.kind, r.data) := by
  induction run with
  | nil => intro a; rfl
  | cons x rest ih => intro a; exact ih _
theorem putsA_len (run : List Rec) : ∀ a : List (Int × ByteArray), (putsA a run).length = a.length := by
  induction run with
  | nil => intro a; rfl
  | cons x rest ih => intro a; exact (ih _).trans (by simp)
theorem agree_puts (run : List Rec) (hr : ∀ r ∈ run, 0 ≤ r.at_ ∧ r.at_ < 64 ∧ r.kind ≠ 0) : ∀ {f : Int → Option (Int × ByteArray)} {a : List (Int × ByteArray)}, Agree f a → Agree (upd f run) (putsA a run) := by
  induction run with
  | nil => intro f a h; exact h
  | cons r rest ih =>
    intro f a h
    obtain ⟨h0, h1, h2⟩ := hr r (.head _)
    refine ih (fun s hs => hr s (.tail _ hs)) ⟨by simp [h.len], fun p hp => ?_, fun p x hx => ?_⟩
    · rw [List.getElem?_set]
      by_cases e : r.at_.toNat = p
      · rw [if_pos e, if_pos (by rw [h.len]; omega), if_pos (by omega)]; rfl
      · rw [if_neg e, if_neg (by omega)]; exact h.at_ p hp
    · split at hx
      · injection hx with hx; rw [← hx]; exact h2
      · exact h.kinds _ _ hx
/-- what a caller does between two troubles -/
def tCut (S : Dv) (l : Lay) (t : UInt8 × Int) : Dv := (replayM (S.limit (t.1.toNat % 40 : Nat)) l).1.crash (keptL t.2 (replayM (S.limit (t.1.toNat % 40 : Nat)) l).1.ca.length)
structure TRound (S : Dv) (l : Lay) (t : UInt8 × Int) : Prop where
  ok : (replayM (S.limit (t.1.toNat % 40 : Nat)) l).2.2 = 0 ∨ (replayM (S.limit (t.1.toNat % 40 : Nat)) l).2.2 = 13
  ca : (replayM (S.limit (t.1.toNat % 40 : Nat)) l).1.ca.length ≤ 200
  ce : (replayM (S.limit (t.1.toNat % 40 : Nat)) l).1.crashE (keptL t.2 (replayM (S.limit (t.1.toNat % 40 : Nat)) l).1.ca.length) = 0
def TOk (l : Lay) : Dv → List (UInt8 × Int) → Prop
  | S, [] => (replayM S l).2.2 = 0
  | S, t :: r => TRound S l t ∧ TOk l (tCut S l t) r
def tEnd (l : Lay) : Dv → List (UInt8 × Int) → Dv
  | S, [] => (replayM S l).1
  | S, t :: r => tEnd l (tCut S l t) r
structure MidZ (b : Bool) (S : Dv) (l : Lay) (m : Nat) (f : Int → Option (Int × ByteArray)) (run : List Rec) (n : Nat) : Prop where
  calm : Calm S l
  mid : Mid S l m f run
  len : S.st.length = 64
  pw : S.power = -1
  tk : S.taken ≤ n
  all : b = true → T0 S l (m + 1) ∧ Pl S l (upd f run)
structure RestP (S : Dv) (l : Lay) (m : Nat) (f : Int → Option (Int × ByteArray)) (n : Nat) : Prop where
  calm : Calm S l
  t0 : ∃ k, k ≤ m ∧ T0 S l k
  pl : Pl S l f
  len : S.st.length = 64
  pw : S.power = -1
  tk : S.taken ≤ n
theorem limit_held {p : Int} {x : Option (Int × ByteArray)} (q : Int) (h : Held S p x) : Held (S.limit q) p x := by
  cases x with
  | none => show (S.limit q).look p = zsec; rw [limit_look]; exact h
  | some x => obtain ⟨k, hk⟩ := h; exact ⟨k, by rw [limit_get]; exact hk⟩
theorem limit_T1 (q : Int) (h : T1 S l m run) : T1 (S.limit q) l m run := by
  refine ⟨?_, fun i h1 h2 => by rw [limit_get]; exact h.part i h1 h2⟩
  unfold HeadIs
  rw [limit_get]; exact h.hd
theorem limit_Mid (q : Int) (h : Mid S l m f run) : Mid (S.limit q) l m f run := by
  obtain ⟨e1, _, _, _⟩ := limit_parts S q
  rcases h with ⟨h1, h2⟩ | ⟨h1, h2⟩ | ⟨h1, h2⟩
  · exact .inl ⟨limit_T1 q h1, limit_Pl h2 q⟩
  · refine .inr (.inl ⟨⟨limit_T1 q h1.t1, fun k a e => by rw [limit_get]; exact h1.all k a e⟩, fun p h0 h1 hi => ?_⟩)
    exact (h2 p h0 (by rw [← e1]; exact h1) hi).imp (limit_held q) (fun ⟨r, hr, e, hx⟩ => ⟨r, hr, e, limit_held q hx⟩)
  · exact .inr (.inr ⟨limit_T0 h1 q, h2.imp (fun h => limit_Pl h q) (fun h => limit_Pl h q)⟩)
theorem redone_mid {E : Dv} {k : Nat} (ht : T0 E l k) (hpl : (k = m ∧ Pl E l f) ∨ (k = m + 1 ∧ (Pl E l f ∨ Pl E l (upd f run)))) : Mid E l m f run := by
  rcases hpl with ⟨rfl, h⟩ | ⟨rfl, h⟩
  · exact .inl ⟨ht.t1 run, h⟩
  · exact .inr (.inr ⟨ht, h⟩)
theorem mid_round {z : Bool} (h : MidZ z S l m f run n) (hr : RunOk 64 l run) (hm : m + 2 < 4294967296) (hn : n ≤ 800000) (t : UInt8 × Int) : TRound S l t ∧ MidZ z (tCut S l t) l m f run (n + 200) := by
  obtain ⟨T, hT⟩ : ∃ T, T = S.limit (t.1.toNat % 40 : Nat) := ⟨_, rfl⟩
  have hc := limit_calm h.calm (t.1.toNat % 40 : Nat)
  have hmid := limit_Mid (t.1.toNat % 40 : Nat) h.mid
  obtain ⟨e1, e2, e3, e4⟩ := limit_parts S (t.1.toNat % 40 : Nat)
  have hz : z = true → T0 T l (m + 1) ∧ Pl T l (upd f run) := fun e => by rw [hT]; exact ⟨limit_T0 (h.all e).1 _, limit_Pl (h.all e).2 _⟩
  rw [← hT] at hc hmid e1 e2 e3 e4
  have hlen : T.st.length = 64 := by rw [e1]; exact h.len
  have htk := h.tk
  have key : ∀ {k : Nat} {h' : Int → Option (Int × ByteArray)}, Calm (replayM T l).1 l → (replayM T l).1.st.length = 64 → (replayM T l).1.taken ≤ T.taken + 200 → (replayM T l).2.2 = 0 → T0 (replayM T l).1 l k → Pl (replayM T l).1 l h' →
      (∀ E : Dv, T0 E l k → Pl E l h' → Mid E l m f run ∧ (z = true → T0 E l (m + 1) ∧ Pl E l (upd f run))) → TRound S l t ∧ MidZ z (tCut S l t) l m f run (n + 200) := by
    intro k h' kc kl kt k0 kt0 kpl hE
    obtain ⟨c1, c2, c3, c4, c5, c6, c7⟩ := crash_rest kc kt0 kpl t.2
    have hca : (replayM T l).1.ca = [] := kc.ca
    obtain ⟨g1, g2⟩ := hE _ c6 c7
    refine ⟨⟨by rw [← hT]; exact .inl k0, by rw [← hT, hca]; simp, by rw [← hT]; exact c1⟩, ?_⟩
    unfold tCut
    rw [← hT]
    exact ⟨c2, g1, c5.trans kl, c3, by rw [c4]; omega, g2⟩
  cases z with
  | true =>
    obtain ⟨ht0, hpl⟩ := hz rfl
    obtain ⟨r1, _⟩ := replay_T0 hc (by omega) ht0
    refine key (k := m + 1) (h' := upd f run) ?_ ?_ ?_ ?_ ?_ ?_ (fun E h1 h2 => ⟨.inr (.inr ⟨h1, .inr h2⟩), fun _ => ⟨h1, h2⟩⟩)
    · rw [r1]; exact hc
    · rw [r1]; exact hlen
    · rw [r1]; show T.taken ≤ T.taken + 200; omega
    · rw [r1]
    · rw [r1]; exact ht0
    · rw [r1]; exact hpl
  | false =>
    rcases replay_run hc hmid (by rw [hlen]; exact hr) hm (by omega) with ⟨r0, was, now, hd⟩ | ⟨r0, _, hca, _, hk⟩
    · rcases hd.pl with ⟨e, hp⟩ | ⟨e, hp | hp⟩
      · exact key hd.calm (hd.len.trans hlen) hd.tk r0 hd.t0 hp (fun E h1 h2 => ⟨redone_mid h1 (.inl ⟨e, h2⟩), fun h => by cases h⟩)
      · exact key hd.calm (hd.len.trans hlen) hd.tk r0 hd.t0 hp (fun E h1 h2 => ⟨redone_mid h1 (.inr ⟨e, .inl h2⟩), fun h => by cases h⟩)
      · exact key hd.calm (hd.len.trans hlen) hd.tk r0 hd.t0 hp (fun E h1 h2 => ⟨redone_mid h1 (.inr ⟨e, .inr h2⟩), fun h => by cases h⟩)
    · have hke := keptL_ok (replayM T l).1 t.2
      obtain ⟨k1, k2, k3, k4, k5⟩ := hk _ hke
      refine ⟨⟨by rw [← hT]; exact .inr r0, by rw [← hT]; exact hca, by rw [← hT]; exact hke⟩, ?_⟩
      unfold tCut
      rw [← hT]
      exact ⟨k1, k5, k4.trans hlen, k2, by omega, fun h => by cases h⟩
theorem mid_end {z : Bool} (h : MidZ z S l m f run n) (hr : RunOk 64 l run) (hm : m + 2 < 4294967296) (hn : n ≤ 800000) :
    (replayM S l).2.2 = 0 ∧ (RestP (replayM S l).1 l (m + 1) f (n + 200) ∨ RestP (replayM S l).1 l (m + 1) (upd f run) (n + 200)) ∧ (z = true → RestP (replayM S l).1 l (m + 1) (upd f run) (n + 200)) := by
  have htk := h.tk
  have hpw := h.pw
  cases z with
  | true =>
    obtain ⟨ht0, hpl⟩ := h.all rfl
    obtain ⟨r1, _⟩ := replay_T0 h.calm (by omega) ht0
    have : RestP (replayM S l).1 l (m + 1) (upd f run) (n + 200) := by rw [r1]; exact ⟨h.calm, ⟨_, Nat.le_refl _, ht0⟩, hpl, h.len, h.pw, by show S.taken ≤ _; omega⟩
    exact ⟨by rw [r1], .inr this, fun _ => this⟩
  | false =>
    rcases replay_run h.calm h.mid (by rw [h.len]; exact hr) hm (by omega) with ⟨r0, was, now, hd⟩ | ⟨_, hp, _⟩
    · have htk2 := hd.tk
      have key : ∀ h', Pl (replayM S l).1 l h' → RestP (replayM S l).1 l (m + 1) h' (n + 200) := fun h' hp => ⟨hd.calm, ⟨_, hd.n1, hd.t0⟩, hp, hd.len.trans h.len, (hd.pw (by omega)).trans hpw, by omega⟩
      refine ⟨r0, ?_, fun h => by cases h⟩
      rcases hd.pl with ⟨_, hp⟩ | ⟨_, hp | hp⟩
      · exact .inl (key _ hp)
      · exact .inl (key _ hp)
      · exact .inr (key _ hp)
    · omega
theorem mid_all {z : Bool} (hr : RunOk 64 l run) (hm : m + 2 < 4294967296) (more : List (UInt8 × Int)) : ∀ {S : Dv} {n : Nat}, MidZ z S l m f run n → n + 200 * more.length ≤ 800000 →
    TOk l S more ∧ (RestP (tEnd l S more) l (m + 1) f (n + 200 * more.length + 200) ∨ RestP (tEnd l S more) l (m + 1) (upd f run) (n + 200 * more.length + 200)) ∧ (z = true → RestP (tEnd l S more) l (m + 1) (upd f run) (n + 200 * more.length + 200)) := by
  induction more with
  | nil => intro S n h hn; exact mid_end h hr hm (by simpa using hn)
  | cons t r ih =>
    intro S n h hn
    simp only [List.length_cons] at hn
    obtain ⟨h1, h2⟩ := mid_round h hr hm (by omega) t
    obtain ⟨h3, h4, h5⟩ := ih h2 (by omega)
    have e : n + 200 * (t :: r).length + 200 = n + 200 + 200 * r.length + 200 := by rw [List.length_cons]; omega
    rw [e]
    exact ⟨⟨h1, h3⟩, h4, h5⟩
theorem recE_codes (n : Nat) (l : Lay) (b : List Rec) (r : Rec) : recE n l b r = 0 ∨ recE n l b r = 2 ∨ recE n l b r = 7 ∨ recE n l b r = 3 ∨ recE n l b r = 8 := by
  unfold recE
  split
  · simp
  · split
    · simp
    · split
      · simp
      · split <;> simp
theorem validK_codes (n : Nat) (l : Lay) (run : List Rec) : ∀ b, validK n l b run = 0 ∨ validK n l b run = 2 ∨ validK n l b run = 7 ∨ validK n l b run = 3 ∨ validK n l b run = 8 := by
  induction run with
  | nil => intro b; exact .inl rfl
  | cons r rest ih =>
    intro b
    unfold validK
    split
    · exact recE_codes _ _ _ _
    · exact ih _
theorem validM_codes (n : Nat) (l : Lay) (run : List Rec) : validM n l run = 0 ∨ validM n l run = 2 ∨ validM n l run = 7 ∨ validM n l run = 3 ∨ validM n l run = 8 ∨ validM n l run = 12 := by
  unfold validM
  split
  · simp
  · rcases validK_codes n l run [] with h | h | h | h | h <;> simp [h]
theorem rest_limit (hc : Calm S l) (ht : ∃ k, k ≤ m ∧ T0 S l k) (hf : Pl S l f) (hl : S.st.length = 64) (hn : S.taken ≤ n) : RestP (S.limit (-1)) l m f n := by
  obtain ⟨e1, e2, e3, e4⟩ := limit_parts S (-1)
  obtain ⟨k, hk, h2⟩ := ht
  exact ⟨limit_calm hc _, ⟨k, hk, limit_T0 h2 _⟩, limit_Pl hf _, by rw [e1]; exact hl, rfl, by rw [e3]; exact hn⟩
/-- what a caller does after trouble -/
structure TrouP (C : Dv) (l : Lay) (keep : Int) (more : List (UInt8 × Int)) (E : Dv) : Prop where
  ca : C.ca.length ≤ 200
  ce : C.crashE (keptL keep C.ca.length) = 0
  ok : TOk l (C.crash (keptL keep C.ca.length)) more
  en : tEnd l (C.crash (keptL keep C.ca.length)) more = E
structure AtomNo (S1 C : Dv) (l : Lay) (m : Nat) (f : Int → Option (Int × ByteArray)) (n : Nat) (c : Int) : Prop where
  same : C = S1
  code : c = 2 ∨ c = 7 ∨ c = 3 ∨ c = 8 ∨ c = 12
  rest : RestP (S1.limit (-1)) l m f n
structure AtomYes (C : Dv) (l : Lay) (m : Nat) (f : Int → Option (Int × ByteArray)) (run : List Rec) (n : Nat) (c : Int) (tr : List (UInt8 × Int)) (E : Dv) : Prop where
  code : c = 0 ∨ c = 13
  recs : ∀ r ∈ run, 0 ≤ r.at_ ∧ r.at_ < 64 ∧ r.kind ≠ 0
  free : tr = [] → C = E
  trou : ∀ t r, tr = t :: r → TrouP C l t.2 r E
  rest : RestP E l m f n ∨ RestP E l m (upd f run) n
  all : c = 0 → RestP E l m (upd f run) n
theorem recs_64 (hr : RunOk 64 l run) : ∀ r ∈ run, 0 ≤ r.at_ ∧ r.at_ < 64 ∧ r.kind ≠ 0 := fun r hm => by
  obtain ⟨k, hk, e⟩ := List.mem_iff_getElem.1 hm
  have ok := hasAt_take hr k hk
  rw [e] at ok
  have := ok.a0
  have := ok.a1
  have := ok.k0
  omega
/-- one transaction, with its trouble if there is any -/
theorem atom_step (h : RestP S l m f n) (hm : m + 2 < 4294967296) (hn : n + 2000 ≤ 800000) (run : List Rec) (tr : List (UInt8 × Int)) (htr : tr.length ≤ 5) :
    ∃ S1 : Dv, (tr = [] → S1 = S) ∧ (∀ t, tr[0]? = some t → S1 = S.limit (t.1.toNat % 40 : Nat)) ∧
      (AtomNo S1 (commitM S1 l run).1 l m f n (commitM S1 l run).2 ∨ ∃ E, AtomYes (commitM S1 l run).1 l (m + 1) f run (n + 2000) (commitM S1 l run).2 tr E) := by
  obtain ⟨k, hk, ht0⟩ := h.t0
  have htk := h.tk
  have hpw := h.pw
  cases tr with
  | nil =>
    refine ⟨S, fun _ => rfl, fun t ht => by simp at ht, ?_⟩
    by_cases hv : validM S.st.length l run = 0
    · right
      have hr := valid_ok hv
      rw [h.len] at hr
      rcases commit_run h.calm ht0 h.pl hv (by omega) (by omega) with ⟨h0, hd⟩ | ⟨_, hp, _⟩
      · have htk2 := hd.tk
        have hrl : run.length ≤ 80 := by have := hr.len; have := (most_le l).2; omega
        have hres : RestP (commitM S l run).1 l (m + 1) (upd f run) (n + 2000) := ⟨hd.calm, ⟨k + 1, by omega, hd.t0⟩, hd.pl, hd.len.trans h.len, (hd.pw (by omega)).trans hpw, by omega⟩
        exact ⟨_, .inl h0, recs_64 hr, fun _ => rfl, fun t r e => by simp at e, .inr hres, fun _ => hres⟩
      · omega
    · left
      rw [commit_no h.calm ht0 hv]
      exact ⟨rfl, by have := validM_codes S.st.length l run; simp only [hv, false_or] at this; exact this, rest_limit h.calm h.t0 h.pl h.len h.tk⟩
  | cons t r =>
    have hc1 := limit_calm h.calm (t.1.toNat % 40 : Nat)
    have ht1 := limit_T0 ht0 (t.1.toNat % 40 : Nat)
    have hf1 := limit_Pl h.pl (t.1.toNat % 40 : Nat)
    obtain ⟨e1, e2, e3, e4⟩ := limit_parts S (t.1.toNat % 40 : Nat)
    refine ⟨S.limit (t.1.toNat % 40 : Nat), fun e => by simp at e, fun t' ht' => by simp at ht'; rw [ht'], ?_⟩
    obtain ⟨T, hT⟩ : ∃ T, T = S.limit (t.1.toNat % 40 : Nat) := ⟨_, rfl⟩
    rw [← hT] at hc1 ht1 hf1 e1 e2 e3 e4 ⊢
    have hlen : T.st.length = 64 := by rw [e1]; exact h.len
    by_cases hv : validM T.st.length l run = 0
    · right
      have hr := valid_ok hv
      rw [hlen] at hr
      obtain ⟨hca, hkk⟩ := commit_trouble hc1 ht1 hf1 (by omega) (by omega) hv
      obtain ⟨k1, k2, k3, k4, k5, k6, k7⟩ := hkk t.2
      have hcode : (commitM T l run).2 = 0 ∨ (commitM T l run).2 = 13 := by
        rcases commit_run hc1 ht1 hf1 hv (by omega) (by omega) with ⟨h0, _⟩ | ⟨h0, _⟩
        · exact .inl h0
        · exact .inr h0
      have hmz : MidZ (decide ((commitM T l run).2 = 0)) ((commitM T l run).1.crash (keptL t.2 (commitM T l run).1.ca.length)) l k f run (n + 200) :=
        ⟨k2, k6, k5.trans hlen, k3, by omega, fun e => k7 (of_decide_eq_true e)⟩
      simp only [List.length_cons] at htr
      obtain ⟨g1, g2, g3⟩ := mid_all hr (by omega) r hmz (by omega)
      have up : ∀ h', RestP (tEnd l ((commitM T l run).1.crash (keptL t.2 (commitM T l run).1.ca.length)) r) l (k + 1) h' (n + 200 + 200 * r.length + 200) → RestP (tEnd l ((commitM T l run).1.crash (keptL t.2 (commitM T l run).1.ca.length)) r) l (m + 1) h' (n + 2000) := fun h' hh => by
        obtain ⟨j, hj, hj2⟩ := hh.t0
        have := hh.tk
        exact ⟨hh.calm, ⟨j, by omega, hj2⟩, hh.pl, hh.len, hh.pw, by omega⟩
      refine ⟨_, hcode, recs_64 hr, fun e => by simp at e, fun t' r' e => ?_, g2.imp (up _) (up _), fun h0 => up _ (g3 (decide_eq_true h0))⟩
      injection e with e1 e2
      subst e1 e2
      exact ⟨hca, k1, g1, rfl⟩
    · left
      rw [commit_no hc1 ht1 hv]
      exact ⟨rfl, by have := validM_codes T.st.length l run; simp only [hv, false_or] at this; exact this, rest_limit hc1 ⟨k, hk, ht1⟩ hf1 hlen (by rw [e3]; exact h.tk)⟩
theorem atom_yes {E : Dv} (hE : RestP E l m f n ∨ RestP E l m (upd f run) n) (hb : Agree (upd f run) b) (ht : thereM E l b = true) : RestP E l m (upd f run) n := by
  rcases hE with h | h
  · exact ⟨h.calm, h.t0, pl_there h.calm.f h.len h.pl hb ht, h.len, h.pw, h.tk⟩
  · exact h
theorem atom_no {E : Dv} {c : Int} (hE : RestP E l m f n ∨ RestP E l m (upd f run) n) (hc : c = 0 → RestP E l m (upd f run) n) (ha : Agree f a) (hb : Agree (upd f run) b) (ht : thereM E l b = false) :
    (c == 0) = false ∧ RestP E l m f n ∧ thereM E l a = true := by
  have no : ¬ RestP E l m (upd f run) n := fun h => by
    have := there_pl h.calm.f h.len h.pl hb
    rw [ht] at this; cases this
  rcases hE with h | h
  · exact ⟨by simpa using fun e => no (hc e), h, there_pl h.calm.f h.len h.pl ha⟩
  · exact absurd h no
theorem RestP.up (h : RestP S l m f (20 + 2000 * m)) : RestP S l (m + 1) f (20 + 2000 * (m + 1)) := by
  obtain ⟨k, hk, h2⟩ := h.t0
  have := h.tk
  exact ⟨h.calm, ⟨k, by omega, h2⟩, h.pl, h.len, h.pw, by omega⟩
theorem fresh_rest {F : Dv} (h : Fresh F l 64) : RestP F l 0 (fun _ => none) l.size.toNat :=
  ⟨h.calm, ⟨0, Nat.le_refl _, h.t0⟩, h.pl, h.len, h.pw, by rw [h.tk]; have := Lay.check_ok h.calm.f.chk; omega⟩
theorem agree_none : Agree (fun _ => none) (List.replicate 64 ((0 : Int), (⟨#[]⟩ : ByteArray))) :=
  ⟨by simp, fun p hp => by rw [List.getElem?_replicate, if_pos hp]; rfl, fun p x h => by cases h⟩
end
end Go.Proofs.YtfbkfdoekgnldaaDoor
namespace Go.Proofs.YtfbkfdoekgnldaaDoor
open Go.RowKit
open Lime
attribute [local go_sem] Oper.semAt_some setRow_alloc_at setRow_alloc_past setRow_drew g_same32 g_eq32 g_ne32
set_option maxRecDepth 100000 in
set_option maxHeartbeats 8000000 in
theorem there_has {w W : World} {rs : List (Res w.heap.size)} {g : Nat} {S : Dv} (h : Has w W rs) (hr : DevR _ g S ∈ rs) (l : Lay) (hc : l.check = 0) (a : List (Int × ByteArray)) (ha : a.length = 64) (hh : HalfLaid w) :
    Calls Tryd.prog 33 #[pv g, .agg #[.int .i64 l.first, .int .i64 l.size], .agg (frA a)] W fun e w' => e = .returned (.bool (thereM S l a)) ∧ Has w w' rs := by
  have hlc := Lay.check_ok hc
  have h1 := (h.alloc (.cells #[.int .i64 l.first, .int .i64 l.size] 27)).allocAt (.cells (frA a) 77) (W.heap.size + 1) (by simp)
  have H1 := Lib.hid h1
  have HR := Lib.hid hr
  have HHL := Lib.hid hh
  clear h h1 hr hh
  go_enter Tryd.func33, Tryd.ntmps33
  go_wp2_with fail
  go_loopw [7] (fun i wr => ∃ k : Nat, i = .int .i64 (k : Int) ∧ k ≤ 64 ∧ Hid (ThereP S l a k) ∧ Has w wr (Blk _ (W.heap.size + 1) (.cells (frA a) 77) :: Blk _ W.heap.size (.cells #[.int .i64 l.first, .int .i64 l.size] 27) :: rs)) (fun i _ => 64 - (intOf i).toNat)
  case atStart => exact ⟨0, rfl, by decide, Lib.hid (fun i hi => absurd hi (by omega)), H1.out⟩
  case round =>
    obtain ⟨k, rfl, hk, hT, hH⟩ := hrel
    clear H1
    by_cases hlt : k < 64
    · obtain ⟨x, hx⟩ : ∃ x, a[k]? = some x := ⟨_, List.getElem?_eq_getElem (by omega)⟩
      have d0 := hH.cell 1 _ _ _ rfl 0 _ rfl
      have d1 := hH.cell 1 _ _ _ rfl 1 _ rfl
      have HX := Lib.hid hx
      have HH := Lib.hid hH
      have hwr : wrap64 (l.first + l.size) = l.first + l.size := by unfold wrap64; omega
      clear hx hH
      have hkl : (k : Int) < 64 := by omega
      by_cases hin : l.inside (k : Int) = true
      · have hi := inside_iff.1 hin
        obtain ⟨hi0, hi1⟩ := hi
        have HT2 : Hid (ThereP S l a (k + 1)) := Lib.hid (there_step hT.out HX.out (.inl hin))
        clear hin hT
        go_wp2_with fail
        go_roundw
        case rel => exact ⟨k + 1, by go_num, by omega, HT2, HH.out⟩
        case measure => simp [intOf]; omega
      · have hin2 : l.inside (k : Int) = false := by simpa using hin
        have hio : (k : Int) < l.first ∨ l.first + l.size ≤ (k : Int) := by
          have : ¬ (l.first ≤ (k : Int) ∧ (k : Int) < l.first + l.size) := fun e => hin (inside_iff.2 e)
          omega
        have HIN := Lib.hid hin2
        clear hin hin2
        go_upto_region 4 with fail
        go_cut [26] (fun z wx => z = .bool false ∧ Has w wx (Blk _ (W.heap.size + 1) (.cells (frA a) 77) :: Blk _ W.heap.size (.cells #[.int .i64 l.first, .int .i64 l.size] 27) :: rs))
        case first =>
          as_aux_lemma =>
          rcases hio with q | q
          · go_wp2_with fail
            go_meet
            exact ⟨rfl, HH.out⟩
          · have q2 : l.first ≤ (k : Int) := by omega
            go_wp2_with fail
            go_meet
            exact ⟨congrArg Value.bool (decide_eq_false (by omega)), HH.out⟩
        case rest =>
        obtain ⟨rfl, h2⟩ := hcut
        have HG := Lib.hid (get_ret h2 (.tail _ (.tail _ HR.out)) (k : Int) HHL.out)
        obtain ⟨Y, hY⟩ : ∃ Y, Y = S.get (k : Int) := ⟨_, rfl⟩
        rw [← hY] at HG
        obtain ⟨⟨fk, fq, fd⟩, c⟩ := Y
        dsimp only at HG
        have HY := Lib.hid hY
        clear hY h2 HH d0 d1 hio hwr
        go_wp2_with fail
        refine HG.out.mono ?_
        clear HG
        rintro e w3 ⟨rfl, h3⟩
        have H4 := Lib.hid (h3.alloc (.cells #[.int .i64 fk, .int .u32 0, .string fd] 76))
        clear h3
        obtain ⟨o, ho⟩ : ∃ o, o = okAt (⟨fk, fq, fd⟩, c) x := ⟨_, rfl⟩
        have HO := Lib.hid ho
        clear ho
        go_upto_region 7 with fail
        obtain ⟨w4, hw4⟩ : ∃ w4, w4 = w3.alloc (.cells #[.int .i64 fk, .int .u32 0, .string fd] 76) := ⟨_, rfl⟩
        rw [← hw4] at H4
        rw [← hw4]
        clear hw4
        go_cut [56] (fun z wx => z = .bool (!o) ∧ Has w wx (Blk _ (W.heap.size + 1) (.cells (frA a) 77) :: Blk _ W.heap.size (.cells #[.int .i64 l.first, .int .i64 l.size] 27) :: rs))
        case first =>
          as_aux_lemma =>
          obtain ⟨xk, xd⟩ := x
          have hxx : a[k]? = some (xk, xd) := HX.out
          have q0 := H4.out.cell 0 _ _ _ rfl 0 _ rfl
          have q1 := H4.out.cell 0 _ _ _ rfl 1 _ rfl
          have q2 := H4.out.cell 0 _ _ _ rfl 2 _ rfl
          have r0 : w4.cell? ⟨W.heap.size + 1, k * 3, none⟩ = some (.int .i64 xk) := H4.out.cell 1 _ _ _ rfl _ _ (frA_cell a k _ hxx 0 _ rfl)
          have r1 : w4.cell? ⟨W.heap.size + 1, k * 3 + 1, none⟩ = some (.int .u32 0) := H4.out.cell 1 _ _ _ rfl _ _ (frA_cell a k _ hxx 1 _ rfl)
          have r2 : w4.cell? ⟨W.heap.size + 1, k * 3 + 2, none⟩ = some (.string xd) := H4.out.cell 1 _ _ _ rfl _ _ (frA_cell a k _ hxx 2 _ rfl)
          have hix := fun w => run_index_frn (W.heap.size + 1) k hlt w
          clear HX hxx hT HY
          by_cases e1 : fk = xk
          · by_cases e2 : fd = xd
            · subst e1 e2
              by_cases e3 : c = 0
              · subst e3
                by_cases e4 : fk = 0
                · subst e4
                  go_wp2_with fail
                  go_quiet (fail)
                  go_wp2_with fail
                  go_meet
                  exact ⟨by rw [HO.out]; simp [okAt], H4.out.drop.drewN _⟩
                · have e5 : (fk != 0) = true := by simpa using e4
                  go_wp2_with fail
                  go_quiet (fail)
                  go_wp2_with fail
                  go_meet
                  exact ⟨by rw [HO.out]; simp [okAt, e4], H4.out.drop.drewN _⟩
              · have e5 : (c == 0) = false := by simpa using e3
                by_cases e6 : c = 70
                · subst e6
                  by_cases e4 : fk = 0
                  · subst e4
                    go_wp2_with fail
                    go_quiet (fail)
                    go_wp2_with fail
                    go_meet
                    exact ⟨by rw [HO.out]; simp [okAt], H4.out.drop.drewN _⟩
                  · have e7 : (fk != 0) = true := by simpa using e4
                    go_wp2_with fail
                    go_quiet (fail)
                    go_wp2_with fail
                    go_meet
                    exact ⟨by rw [HO.out]; simp [okAt, e4], H4.out.drop.drewN _⟩
                · have e8 : (c != 70) = true := by simpa using e6
                  have e9 : (c == 70) = false := by simpa using e6
                  by_cases e4 : fk = 0
                  · subst e4
                    go_wp2_with fail
                    go_quiet (fail)
                    go_wp2_with fail
                    go_meet
                    exact ⟨by rw [HO.out]; simp [okAt, bne, e5, e9], H4.out.drop.drewN _⟩
                  · have e7 : (fk != 0) = true := by simpa using e4
                    go_wp2_with fail
                    go_quiet (fail)
                    go_wp2_with fail
                    go_meet
                    exact ⟨by rw [HO.out]; simp [okAt, e3, e6], H4.out.drop.drewN _⟩
            · have e3 : ¬ fd.toList = xd.toList := by
                intro e
                rw [bytes_toList, bytes_toList] at e
                exact e2 (ByteArray.ext (Array.toList_inj.1 e))
              subst e1
              go_wp2_with fail
              go_quiet (fail)
              go_wp2_with fail
              go_meet
              exact ⟨by rw [HO.out]; simp [okAt, e2], H4.out.drop.drewN _⟩
          · have e5 : (fk == xk) = false := by simpa using e1
            go_wp2_with fail
            go_quiet (fail)
            go_wp2_with fail
            go_meet
            exact ⟨by rw [HO.out]; simp [okAt, e1], H4.out.drop.drewN _⟩
        case rest =>
        obtain ⟨rfl, h5⟩ := hcut
        have HH5 := Lib.hid h5
        clear h5 H4
        have hok : okAt (S.get (k : Int)) x = o := by rw [← HY.out, HO.out]
        cases o
        · have HNO := Lib.hid (there_no hlt HX.out HIN.out hok)
          clear hok hT
          go_wp2_with fail
          go_ret
          exact ⟨by rw [HNO.out]; rfl, HH5.out.drop.drop⟩
        · have HT2 : Hid (ThereP S l a (k + 1)) := Lib.hid (there_step hT.out HX.out (.inr hok))
          clear hok hT
          go_wp2_with fail
          go_roundw
          case rel => exact ⟨k + 1, by go_num, by omega, HT2, HH5.out⟩
          case measure => simp [intOf]; omega
    · obtain rfl : k = 64 := by omega
      have HTM := Lib.hid (there_yes hT.out)
      have HH := Lib.hid hH
      clear hT hH
      go_wp2_with fail
      go_ret
      exact ⟨by rw [HTM.out]; rfl, HH.out.drop.drop⟩
end Go.Proofs.YtfbkfdoekgnldaaDoor
namespace Go.Proofs.YtfbkfdoekgnldaaDoor
open Go.RowKit
open Lime
attribute [local go_sem] Oper.semAt_some setRow_alloc_at setRow_alloc_past setRow_drew g_same32 g_eq32 g_ne32
set_option maxRecDepth 100000 in
set_option maxHeartbeats 8000000 in
theorem troubled_has {w W : World} {rs : List (Res w.heap.size)} {g : Nat} {C E : Dv} (h : Has w W (DevR _ g C :: rs)) (l : Lay) {at_ : Option Addr} {ct : Nat} {more : List (UInt8 × Int)} {keep : Int} (hv : TrR _ (.slice at_ more.length ct) more ∈ rs) (hP : TrouP C l keep more E)
    (hk0 : 0 ≤ keep ∧ keep < 18446744073709551616) (hks : ∀ t ∈ more, 0 ≤ t.2 ∧ t.2 < 18446744073709551616) (hlen : more.length ≤ 1000) (hh : HalfLaid w) :
    Calls Tryd.prog 34 #[pv g, .agg #[.int .i64 l.first, .int .i64 l.size], .int .u64 keep, .slice at_ more.length ct] W fun e w' => e = .returned (.bool true) ∧ Has w w' (DevR _ g E :: rs) := by
  obtain ⟨hca, hce, hok, hen⟩ := hP
  obtain ⟨D0, hD0⟩ : ∃ D0, D0 = C.crash (keptL keep C.ca.length) := ⟨_, rfl⟩
  rw [← hD0] at hok hen
  have H1 := Lib.hid ((h.alloc (.cells #[.int .i64 l.first, .int .i64 l.size] 27)).perm (List.Perm.swap _ _ _))
  have HHL := Lib.hid hh
  have HV := Lib.hid hv
  have HKS := Lib.hid hks
  have HK0 := Lib.hid hk0
  have HCA0 := Lib.hid hca
  have HCE0 := Lib.hid hce
  have HD0 := Lib.hid hD0
  have HTOK := Lib.hid (And.intro hok hen)
  clear h hh hv hks hk0 hca hce hok hen hD0
  go_enter Tryd.func34, Tryd.ntmps34
  go_wp2_with fail
  refine (pending_has H1.out (.head _)).mono ?_
  rintro e w1 ⟨rfl, rfl⟩
  go_wp2_with fail
  refine (kept_has H1.out C.ca.length keep (by have := HCA0.out; omega) HK0.out.1 HK0.out.2).mono ?_
  rintro e w2 ⟨vk, rfl, h2⟩
  have hcr := crash_own h2 (by have := keptL_len keep C.ca.length; have := HCA0.out; omega)
  rw [HCE0.out, ← HD0.out] at hcr
  have HCR := Lib.hid hcr
  clear hcr h2 H1
  go_wp2_with fail
  refine HCR.out.mono ?_
  clear HCR
  rintro e w3 ⟨rfl, h3⟩
  have H3 := Lib.hid h3.drop
  clear h3
  go_wp2_with fail
  go_loopw [9] (fun i wr => ∃ (k : Nat) (D : Dv), i = .int .i64 (k : Int) ∧ k ≤ more.length ∧ Hid (TOk l D (more.drop k) ∧ tEnd l D (more.drop k) = E) ∧ Has w wr (DevR _ g D :: Blk _ W.heap.size (.cells #[.int .i64 l.first, .int .i64 l.size] 27) :: rs)) (fun i _ => more.length - (intOf i).toNat)
  case atStart => exact ⟨0, D0, rfl, Nat.zero_le _, HTOK, H3.out⟩
  case round =>
    obtain ⟨k, D, rfl, hk, hTO, hH⟩ := hrel
    clear H3 HTOK HD0 HCE0 HCA0
    by_cases hlt : k < more.length
    · obtain ⟨t, ht⟩ : ∃ t, more[k]? = some t := ⟨_, List.getElem?_eq_getElem hlt⟩
      obtain ⟨bt, ot, rfl⟩ := (hH.rd (.tail _ (.tail _ HV.out))).addr trL_len (by omega)
      have hdr : more.drop k = t :: more.drop (k + 1) := by
        have e := List.getElem?_eq_some_iff.1 ht
        obtain ⟨e1, e2⟩ := e
        rw [← e2]; exact List.drop_eq_getElem_cons hlt
      have hto := hTO.out
      rw [hdr] at hto
      obtain ⟨⟨hrd, hok⟩, hen⟩ := hto
      obtain ⟨m, hm, hm40, m1, m2, m3, m4⟩ := mod40 t.1
      obtain ⟨X, hX⟩ : ∃ X, X = replayM (D.limit (m : Int)) l := ⟨_, rfl⟩
      obtain ⟨r1, r2, r3⟩ := hrd
      have htc : tCut D l t = X.1.crash (keptL t.2 X.1.ca.length) := by rw [hX, hm]; rfl
      rw [← hm, ← hX] at r1 r2 r3
      have HNX : Hid (TOk l (tCut D l t) (more.drop (k + 1)) ∧ tEnd l (tCut D l t) (more.drop (k + 1)) = E) := Lib.hid ⟨hok, hen⟩
      obtain ⟨D1, hD1⟩ : ∃ D1, D1 = tCut D l t := ⟨_, rfl⟩
      rw [← hD1] at htc HNX
      have t0 : wr.cell? ⟨bt, ot + k * 2, none⟩ = some (.int .u8 (vb t.1)) := hH.rdCell trL_len (.tail _ (.tail _ HV.out)) k _ ht 0 _ rfl
      have hit := fun w => run_index_tr bt ot more.length ct k hlt w
      obtain ⟨kp, hkp⟩ : ∃ kp, kp = t.2 := ⟨_, rfl⟩
      have HK := Lib.hid (HKS.out t (List.mem_of_getElem? ht))
      have HSZ : Hid (∀ (W' : World) rs', Has w W' rs' → TrR _ (.slice (some ⟨bt, ot, none⟩) more.length ct) more ∈ rs' → W'.cell? ⟨bt, ot + k * 2 + 1, none⟩ = some (.int .u64 kp) ∧ True ∧ True) := fun W' rs' h h1 => ⟨by rw [hkp]; exact h.rdCell trL_len h1 k _ ht 1 _ rfl, trivial, trivial⟩
      rw [← hkp] at HK r3 htc
      have hlm := limit_at9 [] hH (m : Int)
      rw [m4] at hlm
      have HLM := Lib.hid hlm
      have HX := Lib.hid hX
      obtain ⟨T, many, c⟩ := X
      dsimp only at r1 r2 r3 htc
      have HC := Lib.hid r1
      have HCA := Lib.hid r2
      have HCE := Lib.hid r3
      have HTC := Lib.hid htc.symm
      have hkl : (k : Int) < (more.length : Int) := by omega
      clear hTO hdr hok hen hm m4 r1 r2 r3 htc hD1 hkp hX hlm hH ht
      go_wp2_with fail
      refine HLM.out.mono ?_
      clear HLM t0
      rintro e w4 ⟨rfl, h4⟩
      have d0 := h4.cell 1 _ _ _ rfl 0 _ rfl
      have d1 := h4.cell 1 _ _ _ rfl 1 _ rfl
      have hrp := replay_at [] h4 l HHL.out
      rw [← HX.out] at hrp
      have HRP := Lib.hid hrp
      clear hrp h4 HX
      go_wp2_with fail
      refine HRP.out.mono ?_
      clear HRP d0 d1
      rintro e w5 ⟨rfl, h5⟩
      have H5 := Lib.hid h5
      clear h5
      go_upto_region 9 with fail
      go_cut [61] (fun z wx => z = .bool false ∧ Has w wx (DevR _ g D1 :: Blk _ W.heap.size (.cells #[.int .i64 l.first, .int .i64 l.size] 27) :: rs))
      case first =>
        as_aux_lemma =>
        rcases HC.out with rfl | rfl
        · clear HC
          skip
          refine wp_region_ordJ (fun W' => W'.cell? ⟨bt, ot + k * 2 + 1, none⟩ = some (.int .u64 kp) ∧ True ∧ True) (OrdT.takes [0, 1, 2, 3, 4, 5, 6, 7, 8, 10, 11, 12, 13, 14] (.one 9 (.one 15 (.one 16 (OrdT.takes [17, 18] .done))))) (by kernel_rfl) (by kernel_rfl) (HSZ.out _ _ H5.out.drew (.tail _ (.tail _ HV.out))) (fun wz hz => ?_)
          have h6 := H5.out.drew
          rw [← hz] at h6
          have H6 := Lib.hid h6
          clear hz h6 H5
          unfold OrdT.takes
          --ordt mymssymmmmmyyy
          (refine' t_move _ _ rfl rfl rfl rfl _ _; rotate_left; (go_simp; with_reducible rfl); simp only [Act.put, List.setIfInBounds_toArray, List.set_cons_zero, List.set_cons_succ])
          (refine' t_yield _ rfl rfl rfl _ _; rotate_left; (intro w' hSw; obtain ⟨s0, s1, s2⟩ := hSw; go_simp; with_reducible rfl); simp only [Act.put, List.setIfInBounds_toArray, List.set_cons_zero, List.set_cons_succ])
          (refine' t_move _ _ rfl rfl rfl rfl _ _; rotate_left; (go_simp; with_reducible rfl); simp only [Act.put, List.setIfInBounds_toArray, List.set_cons_zero, List.set_cons_succ])
          iterate 2 (refine t_skip rfl rfl rfl ?_; simp only [Act.put, List.setIfInBounds_toArray, List.set_cons_zero, List.set_cons_succ])
          (refine' t_yield _ rfl rfl rfl _ _; rotate_left; (intro w' hSw; obtain ⟨s0, s1, s2⟩ := hSw; go_simp; with_reducible rfl); simp only [Act.put, List.setIfInBounds_toArray, List.set_cons_zero, List.set_cons_succ])
          iterate 5 (refine' t_move _ _ rfl rfl rfl rfl _ _; rotate_left; (go_simp; with_reducible rfl); simp only [Act.put, List.setIfInBounds_toArray, List.set_cons_zero, List.set_cons_succ])
          iterate 3 (refine' t_yield _ rfl rfl rfl _ _; rotate_left; (intro w' hSw; obtain ⟨s0, s1, s2⟩ := hSw; go_simp; with_reducible rfl); simp only [Act.put, List.setIfInBounds_toArray, List.set_cons_zero, List.set_cons_succ])
          --end
          refine t_one rfl rfl (fun K hK => ?_)
          go_simp
          refine (pending_has H6.out (.head _)).mono ?_
          rintro e w7 ⟨rfl, rfl⟩
          dsimp only
          refine hK _ _ (HSZ.out _ _ H6.out (.tail _ (.tail _ HV.out))) ?_
          clear hK
          refine t_one rfl rfl (fun K hK => ?_)
          go_simp
          refine (kept_has H6.out T.ca.length kp (by have := HCA.out; omega) HK.out.1 HK.out.2).mono ?_
          rintro e w8 ⟨vk, rfl, h8⟩
          have H8 := Lib.hid h8
          clear h8 H6
          dsimp only
          refine hK _ _ (HSZ.out _ _ H8.out (.tail _ (.tail _ (.tail _ HV.out)))) ?_
          clear hK
          have hcr := crash_own H8.out (by have := keptL_len kp T.ca.length; have := HCA.out; omega)
          rw [HCE.out, HTC.out] at hcr
          have HCR2 := Lib.hid hcr
          clear hcr H8
          refine t_one rfl rfl (fun K hK => ?_)
          go_simp
          refine HCR2.out.mono ?_
          clear HCR2
          rintro e w9 ⟨rfl, h9⟩
          have H9 := Lib.hid h9.drop
          clear h9
          dsimp only
          refine hK _ _ (HSZ.out _ _ H9.out (.tail _ (.tail _ HV.out))) ?_
          clear hK
          unfold OrdT.takes
          --ordt yy
          iterate 2 (refine' t_yield _ rfl rfl rfl _ _; rotate_left; (intro w' hSw; obtain ⟨s0, s1, s2⟩ := hSw; go_simp; with_reducible rfl); simp only [Act.put, List.setIfInBounds_toArray, List.set_cons_zero, List.set_cons_succ])
          --end
          refine t_done ?_
          go_wp2_with fail
          go_meet
          exact ⟨rfl, H9.out⟩
        · clear HC
          skip
          refine wp_region_ordJ (fun W' => W'.cell? ⟨bt, ot + k * 2 + 1, none⟩ = some (.int .u64 kp) ∧ True ∧ True) (OrdT.takes [0, 1, 2, 3, 4, 5, 6, 7, 8, 10, 11, 12, 13, 14] (.one 9 (.one 15 (.one 16 (OrdT.takes [17, 18] .done))))) (by kernel_rfl) (by kernel_rfl) (HSZ.out _ _ H5.out.drew (.tail _ (.tail _ HV.out))) (fun wz hz => ?_)
          have h6 := H5.out.drew
          rw [← hz] at h6
          have H6 := Lib.hid h6
          clear hz h6 H5
          unfold OrdT.takes
          --ordt mymmyymmmmmyyy
          (refine' t_move _ _ rfl rfl rfl rfl _ _; rotate_left; (go_simp; with_reducible rfl); simp only [Act.put, List.setIfInBounds_toArray, List.set_cons_zero, List.set_cons_succ])
          (refine' t_yield _ rfl rfl rfl _ _; rotate_left; (intro w' hSw; obtain ⟨s0, s1, s2⟩ := hSw; go_simp; with_reducible rfl); simp only [Act.put, List.setIfInBounds_toArray, List.set_cons_zero, List.set_cons_succ])
          iterate 2 (refine' t_move _ _ rfl rfl rfl rfl _ _; rotate_left; (go_simp; with_reducible rfl); simp only [Act.put, List.setIfInBounds_toArray, List.set_cons_zero, List.set_cons_succ])
          iterate 2 (refine' t_yield _ rfl rfl rfl _ _; rotate_left; (intro w' hSw; obtain ⟨s0, s1, s2⟩ := hSw; go_simp; with_reducible rfl); simp only [Act.put, List.setIfInBounds_toArray, List.set_cons_zero, List.set_cons_succ])
          iterate 5 (refine' t_move _ _ rfl rfl rfl rfl _ _; rotate_left; (go_simp; with_reducible rfl); simp only [Act.put, List.setIfInBounds_toArray, List.set_cons_zero, List.set_cons_succ])
          iterate 3 (refine' t_yield _ rfl rfl rfl _ _; rotate_left; (intro w' hSw; obtain ⟨s0, s1, s2⟩ := hSw; go_simp; with_reducible rfl); simp only [Act.put, List.setIfInBounds_toArray, List.set_cons_zero, List.set_cons_succ])
          --end
          refine t_one rfl rfl (fun K hK => ?_)
          go_simp
          refine (pending_has H6.out (.head _)).mono ?_
          rintro e w7 ⟨rfl, rfl⟩
          dsimp only
          refine hK _ _ (HSZ.out _ _ H6.out (.tail _ (.tail _ HV.out))) ?_
          clear hK
          refine t_one rfl rfl (fun K hK => ?_)
          go_simp
          refine (kept_has H6.out T.ca.length kp (by have := HCA.out; omega) HK.out.1 HK.out.2).mono ?_
          rintro e w8 ⟨vk, rfl, h8⟩
          have H8 := Lib.hid h8
          clear h8 H6
          dsimp only
          refine hK _ _ (HSZ.out _ _ H8.out (.tail _ (.tail _ (.tail _ HV.out)))) ?_
          clear hK
          have hcr := crash_own H8.out (by have := keptL_len kp T.ca.length; have := HCA.out; omega)
          rw [HCE.out, HTC.out] at hcr
          have HCR2 := Lib.hid hcr
          clear hcr H8
          refine t_one rfl rfl (fun K hK => ?_)
          go_simp
          refine HCR2.out.mono ?_
          clear HCR2
          rintro e w9 ⟨rfl, h9⟩
          have H9 := Lib.hid h9.drop
          clear h9
          dsimp only
          refine hK _ _ (HSZ.out _ _ H9.out (.tail _ (.tail _ HV.out))) ?_
          clear hK
          unfold OrdT.takes
          --ordt yy
          iterate 2 (refine' t_yield _ rfl rfl rfl _ _; rotate_left; (intro w' hSw; obtain ⟨s0, s1, s2⟩ := hSw; go_simp; with_reducible rfl); simp only [Act.put, List.setIfInBounds_toArray, List.set_cons_zero, List.set_cons_succ])
          --end
          refine t_done ?_
          go_wp2_with fail
          go_meet
          exact ⟨rfl, H9.out⟩
      case rest =>
      obtain ⟨rfl, h9⟩ := hcut
      have H9 := Lib.hid h9
      clear h9 H5
      go_wp2_with fail
      go_roundw
      case rel => exact ⟨k + 1, D1, by go_num, by omega, HNX, H9.out⟩
      case measure => simp [intOf]; omega
    · obtain rfl : k = more.length := by omega
      have hto := hTO.out
      rw [List.drop_length] at hto
      obtain ⟨h0, hen⟩ := hto
      have d0 := hH.cell 1 _ _ _ rfl 0 _ rfl
      have d1 := hH.cell 1 _ _ _ rfl 1 _ rfl
      obtain ⟨X, hX⟩ : ∃ X, X = replayM D l := ⟨_, rfl⟩
      have h0' : X.2.2 = 0 := by rw [hX]; exact h0
      have hen' : X.1 = E := by rw [hX]; exact hen
      have hrp := replay_at [] hH l HHL.out
      rw [← hX] at hrp
      obtain ⟨T, many, c⟩ := X
      dsimp only at h0' hen' hrp
      subst h0' hen'
      have HRP := Lib.hid hrp
      clear hTO hX h0 hen hrp hH
      go_wp2_with fail
      refine HRP.out.mono ?_
      clear HRP d0 d1
      rintro e w5 ⟨rfl, h5⟩
      have H5 := Lib.hid (h5.perm (List.Perm.swap _ _ _)).drop
      clear h5
      go_wp2_with fail
      go_ret
      exact ⟨rfl, H5.out⟩
end Go.Proofs.YtfbkfdoekgnldaaDoor
namespace Go.Proofs.YtfbkfdoekgnldaaDoor
open Go.RowKit
open Lime
attribute [local go_sem] Oper.semAt_some setRow_alloc_at setRow_alloc_past setRow_drew g_same32 g_eq32 g_ne32
def atL : Lay := ⟨3, 20⟩
set_option maxRecDepth 100000 in
set_option maxHeartbeats 16000000 in
theorem atomic_law (v : Value) (l : List WorkD) (w : World) (hv : WorksIn w v l) (hh : HalfLaid w) :
    Calls Tryd.prog 8 #[v] w fun e w' => e = .returned (.bool true) ∧ Below w.heap.size w w' := by
  have HAW : Hid (∀ w', Below w.heap.size w w' → Calls Tryd.prog 12 #[] w' fun e w'' => e = .returned (.bool true) ∧ Below w'.heap.size w' w'') := fun w' hB => awake9 w' (hh.below hB)
  have hrd := hv.hL
  have HEA := Lib.hid hv.each
  have hln := hv.len
  obtain ⟨a0, cap, rfl, -⟩ := hv.hL
  have h0 := ((Has.start w).addRd hrd workL_len (by decide)).alloc (.cells #[.int .i64 3, .int .i64 20] 27)
  have HN := Lib.hid (new_has h0 64 (by decide) (by decide))
  have HHL := Lib.hid hh
  clear hh hv hrd h0
  go_enter Tryd.func8, Tryd.ntmps8
  go_wp2_with fail
  refine HN.out.mono ?_
  clear HN
  rintro e w1 ⟨g, rfl, h1⟩
  have d0 := h1.cell 1 _ _ _ rfl 0 _ rfl
  have d1 := h1.cell 1 _ _ _ rfl 1 _ rfl
  have H1 := Lib.hid h1
  clear h1
  by_cases q0 : 8 < (l.length : Int)
  · go_wp2_with fail
    refine (HAW.out _ H1.out.hB).mono ?_
    rintro e w9 ⟨rfl, hB9⟩
    have HB := Lib.hid (H1.out.hB.trans (hB9.mono H1.out.hB.size))
    clear hB9
    go_wp2_with fail
    go_ret
    exact ⟨rfl, HB.out⟩
  obtain ⟨F, e0, hfr⟩ := fresh_format atL 64 (by decide) (by decide) (by decide) (by decide)
  have hf := format_at [] H1.out atL HHL.out
  rw [e0] at hf
  have HF := Lib.hid hf
  have HR0 : Hid (RestP F atL 0 (fun _ => none) 20) := Lib.hid (fresh_rest hfr)
  clear hf hfr e0 H1
  go_wp2_with fail
  refine HF.out.mono ?_
  clear HF d0 d1
  rintro e w2 ⟨rfl, h2⟩
  have h3 := h2.alloc (.cells (frA fz64) 77)
  have HA0 := Lib.hid agree_none
  have H3 := Lib.hid h3
  clear h2 h3
  go_wp2_with (with_reducible refine wpList_alloc_fr rfl rfl ?_)
  obtain ⟨bn, hbn⟩ : ∃ bn, bn = w2.heap.size := ⟨_, rfl⟩
  rw [← hbn] at H3
  rw [← hbn]
  obtain ⟨w3, hw3⟩ : ∃ w3, w3 = w2.alloc (.cells (frA fz64) 77) := ⟨_, rfl⟩
  rw [← hw3] at H3
  rw [← hw3]
  clear hbn hw3
  go_loopw [7] (fun i wr => ∃ (k : Nat) (S : Dv) (f : Int → Option (Int × ByteArray)) (a : List (Int × ByteArray)), i = .int .i64 (k : Int) ∧ k ≤ l.length ∧ Hid (RestP S atL k f (20 + 2000 * k)) ∧ Hid (Agree f a) ∧ Has w wr (Blk _ bn (.cells (frA a) 77) :: DevR _ g S :: Blk _ w.heap.size (.cells #[.int .i64 3, .int .i64 20] 27) :: WorksR _ (.slice a0 l.length cap) l :: [])) (fun i _ => l.length - (intOf i).toNat)
  case atStart => exact ⟨0, F, _, _, rfl, Nat.zero_le _, HR0, HA0, H3.out⟩
  case round =>
    obtain ⟨k, S, f, a, rfl, hk, HRST, HAG, hH⟩ := hrel
    clear H3 HR0 HA0
    by_cases hlt : k < l.length
    · obtain ⟨x, hx⟩ : ∃ x, l[k]? = some x := ⟨_, List.getElem?_eq_getElem hlt⟩
      obtain ⟨b, o, rfl⟩ := (hH.rd (.tail _ (.tail _ (.tail _ (.head _))))).addr workL_len (by omega)
      obtain ⟨hri, hti⟩ := HEA.out x (List.mem_of_getElem? hx)
      obtain ⟨rv, run, tv, tr⟩ := x
      dsimp only at hri hti
      have hrd := hri.hL
      have htd := hti.hL
      have HDL := Lib.hid hri.dlen
      have hlr := hri.len
      have htl := hti.len
      have HKS := Lib.hid hti.ks
      have hroom := hti.room
      obtain ⟨ar, cr, rfl, -⟩ := hri.hL
      obtain ⟨at_, ct, rfl, -⟩ := hti.hL
      have hct : tr.length ≤ ct := hroom _ _ rfl
      have HTD := Lib.hid htd
      have HH := Lib.hid ((hH.addRd hrd recL_len (by decide)).addRd htd trL_len (by decide))
      have hkl : (k : Int) < (l.length : Int) := by omega
      have hl8 : (l.length : Int) ≤ 8 := by omega
      have hix := fun w => run_index_work b o l.length cap k hlt w
      have HCR : Hid (∀ (W' : World) rs, Has w W' rs → WorksR _ (.slice (some ⟨b, o, none⟩) l.length cap) l ∈ rs → W'.cell? ⟨b, o + k * 2, none⟩ = some (.slice ar run.length cr) ∧ W'.cell? ⟨b, o + k * 2 + 1, none⟩ = some (.slice at_ tr.length ct)) := fun W' rs h hm => ⟨h.rdCell workL_len hm k _ hx 0 _ rfl, h.rdCell workL_len hm k _ hx 1 _ rfl⟩
      have HLC : Hid (∀ (W' : World) rs, Has w W' rs → Blk _ w.heap.size (.cells #[.int .i64 3, .int .i64 20] 27) ∈ rs → W'.cell? ⟨w.heap.size, 0, none⟩ = some (.int .i64 3) ∧ W'.cell? ⟨w.heap.size, 1, none⟩ = some (.int .i64 20)) := fun W' rs h hm => by
        obtain ⟨n, hn⟩ := List.getElem?_of_mem hm
        exact ⟨h.cell n _ _ _ hn 0 _ rfl, h.cell n _ _ _ hn 1 _ rfl⟩
      clear hH hri hti hrd htd hx hroom
      obtain ⟨r0, r1⟩ := HCR.out _ _ HH.out (.tail _ (.tail _ (.tail _ (.tail _ (.tail _ (.head _))))))
      by_cases q2 : 5 < (tr.length : Int)
      · go_wp2_with fail
        refine (HAW.out _ HH.out.hB).mono ?_
        rintro e w9 ⟨rfl, hB9⟩
        have HB := Lib.hid (HH.out.hB.trans (hB9.mono HH.out.hB.size))
        clear hB9
        go_wp2_with fail
        go_ret
        exact ⟨rfl, HB.out⟩
      by_cases q1 : 100 < (run.length : Int)
      · go_wp2_with fail
        refine (HAW.out _ HH.out.hB).mono ?_
        rintro e w9 ⟨rfl, hB9⟩
        have HB := Lib.hid (HH.out.hB.trans (hB9.mono HH.out.hB.size))
        clear hB9
        go_wp2_with fail
        go_ret
        exact ⟨rfl, HB.out⟩
      obtain ⟨S1, hfree, htrb, hor⟩ := atom_step HRST.out (by omega) (by omega) run tr (by omega)
      have HOR := Lib.hid hor
      have HFR := Lib.hid hfree
      have HTR := Lib.hid htrb
      clear hfree htrb hor HRST
      go_upto_region 11 with fail
      go_cut [84] (fun z wx => z = .bool false ∧ Has w wx (TrR _ (.slice at_ tr.length ct) tr :: RunR _ (.slice ar run.length cr) run :: Blk _ bn (.cells (frA a) 77) :: DevR _ g S1 :: Blk _ w.heap.size (.cells #[.int .i64 3, .int .i64 20] 27) :: WorksR _ (.slice (some ⟨b, o, none⟩) l.length cap) l :: []))
      case first =>
        as_aux_lemma =>
        by_cases q3 : 0 < (tr.length : Int)
        · obtain ⟨bt, ot, rfl⟩ := (HH.out.rd (.head _)).addr trL_len (by omega)
          obtain ⟨t, ht⟩ : ∃ t, tr[0]? = some t := ⟨_, List.getElem?_eq_getElem (by omega)⟩
          have t0 : wr.cell? ⟨bt, ot, none⟩ = some (.int .u8 (vb t.1)) := HH.out.rdCell trL_len (.head _) 0 _ ht 0 _ rfl
          have hit := fun w => run_index_tr0 bt ot tr.length ct (by omega) w
          obtain ⟨m, hm, hm40, m1, m2, m3, m4⟩ := mod40 t.1
          have hs1 := HTR.out t ht
          rw [← hm] at hs1
          have hlm := limit_at9 [_, _, _] HH.out (m : Int)
          rw [← hs1, m4] at hlm
          have HLM := Lib.hid hlm
          clear hlm hs1 hm m4 ht HH HTD
          go_wp2_with fail
          refine HLM.out.mono ?_
          clear HLM
          rintro e w3 ⟨rfl, h3⟩
          have H3 := Lib.hid h3
          clear h3
          go_wp2_with fail
          go_meet
          exact ⟨rfl, H3.out⟩
        · have HS1 := Lib.hid (HFR.out (List.eq_nil_of_length_eq_zero (by omega)))
          go_wp2_with fail
          go_meet
          exact ⟨rfl, by rw [HS1.out]; exact HH.out⟩
      case rest =>
      obtain ⟨rfl, h2⟩ := hcut
      clear HH r0 r1
      have H2 := Lib.hid h2
      clear h2
      obtain ⟨X, hX⟩ : ∃ X, X = commitM S1 atL run := ⟨_, rfl⟩
      rw [← hX] at HOR
      have HX1 := Lib.hid hX
      obtain ⟨C, c⟩ := X
      dsimp only at HOR
      clear hX
      have HSA : Hid (∀ (W' : World) rs, Has w W' rs → Blk _ w.heap.size (.cells #[.int .i64 3, .int .i64 20] 27) ∈ rs → WorksR _ (.slice (some ⟨b, o, none⟩) l.length cap) l ∈ rs → W'.cell? ⟨w.heap.size, 0, none⟩ = some (.int .i64 3) ∧ W'.cell? ⟨w.heap.size, 1, none⟩ = some (.int .i64 20) ∧ W'.cell? ⟨b, o + k * 2, none⟩ = some (.slice ar run.length cr)) := fun W' rs h h1 h2 => ⟨(HLC.out _ _ h h1).1, (HLC.out _ _ h h1).2, (HCR.out _ _ h h2).1⟩
      go_upto_region 13 with fail
      go_cut [8] (fun z wx => z = .int .i64 c ∧ Has w wx (TrR _ (.slice at_ tr.length ct) tr :: RunR _ (.slice ar run.length cr) run :: Blk _ bn (.cells (frA a) 77) :: DevR _ g C :: Blk _ w.heap.size (.cells #[.int .i64 3, .int .i64 20] 27) :: WorksR _ (.slice (some ⟨b, o, none⟩) l.length cap) l :: []))
      case first =>
        as_aux_lemma =>
        refine wp_region_ordJ (fun W' => W'.cell? ⟨w.heap.size, 0, none⟩ = some (.int .i64 3) ∧ W'.cell? ⟨w.heap.size, 1, none⟩ = some (.int .i64 20) ∧ W'.cell? ⟨b, o + k * 2, none⟩ = some (.slice ar run.length cr)) (OrdT.takes [0, 1, 2, 3, 4, 5, 6] (.one 7 (OrdT.takes [8] .done))) (by kernel_rfl) (by kernel_rfl) (HSA.out _ _ H2.out.drew (.tail _ (.tail _ (.tail _ (.tail _ (.head _))))) (.tail _ (.tail _ (.tail _ (.tail _ (.tail _ (.head _))))))) (fun wz hz => ?_)
        have h3 := H2.out.drew
        rw [← hz] at h3
        have H3 := Lib.hid h3
        clear hz h3 H2
        unfold OrdT.takes
        --ordt mymmyyy
        (refine' t_move _ _ rfl rfl rfl rfl _ _; rotate_left; (go_simp; with_reducible rfl); simp only [Act.put, List.setIfInBounds_toArray, List.set_cons_zero, List.set_cons_succ])
        (refine' t_yield _ rfl rfl rfl _ _; rotate_left; (intro w' hSw; obtain ⟨s0, s1, s2⟩ := hSw; go_simp; with_reducible rfl); simp only [Act.put, List.setIfInBounds_toArray, List.set_cons_zero, List.set_cons_succ])
        iterate 2 (refine' t_move _ _ rfl rfl rfl rfl _ _; rotate_left; (go_simp; with_reducible rfl); simp only [Act.put, List.setIfInBounds_toArray, List.set_cons_zero, List.set_cons_succ])
        iterate 3 (refine' t_yield _ rfl rfl rfl _ _; rotate_left; (intro w' hSw; obtain ⟨s0, s1, s2⟩ := hSw; go_simp; with_reducible rfl); simp only [Act.put, List.setIfInBounds_toArray, List.set_cons_zero, List.set_cons_succ])
        --end
        have hcm := commit_at [_, _, _] H3.out atL (.tail _ (.head _)) HDL.out hlr HHL.out
        rw [← HX1.out] at hcm
        dsimp only at hcm
        have HCM := Lib.hid hcm
        clear hcm H3
        refine t_one rfl rfl (fun K hK => ?_)
        go_simp
        refine HCM.out.mono ?_
        clear HCM
        rintro e w5 ⟨rfl, h5⟩
        have H5 := Lib.hid h5
        clear h5
        dsimp only
        refine hK _ _ (HSA.out _ _ H5.out (.tail _ (.tail _ (.tail _ (.tail _ (.head _))))) (.tail _ (.tail _ (.tail _ (.tail _ (.tail _ (.head _))))))) ?_
        clear hK
        unfold OrdT.takes
        --ordt y
        (refine' t_yield _ rfl rfl rfl _ _; rotate_left; (intro w' hSw; obtain ⟨s0, s1, s2⟩ := hSw; go_simp; with_reducible rfl); simp only [Act.put, List.setIfInBounds_toArray, List.set_cons_zero, List.set_cons_succ])
        --end
        refine t_done ?_
        go_wp2_with fail
        go_meet
        exact ⟨rfl, H5.out⟩
      case rest =>
      obtain ⟨rfl, h5⟩ := hcut
      have H5 := Lib.hid h5
      clear h5 H2 HX1 HDL HSA
      rcases HOR.out with ⟨hs, hcode, hrest⟩ | ⟨E, hyes⟩
      · subst hs
        have HCO := Lib.hid hcode
        have HRS := Lib.hid hrest
        clear hcode hrest HOR HFR HTR HTD HKS
        go_upto_region 14 with fail
        go_cut [98] (fun z wx => z = .bool true ∧ Has w wx (TrR _ (.slice at_ tr.length ct) tr :: RunR _ (.slice ar run.length cr) run :: Blk _ bn (.cells (frA a) 77) :: DevR _ g C :: Blk _ w.heap.size (.cells #[.int .i64 3, .int .i64 20] 27) :: WorksR _ (.slice (some ⟨b, o, none⟩) l.length cap) l :: []))
        case first =>
          as_aux_lemma =>
          rcases HCO.out with rfl | rfl | rfl | rfl | rfl
          all_goals
            go_wp2_with fail
            go_meet
            exact ⟨rfl, H5.out⟩
        case rest =>
        obtain ⟨rfl, h6⟩ := hcut
        have H6 := Lib.hid h6
        clear h6 H5
        go_upto_region 15 with fail
        go_cut [116] (fun z wx => z = .bool false ∧ Has w wx (TrR _ (.slice at_ tr.length ct) tr :: RunR _ (.slice ar run.length cr) run :: Blk _ bn (.cells (frA a) 77) :: DevR _ g C :: Blk _ w.heap.size (.cells #[.int .i64 3, .int .i64 20] 27) :: WorksR _ (.slice (some ⟨b, o, none⟩) l.length cap) l :: []))
        case first =>
          as_aux_lemma =>
          rcases HCO.out with rfl | rfl | rfl | rfl | rfl
          all_goals
            go_wp2_with fail
            go_meet
            exact ⟨rfl, H6.out⟩
        case rest =>
        obtain ⟨rfl, h7⟩ := hcut
        have hlm := limit_at9 [_, _, _] h7 (-1)
        have hth : thereM (C.limit (-1)) atL a = true := there_pl HRS.out.calm.f HRS.out.len HRS.out.pl HAG.out
        have HTH := Lib.hid hth
        have HLM := Lib.hid hlm
        clear h7 H6 HCO hth hlm
        go_wp2_with fail
        refine HLM.out.mono ?_
        clear HLM
        rintro e w8 ⟨rfl, h8⟩
        obtain ⟨d0, d1⟩ := HLC.out _ _ h8 (.tail _ (.tail _ (.tail _ (.tail _ (.head _)))))
        have hbk := (h8.blk 2 _ _ rfl).1
        have hT := there_has h8 (.tail _ (.tail _ (.tail _ (.head _)))) atL (by decide) a HAG.out.len HHL.out
        rw [HTH.out] at hT
        have HT := Lib.hid hT
        have hal := HAG.out.len
        have he0 : limitE (-1) = 0 := by decide
        rw [he0]
        clear hT h8 HTH he0
        go_wp2_with ((with_reducible refine wpList_load_fr rfl _ rfl bn a hal ?_ hbk ?_); rfl)
        refine HT.out.mono ?_
        clear HT d0 d1 hbk
        rintro e w9 ⟨rfl, h9⟩
        have H9 := Lib.hid h9.drop.drop
        clear h9
        go_wp2_with fail
        go_roundw
        case rel => exact ⟨k + 1, C.limit (-1), f, a, by go_num, by omega, ⟨HRS.out.up, HAG, H9.out⟩⟩
        case measure => simp [intOf]; omega
      · obtain ⟨hcode, hrecs, hfree, htrou, hres, hall⟩ := hyes
        have HCO := Lib.hid hcode
        have HRC := Lib.hid hrecs
        have HFE := Lib.hid hfree
        have HTU := Lib.hid htrou
        have HRE := Lib.hid (And.intro hres hall)
        clear hcode hrecs hfree htrou hres hall HOR HFR HTR
        go_upto_region 14 with fail
        go_cut [98] (fun z wx => z = .bool false ∧ Has w wx (TrR _ (.slice at_ tr.length ct) tr :: RunR _ (.slice ar run.length cr) run :: Blk _ bn (.cells (frA a) 77) :: DevR _ g C :: Blk _ w.heap.size (.cells #[.int .i64 3, .int .i64 20] 27) :: WorksR _ (.slice (some ⟨b, o, none⟩) l.length cap) l :: []))
        case first =>
          as_aux_lemma =>
          rcases HCO.out with rfl | rfl
          all_goals
            go_wp2_with fail
            go_meet
            exact ⟨rfl, H5.out⟩
        case rest =>
        obtain ⟨rfl, h6⟩ := hcut
        have H6 := Lib.hid h6
        clear h6 H5
        go_upto_region 19 with fail
        go_cut [153] (fun z wx => z = .bool false ∧ Has w wx (TrR _ (.slice at_ tr.length ct) tr :: RunR _ (.slice ar run.length cr) run :: Blk _ bn (.cells (frA a) 77) :: DevR _ g E :: Blk _ w.heap.size (.cells #[.int .i64 3, .int .i64 20] 27) :: WorksR _ (.slice (some ⟨b, o, none⟩) l.length cap) l :: []))
        case first =>
          as_aux_lemma =>
          by_cases q3 : 0 < (tr.length : Int)
          · obtain ⟨bt, ot, rfl⟩ := (H6.out.rd (.head _)).addr trL_len (by omega)
            obtain ⟨t, rest, rfl⟩ : ∃ t rest, tr = t :: rest := by
              cases tr with
              | nil => simp at q3
              | cons t r => exact ⟨t, r, rfl⟩
            obtain ⟨n, hn⟩ : ∃ n, n = (t :: rest).length := ⟨_, rfl⟩
            have hnr : n - 1 = rest.length := by rw [hn]; simp
            obtain ⟨kp, hkp⟩ : ∃ kp, kp = t.2 := ⟨_, rfl⟩
            have HTP := Lib.hid (HTU.out t rest rfl)
            rw [← hkp] at HTP
            have HK0 := Lib.hid (HKS.out t (.head _))
            rw [← hkp] at HK0
            have HKR : Hid (∀ u ∈ rest, 0 ≤ u.2 ∧ u.2 < 18446744073709551616) := Lib.hid (fun u hu => HKS.out u (.tail _ hu))
            have HTL := Lib.hid (rdl_tail HTD.out hct)
            have hsl := fun w => run_slice_tr (some ⟨bt, ot, none⟩) n ct (by omega) w
            rw [hnr] at hsl
            have hit := fun w => run_index_tr0 bt ot n ct (by omega) w
            have hd : 0 < n := by omega
            have HSB : Hid (∀ (W' : World) rs, Has w W' rs → TrR _ (.slice (some ⟨bt, ot, none⟩) (t :: rest).length ct) (t :: rest) ∈ rs → Blk _ w.heap.size (.cells #[.int .i64 3, .int .i64 20] 27) ∈ rs → WorksR _ (.slice (some ⟨b, o, none⟩) l.length cap) l ∈ rs → (W'.cell? ⟨w.heap.size, 0, none⟩ = some (.int .i64 3) ∧ W'.cell? ⟨w.heap.size, 1, none⟩ = some (.int .i64 20)) ∧ W'.cell? ⟨b, o + k * 2 + 1, none⟩ = some (.slice (some ⟨bt, ot, none⟩) n ct) ∧ W'.cell? ⟨bt, ot + 1, none⟩ = some (.int .u64 kp)) := fun W' rs h h0 h1 h2 => ⟨HLC.out _ _ h h1, by rw [hn]; exact (HCR.out _ _ h h2).2, by rw [hkp]; exact h.rdCell trL_len h0 0 _ rfl 1 _ rfl⟩
            have hrl : rest.length ≤ 1000 := by omega
            have hd1 : (1 : Int) ≤ (n : Int) := by omega
            have HN2 := Lib.hid hn
            have htr : (TrR w.heap.size (.slice (some ⟨bt, ot, none⟩) (t :: rest).length ct) (t :: rest)) = TrR w.heap.size (.slice (some ⟨bt, ot, none⟩) n ct) (t :: rest) := by rw [hn]
            rw [htr] at H6 HSB
            have HTE := Lib.hid htr
            clear hn htl hct q2 q3 htr
            clear hkp HTU HKS HTD HFE HCR HLC
            refine wp_region_ordJ (fun W' => (W'.cell? ⟨w.heap.size, 0, none⟩ = some (.int .i64 3) ∧ W'.cell? ⟨w.heap.size, 1, none⟩ = some (.int .i64 20)) ∧ W'.cell? ⟨b, o + k * 2 + 1, none⟩ = some (.slice (some ⟨bt, ot, none⟩) n ct) ∧ W'.cell? ⟨bt, ot + 1, none⟩ = some (.int .u64 kp)) (OrdT.takes [0, 1, 2, 3, 4, 5, 6, 7, 8, 9, 10, 11, 12, 13, 14, 15, 16, 17, 18, 19, 20, 21, 22, 23] (.one 24 (OrdT.takes [25, 26] .done))) (by kernel_rfl) (by kernel_rfl) (HSB.out _ _ H6.out.drew (.head _) (.tail _ (.tail _ (.tail _ (.tail _ (.head _))))) (.tail _ (.tail _ (.tail _ (.tail _ (.tail _ (.head _))))))) (fun wz hz => ?_)
            have h7 := H6.out.drew
            rw [← hz] at h7
            have H7 := Lib.hid h7
            clear hz h7 H6
            unfold OrdT.takes
            --ordt mmyyyyymmymmyyyyyymmyyyy
            iterate 2 (refine' t_move _ _ rfl rfl rfl rfl _ _; rotate_left; (go_simp; with_reducible rfl); simp only [Act.put, List.setIfInBounds_toArray, List.set_cons_zero, List.set_cons_succ])
            iterate 5 (refine' t_yield _ rfl rfl rfl _ _; rotate_left; (intro w' hSw; obtain ⟨s0, s1, s2⟩ := hSw; go_simp; with_reducible rfl); simp only [Act.put, List.setIfInBounds_toArray, List.set_cons_zero, List.set_cons_succ])
            iterate 2 (refine' t_move _ _ rfl rfl rfl rfl _ _; rotate_left; (go_simp; with_reducible rfl); simp only [Act.put, List.setIfInBounds_toArray, List.set_cons_zero, List.set_cons_succ])
            (refine' t_yield _ rfl rfl rfl _ _; rotate_left; (intro w' hSw; obtain ⟨s0, s1, s2⟩ := hSw; go_simp; with_reducible rfl); simp only [Act.put, List.setIfInBounds_toArray, List.set_cons_zero, List.set_cons_succ])
            iterate 2 (refine' t_move _ _ rfl rfl rfl rfl _ _; rotate_left; (go_simp; with_reducible rfl); simp only [Act.put, List.setIfInBounds_toArray, List.set_cons_zero, List.set_cons_succ])
            iterate 6 (refine' t_yield _ rfl rfl rfl _ _; rotate_left; (intro w' hSw; obtain ⟨s0, s1, s2⟩ := hSw; go_simp; with_reducible rfl); simp only [Act.put, List.setIfInBounds_toArray, List.set_cons_zero, List.set_cons_succ])
            iterate 2 (refine' t_move _ _ rfl rfl rfl rfl _ _; rotate_left; (go_simp; with_reducible rfl); simp only [Act.put, List.setIfInBounds_toArray, List.set_cons_zero, List.set_cons_succ])
            iterate 4 (refine' t_yield _ rfl rfl rfl _ _; rotate_left; (intro w' hSw; obtain ⟨s0, s1, s2⟩ := hSw; go_simp; with_reducible rfl); simp only [Act.put, List.setIfInBounds_toArray, List.set_cons_zero, List.set_cons_succ])
            --end
            refine t_one rfl rfl (fun K hK => ?_)
            go_simp
            have h8 := (H7.out.addRd HTL.out trL_len (by decide)).perm (List.perm_middle (l₁ := [_, _, _, _]))
            refine (troubled_has h8 atL (.head _) HTP.out HK0.out HKR.out hrl HHL.out).mono ?_
            clear h8
            rintro e w8 ⟨rfl, h9⟩
            have H9 := Lib.hid (h9.perm (List.perm_middle (l₁ := [_, _, _, _])).symm).drop
            clear h9 H7
            dsimp only
            refine hK _ _ (HSB.out _ _ H9.out (.head _) (.tail _ (.tail _ (.tail _ (.tail _ (.head _))))) (.tail _ (.tail _ (.tail _ (.tail _ (.tail _ (.head _))))))) ?_
            clear hK
            unfold OrdT.takes
            --ordt yy
            iterate 2 (refine' t_yield _ rfl rfl rfl _ _; rotate_left; (intro w' hSw; obtain ⟨s0, s1, s2⟩ := hSw; go_simp; with_reducible rfl); simp only [Act.put, List.setIfInBounds_toArray, List.set_cons_zero, List.set_cons_succ])
            --end
            refine t_done ?_
            go_wp2_with fail
            go_meet
            exact ⟨rfl, by rw [HTE.out]; exact H9.out⟩
          · have HCE := Lib.hid (HFE.out (List.eq_nil_of_length_eq_zero (by omega)))
            have hd : ¬ 0 < tr.length := by omega
            refine wp_region_ordJ (fun W' => W'.cell? ⟨b, o + k * 2 + 1, none⟩ = some (.slice at_ tr.length ct) ∧ True ∧ True) (OrdT.takes [0, 1, 2, 3, 4, 5, 6, 7, 8, 9, 10, 11, 12, 13, 14, 15, 16, 17, 18, 19, 20, 21, 22, 23, 24, 25, 26] .done) (by kernel_rfl) (by kernel_rfl) ⟨(HCR.out _ _ H6.out.drew (.tail _ (.tail _ (.tail _ (.tail _ (.tail _ (.head _))))))).2, trivial, trivial⟩ (fun wz hz => ?_)
            have h7 := H6.out.drew
            rw [← hz, HCE.out] at h7
            have H7 := Lib.hid h7
            clear hz h7 H6
            unfold OrdT.takes
            --ordt mmyyyyymssssssssssssssssssy
            iterate 2 (refine' t_move _ _ rfl rfl rfl rfl _ _; rotate_left; (go_simp; with_reducible rfl); simp only [Act.put, List.setIfInBounds_toArray, List.set_cons_zero, List.set_cons_succ])
            iterate 5 (refine' t_yield _ rfl rfl rfl _ _; rotate_left; (intro w' hSw; obtain ⟨s0, s1, s2⟩ := hSw; go_simp; with_reducible rfl); simp only [Act.put, List.setIfInBounds_toArray, List.set_cons_zero, List.set_cons_succ])
            (refine' t_move _ _ rfl rfl rfl rfl _ _; rotate_left; (go_simp; with_reducible rfl); simp only [Act.put, List.setIfInBounds_toArray, List.set_cons_zero, List.set_cons_succ])
            iterate 18 (refine t_skip rfl rfl rfl ?_; simp only [Act.put, List.setIfInBounds_toArray, List.set_cons_zero, List.set_cons_succ])
            (refine' t_yield _ rfl rfl rfl _ _; rotate_left; (intro w' hSw; obtain ⟨s0, s1, s2⟩ := hSw; go_simp; with_reducible rfl); simp only [Act.put, List.setIfInBounds_toArray, List.set_cons_zero, List.set_cons_succ])
            --end
            refine t_done ?_
            go_wp2_with fail
            go_meet
            exact ⟨rfl, H7.out⟩
        case rest =>
        obtain ⟨rfl, h7⟩ := hcut
        have hbk := (h7.blk 2 _ _ rfl).1
        have hal := HAG.out.len
        have H8 := Lib.hid (h7.alloc (.cells (frA a) 77))
        clear h7 H6 HFE HTU HTD HKS
        go_wp2_with (first | ((with_reducible refine wpList_load_fr rfl _ rfl bn a hal ?_ hbk ?_); rfl) | (with_reducible refine wpList_alloc_fr rfl rfl ?_) | ((with_reducible refine wpList_store_fr rfl _ _ rfl wc.heap.size a fz64 hal rfl ?_ ?_ (heap_alloc_new _ _) ?_); rfl; rfl))
        clear hbk
        obtain ⟨bx, hbx⟩ : ∃ bx, bx = wc.heap.size := ⟨_, rfl⟩
        rw [← hbx] at H8
        rw [← hbx]
        obtain ⟨w8, hw8⟩ : ∃ w8, w8 = wc.alloc (.cells (frA a) 77) := ⟨_, rfl⟩
        rw [← hw8] at H8
        rw [← hw8]
        clear hbx hw8
        go_loopw [10] (fun j wx => ∃ jj : Nat, j = .int .i64 (jj : Int) ∧ jj ≤ run.length ∧ Has w wx (Blk _ bx (.cells (frA (putsA a (run.take jj))) 77) :: TrR _ (.slice at_ tr.length ct) tr :: RunR _ (.slice ar run.length cr) run :: Blk _ bn (.cells (frA a) 77) :: DevR _ g E :: Blk _ w.heap.size (.cells #[.int .i64 3, .int .i64 20] 27) :: WorksR _ (.slice (some ⟨b, o, none⟩) l.length cap) l :: [])) (fun j _ => run.length - (intOf j).toNat)
        case atStart => exact ⟨0, rfl, Nat.zero_le _, by rw [List.take_zero]; exact H8.out⟩
        case round =>
          obtain ⟨jj, rfl, hj, hH2⟩ := hrel
          clear H8
          obtain ⟨r0, r1⟩ := HCR.out _ _ hH2 (.tail _ (.tail _ (.tail _ (.tail _ (.tail _ (.tail _ (.head _)))))))
          by_cases hjl : jj < run.length
          · as_aux_lemma =>
            obtain ⟨r, hr⟩ : ∃ r, run[jj]? = some r := ⟨_, List.getElem?_eq_getElem hjl⟩
            obtain ⟨br, or_, rfl⟩ := (hH2.rd (.tail _ (.tail _ (.head _)))).addr recL_len (by omega)
            have q0 : wr.cell? ⟨br, or_ + jj * 3, none⟩ = some (.int .i64 r.at_) := hH2.rdCell recL_len (.tail _ (.tail _ (.head _))) jj _ hr 0 _ rfl
            have q1 : wr.cell? ⟨br, or_ + jj * 3 + 1, none⟩ = some (.int .i64 r.kind) := hH2.rdCell recL_len (.tail _ (.tail _ (.head _))) jj _ hr 1 _ rfl
            have q2 : wr.cell? ⟨br, or_ + jj * 3 + 2, none⟩ = some (.string r.data) := hH2.rdCell recL_len (.tail _ (.tail _ (.head _))) jj _ hr 2 _ rfl
            obtain ⟨x0, x1, x2⟩ := HRC.out r (List.mem_of_getElem? hr)
            have hi1 := fun w => run_index_rec br or_ run.length cr jj hjl w
            have hi2 := fun w => run_index_fr bx .i64 r.at_ x0 x1 w
            have hset : putsA a (run.take (jj + 1)) = (putsA a (run.take jj)).set r.at_.toNat (r.kind, r.data) := by
              rw [List.take_add_one, hr]
              exact putsA_snoc _ _ _
            obtain ⟨⟨yk, yd⟩, hy⟩ : ∃ y, (putsA a (run.take jj))[r.at_.toNat]? = some y := ⟨_, List.getElem?_eq_getElem (by rw [putsA_len, hal]; omega)⟩
            have z0 : wr.cell? ⟨bx, r.at_.toNat * 3, none⟩ = some (.int .i64 yk) := hH2.cell 0 _ _ _ rfl _ _ (frA_cell _ _ _ hy 0 _ rfl)
            have z1 : wr.cell? ⟨bx, r.at_.toNat * 3 + 1, none⟩ = some (.int .u32 0) := hH2.cell 0 _ _ _ rfl _ _ (frA_cell _ _ _ hy 1 _ rfl)
            have z2 : wr.cell? ⟨bx, r.at_.toNat * 3 + 2, none⟩ = some (.string yd) := hH2.cell 0 _ _ _ rfl _ _ (frA_cell _ _ _ hy 2 _ rfl)
            have y0 := hH2.frozen 0 _ _ _ rfl (r.at_.toNat * 3)
            have y1 := hH2.frozen 0 _ _ _ rfl (r.at_.toNat * 3 + 1)
            have y2 := hH2.frozen 0 _ _ _ rfl (r.at_.toNat * 3 + 2)
            have zd := block_lt_of_cell z0
            dsimp only at zd
            have hn := hH2.setFr [] r.at_.toNat (r.kind, r.data) (by rw [putsA_len, hal]; omega)
            rw [← hset] at hn
            have HN := Lib.hid (hn.alloc (.cells #[.int .i64 r.at_, .int .i64 r.kind, .string r.data] 67))
            have hjl2 : (jj : Int) < (run.length : Int) := by omega
            clear hH2 hr hset hn x2 hy
            go_wp2_with fail
            go_roundw
            case rel => exact ⟨jj + 1, by go_num, by omega, HN.out.drop⟩
            case measure => simp [intOf]; omega
          · obtain rfl : jj = run.length := by omega
            have e20 : 20 + 2000 * k + 2000 = 20 + 2000 * (k + 1) := by omega
            have hre := HRE.out
            rw [e20] at hre
            rw [List.take_length] at hH2
            have hag := agree_puts run HRC.out HAG.out
            obtain ⟨nx, hnx⟩ : ∃ nx, nx = putsA a run := ⟨_, rfl⟩
            rw [← hnx] at hH2 hag
            have hnl := hag.len
            obtain ⟨d0, d1⟩ := HLC.out _ _ hH2 (.tail _ (.tail _ (.tail _ (.tail _ (.tail _ (.head _))))))
            have hbk := (hH2.blk 0 _ _ rfl).1
            have hT := there_has hH2 (.tail _ (.tail _ (.tail _ (.tail _ (.head _))))) atL (by decide) nx hnl HHL.out
            obtain ⟨bb, hbb⟩ : ∃ bb, bb = thereM E atL nx := ⟨_, rfl⟩
            rw [← hbb] at hT
            have HT := Lib.hid hT
            have HRE2 := Lib.hid hre
            have HAG2 := Lib.hid hag
            have HBB := Lib.hid hbb.symm
            have hlt2 : ¬ ((run.length : Int) < (run.length : Int)) := by omega
            clear hT hre hag hbb hnx hH2 HRE HRC
            go_wp2_with ((with_reducible refine wpList_load_fr rfl _ rfl bx nx hnl ?_ hbk ?_); rfl)
            refine HT.out.mono ?_
            clear HT hbk r0 r1
            rintro e w9 ⟨rfl, h9⟩
            cases bb with
            | true =>
              have HRS := Lib.hid (atom_yes HRE2.out.1 HAG2.out HBB.out)
              have hbk := (h9.blk 0 _ _ rfl).1
              have hbn := (h9.blk 3 _ _ rfl).1
              have HN := Lib.hid (h9.setRow [_, _, _] (frA nx)).drop.drop.drop
              clear h9 HRE2 HBB HAG
              go_wp2_with (first | ((with_reducible refine wpList_load_fr rfl _ rfl bx nx hnl ?_ hbk ?_); rfl) | ((with_reducible refine wpList_store_fr rfl _ _ rfl bn nx a hnl hal ?_ ?_ hbn ?_); rfl; rfl))
              go_roundw
              case rel => exact ⟨k + 1, E, upd f run, nx, by go_num, by omega, HRS, HAG2, HN.out⟩
              case measure => simp [intOf]; omega
            | false =>
              obtain ⟨hcb, hrs, hta⟩ := atom_no HRE2.out.1 HRE2.out.2 HAG.out HAG2.out HBB.out
              obtain ⟨d0, d1⟩ := HLC.out _ _ h9 (.tail _ (.tail _ (.tail _ (.tail _ (.tail _ (.head _))))))
              have hbn := (h9.blk 3 _ _ rfl).1
              have hT := there_has h9 (.tail _ (.tail _ (.tail _ (.tail _ (.head _))))) atL (by decide) a hal HHL.out
              rw [hta] at hT
              have HT := Lib.hid hT
              have HRS := Lib.hid hrs
              clear hT hrs hta h9 HRE2 HBB HAG2
              go_wp2_with ((with_reducible refine wpList_load_fr rfl _ rfl bn a hal ?_ hbn ?_); rfl)
              refine HT.out.mono ?_
              clear HT d0 d1 hbn
              rintro e w10 ⟨rfl, h10⟩
              have HN := Lib.hid h10.drop.drop.drop
              clear h10
              go_wp2_with fail
              go_roundw
              case rel => exact ⟨k + 1, E, f, a, by go_num, by omega, HRS, HAG, HN.out⟩
              case measure => simp [intOf]; omega
    · obtain rfl : k = l.length := by omega
      have HA := Lib.hid (HAW.out _ hH.hB)
      have HB3 := Lib.hid hH.hB
      clear hH
      go_wp2_with fail
      refine HA.out.mono ?_
      rintro e w9 ⟨rfl, hB9⟩
      have HB := Lib.hid (HB3.out.trans (hB9.mono HB3.out.size))
      clear hB9 HA
      go_wp2_with fail
      go_ret
      exact ⟨rfl, HB.out⟩
end Go.Proofs.YtfbkfdoekgnldaaDoor
