/- Transactions with their troubles as the row hands them in. -/
import Derived.Test.YtfbkfdoekgnldaaDoorOpenRunS
namespace Go.Proofs.YtfbkfdoekgnldaaDoor
open Go.ChangeShapes Go.WideShapes Go.ChangeAt Go.RowKit Go.Joins Go.Deep
def trL (t : UInt8 × Int) : List Value := [.int .u8 (vb t.1), .int .u64 t.2]
theorem trL_len (t : UInt8 × Int) : (trL t).length = 2 := rfl
structure TrIn (W : World) (v : Value) (l : List (UInt8 × Int)) : Prop where
  hL : RdL W 2 trL v l
  len : l.length ≤ 9223372036854775807
  ks : ∀ x ∈ l, 0 ≤ x.2 ∧ x.2 < 18446744073709551616
  room : ∀ a c, v = .slice a l.length c → l.length ≤ c
structure WorkD where
  rv : Value
  run : List Rec
  tv : Value
  tr : List (UInt8 × Int)
def workL (x : WorkD) : List Value := [x.rv, x.tv]
theorem workL_len (x : WorkD) : (workL x).length = 2 := rfl
structure WorksIn (W : World) (v : Value) (l : List WorkD) : Prop where
  hL : RdL W 2 workL v l
  len : l.length ≤ 9223372036854775807
  each : ∀ x ∈ l, RunIn W x.rv x.run ∧ TrIn W x.tv x.tr
theorem rdl_map {α β : Type} {w : World} {m : Nat} {c : β → List Value} (f : α → β) {v : Value} {l : List α} (h : RdL w m (fun x => c (f x)) v l) : RdL w m c v (l.map f) := by
  obtain ⟨a, cap, hv, h1⟩ := h
  have hfl : flat c (l.map f) = flat (fun x => c (f x)) l := by simp [flat, List.flatMap_map]
  refine ⟨a, cap, by rw [hv]; simp, ?_⟩
  rcases h1 with rfl | ⟨b, o, rfl, hr⟩
  · exact .inl rfl
  · exact .inr ⟨b, o, rfl, by rw [hfl]; exact hr⟩
def GoodT : Type := { x : UInt8 × Int // 0 ≤ x.2 ∧ x.2 < 18446744073709551616 }
instance : Inhabited GoodT := ⟨⟨⟨0, 0⟩, by decide⟩⟩
def GoodW (w : World) : Type := { x : WorkD // RunIn w x.rv x.run ∧ TrIn w x.tv x.tr }
instance (w : World) : Inhabited (GoodW w) := ⟨⟨⟨.slice none 0 0, [], .slice none 0 0, []⟩,
  ⟨⟨none, 0, rfl, .inl rfl⟩, by simp, by simp, fun _ _ _ => by simp⟩, ⟨⟨none, 0, rfl, .inl rfl⟩, by simp, by simp, fun _ _ _ => by simp⟩⟩⟩
theorem u64_range {n : Int} (h : (Lit.int .u64 n).wf = true) : 0 ≤ n ∧ n < 18446744073709551616 := by
  simp only [Lit.wf, Bool.and_eq_true, decide_eq_true_eq] at h
  have h1 : IntKind.u64.min = 0 := by decide
  have h2 : IntKind.u64.max = 18446744073709551615 := by decide
  omega
section
variable {H : Type} {enc : TypeId × Value → H} {w : World} {base : Nat} {spare : Nat → Bool} {held : Bool}
set_option maxRecDepth 10000 in
theorem run_of {fuel : Nat} {v : Value} {x : DataW H × List MemPlace} (h : DataW.trod enc Tryd.prog w base spare held fuel 22 [v] = some x) : ∃ l : List Rec, RunIn w v l := by
  have hc : Tryd.prog.cellsOf 67 = 3 := by kernel_rfl
  obtain ⟨l, hr, h2⟩ := open_rdl (c := fun x : GoodR => recL x.val) (m := 3) (fun _ => rfl) (by decide) Tryd.underlying22 hc open_rec1 h
  refine ⟨l.map (·.val), rdl_map (c := recL) (fun x : GoodR => x.val) hr, by unfold maxLen at h2; simpa using h2, fun x hx => ?_, fun a2 c2 e => ?_⟩
  · obtain ⟨y, _, rfl⟩ := List.mem_map.1 hx; exact y.property
  · rw [e] at h
    exact slice_cap Tryd.underlying22 h
theorem open_tr1 (n : Nat) (cs : List Value) (y : DataW H × List MemPlace) (hl : cs.length = 2) (h : DataW.trod enc Tryd.prog w base spare held n 25 cs = some y) : ∃ x : GoodT, cs = trL x.val := by
  have hs := Tryd.underlying25
  match cs, hl with
  | [c0, c1], _ =>
    obtain ⟨xs, n', _, hx, _, hlen, hg⟩ := DataW.trod_struct hs h
    match xs, hlen with
    | [y0, y1], _ =>
      have e5 : Tryd.prog.cellsOf 5 = 1 := by kernel_rfl
      have e23 : Tryd.prog.cellsOf 23 = 1 := by kernel_rfl
      have g0 : DataW.trod enc Tryd.prog w base spare held n' 5 [c0] = some y0 := by simpa [e5] using hg 0 _ rfl
      have g1 : DataW.trod enc Tryd.prog w base spare held n' 23 [c1] = some y1 := by simpa [e23, Value.cells] using hg 1 _ rfl
      obtain ⟨fa, q0, rfl, wa⟩ := DataW.trod_int Tryd.underlying5 g0
      obtain ⟨fb, q1, rfl, wb⟩ := DataW.trod_int Tryd.underlying23 g1
      simp only [List.cons.injEq, and_true] at q0 q1
      subst q0 q1
      obtain ⟨a, rfl⟩ := of_u8 wa
      exact ⟨⟨⟨a, fb⟩, u64_range wb⟩, rfl⟩
set_option maxRecDepth 10000 in
theorem tr_of {fuel : Nat} {v : Value} {x : DataW H × List MemPlace} (h : DataW.trod enc Tryd.prog w base spare held fuel 54 [v] = some x) : ∃ l : List (UInt8 × Int), TrIn w v l := by
  have hc : Tryd.prog.cellsOf 25 = 2 := by kernel_rfl
  obtain ⟨l, hr, h2⟩ := open_rdl (c := fun x : GoodT => trL x.val) (m := 2) (fun _ => rfl) (by decide) Tryd.underlying54 hc open_tr1 h
  refine ⟨l.map (·.val), rdl_map (c := trL) (fun x : GoodT => x.val) hr, by unfold maxLen at h2; simpa using h2, fun x hx => ?_, fun a2 c2 e => ?_⟩
  · obtain ⟨y, _, rfl⟩ := List.mem_map.1 hx; exact y.property
  · rw [e] at h
    exact slice_cap Tryd.underlying54 h
theorem open_work1 (n : Nat) (cs : List Value) (y : DataW H × List MemPlace) (hl : cs.length = 2) (h : DataW.trod enc Tryd.prog w base spare held n 56 cs = some y) : ∃ x : GoodW w, cs = workL x.val := by
  have hs := Tryd.underlying56
  match cs, hl with
  | [c0, c1], _ =>
    obtain ⟨xs, n', _, hx, _, hlen, hg⟩ := DataW.trod_struct hs h
    match xs, hlen with
    | [y0, y1], _ =>
      have e0 : Tryd.prog.cellsOf 22 = 1 := by kernel_rfl
      have e1 : Tryd.prog.cellsOf 54 = 1 := by kernel_rfl
      have g0 : DataW.trod enc Tryd.prog w base spare held n' 22 [c0] = some y0 := by simpa [e0] using hg 0 _ rfl
      have g1 : DataW.trod enc Tryd.prog w base spare held n' 54 [c1] = some y1 := by simpa [e1, Value.cells] using hg 1 _ rfl
      obtain ⟨l, hl⟩ := run_of g0
      obtain ⟨k, hk⟩ := tr_of g1
      exact ⟨⟨⟨c0, l, c1, k⟩, hl, hk⟩, rfl⟩
set_option maxRecDepth 10000 in
theorem open_works {r : Reach} {b0 : Nat} {v : Value} {d : DataW H} {p : List MemPlace}
    (hv : Value.okWide Tryd.prog w r b0 51 v) (h : DataW.Trod enc Tryd.prog w base spare held 51 v d p) : ∃ l : List WorkD, WorksIn w v l := by
  obtain ⟨a0, len, cap, rfl⟩ := okWide_slice Tryd.underlying51 hv
  obtain ⟨fuel, hf⟩ := h
  have hc : Tryd.prog.cellsOf 56 = 2 := by kernel_rfl
  obtain ⟨l, hr, h2⟩ := open_rdl (c := fun x : GoodW w => workL x.val) (m := 2) (fun _ => rfl) (by decide) Tryd.underlying51 hc open_work1 hf
  refine ⟨l.map (·.val), rdl_map (c := workL) (fun x : GoodW w => x.val) hr, by unfold maxLen at h2; simpa using h2, fun x hx => ?_⟩
  obtain ⟨y, _, rfl⟩ := List.mem_map.1 hx; exact y.property
end
end Go.Proofs.YtfbkfdoekgnldaaDoor
