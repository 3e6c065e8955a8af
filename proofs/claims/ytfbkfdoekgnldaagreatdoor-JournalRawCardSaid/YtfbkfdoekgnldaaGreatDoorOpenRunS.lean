/- A run of records as the row hands it in. Steps, sectors that are written before, and a layout, as the row hands them in. -/
import Derived.Test.YtfbkfdoekgnldaaGreatDoorOpenL
import Derived.Test.YtfbkfdoekgnldaaGreatDoorJnBas
namespace Go.Proofs.YtfbkfdoekgnldaaGreatDoor
open Go.ChangeShapes Go.WideShapes Go.ChangeAt Go.RowKit Go.Joins Go.Deep
def GoodR : Type := { x : Rec // x.data.size ≤ 9223372036854775807 }
instance : Inhabited GoodR := ⟨⟨⟨0, 0, ByteArray.empty⟩, by decide⟩⟩
structure RunIn (W : World) (v : Value) (l : List Rec) : Prop where
  hL : RdL W 3 recL v l
  len : l.length ≤ 9223372036854775807
  dlen : ∀ x ∈ l, x.data.size ≤ 9223372036854775807
  room : ∀ a c, v = .slice a l.length c → l.length ≤ c
section
variable {H : Type} {enc : TypeId × Value → H} {w : World} {base : Nat} {spare : Nat → Bool} {held : Bool}
theorem open_rec1 (n : Nat) (cs : List Value) (y : DataW H × List MemPlace) (hl : cs.length = 3) (h : DataW.trod enc Tryz.prog w base spare held n 60 cs = some y) : ∃ x : GoodR, cs = recL x.val := by
  have hs := Tryz.underlying60
  match cs, hl with
  | [c0, c1, c2], _ =>
    obtain ⟨xs, n', _, hx, _, hlen, hg⟩ := DataW.trod_struct hs h
    match xs, hlen with
    | [y0, y1, y2], _ =>
      have e3 : Tryz.prog.cellsOf 3 = 1 := by kernel_rfl
      have e9 : Tryz.prog.cellsOf 9 = 1 := by kernel_rfl
      have g0 : DataW.trod enc Tryz.prog w base spare held n' 3 [c0] = some y0 := by simpa [e3] using hg 0 _ rfl
      have g1 : DataW.trod enc Tryz.prog w base spare held n' 3 [c1] = some y1 := by simpa [e3] using hg 1 _ rfl
      have g2 : DataW.trod enc Tryz.prog w base spare held n' 9 [c2] = some y2 := by simpa [e9] using hg 2 _ rfl
      obtain ⟨fa, q0, rfl, wa⟩ := DataW.trod_int Tryz.underlying3 g0
      obtain ⟨fb, q1, rfl, wb⟩ := DataW.trod_int Tryz.underlying3 g1
      obtain ⟨fd, q2, rfl, wd⟩ := DataW.trod_string Tryz.underlying9 g2
      simp only [List.cons.injEq, and_true] at q0 q1 q2
      subst q0 q1 q2
      exact ⟨⟨⟨fa, fb, fd⟩, by unfold maxLen at wd; exact wd⟩, rfl⟩
theorem slice_cap {t e : TypeId} (ht : Tryz.prog.underlying t = some (.slice e)) {fuel : Nat} {a : Option Addr} {len cap : Nat} {x : DataW H × List MemPlace} (h : DataW.trod enc Tryz.prog w base spare held fuel t [.slice a len cap] = some x) : len ≤ cap := by
  rcases open_slice ht h with ⟨hc, _⟩ | ⟨a2, len2, cap2, mm, n, D, Pl, hc, hb, hl, hmx, _⟩
  · simp only [List.cons.injEq, and_true] at hc
    injection hc with _ h1 h2
    omega
  · simp only [List.cons.injEq, and_true] at hc
    injection hc with _ h1 h2
    omega
set_option maxRecDepth 10000 in
theorem open_run {r : Reach} {b0 : Nat} {v : Value} {d : DataW H} {p : List MemPlace}
    (hv : Value.okWide Tryz.prog w r b0 40 v) (h : DataW.Trod enc Tryz.prog w base spare held 40 v d p) :
    ∃ l : List Rec, RunIn w v l := by
  obtain ⟨a0, len, cap, rfl⟩ := okWide_slice Tryz.underlying40 hv
  obtain ⟨fuel, hf⟩ := h
  have hc : Tryz.prog.cellsOf 60 = 3 := by kernel_rfl
  obtain ⟨l, ⟨a, cap', hv2, h1⟩, h2⟩ := open_rdl (c := fun x : GoodR => recL x.val) (m := 3) (fun _ => rfl) (by decide) Tryz.underlying40 hc open_rec1 hf
  have hfl : flat recL (l.map (·.val)) = flat (fun x : GoodR => recL x.val) l := by simp [flat, List.flatMap_map]
  refine ⟨l.map (·.val), ⟨a, cap', by rw [hv2]; simp, ?_⟩, by unfold maxLen at h2; simpa using h2, fun x hx => ?_, fun a2 c2 e => ?_⟩
  · rcases h1 with rfl | ⟨b, o, rfl, hr⟩
    · exact .inl rfl
    · exact .inr ⟨b, o, rfl, by rw [hfl]; exact hr⟩
  · obtain ⟨y, _, rfl⟩ := List.mem_map.1 hx; exact y.property
  · injection e with _ e1 e2
    have := slice_cap Tryz.underlying40 hf
    omega
end
end Go.Proofs.YtfbkfdoekgnldaaGreatDoor
namespace Go.Proofs.YtfbkfdoekgnldaaGreatDoor
open Go.ChangeShapes Go.WideShapes Go.ChangeAt Go.RowKit Go.Joins Go.Deep
structure StepD where
  what : UInt8
  n : Int
  keep : Int
  rv : Value
  run : List Rec
def stepL (x : StepD) : List Value := [.int .u8 (vb x.what), .int .i64 x.n, .int .u64 x.keep, x.rv]
theorem stepL_len (x : StepD) : (stepL x).length = 4 := rfl
structure StepOk (W : World) (x : StepD) : Prop where
  n0 : -9223372036854775808 ≤ x.n
  n1 : x.n ≤ 9223372036854775807
  k0 : 0 ≤ x.keep
  k1 : x.keep < 18446744073709551616
  hr : RunIn W x.rv x.run
structure StepsIn (W : World) (v : Value) (l : List StepD) : Prop where
  hL : RdL W 4 stepL v l
  len : l.length ≤ 9223372036854775807
  each : ∀ x ∈ l, StepOk W x
structure RawD where
  at_ : UInt8
  other : Bool
  k : Int
  q : BitVec 32
  d : ByteArray
def rawL (x : RawD) : List Value := [.int .u8 (vb x.at_), .bool x.other, .int .i64 x.k, .int .u32 (vu x.q), .string x.d]
theorem rawL_len (x : RawD) : (rawL x).length = 5 := rfl
structure RawsIn (W : World) (v : Value) (l : List RawD) : Prop where
  hL : RdL W 5 rawL v l
  len : l.length ≤ 9223372036854775807
  dlen : ∀ x ∈ l, x.d.size ≤ 9223372036854775807
theorem rdl_map {α β : Type} {w : World} {m : Nat} {c : β → List Value} (f : α → β) {v : Value} {l : List α} (h : RdL w m (fun x => c (f x)) v l) : RdL w m c v (l.map f) := by
  obtain ⟨a, cap, hv, h1⟩ := h
  have hfl : flat c (l.map f) = flat (fun x => c (f x)) l := by simp [flat, List.flatMap_map]
  refine ⟨a, cap, by rw [hv]; simp, ?_⟩
  rcases h1 with rfl | ⟨b, o, rfl, hr⟩
  · exact .inl rfl
  · exact .inr ⟨b, o, rfl, by rw [hfl]; exact hr⟩
def GoodS (w : World) : Type := { x : StepD // StepOk w x }
instance (w : World) : Inhabited (GoodS w) := ⟨⟨⟨0, 0, 0, .slice none 0 0, []⟩, by decide, by decide, by decide, by decide,
  ⟨⟨none, 0, rfl, .inl rfl⟩, by simp, by simp, fun _ _ _ => by simp⟩⟩⟩
def GoodW9 : Type := { x : RawD // x.d.size ≤ 9223372036854775807 }
instance : Inhabited GoodW9 := ⟨⟨⟨0, false, 0, 0, ByteArray.empty⟩, by decide⟩⟩
theorem u64_range {n : Int} (h : (Lit.int .u64 n).wf = true) : 0 ≤ n ∧ n < 18446744073709551616 := by
  simp only [Lit.wf, Bool.and_eq_true, decide_eq_true_eq] at h
  have h1 : IntKind.u64.min = 0 := by decide
  have h2 : IntKind.u64.max = 18446744073709551615 := by decide
  omega
theorem i64_range {n : Int} (h : (Lit.int .i64 n).wf = true) : -9223372036854775808 ≤ n ∧ n ≤ 9223372036854775807 := by
  simp only [Lit.wf, Bool.and_eq_true, decide_eq_true_eq] at h
  have h1 : IntKind.i64.min = -9223372036854775808 := by decide
  have h2 : IntKind.i64.max = 9223372036854775807 := by decide
  omega
section
variable {H : Type} {enc : TypeId × Value → H} {w : World} {base : Nat} {spare : Nat → Bool} {held : Bool}
set_option maxRecDepth 10000 in
theorem run_of {fuel : Nat} {v : Value} {x : DataW H × List MemPlace} (h : DataW.trod enc Tryz.prog w base spare held fuel 40 [v] = some x) : ∃ l : List Rec, RunIn w v l := by
  have hc : Tryz.prog.cellsOf 60 = 3 := by kernel_rfl
  obtain ⟨l, hr, h2⟩ := open_rdl (c := fun x : GoodR => recL x.val) (m := 3) (fun _ => rfl) (by decide) Tryz.underlying40 hc open_rec1 h
  refine ⟨l.map (·.val), rdl_map (c := recL) (fun x : GoodR => x.val) hr, by unfold maxLen at h2; simpa using h2, fun x hx => ?_, fun a2 c2 e => ?_⟩
  · obtain ⟨y, _, rfl⟩ := List.mem_map.1 hx; exact y.property
  · rw [e] at h
    exact slice_cap Tryz.underlying40 h
theorem open_step1 (n : Nat) (cs : List Value) (y : DataW H × List MemPlace) (hl : cs.length = 4) (h : DataW.trod enc Tryz.prog w base spare held n 42 cs = some y) : ∃ x : GoodS w, cs = stepL x.val := by
  have hs := Tryz.underlying42
  match cs, hl with
  | [c0, c1, c2, c3], _ =>
    obtain ⟨xs, n', _, hx, _, hlen, hg⟩ := DataW.trod_struct hs h
    match xs, hlen with
    | [y0, y1, y2, y3], _ =>
      have e0 : Tryz.prog.cellsOf 5 = 1 := by kernel_rfl
      have e1 : Tryz.prog.cellsOf 3 = 1 := by kernel_rfl
      have e2 : Tryz.prog.cellsOf 39 = 1 := by kernel_rfl
      have e3 : Tryz.prog.cellsOf 40 = 1 := by kernel_rfl
      have g0 : DataW.trod enc Tryz.prog w base spare held n' 5 [c0] = some y0 := by simpa [e0] using hg 0 _ rfl
      have g1 : DataW.trod enc Tryz.prog w base spare held n' 3 [c1] = some y1 := by simpa [e1] using hg 1 _ rfl
      have g2 : DataW.trod enc Tryz.prog w base spare held n' 39 [c2] = some y2 := by simpa [e2] using hg 2 _ rfl
      have g3 : DataW.trod enc Tryz.prog w base spare held n' 40 [c3] = some y3 := by simpa [e3, Value.cells] using hg 3 _ rfl
      obtain ⟨fa, q0, rfl, wa⟩ := DataW.trod_int Tryz.underlying5 g0
      obtain ⟨fb, q1, rfl, wb⟩ := DataW.trod_int Tryz.underlying3 g1
      obtain ⟨fc, q2, rfl, wc⟩ := DataW.trod_int Tryz.underlying39 g2
      obtain ⟨l, hl⟩ := run_of g3
      simp only [List.cons.injEq, and_true] at q0 q1 q2
      subst q0 q1 q2
      obtain ⟨a, rfl⟩ := of_u8 wa
      exact ⟨⟨⟨a, fb, fc, c3, l⟩, (i64_range wb).1, (i64_range wb).2, (u64_range wc).1, (u64_range wc).2, hl⟩, rfl⟩
set_option maxRecDepth 10000 in
theorem open_steps {r : Reach} {b0 : Nat} {v : Value} {d : DataW H} {p : List MemPlace}
    (hv : Value.okWide Tryz.prog w r b0 24 v) (h : DataW.Trod enc Tryz.prog w base spare held 24 v d p) : ∃ l : List StepD, StepsIn w v l := by
  obtain ⟨a0, len, cap, rfl⟩ := okWide_slice Tryz.underlying24 hv
  obtain ⟨fuel, hf⟩ := h
  have hc : Tryz.prog.cellsOf 42 = 4 := by kernel_rfl
  obtain ⟨l, hr, h2⟩ := open_rdl (c := fun x : GoodS w => stepL x.val) (m := 4) (fun _ => rfl) (by decide) Tryz.underlying24 hc open_step1 hf
  refine ⟨l.map (·.val), rdl_map (c := stepL) (fun x : GoodS w => x.val) hr, by unfold maxLen at h2; simpa using h2, fun x hx => ?_⟩
  obtain ⟨y, _, rfl⟩ := List.mem_map.1 hx; exact y.property
theorem open_raw1 (n : Nat) (cs : List Value) (y : DataW H × List MemPlace) (hl : cs.length = 5) (h : DataW.trod enc Tryz.prog w base spare held n 51 cs = some y) : ∃ x : GoodW9, cs = rawL x.val := by
  have hs := Tryz.underlying51
  match cs, hl with
  | [c0, c1, c2, c3, c4], _ =>
    obtain ⟨xs, n', _, hx, _, hlen, hg⟩ := DataW.trod_struct hs h
    match xs, hlen with
    | [y0, y1, y2], _ =>
      have e0 : Tryz.prog.cellsOf 5 = 1 := by kernel_rfl
      have e1 : Tryz.prog.cellsOf 4 = 1 := by kernel_rfl
      have e2 : Tryz.prog.cellsOf 49 = 3 := by kernel_rfl
      have e3 : Tryz.prog.cellsOf 3 = 1 := by kernel_rfl
      have e4 : Tryz.prog.cellsOf 47 = 1 := by kernel_rfl
      have e5 : Tryz.prog.cellsOf 9 = 1 := by kernel_rfl
      have g0 : DataW.trod enc Tryz.prog w base spare held n' 5 [c0] = some y0 := by simpa [e0] using hg 0 _ rfl
      have g1 : DataW.trod enc Tryz.prog w base spare held n' 4 [c1] = some y1 := by simpa [e1] using hg 1 _ rfl
      have g2 : DataW.trod enc Tryz.prog w base spare held n' 49 [c2, c3, c4] = some y2 := by simpa [e2] using hg 2 _ rfl
      obtain ⟨zs, n2, _, hz, _, hzl, hk⟩ := DataW.trod_struct Tryz.underlying49 g2
      match zs, hzl with
      | [z0, z1, z2], _ =>
        have k0 : DataW.trod enc Tryz.prog w base spare held n2 3 [c2] = some z0 := by simpa [e3] using hk 0 _ rfl
        have k1 : DataW.trod enc Tryz.prog w base spare held n2 47 [c3] = some z1 := by simpa [e4] using hk 1 _ rfl
        have k2 : DataW.trod enc Tryz.prog w base spare held n2 9 [c4] = some z2 := by simpa [e5] using hk 2 _ rfl
        obtain ⟨fa, q0, rfl, wa⟩ := DataW.trod_int Tryz.underlying5 g0
        obtain ⟨fb, q1, rfl⟩ := DataW.trod_bool Tryz.underlying4 g1
        obtain ⟨fc, q2, rfl, wc⟩ := DataW.trod_int Tryz.underlying3 k0
        obtain ⟨fd, q3, rfl, wd⟩ := DataW.trod_int Tryz.underlying47 k1
        obtain ⟨fe, q4, rfl, we⟩ := DataW.trod_string Tryz.underlying9 k2
        simp only [List.cons.injEq, and_true] at q0 q1 q2 q3 q4
        subst q0 q1 q2 q3 q4
        obtain ⟨a, rfl⟩ := of_u8 wa
        obtain ⟨b, rfl⟩ := of_u32 wd
        exact ⟨⟨⟨a, fb, fc, b, fe⟩, by unfold maxLen at we; exact we⟩, rfl⟩
set_option maxRecDepth 10000 in
theorem open_raws {r : Reach} {b0 : Nat} {v : Value} {d : DataW H} {p : List MemPlace}
    (hv : Value.okWide Tryz.prog w r b0 46 v) (h : DataW.Trod enc Tryz.prog w base spare held 46 v d p) : ∃ l : List RawD, RawsIn w v l := by
  obtain ⟨a0, len, cap, rfl⟩ := okWide_slice Tryz.underlying46 hv
  obtain ⟨fuel, hf⟩ := h
  have hc : Tryz.prog.cellsOf 51 = 5 := by kernel_rfl
  obtain ⟨l, hr, h2⟩ := open_rdl (c := fun x : GoodW9 => rawL x.val) (m := 5) (fun _ => rfl) (by decide) Tryz.underlying46 hc open_raw1 hf
  refine ⟨l.map (·.val), rdl_map (c := rawL) (fun x : GoodW9 => x.val) hr, by unfold maxLen at h2; simpa using h2, fun x hx => ?_⟩
  obtain ⟨y, _, rfl⟩ := List.mem_map.1 hx; exact y.property
end
end Go.Proofs.YtfbkfdoekgnldaaGreatDoor
