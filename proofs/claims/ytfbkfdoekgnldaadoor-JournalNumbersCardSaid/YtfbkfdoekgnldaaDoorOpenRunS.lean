/- A run of records as the row hands it in. Steps, sectors that are written before, and a layout, as the row hands them in. -/
import Derived.Test.YtfbkfdoekgnldaaDoorOpenL
import Derived.Test.YtfbkfdoekgnldaaDoorJnBas
namespace Go.Proofs.YtfbkfdoekgnldaaDoor
open Go.ChangeShapes Go.WideShapes Go.ChangeAt Go.RowKit Go.Joins Go.Deep
def GoodR : Type := { x : Rec // x.data.size ≤ 9223372036854775807 }
instance : Inhabited GoodR := ⟨⟨⟨0, 0, ByteArray.empty⟩, by decide⟩⟩
structure RunIn (W : World) (v : Value) (l : List Rec) : Prop where
  hL : RdL W 3 recL v l
  len : l.length ≤ 9223372036854775807
  dlen : ∀ x ∈ l, x.data.size ≤ 9223372036854775807
  room : ∀ a c, v = .slice a l.length c → l.length ≤ c
section
variable {H : Type} {enc : TypeId × Value → H} {w : World} {base : Nat} {spare : Nat → Bool} {held : Bool}
theorem open_rec1 (n : Nat) (cs : List Value) (y : DataW H × List MemPlace) (hl : cs.length = 3) (h : DataW.trod enc Tryd.prog w base spare held n 67 cs = some y) : ∃ x : GoodR, cs = recL x.val := by
  have hs := Tryd.underlying67
  match cs, hl with
  | [c0, c1, c2], _ =>
    obtain ⟨xs, n', _, hx, _, hlen, hg⟩ := DataW.trod_struct hs h
    match xs, hlen with
    | [y0, y1, y2], _ =>
      have e3 : Tryd.prog.cellsOf 3 = 1 := by kernel_rfl
      have e9 : Tryd.prog.cellsOf 9 = 1 := by kernel_rfl
      have g0 : DataW.trod enc Tryd.prog w base spare held n' 3 [c0] = some y0 := by simpa [e3] using hg 0 _ rfl
      have g1 : DataW.trod enc Tryd.prog w base spare held n' 3 [c1] = some y1 := by simpa [e3] using hg 1 _ rfl
      have g2 : DataW.trod enc Tryd.prog w base spare held n' 9 [c2] = some y2 := by simpa [e9] using hg 2 _ rfl
      obtain ⟨fa, q0, rfl, wa⟩ := DataW.trod_int Tryd.underlying3 g0
      obtain ⟨fb, q1, rfl, wb⟩ := DataW.trod_int Tryd.underlying3 g1
      obtain ⟨fd, q2, rfl, wd⟩ := DataW.trod_string Tryd.underlying9 g2
      simp only [List.cons.injEq, and_true] at q0 q1 q2
      subst q0 q1 q2
      exact ⟨⟨⟨fa, fb, fd⟩, by unfold maxLen at wd; exact wd⟩, rfl⟩
theorem slice_cap {t e : TypeId} (ht : Tryd.prog.underlying t = some (.slice e)) {fuel : Nat} {a : Option Addr} {len cap : Nat} {x : DataW H × List MemPlace} (h : DataW.trod enc Tryd.prog w base spare held fuel t [.slice a len cap] = some x) : len ≤ cap := by
  rcases open_slice ht h with ⟨hc, _⟩ | ⟨a2, len2, cap2, mm, n, D, Pl, hc, hb, hl, hmx, _⟩
  · simp only [List.cons.injEq, and_true] at hc
    injection hc with _ h1 h2
    omega
  · simp only [List.cons.injEq, and_true] at hc
    injection hc with _ h1 h2
    omega
set_option maxRecDepth 10000 in
theorem open_run {r : Reach} {b0 : Nat} {v : Value} {d : DataW H} {p : List MemPlace}
    (hv : Value.okWide Tryd.prog w r b0 22 v) (h : DataW.Trod enc Tryd.prog w base spare held 22 v d p) :
    ∃ l : List Rec, RunIn w v l := by
  obtain ⟨a0, len, cap, rfl⟩ := okWide_slice Tryd.underlying22 hv
  obtain ⟨fuel, hf⟩ := h
  have hc : Tryd.prog.cellsOf 67 = 3 := by kernel_rfl
  obtain ⟨l, ⟨a, cap', hv2, h1⟩, h2⟩ := open_rdl (c := fun x : GoodR => recL x.val) (m := 3) (fun _ => rfl) (by decide) Tryd.underlying22 hc open_rec1 hf
  have hfl : flat recL (l.map (·.val)) = flat (fun x : GoodR => recL x.val) l := by simp [flat, List.flatMap_map]
  refine ⟨l.map (·.val), ⟨a, cap', by rw [hv2]; simp, ?_⟩, by unfold maxLen at h2; simpa using h2, fun x hx => ?_, fun a2 c2 e => ?_⟩
  · rcases h1 with rfl | ⟨b, o, rfl, hr⟩
    · exact .inl rfl
    · exact .inr ⟨b, o, rfl, by rw [hfl]; exact hr⟩
  · obtain ⟨y, _, rfl⟩ := List.mem_map.1 hx; exact y.property
  · injection e with _ e1 e2
    have := slice_cap Tryd.underlying22 hf
    omega
end
end Go.Proofs.YtfbkfdoekgnldaaDoor
namespace Go.Proofs.YtfbkfdoekgnldaaDoor
end Go.Proofs.YtfbkfdoekgnldaaDoor
