/- A list of calls as the row hands it in. -/
import Derived.Test.YtjbjhjlfcbhaiaaOpenL
import Derived.Test.YtjbjhjlfcbhaiaaCallL
namespace Go.Proofs.Ytjbjhjlfcbhaiaa
open Go.ChangeShapes Go.WideShapes Go.ChangeAt Go.RowKit Go.Joins Go.Deep
/-- a call whose numbers lie in memory -/
def GoodC (w : World) : Type := { x : CallD // RdL w 1 intL x.kv x.keep ∧ x.keep.length ≤ 9223372036854775807 }
instance (w : World) : Inhabited (GoodC w) := ⟨⟨⟨0, 0, 0, 0, .slice none 0 0, []⟩, ⟨none, 0, rfl, .inl rfl⟩, by simp⟩⟩
section
variable {H : Type} {enc : TypeId × Value → H} {w : World} {base : Nat} {spare : Nat → Bool} {held : Bool}
theorem open_int1 (n : Nat) (cs : List Value) (y : DataW H × List MemPlace) (hl : cs.length = 1) (h : DataW.trod enc Try.prog w base spare held n 3 cs = some y) : ∃ x, cs = intL x := by
  match cs, hl with
  | [c0], _ =>
    obtain ⟨fa, e0, rfl, wa⟩ := DataW.trod_int Try.underlying3 h
    exact ⟨fa, e0⟩
theorem open_call1 (n : Nat) (cs : List Value) (y : DataW H × List MemPlace) (hl : cs.length = 5) (h : DataW.trod enc Try.prog w base spare held n 63 cs = some y) : ∃ x : GoodC w, cs = callL x.val := by
  have hs := Try.underlying63
  match cs, hl with
  | [c0, c1, c2, c3, c4], _ =>
    obtain ⟨xs, n', _, hx, _, hlen, hg⟩ := DataW.trod_struct hs h
    match xs, hlen with
    | [y0, y1, y2, y3, y4], _ =>
      have e5 : Try.prog.cellsOf 5 = 1 := by kernel_rfl
      have e3 : Try.prog.cellsOf 3 = 1 := by kernel_rfl
      have e2 : Try.prog.cellsOf 2 = 1 := by kernel_rfl
      have e35 : Try.prog.cellsOf 35 = 1 := by kernel_rfl
      have g0 : DataW.trod enc Try.prog w base spare held n' 5 [c0] = some y0 := by simpa [e5, Value.cells] using hg 0 _ rfl
      have g1 : DataW.trod enc Try.prog w base spare held n' 3 [c1] = some y1 := by simpa [e3, Value.cells] using hg 1 _ rfl
      have g2 : DataW.trod enc Try.prog w base spare held n' 2 [c2] = some y2 := by simpa [e2, Value.cells] using hg 2 _ rfl
      have g3 : DataW.trod enc Try.prog w base spare held n' 5 [c3] = some y3 := by simpa [e5, Value.cells] using hg 3 _ rfl
      have g4 : DataW.trod enc Try.prog w base spare held n' 35 [c4] = some y4 := by simpa [e35, Value.cells] using hg 4 _ rfl
      obtain ⟨fa, q0, rfl, wa⟩ := DataW.trod_int Try.underlying5 g0
      obtain ⟨fb, q1, rfl, wb⟩ := DataW.trod_int Try.underlying3 g1
      obtain ⟨fc, q2, rfl, wc⟩ := DataW.trod_int Try.underlying2 g2
      obtain ⟨fd, q3, rfl, wd⟩ := DataW.trod_int Try.underlying5 g3
      obtain ⟨keep, hk, hkl⟩ := open_rdl (c := intL) (m := 1) (fun _ => rfl) (by decide) Try.underlying35 e3 open_int1 g4
      simp only [List.cons.injEq, and_true] at q0 q1 q2 q3
      subst q0 q1 q2 q3
      obtain ⟨a, rfl⟩ := of_u8 wa
      obtain ⟨d, rfl⟩ := of_u8 wd
      exact ⟨⟨⟨a, fb, fc, d, c4, keep⟩, hk, by unfold maxLen at hkl; exact hkl⟩, rfl⟩
theorem open_calls {r : Reach} {b0 : Nat} {v : Value} {d : DataW H} {p : List MemPlace}
    (hv : Value.okWide Try.prog w r b0 52 v) (h : DataW.Trod enc Try.prog w base spare held 52 v d p) :
    ∃ l : List CallD, CallsIn w v l := by
  obtain ⟨a0, len, cap, rfl⟩ := okWide_slice Try.underlying52 hv
  obtain ⟨fuel, hf⟩ := h
  have hc : Try.prog.cellsOf 63 = 5 := by kernel_rfl
  obtain ⟨l, ⟨a, cap', hv2, h1⟩, h2⟩ := open_rdl (c := fun x : GoodC w => callL x.val) (m := 5) (fun _ => rfl) (by decide) Try.underlying52 hc open_call1 hf
  have hfl : flat callL (l.map (·.val)) = flat (fun x : GoodC w => callL x.val) l := by simp [flat, List.flatMap_map]
  refine ⟨l.map (·.val), ⟨a, cap', by rw [hv2]; simp, ?_⟩, fun x hx => ?_, by unfold maxLen at h2; simpa using h2, fun x hx => ?_⟩
  · rcases h1 with rfl | ⟨b, o, rfl, hr⟩
    · exact .inl rfl
    · exact .inr ⟨b, o, rfl, by rw [hfl]; exact hr⟩
  · obtain ⟨y, _, rfl⟩ := List.mem_map.1 hx; exact y.property.1
  · obtain ⟨y, _, rfl⟩ := List.mem_map.1 hx; exact y.property.2
end
end Go.Proofs.Ytjbjhjlfcbhaiaa
