/- A list of steps as the row hands it in. -/
import Derived.Test.YtghaaonghlfepaaDoorOpenL
import Derived.Test.YtghaaonghlfepaaDoorLawDevs
namespace Go.Proofs.YtghaaonghlfepaaDoor
open Go.ChangeShapes Go.WideShapes Go.ChangeAt Go.RowKit Go.Joins Go.Deep
def GoodS : Type := { x : StepD // x.data.size ≤ 9223372036854775807 }
instance : Inhabited GoodS := ⟨⟨⟨0, 0, 0, 0, ByteArray.empty, false⟩, by decide⟩⟩
section
variable {H : Type} {enc : TypeId × Value → H} {w : World} {base : Nat} {spare : Nat → Bool} {held : Bool}
theorem open_step1 (n : Nat) (cs : List Value) (y : DataW H × List MemPlace) (hl : cs.length = 6) (h : DataW.trod enc Tryd.prog w base spare held n 57 cs = some y) : ∃ x : GoodS, cs = stepL x.val := by
  have hs := Tryd.underlying57
  match cs, hl with
  | [c0, c1, c2, c3, c4, c5], _ =>
    obtain ⟨xs, n', _, hx, _, hlen, hg⟩ := DataW.trod_struct hs h
    match xs, hlen with
    | [y0, y1, y2, y3], _ =>
      have e5 : Tryd.prog.cellsOf 5 = 1 := by kernel_rfl
      have e24 : Tryd.prog.cellsOf 24 = 3 := by kernel_rfl
      have e4 : Tryd.prog.cellsOf 4 = 1 := by kernel_rfl
      have e3 : Tryd.prog.cellsOf 3 = 1 := by kernel_rfl
      have e22 : Tryd.prog.cellsOf 22 = 1 := by kernel_rfl
      have e9 : Tryd.prog.cellsOf 9 = 1 := by kernel_rfl
      have g0 : DataW.trod enc Tryd.prog w base spare held n' 5 [c0] = some y0 := by simpa [e5, Value.cells] using hg 0 _ rfl
      have g1 : DataW.trod enc Tryd.prog w base spare held n' 3 [c1] = some y1 := by simpa [e3, Value.cells] using hg 1 _ rfl
      have g2 : DataW.trod enc Tryd.prog w base spare held n' 24 [c2, c3, c4] = some y2 := by simpa [e24, Value.cells] using hg 2 _ rfl
      have g3 : DataW.trod enc Tryd.prog w base spare held n' 4 [c5] = some y3 := by simpa [e4, Value.cells] using hg 3 _ rfl
      obtain ⟨fa, q0, rfl, wa⟩ := DataW.trod_int Tryd.underlying5 g0
      obtain ⟨fb, q1, rfl, wb⟩ := DataW.trod_int Tryd.underlying3 g1
      obtain ⟨fo, q2, rfl⟩ := DataW.trod_bool Tryd.underlying4 g3
      obtain ⟨xs1, n1, _, hx1, _, hlen1, hg1⟩ := DataW.trod_struct Tryd.underlying24 g2
      match xs1, hlen1 with
      | [z0, z1, z2], _ =>
        have k0 : DataW.trod enc Tryd.prog w base spare held n1 3 [c2] = some z0 := by simpa [e3] using hg1 0 _ rfl
        have k1 : DataW.trod enc Tryd.prog w base spare held n1 22 [c3] = some z1 := by simpa [e22] using hg1 1 _ rfl
        have k2 : DataW.trod enc Tryd.prog w base spare held n1 9 [c4] = some z2 := by simpa [e9] using hg1 2 _ rfl
        obtain ⟨fk, f0, rfl, wk⟩ := DataW.trod_int Tryd.underlying3 k0
        obtain ⟨fq, f1, rfl, wq⟩ := DataW.trod_int Tryd.underlying22 k1
        obtain ⟨fd, f2, rfl, wd⟩ := DataW.trod_string Tryd.underlying9 k2
        simp only [List.cons.injEq, and_true] at q0 q1 q2 f0 f1 f2
        subst q0 q1 q2 f0 f1 f2
        obtain ⟨qb, rfl⟩ := of_u32 wq
        obtain ⟨ab, rfl⟩ := of_u8 wa
        exact ⟨⟨⟨ab, fb, fk, qb, fd, fo⟩, by unfold maxLen at wd; exact wd⟩, rfl⟩
set_option maxRecDepth 10000 in
theorem open_steps {r : Reach} {b0 : Nat} {v : Value} {d : DataW H} {p : List MemPlace}
    (hv : Value.okWide Tryd.prog w r b0 49 v) (h : DataW.Trod enc Tryd.prog w base spare held 49 v d p) :
    ∃ l : List StepD, StepsIn w v l := by
  obtain ⟨a0, len, cap, rfl⟩ := okWide_slice Tryd.underlying49 hv
  obtain ⟨fuel, hf⟩ := h
  have hc : Tryd.prog.cellsOf 57 = 6 := by kernel_rfl
  obtain ⟨l, ⟨a, cap', hv2, h1⟩, h2⟩ := open_rdl (c := fun x : GoodS => stepL x.val) (m := 6) (fun _ => rfl) (by decide) Tryd.underlying49 hc open_step1 hf
  have hfl : flat stepL (l.map (·.val)) = flat (fun x : GoodS => stepL x.val) l := by simp [flat, List.flatMap_map]
  refine ⟨l.map (·.val), ⟨a, cap', by rw [hv2]; simp, ?_⟩, by unfold maxLen at h2; simpa using h2, fun x hx => ?_⟩
  · rcases h1 with rfl | ⟨b, o, rfl, hr⟩
    · exact .inl rfl
    · exact .inr ⟨b, o, rfl, by rw [hfl]; exact hr⟩
  · obtain ⟨y, _, rfl⟩ := List.mem_map.1 hx; exact y.property
end
end Go.Proofs.YtghaaonghlfepaaDoor
