/- A list of puts as the row hands it in. -/
import Derived.Test.YtjbjhjlfcbhaiaaOpenL
import Derived.Test.YtjbjhjlfcbhaiaaPut6
namespace Go.Proofs.Ytjbjhjlfcbhaiaa
open Go.ChangeShapes Go.WideShapes Go.ChangeAt Go.RowKit Go.Joins Go.Deep
instance : Inhabited PutV := ⟨⟨0, 0, false⟩⟩
section
variable {H : Type} {enc : TypeId × Value → H} {w : World} {base : Nat} {spare : Nat → Bool} {held : Bool}
theorem open_put1 (n : Nat) (cs : List Value) (y : DataW H × List MemPlace) (hl : cs.length = 3) (h : DataW.trod enc Try.prog w base spare held n 34 cs = some y) : ∃ x, cs = putL x := by
  have hs := Try.underlying34
  match cs, hl with
  | [c0, c1, c2], _ =>
    obtain ⟨xs, n', _, hx, _, hlen, hg⟩ := DataW.trod_struct hs h
    match xs, hlen with
    | [y0, y1, y2], _ =>
      have e5 : Try.prog.cellsOf 5 = 1 := by kernel_rfl
      have e4 : Try.prog.cellsOf 4 = 1 := by kernel_rfl
      have g0 : DataW.trod enc Try.prog w base spare held n' 5 [c0] = some y0 := by simpa [e5, Value.cells] using hg 0 _ rfl
      have g1 : DataW.trod enc Try.prog w base spare held n' 5 [c1] = some y1 := by simpa [e5, Value.cells] using hg 1 _ rfl
      have g2 : DataW.trod enc Try.prog w base spare held n' 4 [c2] = some y2 := by simpa [e4, Value.cells] using hg 2 _ rfl
      obtain ⟨fa, e0, rfl, wa⟩ := DataW.trod_int Try.underlying5 g0
      obtain ⟨fb, e1, rfl, wb⟩ := DataW.trod_int Try.underlying5 g1
      obtain ⟨fc, e2, rfl⟩ := DataW.trod_bool Try.underlying4 g2
      simp only [List.cons.injEq, and_true] at e0 e1 e2
      subst e0 e1 e2
      obtain ⟨a, rfl⟩ := of_u8 wa
      obtain ⟨b, rfl⟩ := of_u8 wb
      exact ⟨⟨a, b, fc⟩, rfl⟩
theorem open_puts {r : Reach} {b0 : Nat} {v : Value} {d : DataW H} {p : List MemPlace}
    (hv : Value.okWide Try.prog w r b0 22 v) (h : DataW.Trod enc Try.prog w base spare held 22 v d p) :
    ∃ l : List PutV, RdL w 3 putL v l ∧ l.length ≤ 9223372036854775807 := by
  obtain ⟨a0, len, cap, rfl⟩ := okWide_slice Try.underlying22 hv
  obtain ⟨fuel, hf⟩ := h
  have hc : Try.prog.cellsOf 34 = 3 := by kernel_rfl
  obtain ⟨l, h1, h2⟩ := open_rdl putL_len (by decide) Try.underlying22 hc open_put1 hf
  exact ⟨l, h1, by unfold maxLen at h2; exact h2⟩
end
end Go.Proofs.Ytjbjhjlfcbhaiaa
