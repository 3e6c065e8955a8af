/- A device's state as the row hands it in. -/
import Derived.Test.YtjbjhjlfcbhaiaaOpenL
import Derived.Test.YtjbjhjlfcbhaiaaRefLim
namespace Go.Proofs.Ytjbjhjlfcbhaiaa
open Go.ChangeShapes Go.WideShapes Go.ChangeAt Go.RowKit Go.Joins Go.Deep
/-- a state as an argument -/
structure StArg (w : World) (v : Value) (S : Dv) (uS uC : Value) : Prop where
  hv : v = .agg (stCells uS uC S)
  hS : RdL w 128 secL uS S.st
  hC : RdL w 129 wrL uC S.ca
  l1 : S.st.length ≤ 9223372036854775807
  l2 : S.ca.length ≤ 9223372036854775807
instance : Inhabited Sector := ⟨zsec⟩
theorem sec_of (Q : Nat → UInt8) : ∃ s : Sector, ∀ i, i < 128 → sat s i = Q i := ⟨Vector.ofFn (fun i : Fin 128 => Q i), fun i hi => by
  unfold sat
  rw [List.getD_eq_getElem?_getD, Vector.getElem?_toList, Vector.getElem?_eq_getElem hi, Vector.getElem_ofFn]; rfl⟩
section
variable {H : Type} {enc : TypeId × Value → H} {w : World} {base : Nat} {spare : Nat → Bool} {held : Bool}
theorem open_sec1 (n : Nat) (cs : List Value) (y : DataW H × List MemPlace) (hl : cs.length = 128) (h : DataW.trod enc Try.prog w base spare held n 31 cs = some y) : ∃ s, cs = secL s := by
  obtain ⟨xs, m, _, _, _, hlen, hg⟩ := DataW.trod_array Try.underlying31 h
  have e5 : Try.prog.cellsOf 5 = 1 := by kernel_rfl
  have hall : ∀ i, i < 128 → ∃ q : UInt8, cs[i]? = some (.int .u8 (vb q)) := by
    intro i hi
    have hx := hg i hi
    rw [e5, Nat.mul_one, List.getElem?_eq_getElem (by omega)] at hx
    obtain ⟨fa, e0, _, wa⟩ := DataW.trod_int Try.underlying5 hx
    obtain ⟨a, rfl⟩ := of_u8 wa
    refine ⟨a, ?_⟩
    have h1 : ((cs.drop i).take 1)[0]? = some (.int .u8 (vb a)) := by rw [e0]; rfl
    rw [List.getElem?_take, if_pos (by decide), List.getElem?_drop, Nat.add_zero] at h1
    exact h1
  obtain ⟨Q, hQ⟩ := choose_lt hall
  obtain ⟨s, hs⟩ := sec_of Q
  refine ⟨s, ?_⟩
  have hlen2 := secL_len s
  apply List.ext_getElem?
  intro i
  by_cases hi : i < 128
  · rw [hQ i hi, ← hs i hi]
    have := sec_get s i hi
    unfold secL
    rw [Array.getElem?_toList, this]
  · rw [List.getElem?_eq_none (by omega), List.getElem?_eq_none (by omega)]
theorem open_wr1 (n : Nat) (cs : List Value) (y : DataW H × List MemPlace) (hl : cs.length = 129) (h : DataW.trod enc Try.prog w base spare held n 80 cs = some y) : ∃ x : Wr, cs = wrL x := by
  obtain ⟨xs, n', _, hx, _, hlen, hg⟩ := DataW.trod_struct Try.underlying80 h
  match xs, hlen with
  | [y0, y1], _ =>
    have e3 : Try.prog.cellsOf 3 = 1 := by kernel_rfl
    have e31 : Try.prog.cellsOf 31 = 128 := by kernel_rfl
    match cs, hl with
    | c0 :: tl, hl =>
      have hl' : tl.length = 128 := by simpa using hl
      have g0 : DataW.trod enc Try.prog w base spare held n' 3 [c0] = some y0 := by simpa [e3, Value.cells] using hg 0 _ rfl
      have g1 : DataW.trod enc Try.prog w base spare held n' 31 tl = some y1 := by
        have := hg 1 _ rfl
        simpa [e31, Value.cells, List.take_of_length_le (Nat.le_of_eq hl')] using this
      obtain ⟨fb, q1, rfl, wb⟩ := DataW.trod_int Try.underlying3 g0
      obtain ⟨s, rfl⟩ := open_sec1 n' tl y1 hl' g1
      simp only [List.cons.injEq, and_true] at q1
      subst q1
      exact ⟨(fb, s), rfl⟩
theorem open_state {r : Reach} {b0 : Nat} {v : Value} {d : DataW H} {p : List MemPlace}
    (hv : Value.okWide Try.prog w r b0 57 v) (h : DataW.Trod enc Try.prog w base spare held 57 v d p) :
    ∃ S uS uC, StArg w v S uS uC := by
  have hs := Try.underlying57
  obtain ⟨cs, rfl, hsz⟩ := okWide_struct hs hv
  obtain ⟨l⟩ := cs
  match l, hsz.trans (show Try.prog.cellsOf 57 = 5 by kernel_rfl) with
  | [c0, c1, c2, c3, c4], _ =>
    obtain ⟨fuel, hf⟩ := h
    obtain ⟨xs, n', _, hx, _, hlen, hg⟩ := DataW.trod_struct hs hf
    match xs, hlen with
    | [y0, y1, y2, y3, y4], _ =>
      have e54 : Try.prog.cellsOf 54 = 1 := by kernel_rfl
      have e55 : Try.prog.cellsOf 55 = 1 := by kernel_rfl
      have e2 : Try.prog.cellsOf 2 = 1 := by kernel_rfl
      have e4 : Try.prog.cellsOf 4 = 1 := by kernel_rfl
      have g0 : DataW.trod enc Try.prog w base spare held n' 54 [c0] = some y0 := by simpa [e54, Value.cells] using hg 0 _ rfl
      have g1 : DataW.trod enc Try.prog w base spare held n' 55 [c1] = some y1 := by simpa [e55, Value.cells] using hg 1 _ rfl
      have g2 : DataW.trod enc Try.prog w base spare held n' 2 [c2] = some y2 := by simpa [e2, Value.cells] using hg 2 _ rfl
      have g3 : DataW.trod enc Try.prog w base spare held n' 2 [c3] = some y3 := by simpa [e2, Value.cells] using hg 3 _ rfl
      have g4 : DataW.trod enc Try.prog w base spare held n' 4 [c4] = some y4 := by simpa [e4, Value.cells] using hg 4 _ rfl
      obtain ⟨ft, q2, rfl, _⟩ := DataW.trod_int Try.underlying2 g2
      obtain ⟨fp, q3, rfl, _⟩ := DataW.trod_int Try.underlying2 g3
      obtain ⟨fo, q4, rfl⟩ := DataW.trod_bool Try.underlying4 g4
      obtain ⟨st, hst, hstl⟩ := open_rdl (c := secL) (m := 128) secL_len (by decide) Try.underlying54 (by kernel_rfl) open_sec1 g0
      obtain ⟨ca, hca, hcal⟩ := open_rdl (c := wrL) (m := 129) wrL_len (by decide) Try.underlying55 (by kernel_rfl) open_wr1 g1
      simp only [List.cons.injEq, and_true] at q2 q3 q4
      subst q2 q3 q4
      exact ⟨⟨st, ca, ft, fp, fo⟩, c0, c1, rfl, hst, hca, by unfold maxLen at hstl; exact hstl, by unfold maxLen at hcal; exact hcal⟩
end
end Go.Proofs.Ytjbjhjlfcbhaiaa
