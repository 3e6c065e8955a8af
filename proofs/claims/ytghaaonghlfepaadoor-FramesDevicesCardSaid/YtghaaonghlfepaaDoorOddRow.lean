/- An Odd as the row hands it in: its cells, and the changes behind its slice. -/
import Derived.Test.YtghaaonghlfepaaDoorOddB
import Derived.Deep.SlicePairs
import Derived.WalkKit
import Derived.ProofKit
import Derived.OpenShut
import Derived.ChangeOld
import Derived.Lib.SmallJoins
namespace Go.Proofs.YtghaaonghlfepaaDoor
open Go.ChangeShapes Go.WideShapes Go.ChangeAt Go.RowKit Go.Joins Go.Deep
/-- changes that can be read: none, or pairs of bytes at the slice's address -/
def ChAt (w : World) (ch : Value) (l : List (UInt8 × UInt8)) : Prop :=
  ∃ a cap, ch = .slice a l.length cap ∧ l.length ≤ 9223372036854775807 ∧ (l = [] ∨ ∃ b off, a = some ⟨b, off, none⟩ ∧ b < w.heap.size ∧ ∀ i, i < l.length → w.cell? ⟨b, off + i * 2, none⟩ = some (.int .u8 (vb (l.getD i (0, 0)).1)) ∧ w.cell? ⟨b, off + i * 2 + 1, none⟩ = some (.int .u8 (vb (l.getD i (0, 0)).2)))
theorem addr_plain {w : World} {a : Addr} {v : Value} (h : w.cell? a = some v) : a = ⟨a.block, a.off, none⟩ ∧ a.block < w.heap.size := by
  unfold World.cell? at h
  cases hb : w.heap[a.block]? with
  | none => simp [hb] at h
  | some o =>
    have hlt := (Array.getElem?_eq_some_iff.1 hb).1
    refine ⟨?_, hlt⟩
    cases o with
    | cells c t z =>
      simp only [hb] at h
      split at h
      · cases h
      · rename_i hs
        obtain ⟨x, y, z⟩ := a
        cases z with
        | none => rfl
        | some _ => simp at hs
    | _ => simp [hb] at h
section
variable {H : Type} {enc : TypeId × Value → H} {w : World} {base : Nat} {spare : Nat → Bool} {held : Bool}
set_option maxRecDepth 100000 in
theorem open_odd {r : Reach} {b0 : Nat} {v : Value} {d : DataW H} {p : List MemPlace}
    (hv : Value.okWide Tryd.prog w r b0 34 v) (h : DataW.Trod enc Tryd.prog w base spare held 34 v d p) :
    ∃ (at_ : UInt8) (k : Int) (q : BitVec 32) (dd : ByteArray) (ch : Value) (fx : Bool) (l : List (UInt8 × UInt8)), v = .agg (oddC at_ k q dd ch fx) ∧ (Lit.int .i64 k).wf = true ∧ dd.size ≤ 9223372036854775807 ∧ ChAt w ch l := by
  have hs := Tryd.underlying34
  obtain ⟨cs, rfl, hsz⟩ := okWide_struct hs hv
  obtain ⟨l⟩ := cs
  match l, hsz.trans (show Tryd.prog.cellsOf 34 = 6 by kernel_rfl) with
  | [c0, c1, c2, c3, c4, c5], _ =>
    obtain ⟨fuel, hf⟩ := h
    obtain ⟨xs, n, _, hx, _, hlen, hg⟩ := DataW.trod_struct hs hf
    match xs, hlen with
    | [y0, y1, y2, y3], _ =>
      have e5 : Tryd.prog.cellsOf 5 = 1 := by kernel_rfl
      have e24 : Tryd.prog.cellsOf 24 = 3 := by kernel_rfl
      have e32 : Tryd.prog.cellsOf 32 = 1 := by kernel_rfl
      have e4 : Tryd.prog.cellsOf 4 = 1 := by kernel_rfl
      have e3 : Tryd.prog.cellsOf 3 = 1 := by kernel_rfl
      have e22 : Tryd.prog.cellsOf 22 = 1 := by kernel_rfl
      have e9 : Tryd.prog.cellsOf 9 = 1 := by kernel_rfl
      have e75 : Tryd.prog.cellsOf 75 = 2 := by kernel_rfl
      have g0 : DataW.trod enc Tryd.prog w base spare held n 5 [c0] = some y0 := by simpa [e5, Value.cells] using hg 0 _ rfl
      have g1 : DataW.trod enc Tryd.prog w base spare held n 24 [c1, c2, c3] = some y1 := by simpa [e24, Value.cells] using hg 1 _ rfl
      have g2 : DataW.trod enc Tryd.prog w base spare held n 32 [c4] = some y2 := by simpa [e32, Value.cells] using hg 2 _ rfl
      have g3 : DataW.trod enc Tryd.prog w base spare held n 4 [c5] = some y3 := by simpa [e4, Value.cells] using hg 3 _ rfl
      obtain ⟨fa, e0, rfl, wa⟩ := DataW.trod_int Tryd.underlying5 g0
      obtain ⟨xs1, n1, _, hx1, _, hlen1, hg1⟩ := DataW.trod_struct Tryd.underlying24 g1
      match xs1, hlen1 with
      | [z0, z1, z2], _ =>
        have k0 : DataW.trod enc Tryd.prog w base spare held n1 3 [c1] = some z0 := by simpa [e3] using hg1 0 _ rfl
        have k1 : DataW.trod enc Tryd.prog w base spare held n1 22 [c2] = some z1 := by simpa [e22] using hg1 1 _ rfl
        have k2 : DataW.trod enc Tryd.prog w base spare held n1 9 [c3] = some z2 := by simpa [e9] using hg1 2 _ rfl
        obtain ⟨fk, f0, rfl, wk⟩ := DataW.trod_int Tryd.underlying3 k0
        obtain ⟨fq, f1, rfl, wq⟩ := DataW.trod_int Tryd.underlying22 k1
        obtain ⟨fd, f2, rfl, wd⟩ := DataW.trod_string Tryd.underlying9 k2
        obtain ⟨fb, f3, rfl⟩ := DataW.trod_bool Tryd.underlying4 g3
        simp only [List.cons.injEq, and_true] at e0 f0 f1 f2 f3
        subst e0 f0 f1 f2 f3
        obtain ⟨qb, rfl⟩ := of_u32 wq
        obtain ⟨ab, rfl⟩ := of_u8 wa
        have hch : ∃ l, ChAt w c4 l := by
          rcases open_slice_pairs Tryd.underlying32 Tryd.underlying75 e75 rfl rfl e5 e5 g2 with ⟨hc, _⟩ | ⟨a, len, cap, m, n2, V0, V1, D0, D1, P0, P1, hc, hb, hl, hm, hmm, _, hi⟩
          · simp only [List.cons.injEq, and_true] at hc
            subst hc
            exact ⟨[], none, 0, rfl, by simp, .inl rfl⟩
          · simp only [List.cons.injEq, and_true] at hc
            subst hc
            have hlm : len ≤ m := by rw [hmm]; split <;> omega
            have hall : ∀ i, i < len → ∃ q : UInt8 × UInt8, V0 i = .int .u8 (vb q.1) ∧ V1 i = .int .u8 (vb q.2) := by
              intro i h
              obtain ⟨_, _, t0, t1⟩ := hi i (by omega)
              obtain ⟨x0, q0, _, w0⟩ := DataW.trod_int Tryd.underlying5 t0
              obtain ⟨x1, q1, _, w1⟩ := DataW.trod_int Tryd.underlying5 t1
              simp only [List.cons.injEq, and_true] at q0 q1
              obtain ⟨u0, rfl⟩ := of_u8 w0
              obtain ⟨u1, rfl⟩ := of_u8 w1
              exact ⟨(u0, u1), q0, q1⟩
            obtain ⟨Q, hQ⟩ := choose_lt hall
            refine ⟨(List.range len).map Q, some a, cap, by simp, by unfold maxLen at hm; simp; omega, ?_⟩
            by_cases h0 : len = 0
            · subst h0; exact .inl rfl
            · right
              have hp := addr_plain (hi 0 (by omega)).1
              rw [show a.add (0 * 2) = a from rfl] at hp
              refine ⟨a.block, a.off, by rw [← hp.1], hp.2, fun i h => ?_⟩
              simp only [List.length_map, List.length_range] at h
              have hgd : ((List.range len).map Q).getD i (0, 0) = Q i := by simp [List.getD_eq_getElem?_getD, h]
              rw [hgd]
              obtain ⟨s0, s1, _, _⟩ := hi i (by omega)
              rw [hp.1, Addr.add_lit] at s0 s1
              rw [s0, show a.off + i * 2 + 1 = a.off + (i * 2 + 1) from rfl, s1, (hQ i h).1, (hQ i h).2]
              exact ⟨rfl, rfl⟩
        obtain ⟨l, hch⟩ := hch
        exact ⟨ab, fk, qb, fd, c4, fb, l, rfl, wk, by unfold maxLen at wd; exact wd, hch⟩
end
end Go.Proofs.YtghaaonghlfepaaDoor
