/- make([]byte, n), and appends with their lengths as letters, in plain regions and in those that draw. -/
import Derived.Test.YtghaaonghlfepaaDoorOwnB
import Derived.RegionTactic
namespace Go.Proofs.YtghaaonghlfepaaDoor
open Go.RowKit
open Lime
def zb (n : Nat) : Array Value := madeCells (Value.int .u8 0).cells (n * 1)
theorem run_make_bytes (kl kc : IntKind) (n : Nat) (hn : n ≤ 65535) (W : World) :
    (Instr.makeSlice 44 (.int kl (n : Int)) (.int kc (n : Int))).run Tryd.prog W = .ok (.slice (some ⟨W.heap.size, 0, none⟩) n n) (W.alloc (.cells (zb n) 5)) := by
  obtain ⟨i0, hi, hz0, hz1, hz2⟩ := info_parts byte_info
  have := run_makeSlice (P := Tryd.prog) W 44 5 i0 (.int .u8 0) Tryd.underlying44 hi hz0 kl kc n n (by omega) (by omega) (by rw [hz1]; simp; omega) (by rw [hz2]; omega) (by omega)
  rw [hz1] at this
  simpa [zb] using this
theorem zb_get (n i : Nat) (h : i < n) : (zb n)[i]? = some (.int .u8 0) := by
  simp [zb, madeCells, Value.cells, h]
  rw [Nat.mod_one]; rfl
theorem zb_size (n : Nat) : (zb n).size = n := by simp [zb, madeCells]
theorem own_zeros (W : World) (g n base : Nat) (h : W.heap[g]? = some (.cells (zb n) 5 (0, 0))) (hb : base ≤ g) : OwnB base W g (List.replicate n 0) :=
  ⟨hb, zb n, h, by rw [zb_size]; simp, fun i hi => by
    rw [List.length_replicate] at hi
    rw [zb_get n i hi]
    have : at8 (List.replicate n (0 : UInt8)) i = 0 := by simp [at8, hi]
    rw [this]; rfl⟩
/-- values that are filled in from the front -/
def stK (f : Nat → UInt8) (n k : Nat) : List UInt8 := (List.range n).map fun i => if i < k then f i else 0
theorem stK_length (f : Nat → UInt8) (n k : Nat) : (stK f n k).length = n := by simp [stK]
theorem stK_zero (f : Nat → UInt8) (n : Nat) : List.replicate n 0 = stK f n 0 := by
  apply List.ext_getElem
  · simp [stK]
  · intro i h1 h2; simp [stK]
theorem stK_set (f : Nat → UInt8) (n k : Nat) : (stK f n k).set k (f k) = stK f n (k + 1) := by
  apply List.ext_getElem
  · simp [stK]
  · intro i h1 h2
    simp only [List.getElem_set, stK, List.getElem_map, List.getElem_range]
    by_cases h : k = i
    · subst h; simp
    · rw [if_neg h]
      by_cases h3 : i < k
      · rw [if_pos h3, if_pos (by omega)]
      · rw [if_neg h3, if_neg (by omega)]
theorem stK_all (f : Nat → UInt8) (n k : Nat) (h : n ≤ k) : stK f n k = (List.range n).map f := by
  apply List.ext_getElem
  · simp [stK]
  · intro i h1 h2
    have hi : i < n := by simpa [stK] using h1
    simp only [stK, List.getElem_map, List.getElem_range]
    rw [if_pos (by omega)]
theorem at8_stK (f : Nat → UInt8) (n k i : Nat) (hi : i < n) (hk : i < k) : at8 (stK f n k) i = f i := by
  have : (stK f n k)[i]? = some (f i) := by simp [stK, hi, hk]
  unfold at8
  rw [List.getD_eq_getElem?_getD, this]; rfl
/-- an append of bytes onto a row of the walk's own -/
theorem run_append_bytesN (W : World) (base : Nat) (ty : TypeId) (g0 c0 : Nat) (l m : List UInt8) (nl nm : Nat) (a : Option Addr) (cap : Nat) (hnl : nl = l.length) (hnm : nm = m.length)
    (hown : W.ownsRow base 5 1 (.slice (some ⟨g0, 0, none⟩) l.length c0) l.length (bvals l)) (hb : BytesAt W a m) (hlen : l.length + m.length ≤ 1000000) (hbase : base ≤ W.heap.size) :
    ∃ g cap' W', (Builtin.append_ #[44, 44] ty #[.slice (some ⟨g0, 0, none⟩) nl c0, .slice a nm cap]).run Tryd.prog W = .ok (.slice (some ⟨g, 0, none⟩) (nl + nm) cap') W' ∧
      W'.ownsRow base 5 1 (.slice (some ⟨g, 0, none⟩) (l ++ m).length cap') (l ++ m).length (bvals (l ++ m)) ∧ W.grownBy W' (some g0) ∧ (g = g0 ∨ g = W.heap.size) := by
  subst hnl hnm
  obtain ⟨g, cap', W', h1, h2, h3, h4, h5⟩ := run_append_bytes W base ty g0 c0 l m a cap hown hb hlen hbase
  exact ⟨g, cap', W', by rw [h1, List.length_append], h2, h3, h4⟩
theorem step_append_bytes {ops : Array Oper} {o : Oper} {a : Act} {W : World} {K : Act → World → Prop} {Q : Exit → Act → World → Prop} {E : Prop} (hgd : o.guard = none) (s x : Operand)
    (ho : o.op = .call { callee := .builtin .append, args := #[s, x], argTypes := #[44, 44] }) (base g0 c0 : Nat) (l m : List UInt8) (nl nm : Nat) (ax : Option Addr) (cap : Nat)
    (hs : a.eval s = .slice (some ⟨g0, 0, none⟩) nl c0) (hx : a.eval x = .slice ax nm cap) (hnl : nl = l.length) (hnm : nm = m.length)
    (hown : W.ownsRow base 5 1 (.slice (some ⟨g0, 0, none⟩) l.length c0) l.length (bvals l)) (hb : BytesAt W ax m) (hlen : l.length + m.length ≤ 1000000) (hbase : base ≤ W.heap.size)
    (h : ∀ g cap' W', W'.ownsRow base 5 1 (.slice (some ⟨g, 0, none⟩) (l ++ m).length cap') (l ++ m).length (bvals (l ++ m)) → W.grownBy W' (some g0) → (g = g0 ∨ g = W.heap.size) →
      K (a.put o.dst (.slice (some ⟨g, 0, none⟩) (nl + nm) cap')) W') :
    if Region.wanted o (yielded ops a.tmps) = true then Oper.wp Tryd.prog o a W K Q else E := by
  have hw : Region.wanted o (yielded ops a.tmps) = true := by simp [Region.wanted, hgd]
  rw [if_pos hw]
  obtain ⟨g, cap', W', hrun, h2, h3, h4⟩ := run_append_bytesN W base o.type g0 c0 l m nl nm ax cap hnl hnm hown hb hlen hbase
  unfold Oper.wp execOp
  simp only [ho, resolve, invoke, builtin, Sem.run_bind, Sem.run_pure, Result.andThen_ok, List.map_toArray, List.map_cons, List.map_nil, hs, hx, hrun]
  exact h g cap' W' h2 h3 h4
end Go.Proofs.YtghaaonghlfepaaDoor
