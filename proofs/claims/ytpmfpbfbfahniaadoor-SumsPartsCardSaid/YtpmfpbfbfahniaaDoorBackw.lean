/- slices.Backward over bytes: what it hands to a loop. -/
import Derived.RangeFuncNested
import Derived.RangeFuncBound
import Derived.RangeFuncCalls
import Derived.RangeFuncLeaves
import Derived.RangeFuncBox
import Derived.Shelf.Abstract
import Derived.Shelf.RegionOpen
import Derived.OwnWalkIn
import Derived.TacticsInMore
import Derived.LoopNIn
import Derived.LoopIn
import Derived.Test.YtpmfpbfbfahniaaDoorZerosW
namespace Go.Proofs.YtpmfpbfbfahniaaDoor
open Go.RowKit Go.Shelf
open Lime
attribute [local go_sem] Oper.semAt_some
/-- what has come when k rounds are over -/
def bwd (l : List UInt8) (k : Nat) : List (Nat × UInt8) := (List.range k).map fun j => (l.length - 1 - j, at8 l (l.length - 1 - j))
theorem bwd_succ (l : List UInt8) (k : Nat) : bwd l (k + 1) = bwd l k ++ [(l.length - 1 - k, at8 l (l.length - 1 - k))] := by simp [bwd, List.range_succ]
theorem bwd_length (l : List UInt8) (k : Nat) : (bwd l k).length = k := by simp [bwd]
/-- what a round keeps: what lay below n₀, and the box of the slice -/
def KpB (n₀ Bs : Nat) (W W' : World) : Prop := Below n₀ W W' ∧ W'.heap[Bs]? = W.heap[Bs]?
theorem KpB.t {n₀ Bs : Nat} {A B C : World} (h : KpB n₀ Bs A B) (k : KpB n₀ Bs B C) : KpB n₀ Bs A C := ⟨h.1.trans k.1, k.2.trans h.2⟩
theorem KpB.b {n₀ Bs : Nat} {w : World} (hn : n₀ ≤ w.heap.size) (hB : Bs < w.heap.size) (W : World) (l : Nat) (o o' : Obj) (hl : w.heap.size ≤ l) (h : W.heap[l]? = some o) (h1 : o.isCells = false) (h2 : o.isWalk = false) : KpB n₀ Bs W (W.putObj l o') :=
  ⟨belowK_b hn W l o o' hl h h1 h2, (grownBy_putObj' W l o').block Bs (by have := (Array.getElem?_eq_some_iff.1 h).1; omega) (by intro e; cases e; omega)⟩
theorem keep_ownFrom {α : Type} (w : World) (B : Nat) (bs : α → List (Nat × Obj)) (hB : w.heap.size ≤ B) (hc : ∀ s x, x ∈ bs s → x.2.isCells = true) : OwnFrom B (fun s W => Keep w W (bs s)) := by
  intro s W W' row hs hg hr
  refine ⟨hs.hB.grown hg hs.hB.size (fun k e => Nat.le_trans hB (hr k e).1), fun x hx => ?_⟩
  have h1 := hs.hb x hx
  refine (hg.block x.1 (Array.getElem?_eq_some_iff.1 h1).1 (fun e => ?_)).trans h1
  obtain ⟨_, o, ho, hf⟩ := hr x.1 e.symm
  rw [h1] at ho
  have := hc s x hx
  rw [Option.some.inj ho] at this
  rw [this] at hf
  cases hf
theorem Keep.putObj {w W : World} {bs : List (Nat × Obj)} (h : Keep w W bs) (D : Nat) (o o' : Obj) (hD : w.heap.size ≤ D) (hl : W.heap[D]? = some o) (ho : o.isCells = false) (hc : ∀ x ∈ bs, x.2.isCells = true) : Keep w (W.putObj D o') bs :=
  (keep_ownFrom w w.heap.size (fun _ : Unit => bs) (Nat.le_refl _) (fun _ => hc)).putObj (s := ()) o' h hD hl ho
set_option maxRecDepth 100000 in
set_option maxHeartbeats 2000000 in
theorem bwd_in (n : Nat) (hn : 1 ≤ n) (lp Bs n₀ cap : Nat) (a : Option Addr) (l : List UInt8) (hlen : l.length ≤ 9223372036854775807) (J Jx : List (Nat × UInt8) → World → Prop)
    (hY : ∀ pre x W, J pre W → pre.length < l.length → YieldAt Fence.wide (n - 1) Tryd.prog lp #[.int .i64 (x.1 : Int), .int .u8 (vb x.2)] W fun e W' =>
      (e = .returned (.bool true) ∧ J (pre ++ [x]) W' ∧ KpB n₀ Bs W W') ∨ (e = .returned (.bool false) ∧ Jx (pre ++ [x]) W'))
    (W : World) (hBs : W.heap[Bs]? = some (.cells #[.slice a l.length cap] 23 (0, 0))) (hc : l.length = 0 ∨ ∃ b off, a = some ⟨b, off, none⟩ ∧ b < n₀ ∧ ∀ j, j < l.length → W.cell? ⟨b, off + j, none⟩ = some (.int .u8 (vb (at8 l j)))) (h0 : J [] W) :
    CallsIn Fence.wide n Tryd.prog 44 #[.func (.yield lp) #[] #[], .pointer (some ⟨Bs, 0, none⟩)] W fun e W' => (∃ v, e = .returned v) ∧
      ((∃ ys, ys = bwd l l.length ∧ J ys W') ∨ (∃ pre, (∃ k, k ≤ l.length ∧ pre = bwd l k) ∧ Jx pre W')) := by
  have HC := Lib.hid hc
  clear hc
  have hb0 : W.cell? ⟨Bs, 0, none⟩ = some (.slice a l.length cap) := cell_of_row W _ 0 _ _ _ hBs
  refine callsIn_of_wp Tryd.func44 rfl trivial ?_ rfl
  simp only [Tryd.ntmps44, List.size_toArray, List.length_cons, List.length_nil, Nat.reduceAdd, Nat.reduceSub, Array.replicate_succ, Array.replicate_zero, List.push_toArray, List.append_toArray, List.nil_append, List.cons_append]
  gi_wp2
  gi_loopw [3] (fun i wr => ∃ k : Nat, k ≤ l.length ∧ i = .int .i64 ((l.length : Int) - 1 - k) ∧ J (bwd l k) wr ∧ KpB n₀ Bs W wr)
    (fun i _ => (intOf i + 1).toNat)
  case atStart => exact ⟨0, Nat.zero_le _, by simp, h0, Below.refl _ _, rfl⟩
  case round =>
    obtain ⟨k, hk, rfl, hJs, hnx⟩ := hrel
    have hcs : wr.cell? ⟨Bs, 0, none⟩ = some (.slice a l.length cap) := cell_of_row wr _ 0 _ _ _ (hnx.2.trans hBs)
    by_cases hlt : k < l.length
    · rcases HC.out with h0 | ⟨b, off, rfl, hb, hc⟩
      · omega
      obtain ⟨m, hm⟩ : ∃ m : Nat, m + k + 1 = l.length := ⟨l.length - 1 - k, by omega⟩
      have e1 : (l.length : Int) - 1 - k = (m : Int) := by omega
      have e2 : l.length - 1 - k = m := by omega
      have hcx : wr.cell? ⟨b, off + m, none⟩ = some (.int .u8 (vb (at8 l m))) := (hnx.1.cell (p := ⟨b, off + m, none⟩) hb).trans (hc m (by omega))
      have HB := Lib.hid (bwd_succ l k)
      rw [e2] at HB
      have hml : m < l.length := by omega
      have hml2 : (m : Int) < (l.length : Int) := by omega
      rw [e1]
      clear e1 e2
      clear hc
      have HM := Lib.hid hm
      clear hm
      obtain ⟨fn, tmps, assign, body, hy, hR⟩ := hY _ (m, at8 l m) wr hJs (by rw [bwd_length]; exact hlt)
      dsimp only at hy
      gi_wp2
      refine hR.mono ?_
      rintro e W3 (⟨rfl, hJ3, hk3⟩ | ⟨rfl, hJx3⟩)
      · gi_wp2
        go_roundw
        case rel => exact ⟨k + 1, by omega, by have := HM.out; congr 1; omega, by rw [HB.out]; exact hJ3, hnx.t hk3⟩
        case measure => simp [intOf]
      · gi_wp2
        refine bodyPost_ret (results_none rfl _ _ _) rfl ?_
        exact ⟨⟨_, rfl⟩, .inr ⟨_, ⟨k + 1, by omega, HB.out.symm⟩, hJx3⟩⟩
    · obtain rfl : k = l.length := by omega
      have e1 : (l.length : Int) - 1 - (l.length : Nat) = -1 := by omega
      rw [e1]
      clear e1
      gi_wp2
      go_end0
      exact ⟨⟨_, rfl⟩, .inl ⟨_, rfl, hJs⟩⟩
set_option maxHeartbeats 1000000 in
/-- slices.Backward(b): the slice value is boxed; the function value captures the box -/
theorem backward_in (n : Nat) (a : Option Addr) (len cap : Nat) (w : World) :
    CallsIn Fence.wide n Tryd.prog 35 #[.slice a len cap] w fun e w' => e = .returned (.func (.func 44) #[] #[.pointer (some ⟨w.heap.size, 0, none⟩)]) ∧ w.alloc (.cells #[.slice a len cap] 23) = w' := by
  refine callsIn_of_wp Tryd.func35 rfl trivial ?_ rfl
  simp only [Tryd.ntmps35, List.size_toArray, List.length_cons, List.length_nil, Nat.reduceAdd, Nat.reduceSub, Array.replicate_succ, Array.replicate_zero, List.push_toArray, List.append_toArray, List.nil_append, List.cons_append]
  gi_wp2
  go_ret
  exact ⟨rfl, rfl⟩
theorem bwd_stops (n : Nat) (hn : 1 ≤ n) (Bs n₀ cap : Nat) (a : Option Addr) (l : List UInt8) (w : World) (hn₀ : n₀ ≤ w.heap.size) (hlen : l.length ≤ 9223372036854775807)
    (hcs : w.heap[Bs]? = some (.cells #[.slice a l.length cap] 23 (0, 0))) (hc : l.length = 0 ∨ ∃ b off, a = some ⟨b, off, none⟩ ∧ b < n₀ ∧ ∀ j, j < l.length → w.cell? ⟨b, off + j, none⟩ = some (.int .u8 (vb (at8 l j)))) :
    SeqStopsK Fence.wide n Tryd.prog 44 #[.pointer (some ⟨Bs, 0, none⟩)] (fun x : Nat × UInt8 => #[Value.int .i64 (x.1 : Int), Value.int .u8 (vb x.2)]) (KpB n₀ Bs) (fun ys => ys = bwd l l.length)
      (fun pre => ∃ k, k ≤ l.length ∧ pre = bwd l k) l.length w := fun lp J Jx W hW _ _ hY h0 => by
  refine bwd_in n hn lp Bs n₀ cap a l hlen J Jx hY W ((hW.block Bs (Array.getElem?_eq_some_iff.1 hcs).1).trans hcs) ?_ h0
  rcases hc with h | ⟨b, off, ha, hb, hc⟩
  · exact .inl h
  · exact .inr ⟨b, off, ha, hb, fun j hj => (hW.cell (p := ⟨b, off + j, none⟩) (by show b < w.heap.size; omega)).trans (hc j hj)⟩
/-- the bytes of a slice, where they lie -/
theorem BytesAt.blocks {w : World} {a : Option Addr} {l : List UInt8} (h : BytesAt w a l) : l.length = 0 ∨ ∃ b off, a = some ⟨b, off, none⟩ ∧ b < w.heap.size ∧ ∀ j, j < l.length → w.cell? ⟨b, off + j, none⟩ = some (.int .u8 (vb (at8 l j))) := by
  rcases h.2 with h | ⟨b, off, ha, hc⟩
  · exact .inl h
  · by_cases h0 : l.length = 0
    · exact .inl h0
    · exact .inr ⟨b, off, ha, block_lt_of_cell (hc 0 (by omega)), hc⟩
end Go.Proofs.YtpmfpbfbfahniaaDoor
