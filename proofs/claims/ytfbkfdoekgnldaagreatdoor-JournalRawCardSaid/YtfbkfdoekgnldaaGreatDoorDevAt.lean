/- A device in memory, and its calls that only read it. -/
import Derived.Test.YtfbkfdoekgnldaaGreatDoorMapI
import Derived.Test.YtfbkfdoekgnldaaGreatDoorFlat
import Derived.Test.YtfbkfdoekgnldaaGreatDoorDvMath
namespace Go.Proofs.YtfbkfdoekgnldaaGreatDoor
open Go.RowKit
def secL (s : Sector) : List Value := (sec s).toList
def wrL (x : Wr) : List Value := .int .i64 x.1 :: secL x.2
theorem secL_len (s : Sector) : (secL s).length = 128 := by simp [secL, sec_size]
theorem wrL_len (x : Wr) : (wrL x).length = 129 := by simp [wrL, secL_len]
def devCells (vS vC : Value) (S : Dv) (mb : Nat) : Array Value := #[vS, vC, .int .i64 S.taken, .int .i64 S.power, .bool S.off, .map (some mb)]
/-- where the newest writes lead -/
def newM (ca : List Wr) (k : Int) : Option Int := (newest ca k).map fun i => (i : Int)
abbrev OwnS (W : World) (v : Value) (l : List Sector) : Prop := OwnL W 53 128 secL v l
abbrev OwnC (W : World) (v : Value) (l : List Wr) : Prop := OwnL W 87 129 wrL v l
/-- the parts of a device -/
structure DevIn (W : World) (g : Nat) (S : Dv) (vS vC : Value) (mb : Nat) : Prop where
  hg : W.heap[g]? = some (.cells (devCells vS vC S mb) 90 (0, 0))
  hS : OwnS W vS S.st
  hC : OwnC W vC S.ca
  hM : MapI W mb S.ca.length (newM S.ca)
  ok : S.Ok
/-- a device that this package made, in a state; its blocks -/
def DevAt (W : World) (g : Nat) (S : Dv) (F : List Nat) : Prop := ∃ vS vC mb, DevIn W g S vS vC mb ∧ F = g :: mb :: (blks vS ++ blks vC)
theorem DevIn.stay {W W' : World} {g mb : Nat} {S : Dv} {vS vC : Value} (h : DevIn W g S vS vC mb) (hs : ∀ k ∈ g :: mb :: (blks vS ++ blks vC), W'.heap[k]? = W.heap[k]?) : DevIn W' g S vS vC mb :=
  ⟨(hs g (by simp)).trans h.hg, h.hS.stay (fun k hk => hs k (by simp [hk])), h.hC.stay (fun k hk => hs k (by simp [hk])), h.hM.stay (hs mb (by simp)), h.ok⟩
theorem DevIn.lt {W : World} {g mb : Nat} {S : Dv} {vS vC : Value} (h : DevIn W g S vS vC mb) : ∀ k ∈ g :: mb :: (blks vS ++ blks vC), k < W.heap.size := by
  intro k hk
  simp only [List.mem_cons, List.mem_append] at hk
  rcases hk with rfl | rfl | hk | hk
  · exact (Array.getElem?_eq_some_iff.1 h.hg).1
  · exact h.hM.lt
  · exact h.hS.lt k hk
  · exact h.hC.lt k hk
def DevR (B g : Nat) (S : Dv) : Res B where
  P W F := DevAt W g S F
  lt W F h := by obtain ⟨vS, vC, mb, h, rfl⟩ := h; exact h.lt
  stay W W' F h _ h1 := by obtain ⟨vS, vC, mb, h, rfl⟩ := h; exact ⟨vS, vC, mb, h.stay h1, rfl⟩
theorem OwnL.typed {α : Type} {c : α → List Value} {m : Nat} {W : World} {e : TypeId} {v : Value} {l : List α} (h : OwnL W e m c v l) : ∀ k ∈ blks v, ∃ cur, W.heap[k]? = some (.cells cur e (0, 0)) := by
  rcases h.cases with ⟨rfl, _⟩ | ⟨g, cap, cur, rfl, hc, _, _, _, _, h6⟩
  · intro k hk; simp [blks, Value.ownBlock] at hk
  · intro k hk; rw [h6] at hk; simp at hk; subst hk; exact ⟨cur, hc⟩
/-- the blocks of a device are apart -/
theorem DevIn.apart {W : World} {g mb : Nat} {S : Dv} {vS vC : Value} (h : DevIn W g S vS vC mb) : g ≠ mb ∧ g ∉ blks vS ∧ g ∉ blks vC ∧ mb ∉ blks vS ∧ mb ∉ blks vC ∧ ∀ k ∈ blks vS, k ∉ blks vC := by
  have hmap : ∃ es clock, W.heap[mb]? = some (.map es clock) := by
    obtain ⟨D, ⟨es, clock, hb, _⟩, _⟩ := h.hM; exact ⟨es, clock, hb⟩
  obtain ⟨es, clock, hb⟩ := hmap
  have t1 := h.hS.typed
  have t2 := h.hC.typed
  have hg := h.hg
  refine ⟨?_, ?_, ?_, ?_, ?_, ?_⟩
  · rintro rfl; rw [hb] at hg; cases hg
  · intro hk; obtain ⟨cur, hc⟩ := t1 _ hk; rw [hg] at hc; injection hc with hc; injection hc with _ hc _; exact absurd hc (by decide)
  · intro hk; obtain ⟨cur, hc⟩ := t2 _ hk; rw [hg] at hc; injection hc with hc; injection hc with _ hc _; exact absurd hc (by decide)
  · intro hk; obtain ⟨cur, hc⟩ := t1 _ hk; rw [hb] at hc; cases hc
  · intro hk; obtain ⟨cur, hc⟩ := t2 _ hk; rw [hb] at hc; cases hc
  · intro k hk hk'; obtain ⟨cur, hc⟩ := t1 _ hk; obtain ⟨cur', hc'⟩ := t2 _ hk'; rw [hc] at hc'; injection hc' with hc'; injection hc' with _ hc' _; exact absurd hc' (by decide)
theorem DevIn.cell {W : World} {g mb : Nat} {S : Dv} {vS vC : Value} (h : DevIn W g S vS vC mb) (i : Nat) (v : Value) (hv : (devCells vS vC S mb)[i]? = some v) : W.cell? ⟨g, i, none⟩ = some v := (cell_of_row W g i _ _ _ h.hg).trans hv
theorem DevIn.frozen {W : World} {g mb : Nat} {S : Dv} {vS vC : Value} (h : DevIn W g S vS vC mb) (i : Nat) : W.frozen? ⟨g, i, none⟩ = false := frozen_of_row W g i _ _ h.hg
theorem DevIn.c0 {W : World} {g mb : Nat} {S : Dv} {vS vC : Value} (h : DevIn W g S vS vC mb) : W.cell? ⟨g, 0, none⟩ = some (vS) := h.cell 0 _ rfl
theorem DevIn.c1 {W : World} {g mb : Nat} {S : Dv} {vS vC : Value} (h : DevIn W g S vS vC mb) : W.cell? ⟨g, 1, none⟩ = some (vC) := h.cell 1 _ rfl
theorem DevIn.c2 {W : World} {g mb : Nat} {S : Dv} {vS vC : Value} (h : DevIn W g S vS vC mb) : W.cell? ⟨g, 2, none⟩ = some (.int .i64 S.taken) := h.cell 2 _ rfl
theorem DevIn.c3 {W : World} {g mb : Nat} {S : Dv} {vS vC : Value} (h : DevIn W g S vS vC mb) : W.cell? ⟨g, 3, none⟩ = some (.int .i64 S.power) := h.cell 3 _ rfl
theorem DevIn.c4 {W : World} {g mb : Nat} {S : Dv} {vS vC : Value} (h : DevIn W g S vS vC mb) : W.cell? ⟨g, 4, none⟩ = some (.bool S.off) := h.cell 4 _ rfl
theorem DevIn.c5 {W : World} {g mb : Nat} {S : Dv} {vS vC : Value} (h : DevIn W g S vS vC mb) : W.cell? ⟨g, 5, none⟩ = some (.map (some mb)) := h.cell 5 _ rfl
/-! ### an element's address -/
theorem sec_sz (w : World) : (sizeOf 53).run Tryz.prog w = .ok 128 w := by kernel_rfl
theorem wr_sz (w : World) : (sizeOf 87).run Tryz.prog w = .ok 129 w := by kernel_rfl
theorem run_index_sec (sb n cap i : Nat) (h : i < n) (w : World) : (Instr.indexAt 31 (.slice (some ⟨sb, 0, none⟩) n cap) (.int .i64 (i : Int))).run Tryz.prog w = .ok (.pointer (some ⟨sb, i * 128, none⟩)) w := by
  have h1 : (0 : Int) ≤ i ∧ (i : Int) < n := by omega
  simp only [Instr.indexAt, asIntOf, Sem.run_bind, Sem.run_pure, Result.andThen_ok, run_underlying Tryz.underlying31, if_pos h1, sec_sz, Addr.add_lit, Nat.zero_add, Int.toNat_natCast]
theorem run_index_sec' (sb o n cap i : Nat) (h : i < n) (w : World) : (Instr.indexAt 31 (.slice (some ⟨sb, o, none⟩) n cap) (.int .i64 (i : Int))).run Tryz.prog w = .ok (.pointer (some ⟨sb, o + i * 128, none⟩)) w := by
  have h1 : (0 : Int) ≤ i ∧ (i : Int) < n := by omega
  simp only [Instr.indexAt, asIntOf, Sem.run_bind, Sem.run_pure, Result.andThen_ok, run_underlying Tryz.underlying31, if_pos h1, sec_sz, Addr.add_lit, Int.toNat_natCast]
theorem run_index_wr' (sb o n cap i : Nat) (h : i < n) (w : World) : (Instr.indexAt 32 (.slice (some ⟨sb, o, none⟩) n cap) (.int .i64 (i : Int))).run Tryz.prog w = .ok (.pointer (some ⟨sb, o + i * 129, none⟩)) w := by
  have h1 : (0 : Int) ≤ i ∧ (i : Int) < n := by omega
  simp only [Instr.indexAt, asIntOf, Sem.run_bind, Sem.run_pure, Result.andThen_ok, run_underlying Tryz.underlying32, if_pos h1, wr_sz, Addr.add_lit, Int.toNat_natCast]
theorem run_index_wr (sb n cap i : Nat) (h : i < n) (w : World) : (Instr.indexAt 32 (.slice (some ⟨sb, 0, none⟩) n cap) (.int .i64 (i : Int))).run Tryz.prog w = .ok (.pointer (some ⟨sb, i * 129, none⟩)) w := by
  have h1 : (0 : Int) ≤ i ∧ (i : Int) < n := by omega
  simp only [Instr.indexAt, asIntOf, Sem.run_bind, Sem.run_pure, Result.andThen_ok, run_underlying Tryz.underlying32, if_pos h1, wr_sz, Addr.add_lit, Nat.zero_add, Int.toNat_natCast]
end Go.Proofs.YtfbkfdoekgnldaaGreatDoor
