/- Transactions and their troubles in a walk. -/
import Derived.Test.YtfbkfdoekgnldaaDoorOpenWork
import Derived.Test.YtfbkfdoekgnldaaDoorJnComB
namespace Go.Proofs.YtfbkfdoekgnldaaDoor
open Go.RowKit
open Lime
abbrev WorksR (B : Nat) (v : Value) (l : List WorkD) : Res B := RdR B 2 workL v l
abbrev TrR (B : Nat) (v : Value) (l : List (UInt8 × Int)) : Res B := RdR B 2 trL v l
theorem Has.rdCell {w W : World} {rs : List (Res w.heap.size)} {α : Type} {c : α → List Value} {m : Nat} (h : Has w W rs) (hm : ∀ x, (c x).length = m) {b o n cap : Nat} {l : List α} (hr : RdR _ m c (.slice (some ⟨b, o, none⟩) n cap) l ∈ rs)
    (i : Nat) (x : α) (hx : l[i]? = some x) (j : Nat) (v : Value) (hv : (c x)[j]? = some v) : W.cell? ⟨b, o + i * m + j, none⟩ = some v := by
  obtain ⟨b', o', cap', e, r⟩ := (h.rd hr).elem hm i x hx
  injection e with e1 _ _
  injection e1 with e1
  injection e1 with e1 e2
  subst e1 e2
  exact r j v hv
theorem RdL.addr {α : Type} {c : α → List Value} {m : Nat} {W : World} {a : Option Addr} {n cap : Nat} {l : List α} (h : RdL W m c (.slice a n cap) l) (hm : ∀ x, (c x).length = m) (h0 : 0 < l.length) : ∃ b o, a = some ⟨b, o, none⟩ := by
  obtain ⟨b, o, cap', e, _⟩ := h.elem hm 0 l[0] (List.getElem?_eq_getElem h0)
  injection e with e
  exact ⟨b, o, e⟩
theorem run_index_work (sb o n cap i : Nat) (h : i < n) (w : World) : (Instr.indexAt 51 (.slice (some ⟨sb, o, none⟩) n cap) (.int .i64 (i : Int))).run Tryd.prog w = .ok (.pointer (some ⟨sb, o + i * 2, none⟩)) w := by
  have h1 : (0 : Int) ≤ i ∧ (i : Int) < n := by omega
  have hz : (sizeOf 56).run Tryd.prog w = .ok 2 w := by kernel_rfl
  simp only [Instr.indexAt, asIntOf, Sem.run_bind, Sem.run_pure, Result.andThen_ok, run_underlying Tryd.underlying51, if_pos h1, hz, Addr.add_lit, Int.toNat_natCast]
theorem run_index_tr (sb o n cap i : Nat) (h : i < n) (w : World) : (Instr.indexAt 54 (.slice (some ⟨sb, o, none⟩) n cap) (.int .i64 (i : Int))).run Tryd.prog w = .ok (.pointer (some ⟨sb, o + i * 2, none⟩)) w := by
  have h1 : (0 : Int) ≤ i ∧ (i : Int) < n := by omega
  have hz : (sizeOf 25).run Tryd.prog w = .ok 2 w := by kernel_rfl
  simp only [Instr.indexAt, asIntOf, Sem.run_bind, Sem.run_pure, Result.andThen_ok, run_underlying Tryd.underlying54, if_pos h1, hz, Addr.add_lit, Int.toNat_natCast]
theorem run_index_tr0 (sb o n cap : Nat) (h : 0 < n) (w : World) : (Instr.indexAt 54 (.slice (some ⟨sb, o, none⟩) n cap) (.int .i64 0)).run Tryd.prog w = .ok (.pointer (some ⟨sb, o, none⟩)) w := by
  have := run_index_tr sb o n cap 0 h w
  simpa using this
theorem limit_at9 {w W : World} (l1 : List (Res w.heap.size)) {l2 : List (Res w.heap.size)} {g : Nat} {S : Dv} (h : Has w W (l1 ++ DevR _ g S :: l2)) (n : Int) :
    Calls Tryd.prog 11 #[pv g, .int .i64 n] W fun e w' => e = .returned (.int .i64 (limitE n)) ∧ Has w w' (l1 ++ DevR _ g (S.limit n) :: l2) :=
  (limit_has (h.perm List.perm_middle) n).mono fun _ _ ⟨he, h'⟩ => ⟨he, h'.perm List.perm_middle.symm⟩
/-- a crash that keeps a list that the walk made -/
theorem crash_own {w W : World} {rs : List (Res w.heap.size)} {g : Nat} {S : Dv} {v : Value} {keep : List Int} (h : Has w W (OwnR _ 3 1 intL v keep :: DevR _ g S :: rs)) (hl : keep.length ≤ 1000000) :
    Calls Tryd.prog 14 #[pv g, v] W fun e w' => e = .returned (.int .i64 (S.crashE keep)) ∧ Has w w' (OwnR _ 3 1 intL v keep :: DevR _ g (S.crash keep) :: rs) := by
  have h2 := h.perm (List.Perm.swap _ _ _)
  refine (crash_has h2 v keep (h.ownRd (.head _)).rd hl (fun k hk => .inr ⟨OwnR _ 3 1 intL v keep, .head _, fun F2 hF => by obtain ⟨_, rfl⟩ := hF; exact hk⟩)).mono ?_
  rintro e w' ⟨he, h'⟩
  exact ⟨he, h'.perm (List.Perm.swap _ _ _)⟩
theorem mod40 (b : UInt8) : ∃ n : Nat, n = b.toNat % 40 ∧ n < 40 ∧ (vb b).tmod 40 = (n : Int) ∧ IntKind.u8.wrap (n : Int) = (n : Int) ∧ wrap64 (n : Int) = (n : Int) ∧ limitE (n : Int) = 0 := by
  refine ⟨_, rfl, Nat.mod_lt _ (by decide), ?_, ?_, ?_, ?_⟩
  · rw [Int.tmod_eq_emod_of_nonneg (vb_nonneg b)]; unfold vb; norm_cast
  · rw [IntKind.wrap_u8]; omega
  · unfold wrap64; omega
  · unfold limitE; rw [if_neg (by omega)]
theorem vu_q32 {m : Nat} (h : m < 4294967296) : vu (q32 m) = (m : Int) := by unfold vu; rw [q32_toNat h]
end Go.Proofs.YtfbkfdoekgnldaaDoor
