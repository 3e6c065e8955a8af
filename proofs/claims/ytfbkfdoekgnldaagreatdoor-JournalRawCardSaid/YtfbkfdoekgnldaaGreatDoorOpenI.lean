/- What Open returns, at whatever place. -/
import Derived.Test.YtfbkfdoekgnldaaGreatDoorFrMath
namespace Go.Proofs.YtfbkfdoekgnldaaGreatDoor
open Go.RowKit
open Lime
/-- what Open returns, at whatever place -/
def openVI (p : Int) (s : Sector) : Value := if 0 ≤ p ∧ p < 256 then openV p.toNat s else .tuple #[frV 0 0#32 ByteArray.empty, .int .i64 7]
theorem open_int_any (p : Int) (s : Sector) (w : World) (hh : HalfLaid w) :
    Calls Tryz.prog 53 #[.int .i64 p, .agg (sec s)] w fun e w' => e = .returned (openVI p s) ∧ Below w.heap.size w w' := by
  unfold openVI
  by_cases h : 0 ≤ p ∧ p < 256
  · rw [if_pos h]
    have := open_any p.toNat s w (by omega) hh
    rwa [show ((p.toNat : Nat) : Int) = p by omega] at this
  · rw [if_neg h]; exact open_range p s w (by omega)
theorem openV_shape0 (p : Nat) (s : Sector) : ∃ (fk : Int) (fq : BitVec 32) (fd : ByteArray), openV p s = .tuple #[.agg #[.int .i64 fk, .int .u32 (vu fq), .string fd], .int .i64 (openCode p s)] := by
  by_cases h : openCode p s = 0
  · exact ⟨vb (sat s 1), getN s 4, frData s, by rw [openV, if_pos h]; rfl⟩
  · exact ⟨0, 0#32, ByteArray.empty, by rw [openV, if_neg h]; rfl⟩
theorem openVI_shape (p : Int) (s : Sector) : ∃ (fk : Int) (fq : BitVec 32) (fd : ByteArray) (c : Int), openVI p s = .tuple #[.agg #[.int .i64 fk, .int .u32 (vu fq), .string fd], .int .i64 c] := by
  unfold openVI
  split
  · obtain ⟨fk, fq, fd, h⟩ := openV_shape0 p.toNat s
    exact ⟨fk, fq, fd, _, h⟩
  · exact ⟨0, 0#32, ByteArray.empty, 7, rfl⟩
theorem wpList_build_fr0 {ops : Array Oper} {rest : List Oper} {o : Oper} {a : Act} {w : World} {Q : Exit → Act → World → Prop} (hgd : o.guard = none) (ho : o.op = .build 49 #[])
    (h : wpList Tryz.prog ops Q rest (a.put o.dst (.agg #[.int .i64 0, .int .u32 0, .string ⟨#[]⟩])) w) : wpList Tryz.prog ops Q (o :: rest) a w :=
  wpList_plain hgd fun _ hK => by
    have hr : (Instr.build 49 #[]).run Tryz.prog w = .ok (.agg #[.int .i64 0, .int .u32 0, .string ⟨#[]⟩]) w := by kernel_rfl
    unfold Oper.wp execOp
    simp only [ho, Sem.run_bind, List.map_toArray, List.map_nil, hr, Result.andThen_ok, Sem.run_pure]
    exact hK _ _ h
end Go.Proofs.YtfbkfdoekgnldaaGreatDoor
