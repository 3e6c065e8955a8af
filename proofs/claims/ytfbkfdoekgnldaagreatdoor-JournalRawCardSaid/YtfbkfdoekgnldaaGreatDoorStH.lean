/- The reference's state among what a walk owns: its calls. -/
import Derived.Test.YtfbkfdoekgnldaaGreatDoorStEnd
import Derived.Test.YtfbkfdoekgnldaaGreatDoorRefWr2
import Derived.Test.YtfbkfdoekgnldaaGreatDoorOrdT
namespace Go.Proofs.YtfbkfdoekgnldaaGreatDoor
open Go.RowKit
theorem Has.stMid {w W W' : World} (l1 : List (Res w.heap.size)) {l2 : List (Res w.heap.size)} {S S' : Dv} {uS uC : Value} {code : Int} {e : Ending} (h : Has w W (l1 ++ StR _ uS uC S :: l2)) (hr : StRes W S uS uC S' code e W') :
    ∃ bS kS bC kC, e = .returned (.tuple #[.agg #[.slice bS S'.st.length kS, .slice bC S'.ca.length kC, .int .i64 S'.taken, .int .i64 S'.power, .bool S'.off], .int .i64 code]) ∧ Has w W' (l1 ++ StR _ (.slice bS S'.st.length kS) (.slice bC S'.ca.length kC) S' :: l2) := by
  obtain ⟨vS, vC, rfl, h2⟩ := (h.perm List.perm_middle).stRes hr
  obtain ⟨⟨bS, kS, rfl, _⟩, ⟨bC, kC, rfl, _⟩, _, _⟩ := h2.st (.head _)
  exact ⟨bS, kS, bC, kC, rfl, h2.perm List.perm_middle.symm⟩
/-- the state's cells -/
def stL (uS uC : Value) (S : Dv) : List Value := [uS, uC, .int .i64 S.taken, .int .i64 S.power, .bool S.off]
theorem stL_len (uS uC : Value) (S : Dv) : (stL uS uC S).length = 5 := rfl
theorem stL_size (uS uC : Value) (S : Dv) : (Tryz.prog.info? 34).map (·.size) = some (stL uS uC S).length := st_size
theorem stL_arr (uS uC : Value) (S : Dv) : (stL uS uC S).toArray = #[uS, uC, .int .i64 S.taken, .int .i64 S.power, .bool S.off] := rfl
theorem st_row {W : World} {b : Nat} {uS uC : Value} {S : Dv} {t : TypeId} (h : W.heap[b]? = some (.cells #[uS, uC, .int .i64 S.taken, .int .i64 S.power, .bool S.off] t (0, 0))) : W.rangeAt b 0 (stL uS uC S) :=
  rangeAt_row h (stL uS uC S) 0 (fun j v hv => by rw [Nat.zero_add]; simpa [stL] using hv)
theorem wp_region_ordZ {P : Program} {Q : Exit → Act → World → Prop} {id : Nat} {a : Act} {w : World} {l : List Oper} (S : World → Prop) (t : OrdT) (hm : P.follows .mixedOrders = true)
    (hs : (Region.noSelect l.toArray && ordT .any l.toArray (t.lst l.length) t (Array.replicate l.length false) && decide (t.size ≤ l.length)) = true) (hS : S w.drew) (h : ∀ wz, wz = w.drew → wpT P l.toArray S (NoPanic Q) t a wz) : (Code.region id l.toArray true).wp P Q a w :=
  wp_region_ordT S t hm hs hS (h _ rfl)
theorem nil_in (w : World) : StIn w Dv.nil (.slice none 0 0) (.slice none 0 0) := ⟨⟨none, 0, rfl, .inl rfl⟩, ⟨none, 0, rfl, .inl rfl⟩, by simp [Dv.nil], by simp [Dv.nil]⟩
theorem RefNewV.has {w W W' : World} {rs : List (Res w.heap.size)} {e : Ending} {m : Nat} (h : Has w W rs) (h1 : 64 ≤ m) (h2 : m ≤ 256) (hr : RefNewV W m e W') :
    ∃ bS kS bC kC, e = .returned (.tuple #[.agg #[.slice bS (Dv.new m).st.length kS, .slice bC (Dv.new m).ca.length kC, .int .i64 (Dv.new m).taken, .int .i64 (Dv.new m).power, .bool (Dv.new m).off], .int .i64 0]) ∧ Has w W' (StR _ (.slice bS (Dv.new m).st.length kS) (.slice bC (Dv.new m).ca.length kC) (Dv.new m) :: rs) := by
  unfold RefNewV at hr
  have h0 : ¬ ((m : Int) < 64 ∨ 256 < (m : Int)) := by omega
  rw [if_neg h0, if_neg h0, Int.toNat_natCast] at hr
  obtain ⟨vS, vC, rfl, h3⟩ := hr
  exact (h.addSt (nil_in w)).stMid [] (NewSt.res (S0 := Dv.nil) h3 (.tail _ (.head _)) (.head _) (by simp [Dv.new]; omega) (by simp [Dv.new]))
theorem save_has {w W : World} {rs : List (Res w.heap.size)} {g : Nat} {S : Dv} (h : Has w W rs) (hr : DevR _ g S ∈ rs) :
    Calls Tryz.prog 11 #[pv g] W fun e W' => ∃ bS kS bC kC, e = .returned (.agg #[.slice bS S.st.length kS, .slice bC S.ca.length kC, .int .i64 S.taken, .int .i64 S.power, .bool S.off]) ∧ Has w W' (StR _ (.slice bS S.st.length kS) (.slice bC S.ca.length kC) S :: rs) := by
  obtain ⟨F, ⟨vS, vC, mb, hD, rfl⟩, hF⟩ := h.mem hr
  have ok := hD.ok
  refine (dev_save hD).mono ?_
  intro e W' hn
  obtain ⟨uS, uC, rfl, hin, k1, k2, hB⟩ := hn.st (by have := ok.s2; omega) (by have := ok.c1; omega)
  have hres : StRes W Dv.nil (.slice none 0 0) (.slice none 0 0) S 0 (.returned (.tuple #[.agg (stCells uS uC S), .int .i64 0])) W' :=
    ⟨uS, uC, rfl, hin, fun k hk => .inr (by rcases List.mem_append.1 hk with hk | hk; exact k1 k (blksL_sub _ _ k hk); exact k2 k (blksL_sub _ _ k hk)), hB⟩
  obtain ⟨bS, kS, bC, kC, he, h'⟩ := (h.addSt (nil_in w)).stMid [] hres
  injection he with he
  injection he with he
  simp only [Array.mk.injEq, List.cons.injEq, and_true, Value.agg.injEq] at he
  exact ⟨bS, kS, bC, kC, by rw [he], h'⟩
/-- Same of two states of the walk -/
theorem same_has {w W : World} {rs : List (Res w.heap.size)} {S : Dv} {uS uC vS vC : Value} (h : Has w W rs) (h1 : StR _ uS uC S ∈ rs) (h2 : StR _ vS vC S ∈ rs) :
    Calls Tryz.prog 10 #[.agg #[uS, uC, .int .i64 S.taken, .int .i64 S.power, .bool S.off], .agg #[vS, vC, .int .i64 S.taken, .int .i64 S.power, .bool S.off]] W fun e W' => e = .returned (.bool true) ∧ Has w W' rs :=
  (ref_same (h.st h1) (h.st h2)).mono fun _ _ ⟨he, hB⟩ => ⟨he, h.below hB⟩
theorem copy_has {w W : World} {rs : List (Res w.heap.size)} {S : Dv} {uS uC : Value} (h : Has w W rs) (hr : StR _ uS uC S ∈ rs) :
    Calls Tryz.prog 79 #[.agg #[uS, uC, .int .i64 S.taken, .int .i64 S.power, .bool S.off]] W fun e W' => ∃ bS kS bC kC, e = .returned (.agg #[.slice bS S.st.length kS, .slice bC S.ca.length kC, .int .i64 S.taken, .int .i64 S.power, .bool S.off]) ∧ Has w W' (StR _ (.slice bS S.st.length kS) (.slice bC S.ca.length kC) S :: rs) := by
  have hin := h.st hr
  refine (ref_copy hin).mono ?_
  intro e W' hn
  obtain ⟨vS, vC, rfl, hin2, k1, k2, hB⟩ := hn.st hin.l1 hin.l2
  have hres : StRes W Dv.nil (.slice none 0 0) (.slice none 0 0) S 0 (.returned (.tuple #[.agg (stCells vS vC S), .int .i64 0])) W' :=
    ⟨vS, vC, rfl, hin2, fun k hk => .inr (by rcases List.mem_append.1 hk with hk | hk; exact k1 k (blksL_sub _ _ k hk); exact k2 k (blksL_sub _ _ k hk)), hB⟩
  obtain ⟨bS, kS, bC, kC, he, h'⟩ := (h.addSt (nil_in w)).stMid [] hres
  injection he with he
  injection he with he
  simp only [Array.mk.injEq, List.cons.injEq, and_true, Value.agg.injEq] at he
  exact ⟨bS, kS, bC, kC, by rw [he], h'⟩
end Go.Proofs.YtfbkfdoekgnldaaGreatDoor
