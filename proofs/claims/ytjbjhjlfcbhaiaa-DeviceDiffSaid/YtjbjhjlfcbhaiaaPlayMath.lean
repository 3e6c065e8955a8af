/- Calls in a row; what a walk over them needs. -/
import Derived.Test.YtjbjhjlfcbhaiaaDoAll
import Derived.Test.YtjbjhjlfcbhaiaaRefEnd
namespace Go.Proofs.Ytjbjhjlfcbhaiaa
open Go.RowKit
def runs (l : List CallD) (S : Dv) : Dv := l.foldl (fun S x => x.next S) S
theorem runs_take (l : List CallD) (k : Nat) (x : CallD) (h : l[k]? = some x) (S : Dv) : runs (l.take (k + 1)) S = x.next (runs (l.take k) S) := by
  unfold runs; rw [List.take_add_one, h, Option.toList_some, List.foldl_append]; rfl
theorem small_spec {l : List CallD} (h : smallB l = true) : l.length ≤ 100 ∧ ∀ x ∈ l, x.keep.length ≤ 50 := by
  unfold smallB at h
  simp only [Bool.and_eq_true, List.all_eq_true, decide_eq_true_eq] at h
  exact ⟨h.2, h.1⟩
theorem call_sz (w : World) : (sizeOf 63).run Try.prog w = .ok 5 w := by kernel_rfl
theorem run_index_call (sb o n cap i : Nat) (h : i < n) (w : World) : (Instr.indexAt 52 (.slice (some ⟨sb, o, none⟩) n cap) (.int .i64 (i : Int))).run Try.prog w = .ok (.pointer (some ⟨sb, o + i * 5, none⟩)) w := by
  have h1 : (0 : Int) ≤ i ∧ (i : Int) < n := by omega
  simp only [Instr.indexAt, asIntOf, Sem.run_bind, Sem.run_pure, Result.andThen_ok, run_underlying Try.underlying52, if_pos h1, call_sz, Addr.add_lit, Int.toNat_natCast]
theorem callL_size (x : CallD) : (Try.prog.info? 63).map (·.size) = some (callL x).length := by rw [callL_len]; kernel_rfl
theorem callL_arr (x : CallD) : (callL x).toArray = #[.int .u8 (vb x.what), .int .i64 x.at_, .int .i64 x.n, .int .u8 (vb x.b), x.kv] := rfl
theorem nil_in (w : World) : StIn w Dv.nil (.slice none 0 0) (.slice none 0 0) := ⟨⟨none, 0, rfl, .inl rfl⟩, ⟨none, 0, rfl, .inl rfl⟩, by simp [Dv.nil], by simp [Dv.nil]⟩
theorem RefNewV.has {w W W' : World} {rs : List (Res w.heap.size)} {e : Ending} {m : Nat} (h : Has w W rs) (h1 : 64 ≤ m) (h2 : m ≤ 256) (hr : RefNewV W m e W') :
    ∃ bS kS bC kC, e = .returned (.tuple #[.agg #[.slice bS (Dv.new m).st.length kS, .slice bC (Dv.new m).ca.length kC, .int .i64 (Dv.new m).taken, .int .i64 (Dv.new m).power, .bool (Dv.new m).off], .int .i64 0]) ∧ Has w W' (StR _ (.slice bS (Dv.new m).st.length kS) (.slice bC (Dv.new m).ca.length kC) (Dv.new m) :: rs) := by
  unfold RefNewV at hr
  have h0 : ¬ ((m : Int) < 64 ∨ 256 < (m : Int)) := by omega
  rw [if_neg h0, if_neg h0, Int.toNat_natCast] at hr
  obtain ⟨vS, vC, rfl, h3⟩ := hr
  exact (h.addSt (nil_in w)).stMid [] (NewSt.res (S0 := Dv.nil) h3 (.tail _ (.head _)) (.head _) (by simp [Dv.new]; omega) (by simp [Dv.new]))
theorem save_has {w W : World} {rs : List (Res w.heap.size)} {g : Nat} {S : Dv} (h : Has w W rs) (hr : DevR _ g S ∈ rs) :
    Calls Try.prog 30 #[pv g] W fun e W' => ∃ bS kS bC kC, e = .returned (.agg #[.slice bS S.st.length kS, .slice bC S.ca.length kC, .int .i64 S.taken, .int .i64 S.power, .bool S.off]) ∧ Has w W' (StR _ (.slice bS S.st.length kS) (.slice bC S.ca.length kC) S :: rs) := by
  obtain ⟨F, ⟨vS, vC, mb, hD, rfl⟩, hF⟩ := h.mem hr
  have ok := hD.ok
  refine (dev_save hD).mono ?_
  intro e W' hn
  obtain ⟨uS, uC, rfl, hin, k1, k2, hB⟩ := hn.st (by have := ok.s2; omega) (by have := ok.c1; omega)
  have hres : StRes W Dv.nil (.slice none 0 0) (.slice none 0 0) S 0 (.returned (.tuple #[.agg (stCells uS uC S), .int .i64 0])) W' :=
    ⟨uS, uC, rfl, hin, fun k hk => .inr (by rcases List.mem_append.1 hk with hk | hk; exact k1 k (blksL_sub _ _ k hk); exact k2 k (blksL_sub _ _ k hk)), hB⟩
  obtain ⟨bS, kS, bC, kC, he, h'⟩ := (h.addSt (nil_in w)).stMid [] hres
  injection he with he
  injection he with he
  simp only [Array.mk.injEq, List.cons.injEq, and_true, Value.agg.injEq] at he
  exact ⟨bS, kS, bC, kC, by rw [he], h'⟩
/-- Same of two states of the walk -/
theorem same_has {w W : World} {rs : List (Res w.heap.size)} {S : Dv} {uS uC vS vC : Value} (h : Has w W rs) (h1 : StR _ uS uC S ∈ rs) (h2 : StR _ vS vC S ∈ rs) :
    Calls Try.prog 29 #[.agg #[uS, uC, .int .i64 S.taken, .int .i64 S.power, .bool S.off], .agg #[vS, vC, .int .i64 S.taken, .int .i64 S.power, .bool S.off]] W fun e W' => e = .returned (.bool true) ∧ Has w W' rs :=
  (ref_same (h.st h1) (h.st h2)).mono fun _ _ ⟨he, hB⟩ => ⟨he, h.below hB⟩
theorem do_mid {w W : World} (l1 : List (Res w.heap.size)) {rs : List (Res w.heap.size)} {g : Nat} {S : Dv} {uS uC : Value} (h : Has w W (l1 ++ DevR _ g S :: StR _ uS uC S :: rs)) (x : CallD) (hK : RdL w 1 intL x.kv x.keep) (hlen : x.keep.length ≤ 1000000) :
    Calls Try.prog 28 #[pv g, .agg #[uS, uC, .int .i64 S.taken, .int .i64 S.power, .bool S.off], .agg #[.int .u8 (vb x.what), .int .i64 x.at_, .int .i64 x.n, .int .u8 (vb x.b), x.kv]] W fun e w' => ∃ bS kS bC kC, e = .returned (.tuple #[.agg #[.slice bS (x.next S).st.length kS, .slice bC (x.next S).ca.length kC, .int .i64 (x.next S).taken, .int .i64 (x.next S).power, .bool (x.next S).off], .bool true]) ∧
      Has w w' (l1 ++ DevR _ g (x.next S) :: StR _ (.slice bS (x.next S).st.length kS) (.slice bC (x.next S).ca.length kC) (x.next S) :: rs) := by
  have hp : ∀ (S' : Dv) (p q : Value), (l1 ++ DevR _ g S' :: StR _ p q S' :: rs).Perm (DevR _ g S' :: StR _ p q S' :: (l1 ++ rs)) := fun S' p q =>
    (List.perm_middle (l₁ := l1) (l₂ := StR _ p q S' :: rs)).trans (List.Perm.cons _ (List.perm_middle (l₁ := l1) (l₂ := rs)))
  refine (do_any (h.perm (hp S uS uC)) x hK hlen).mono ?_
  rintro e w' ⟨vS, vC, rfl, h2⟩
  obtain ⟨⟨bS, kS, rfl, _⟩, ⟨bC, kC, rfl, _⟩, _, _⟩ := h2.st (.tail _ (.head _))
  exact ⟨bS, kS, bC, kC, rfl, h2.perm (hp _ _ _).symm⟩
end Go.Proofs.Ytjbjhjlfcbhaiaa
