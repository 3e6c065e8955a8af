/- A device's calls, wherever the device stands in the list of what a walk owns. -/
import Derived.Test.YtjbjhjlfcbhaiaaDevDiff
import Derived.Test.YtjbjhjlfcbhaiaaCopyL
import Derived.Test.YtjbjhjlfcbhaiaaPutMath
namespace Go.Proofs.Ytjbjhjlfcbhaiaa
open Go.RowKit
section
variable {w W : World} {g : Nat} {S : Dv} (l1 : List (Res w.heap.size)) {l2 : List (Res w.heap.size)}
theorem write_mid (h : Has w W (l1 ++ DevR _ g S :: l2)) (n : Int) (x : Sector) :
    Calls Try.prog 21 #[pv g, .int .i64 n, .agg (sec x)] W fun e w' => e = .returned (.int .i64 (S.writeE n)) ∧ Has w w' (l1 ++ DevR _ g (S.write n x) :: l2) :=
  (write_has (h.perm List.perm_middle) n x).mono fun _ _ ⟨he, h'⟩ => ⟨he, h'.perm List.perm_middle.symm⟩
theorem flush_mid (h : Has w W (l1 ++ DevR _ g S :: l2)) :
    Calls Try.prog 19 #[pv g] W fun e w' => e = .returned (.int .i64 S.flushE) ∧ Has w w' (l1 ++ DevR _ g S.flush :: l2) :=
  (flush_has (h.perm List.perm_middle)).mono fun _ _ ⟨he, h'⟩ => ⟨he, h'.perm List.perm_middle.symm⟩
theorem limit_mid (h : Has w W (l1 ++ DevR _ g S :: l2)) (n : Int) :
    Calls Try.prog 24 #[pv g, .int .i64 n] W fun e w' => e = .returned (.int .i64 (limitE n)) ∧ Has w w' (l1 ++ DevR _ g (S.limit n) :: l2) :=
  (limit_has (h.perm List.perm_middle) n).mono fun _ _ ⟨he, h'⟩ => ⟨he, h'.perm List.perm_middle.symm⟩
theorem crash_own (h : Has w W (l1 ++ DevR _ g S :: l2)) (v : Value) (keep : List Int) (hv : OwnR _ 3 1 intL v keep ∈ l1 ++ l2) (hl : keep.length ≤ 1000000) :
    Calls Try.prog 16 #[pv g, v] W fun e w' => e = .returned (.int .i64 (S.crashE keep)) ∧ Has w w' (l1 ++ DevR _ g (S.crash keep) :: l2) := by
  have h0 := h.perm List.perm_middle
  have hO := h0.ownRd (.tail _ hv)
  exact (crash_has h0 v keep hO.rd hl (fun k hk => .inr ⟨_, hv, fun F2 hF2 => by rw [hF2.2]; exact hk⟩)).mono fun _ _ ⟨he, h'⟩ => ⟨he, h'.perm List.perm_middle.symm⟩
theorem crash_nil (h : Has w W (l1 ++ DevR _ g S :: l2)) :
    Calls Try.prog 16 #[pv g, .slice none 0 0] W fun e w' => e = .returned (.int .i64 0) ∧ Has w w' (l1 ++ DevR _ g { st := S.st, ca := [], taken := S.taken, power := -1, off := false } :: l2) := by
  have h0 := h.perm List.perm_middle
  exact (crash_has h0 (.slice none 0 0) [] ⟨none, 0, rfl, .inl rfl⟩ (by simp) (fun k hk => by simp [blks, Value.ownBlock] at hk)).mono fun _ _ ⟨he, h'⟩ => ⟨he, h'.perm List.perm_middle.symm⟩
theorem put_mid (h : Has w W (l1 ++ DevR _ g S :: l2)) (v : Value) (l : List PutV) (hv : RdL w 3 putL v l) (hl : l.length ≤ 100000) (hS : S.Roomy l.length) :
    Calls Try.prog 13 #[pv g, v] W fun e w' => e = .returned (.bool true) ∧ Has w w' (l1 ++ DevR _ g (S.puts l) :: l2) :=
  (put_any (h.perm List.perm_middle) v l hv hl hS).mono fun _ _ ⟨he, h'⟩ => ⟨he, h'.perm List.perm_middle.symm⟩
theorem put_own (h : Has w W (l1 ++ DevR _ g S :: l2)) (v : Value) (l : List PutV) (hv : OwnR _ 34 3 putL v l ∈ l1 ++ l2) (hl : l.length ≤ 100000) (hS : S.Roomy l.length) :
    Calls Try.prog 13 #[pv g, v] W fun e w' => e = .returned (.bool true) ∧ Has w w' (l1 ++ DevR _ g (S.puts l) :: l2) :=
  (put_gen (h.perm List.perm_middle) v l (fun _ _ h' => (h'.ownRd (.tail _ hv)).rd) hl hS).mono fun _ _ ⟨he, h'⟩ => ⟨he, h'.perm List.perm_middle.symm⟩
end
/-- Diff of two devices that read alike -/
theorem diff_none {w W : World} {rs : List (Res w.heap.size)} {g g2 : Nat} {S T : Dv} (h : Has w W rs) (h1 : DevR _ g S ∈ rs) (h2 : DevR _ g2 T ∈ rs) (hl : S.st.length = T.st.length) (he : ∀ i : Nat, S.look i = T.look i) :
    Calls Try.prog 20 #[pv g, pv g2] W fun e w' => (∃ a cap, e = .returned (.tuple #[.slice a 0 cap, .int .i64 0])) ∧ Has w w' rs := by
  refine (diff_has h h1 h2 hl).mono ?_
  rintro e w' ⟨v, rfl, h'⟩
  rw [diffK_nil S T _ (fun i _ => he i)] at h'
  obtain ⟨a, cap, hv, _⟩ := (h'.ownRd (.head _)).shape
  exact ⟨⟨a, cap, by rw [hv]; rfl⟩, h'.drop⟩
/-- a device whose cache is empty -/
def bsD (X : List Sector) (t : Int) : Dv := { st := X, ca := [], taken := t, power := -1, off := false }
/-- the same behind writes -/
def bcD (X : List Sector) (t : Int) (m : List PutV) : Dv := { st := X, ca := wrs m, taken := t + m.length, power := -1, off := false }
theorem bsD_roomy {X : List Sector} {t : Int} {n : Nat} (hX : X.length = 64) (ht : t < 1000) (hn : n ≤ 300) : (bsD X t).Roomy n := ⟨rfl, by simp [bsD], by simp [bsD]; omega, by simp [bsD]; omega, hX⟩
theorem bsD_puts (X : List Sector) (t : Int) (m : List PutV) (hm : ∀ p ∈ m, p.fl = false) : (bsD X t).puts m = bcD X t m := by
  revert hm
  refine rev_ind (P := fun m => (∀ p ∈ m, p.fl = false) → (bsD X t).puts m = bcD X t m) ?_ ?_ m
  · intro _; simp [Dv.puts, bsD, bcD, wrs]
  · intro m p ih hm
    rw [Dv.puts_snoc, ih (fun q hq => hm q (by simp [hq]))]
    have hp := hm p (by simp)
    unfold Dv.put1
    rw [hp, if_neg (by simp)]
    simp only [Dv.push, bcD, wrs_snoc, List.length_append, List.length_singleton, Dv.mk.injEq, true_and]
    exact ⟨by omega, by simp⟩
theorem bcD_flush (X : List Sector) (t : Int) (m : List PutV) : (bcD X t m).flush = bsD (flushL X (wrs m)) (t + m.length) := rfl
theorem bcD_crashE (X : List Sector) (t : Int) (m : List PutV) : (bcD X t m).crashE ((List.range m.length).map Int.ofNat) = 0 := by
  unfold Dv.crashE
  rw [if_neg, if_pos]
  · rw [risesI_iff]
    intro i hi
    simp at hi
    simp [List.getD_eq_getElem?_getD, hi, show i < m.length by omega]
    omega
  · rw [List.any_eq_true]
    rintro ⟨x, hx, ho⟩
    simp only [List.mem_map, List.mem_range] at hx
    obtain ⟨i, hi, rfl⟩ := hx
    simp [Dv.odd, bcD, wrs] at ho
    omega
theorem map_getD (ca : List Wr) : ((List.range ca.length).map Int.ofNat).map (fun i => ca.getD i.toNat (0, zsec)) = ca := by
  apply List.ext_getElem
  · simp
  · intro i h1 h2
    simp [List.getD_eq_getElem?_getD, h2]
theorem bcD_crash (X : List Sector) (t : Int) (m : List PutV) : (bcD X t m).crash ((List.range m.length).map Int.ofNat) = bsD (flushL X (wrs m)) (t + m.length) := by
  unfold Dv.crash
  rw [if_pos (bcD_crashE X t m)]
  have hl : m.length = (wrs m).length := by simp [wrs]
  unfold Dv.keepL
  show ({ st := flushL X (((List.range m.length).map Int.ofNat).map fun i => (wrs m).getD i.toNat (0, zsec)), ca := [], taken := t + m.length, power := -1, off := false } : Dv) = _
  conv => lhs; rw [hl]
  rw [map_getD, ← hl]; rfl
theorem flushL_append' (st : List Sector) (a b : List Wr) : flushL st (a ++ b) = flushL (flushL st a) b := by simp [flushL]
end Go.Proofs.Ytjbjhjlfcbhaiaa
