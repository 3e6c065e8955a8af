/- What writes, flushes and crashes do to a device, in plain words: a write is taken; what a sector reads as. -/
import Derived.Test.YtjbjhjlfcbhaiaaDvMath
namespace Go.Proofs.Ytjbjhjlfcbhaiaa
/-- a device that takes a write -/
structure Dv.Free (S : Dv) : Prop where
  on : S.off = false
  pw : S.power ≠ 0
  tk : S.taken < 1000000000000
  rm : S.ca.length < 400
theorem Dv.at_ok {S : Dv} (h : S.off = false) {n : Int} (h1 : 0 ≤ n) (h2 : n < S.st.length) : S.at n = 0 := by
  unfold Dv.at
  rw [h, if_neg (by simp), if_neg (by omega)]
theorem Dv.write_go {S : Dv} (h : S.Free) {n : Int} (h1 : 0 ≤ n) (h2 : n < S.st.length) (x : Sector) : S.write n x = S.push n x := by
  unfold Dv.write Dv.roomy
  have h3 := h.pw
  have h4 := h.tk
  have h5 := h.rm
  rw [if_neg (by simp [Dv.at_ok h.on h1 h2]), if_neg (by omega), if_neg (by omega)]
theorem Dv.writeE_go {S : Dv} (h : S.Free) {n : Int} (h1 : 0 ≤ n) (h2 : n < S.st.length) : S.writeE n = 0 := by
  unfold Dv.writeE
  have h3 := h.pw
  have h4 := h.tk
  rw [if_neg (by simp [Dv.at_ok h.on h1 h2]), if_neg (by omega)]
theorem Dv.flush_go {S : Dv} (h : S.off = false) : S.flush = S.stable ∧ S.flushE = 0 := by
  unfold Dv.flush Dv.flushE; rw [h]; simp
theorem Dv.look_push (S : Dv) (n : Int) (x : Sector) (m : Int) : (S.push n x).look m = if n = m then x else S.look m := by
  unfold Dv.look Dv.push
  simp only [lastW_snoc]
  split <;> rfl
theorem flushL_getD (st : List Sector) (ca : List Wr) (h : ∀ x ∈ ca, 0 ≤ x.1 ∧ x.1 < st.length) (m : Int) (hm : 0 ≤ m) : (flushL st ca).getD m.toNat zsec = (lastW ca m).getD (st.getD m.toNat zsec) := by
  have e : ca = ca.reverse.reverse := by simp
  revert h e; generalize hl : ca.reverse = l
  intro h e
  subst e
  clear hl
  induction l with
  | nil => simp [flushL, lastW, lastR]
  | cons x r ih =>
    rw [List.reverse_cons, flushL_snoc, lastW_snoc]
    have hx := h x (by simp)
    have ih' := ih (fun y hy => h y (by simp at hy ⊢; exact .inl hy))
    by_cases e : x.1 = m
    · rw [if_pos e, e]
      have hlt : m.toNat < (flushL st r.reverse).length := by rw [flushL_length]; omega
      simp [List.getD_eq_getElem?_getD, hlt]
    · rw [if_neg e, ← ih']
      have : ¬ x.1.toNat = m.toNat := by omega
      simp [List.getD_eq_getElem?_getD, this]
theorem Dv.look_stable {S : Dv} (h : S.Ok) (m : Int) (hm : 0 ≤ m) : S.stable.look m = S.look m := by
  unfold Dv.look Dv.stable
  simp only [lastW_nil, Option.getD_none]
  exact flushL_getD _ _ h.c2 m hm
theorem Dv.look_new (n : Nat) (m : Int) : (Dv.new n).look m = zsec := by
  unfold Dv.look Dv.new
  simp only [lastW_nil, Option.getD_none]
  by_cases h : m.toNat < n
  · simp [h]
  · simp [h]
theorem Dv.push_free {S : Dv} (h : S.Free) (n : Int) (x : Sector) (h1 : S.power < 0) (h2 : S.taken + 1 < 1000000000000) (h3 : S.ca.length + 1 < 400) : (S.push n x).Free :=
  ⟨h.on, by unfold push; dsimp only; rw [if_neg (by omega)]; exact h.pw, h2, by simp [push]; omega⟩
theorem Dv.stable_free {S : Dv} (h : S.Free) : S.stable.Free := ⟨h.on, h.pw, h.tk, by simp [stable]⟩
theorem Dv.new_free (n : Nat) : (Dv.new n).Free := ⟨rfl, by simp [new], by simp [new], by simp [new]⟩
end Go.Proofs.Ytjbjhjlfcbhaiaa
