/- The plain law of DevicePower: a device that takes just n more writes. -/
import Derived.Test.YtjbjhjlfcbhaiaaDevMid
namespace Go.Proofs.Ytjbjhjlfcbhaiaa
def zst : List Sector := List.replicate 64 zsec
/-- the device behind i of the writes, n of which it takes -/
def pwA (l : List PutV) (n i : Nat) : Dv := if i ≤ min n l.length then { st := zst, ca := wrs (l.take i), taken := i, power := (n : Int) - i, off := false } else { st := zst, ca := wrs (l.take (min n l.length)), taken := (min n l.length : Nat), power := 0, off := true }
/-- the other one -/
def pwO (l : List PutV) (n i : Nat) : Dv := bcD zst 0 (l.take (min i (min n l.length)))
theorem pwA_zero (l : List PutV) (n : Nat) : (Dv.new 64).limit n = pwA l n 0 ∨ 1000000000000 < n := by
  by_cases h : 1000000000000 < n
  · exact .inr h
  · left
    unfold Dv.limit pwA
    rw [if_neg (by omega), if_pos (by omega)]
    simp [Dv.new, zst, wrs]
theorem pwO_zero (l : List PutV) (n : Nat) : Dv.new 64 = pwO l n 0 := by simp [pwO, bcD, Dv.new, zst, wrs]
theorem take_snocP (l : List PutV) (i : Nat) (p : PutV) (hp : l[i]? = some p) : l.take (i + 1) = l.take i ++ [p] := by rw [List.take_add_one, hp]; rfl
theorem zst_len : zst.length = 64 := by simp [zst]
theorem pwA_yes (l : List PutV) (n i : Nat) (p : PutV) (hp : l[i]? = some p) (h : i < n) (hl : l.length ≤ 80) : (pwA l n i).writeE p.sec = 0 ∧ (pwA l n i).write p.sec p.val = pwA l n (i + 1) := by
  have hi : i < l.length := (List.getElem?_eq_some_iff.1 hp).1
  have e : pwA l n i = { st := zst, ca := wrs (l.take i), taken := i, power := (n : Int) - i, off := false } := by unfold pwA; rw [if_pos (by omega)]
  have e2 : pwA l n (i + 1) = { st := zst, ca := wrs (l.take (i + 1)), taken := (i + 1 : Nat), power := (n : Int) - (i + 1 : Nat), off := false } := by unfold pwA; rw [if_pos (by omega)]
  have hf : (pwA l n i).Free := by rw [e]; exact ⟨rfl, by simp; omega, by simp; omega, by simp [wrs]; omega⟩
  have hs : p.sec < (pwA l n i).st.length := by rw [e]; show p.sec < (zst.length : Int); rw [zst_len]; exact p.sec_lt
  refine ⟨Dv.writeE_go hf p.sec_ge hs, ?_⟩
  rw [Dv.write_go hf p.sec_ge hs, e, e2]
  unfold Dv.push
  simp only [Dv.mk.injEq, true_and, and_true]
  rw [take_snocP l i p hp, wrs_snoc, if_pos (by omega)]
  exact ⟨rfl, by omega, by omega⟩
theorem pwA_no (l : List PutV) (n i : Nat) (p : PutV) (hp : l[i]? = some p) (h : n ≤ i) : (pwA l n i).writeE p.sec = 13 ∧ (pwA l n i).write p.sec p.val = pwA l n (i + 1) := by
  have hi : i < l.length := (List.getElem?_eq_some_iff.1 hp).1
  have hm : min n l.length = n := by omega
  have e2 : pwA l n (i + 1) = { st := zst, ca := wrs (l.take n), taken := (n : Nat), power := 0, off := true } := by unfold pwA; rw [if_neg (by omega), hm]
  by_cases hin : i = n
  · subst hin
    have e : pwA l i i = { st := zst, ca := wrs (l.take i), taken := i, power := 0, off := false } := by unfold pwA; rw [if_pos (by omega)]; simp
    have hat : (pwA l i i).at p.sec = 0 := Dv.at_ok (by rw [e]) p.sec_ge (by rw [e]; show p.sec < (zst.length : Int); rw [zst_len]; exact p.sec_lt)
    have hpw : (pwA l i i).power = 0 := by rw [e]
    unfold Dv.writeE Dv.write
    rw [if_neg (by simp [hat]), if_pos (.inl hpw), if_neg (by simp [hat]), if_pos (.inl hpw), e, e2]
    exact ⟨rfl, rfl⟩
  · have e : pwA l n i = { st := zst, ca := wrs (l.take n), taken := (n : Nat), power := 0, off := true } := by unfold pwA; rw [if_neg (by omega), hm]
    have hat : (pwA l n i).at p.sec = 13 := by unfold Dv.at; rw [e]; rfl
    unfold Dv.writeE Dv.write
    rw [if_pos (by simp [hat]), if_pos (by simp [hat]), hat, e, e2]
    exact ⟨rfl, rfl⟩
theorem pwO_yes (l : List PutV) (n i : Nat) (p : PutV) (hp : l[i]? = some p) (h : i < n) (hl : l.length ≤ 80) : (pwO l n i).writeE p.sec = 0 ∧ (pwO l n i).write p.sec p.val = pwO l n (i + 1) := by
  have hi : i < l.length := (List.getElem?_eq_some_iff.1 hp).1
  have e : pwO l n i = bcD zst 0 (l.take i) := by unfold pwO; rw [Nat.min_eq_left (by omega)]
  have e2 : pwO l n (i + 1) = bcD zst 0 (l.take (i + 1)) := by unfold pwO; rw [Nat.min_eq_left (by omega)]
  have hf : (pwO l n i).Free := by rw [e]; exact ⟨rfl, by simp [bcD], by simp [bcD]; omega, by simp [bcD, wrs]; omega⟩
  have hs : p.sec < (pwO l n i).st.length := by rw [e]; show p.sec < (zst.length : Int); rw [zst_len]; exact p.sec_lt
  refine ⟨Dv.writeE_go hf p.sec_ge hs, ?_⟩
  rw [Dv.write_go hf p.sec_ge hs, e, e2]
  unfold Dv.push bcD
  simp only [Dv.mk.injEq, true_and, and_true]
  rw [take_snocP l i p hp, wrs_snoc]
  exact ⟨rfl, by simp, by simp⟩
theorem pwO_no (l : List PutV) (n i : Nat) (h : n ≤ i) : pwO l n (i + 1) = pwO l n i := by
  unfold pwO; rw [show min (i + 1) (min n l.length) = min i (min n l.length) by omega]
/-- behind all writes -/
theorem pwA_end (l : List PutV) (n : Nat) : (pwA l n l.length).off = !decide (min n l.length = l.length) ∧ (pwA l n l.length).taken = (min n l.length : Nat) ∧ ((pwA l n l.length).ca.length : Int) = (min n l.length : Nat) := by
  unfold pwA
  by_cases h : l.length ≤ min n l.length
  · rw [if_pos h]
    have : min n l.length = l.length := by omega
    simp [this, wrs]
  · rw [if_neg h]
    have : ¬ min n l.length = l.length := by omega
    simp [this, wrs]
theorem crash_range (S : Dv) (k : Nat) (hk : S.ca.length = k) : S.crashE ((List.range k).map Int.ofNat) = 0 ∧ S.crash ((List.range k).map Int.ofNat) = bsD (flushL S.st S.ca) S.taken := by
  subst hk
  have hE : S.crashE ((List.range S.ca.length).map Int.ofNat) = 0 := by
    unfold Dv.crashE
    rw [if_neg, if_pos]
    · rw [risesI_iff]
      intro i hi
      simp at hi
      simp [List.getD_eq_getElem?_getD, hi, show i < S.ca.length by omega]
      omega
    · rw [List.any_eq_true]
      rintro ⟨x, hx, ho⟩
      simp only [List.mem_map, List.mem_range] at hx
      obtain ⟨i, hi, rfl⟩ := hx
      simp [Dv.odd] at ho
      omega
  refine ⟨hE, ?_⟩
  unfold Dv.crash
  rw [if_pos hE]
  unfold Dv.keepL
  rw [map_getD]; rfl
theorem pwA_crash (l : List PutV) (n : Nat) : (pwA l n l.length).crashE ((List.range (min n l.length)).map Int.ofNat) = 0 ∧ (pwA l n l.length).crash ((List.range (min n l.length)).map Int.ofNat) = bsD (flushL zst (wrs (l.take (min n l.length)))) (min n l.length : Nat) := by
  have h := pwA_end l n
  have hc := crash_range (pwA l n l.length) (min n l.length) (by omega)
  rw [hc.1, hc.2, h.2.1]
  refine ⟨rfl, ?_⟩
  congr 1
  unfold pwA
  by_cases h : l.length ≤ min n l.length
  · rw [if_pos h, show min n l.length = l.length by omega]
  · rw [if_neg h]
theorem pwO_look (l : List PutV) (n : Nat) (t : Int) (i : Nat) : (bsD (flushL zst (wrs (l.take (min n l.length)))) t).look i = (pwO l n l.length).look i := by
  have e : pwO l n l.length = bcD zst 0 (l.take (min n l.length)) := by unfold pwO; rw [Nat.min_eq_right (by omega)]
  rw [e]
  show (flushL zst (wrs (l.take (min n l.length)))).getD (i : Int).toNat zsec = (lastW (wrs (l.take (min n l.length))) i).getD (zst.getD (i : Int).toNat zsec)
  exact flushL_getD zst _ (by rw [zst_len]; exact wrs_mem _) i (by omega)
end Go.Proofs.Ytjbjhjlfcbhaiaa
