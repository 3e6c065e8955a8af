/- The plain law of DeviceCrash: what is kept of the writes since the last flush. -/
import Derived.Test.YtjbjhjlfcbhaiaaPutMath
namespace Go.Proofs.Ytjbjhjlfcbhaiaa
/-- behind which of the first k puts all is flushed -/
def lastK (l : List PutV) : Nat → Nat
  | 0 => 0
  | k + 1 => if (l[k]?.map PutV.fl).getD false then k + 1 else lastK l k
theorem lastK_le (l : List PutV) (k : Nat) : lastK l k ≤ k := by
  induction k with
  | zero => simp [lastK]
  | succ k ih => unfold lastK; split <;> omega
theorem lastK_succ (l : List PutV) (k : Nat) (p : PutV) (h : l[k]? = some p) : lastK l (k + 1) = if p.fl then k + 1 else lastK l k := by
  show (if _ then _ else _) = _
  rw [h]; rfl
/-- a new device behind puts -/
theorem puts_new (l : List PutV) (k : Nat) (hk : k ≤ l.length) :
    (Dv.new 64).puts (l.take k) = { st := flushL (List.replicate 64 zsec) (wrs (l.take (lastK l k))), ca := wrs ((l.take k).drop (lastK l k)), taken := k, power := -1, off := false } := by
  induction k with
  | zero => rfl
  | succ k ih =>
    have hlt : k < l.length := by omega
    have hp : l[k]? = some l[k] := List.getElem?_eq_getElem hlt
    rw [Dv.puts_take _ l k _ hp, ih (by omega)]
    have hle := lastK_le l k
    have ht : l.take (k + 1) = l.take k ++ [l[k]] := by rw [List.take_add_one, hp]; rfl
    have hl : (l.take k).length = k := by rw [List.length_take]; omega
    rw [lastK_succ l k _ hp]
    unfold Dv.put1
    cases hf : l[k].fl
    · rw [if_neg (by simp), if_neg (by simp)]
      unfold Dv.push
      simp only [Dv.mk.injEq, true_and]
      refine ⟨?_, by simp, by simp⟩
      rw [ht, List.drop_append_of_le_length (by omega), wrs_snoc]
    · rw [if_pos rfl, if_pos rfl]
      unfold Dv.push Dv.stable
      simp only [Dv.mk.injEq]
      refine ⟨?_, ?_, by simp, by simp, trivial⟩
      · rw [ht]
        have e : l.take k ++ [l[k]] = l.take (lastK l k) ++ ((l.take k).drop (lastK l k) ++ [l[k]]) := by
          rw [← List.append_assoc, show l.take (lastK l k) = (l.take k).take (lastK l k) by rw [List.take_take, Nat.min_eq_left hle], List.take_append_drop]
        rw [e]
        unfold wrs flushL
        simp
      · rw [ht, List.drop_of_length_le (by simp; omega)]; rfl
def shr8 (c : UInt8) (s : Nat) : Int := vb c / 2 ^ min s 8
/-- is bit j set? -/
def keepB (keep : List UInt8) (j : Nat) : Bool := decide (j / 8 < keep.length) && (shr8 (at8 keep (j / 8)) (j % 8) % 2 == 1)
/-- what is wanted behind the first k rounds -/
def wantC (l : List PutV) (keep : List UInt8) (last : Nat) : Nat → List Sector
  | 0 => List.replicate 64 zsec
  | k + 1 => if k < last ∨ keepB keep (k - last) = true then (wantC l keep last k).set (l[k]?.map fun p => p.sec.toNat).get! (l[k]?.map PutV.val).get! else wantC l keep last k
/-- which writes are kept behind the first k rounds -/
def keptC (keep : List UInt8) (last : Nat) : Nat → List Int
  | 0 => []
  | k + 1 => if last ≤ k ∧ keepB keep (k - last) = true then keptC keep last k ++ [((k - last : Nat) : Int)] else keptC keep last k
theorem wantC_yes (l : List PutV) (keep : List UInt8) (last k : Nat) (p : PutV) (hp : l[k]? = some p) (h : k < last ∨ keepB keep (k - last) = true) : wantC l keep last (k + 1) = (wantC l keep last k).set p.sec.toNat p.val := by
  show (if _ then _ else _) = _
  rw [if_pos h, hp]; rfl
theorem wantC_no (l : List PutV) (keep : List UInt8) (last k : Nat) (h1 : last ≤ k) (h : keepB keep (k - last) = false) : wantC l keep last (k + 1) = wantC l keep last k := by
  show (if _ then _ else _) = _
  rw [if_neg (by rw [h]; simp; omega)]
theorem keptC_yes (keep : List UInt8) (last k : Nat) (h1 : last ≤ k) (h : keepB keep (k - last) = true) : keptC keep last (k + 1) = keptC keep last k ++ [((k - last : Nat) : Int)] := by
  show (if _ then _ else _) = _
  rw [if_pos ⟨h1, h⟩]
theorem keptC_no (keep : List UInt8) (last k : Nat) (h : keepB keep (k - last) = false) : keptC keep last (k + 1) = keptC keep last k := by
  show (if _ then _ else _) = _
  rw [if_neg (by rw [h]; simp)]
theorem keptC_before (keep : List UInt8) (last k : Nat) (h : k ≤ last) : keptC keep last k = [] := by
  induction k with
  | zero => rfl
  | succ k ih =>
    show (if _ then _ else _) = _
    rw [if_neg (by omega)]; exact ih (by omega)
theorem keptC_skip (keep : List UInt8) (last k : Nat) (h : k < last) : keptC keep last (k + 1) = keptC keep last k := by
  rw [keptC_before keep last _ (by omega), keptC_before keep last _ (by omega)]
theorem wantC_len (l : List PutV) (keep : List UInt8) (last k : Nat) : (wantC l keep last k).length = 64 := by
  induction k with
  | zero => simp [wantC]
  | succ k ih =>
    show (if _ then _ else _ : List Sector).length = _
    split
    · rw [List.length_set]; exact ih
    · exact ih
theorem keptC_len (keep : List UInt8) (last k : Nat) : (keptC keep last k).length ≤ k := by
  induction k with
  | zero => simp [keptC]
  | succ k ih =>
    show (if _ then _ else _ : List Int).length ≤ _
    split
    · simp; exact ih
    · omega
theorem risesI_snoc (xs : List Int) (y : Int) (h : risesI xs = true) (hy : ∀ x ∈ xs, x < y) : risesI (xs ++ [y]) = true := by
  induction xs with
  | nil => rfl
  | cons a r ih =>
    cases r with
    | nil => simp [risesI, hy]
    | cons b r =>
      simp only [risesI, Bool.and_eq_true, decide_eq_true_eq, List.cons_append] at h ⊢
      exact ⟨h.1, ih h.2 (fun x hx => hy x (List.mem_cons_of_mem _ hx))⟩
theorem keptC_in (keep : List UInt8) (last k : Nat) : risesI (keptC keep last k) = true ∧ ∀ x ∈ keptC keep last k, 0 ≤ x ∧ x < (k : Int) - last := by
  induction k with
  | zero => exact ⟨rfl, by simp [keptC]⟩
  | succ k ih =>
    by_cases h : last ≤ k ∧ keepB keep (k - last) = true
    · rw [keptC_yes keep last k h.1 h.2]
      refine ⟨risesI_snoc _ _ ih.1 (fun x hx => by have := (ih.2 x hx).2; omega), fun x hx => ?_⟩
      rcases List.mem_append.1 hx with hx | hx
      · have := ih.2 x hx; omega
      · have : x = ((k - last : Nat) : Int) := by simpa using hx
        omega
    · have e : keptC keep last (k + 1) = keptC keep last k := by
        show (if _ then _ else _) = _
        rw [if_neg h]
      rw [e]
      exact ⟨ih.1, fun x hx => by have := ih.2 x hx; omega⟩
theorem flushL_append (st : List Sector) (a b : List Wr) : flushL st (a ++ b) = flushL (flushL st a) b := by simp [flushL]
theorem wantC_is (l : List PutV) (keep : List UInt8) (last : Nat) (k : Nat) (hk : k ≤ l.length) :
    wantC l keep last k = flushL (flushL (List.replicate 64 zsec) (wrs (l.take (min k last)))) ((keptC keep last k).map fun i => (wrs (l.drop last)).getD i.toNat (0, zsec)) := by
  induction k with
  | zero => simp [wantC, keptC, flushL, wrs]
  | succ k ih =>
    have hp : l[k]? = some l[k] := List.getElem?_eq_getElem (by omega)
    have ih := ih (by omega)
    by_cases h1 : k < last
    · rw [wantC_yes l keep last k _ hp (.inl h1), ih, keptC_before keep last k (by omega), keptC_before keep last (k + 1) (by omega)]
      simp only [List.map_nil]
      rw [Nat.min_eq_left (by omega), Nat.min_eq_left (by omega), List.take_add_one, hp, Option.toList_some, wrs_snoc, flushL_snoc]
      rfl
    · have hm : min (k + 1) last = min k last := by omega
      rw [hm]
      cases hb : keepB keep (k - last)
      · rw [wantC_no l keep last k (by omega) hb, keptC_no keep last k hb, ih]
      · rw [wantC_yes l keep last k _ hp (.inr hb), keptC_yes keep last k (by omega) hb, ih, List.map_append, List.map_cons, List.map_nil, flushL_snoc]
        have e : (wrs (l.drop last)).getD (((k - last : Nat) : Int)).toNat (0, zsec) = (l[k].sec, l[k].val) := by
          unfold wrs
          rw [Int.toNat_natCast, List.getD_eq_getElem?_getD, List.getElem?_map, List.getElem?_drop, show last + (k - last) = k by omega, hp]
          rfl
        rw [e]
/-- the device before the crash -/
def crS (l : List PutV) : Dv := (Dv.new 64).puts l
theorem crS_is (l : List PutV) : crS l = { st := flushL (List.replicate 64 zsec) (wrs (l.take (lastK l l.length))), ca := wrs (l.drop (lastK l l.length)), taken := l.length, power := -1, off := false } := by
  have := puts_new l l.length (Nat.le_refl _)
  rw [List.take_length] at this
  exact this
theorem crS_ca (l : List PutV) : ((crS l).ca.length : Int) = (l.length : Int) - (lastK l l.length : Int) := by
  have := lastK_le l l.length
  rw [crS_is]; simp [wrs]; omega
theorem crS_crashE (l : List PutV) (keep : List UInt8) : (crS l).crashE (keptC keep (lastK l l.length) l.length) = 0 := by
  have hi := keptC_in keep (lastK l l.length) l.length
  have hc := crS_ca l
  unfold Dv.crashE
  rw [if_neg, if_pos hi.1]
  rw [List.any_eq_true]
  rintro ⟨x, hx, ho⟩
  have := hi.2 x hx
  simp only [Dv.odd, Bool.or_eq_true, decide_eq_true_eq] at ho
  omega
/-- the device behind the crash -/
theorem crS_crash (l : List PutV) (keep : List UInt8) : (crS l).crash (keptC keep (lastK l l.length) l.length) = { st := wantC l keep (lastK l l.length) l.length, ca := [], taken := l.length, power := -1, off := false } := by
  unfold Dv.crash
  rw [if_pos (crS_crashE l keep)]
  have h := wantC_is l keep (lastK l l.length) l.length (Nat.le_refl _)
  rw [Nat.min_eq_right (lastK_le _ _)] at h
  rw [h]
  simp only [crS_is, Dv.keepL]
end Go.Proofs.Ytjbjhjlfcbhaiaa
