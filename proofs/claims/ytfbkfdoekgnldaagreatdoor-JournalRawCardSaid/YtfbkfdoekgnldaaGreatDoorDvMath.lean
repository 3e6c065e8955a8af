/- What a device is, by definition: its stable sectors, the writes of its cache, and what its calls do to them. What writes, flushes and crashes do to a device, in plain words: a write is taken; what a sector reads as. -/
import Derived.Test.YtfbkfdoekgnldaaGreatDoorSec
namespace Go.Proofs.YtfbkfdoekgnldaaGreatDoor
/-- a write: where, and what -/
abbrev Wr := Int × Sector
structure Dv where
  st : List Sector
  ca : List Wr
  taken : Int
  power : Int
  off : Bool
/-- the newest write of a sector among writes that are listed from the newest one on -/
def newR : List Wr → Int → Option Nat
  | [], _ => none
  | x :: r, n => if x.1 = n then some r.length else newR r n
def lastR : List Wr → Int → Option Sector
  | [], _ => none
  | x :: r, n => if x.1 = n then some x.2 else lastR r n
def newest (ca : List Wr) (n : Int) : Option Nat := newR ca.reverse n
def lastW (ca : List Wr) (n : Int) : Option Sector := lastR ca.reverse n
theorem newest_nil (n : Int) : newest [] n = none := rfl
theorem lastW_nil (n : Int) : lastW [] n = none := rfl
theorem newest_snoc (ca : List Wr) (x : Wr) (n : Int) : newest (ca ++ [x]) n = if x.1 = n then some ca.length else newest ca n := by simp [newest, newR]
theorem lastW_snoc (ca : List Wr) (x : Wr) (n : Int) : lastW (ca ++ [x]) n = if x.1 = n then some x.2 else lastW ca n := by simp [lastW, lastR]
theorem newest_none {ca : List Wr} {n : Int} (h : newest ca n = none) : lastW ca n = none := by
  unfold newest lastW at *
  revert h; generalize ca.reverse = l
  induction l with
  | nil => intro _; rfl
  | cons x r ih => simp only [newR, lastR]; split <;> simp_all
theorem newest_some {ca : List Wr} {n : Int} {i : Nat} (h : newest ca n = some i) : ∃ s, ca[i]? = some (n, s) ∧ lastW ca n = some s := by
  unfold newest lastW at *
  have e : ca = ca.reverse.reverse := by simp
  revert h e; generalize ca.reverse = l
  intro h e; subst e
  induction l with
  | nil => simp [newR] at h
  | cons x r ih =>
    simp only [newR, lastR] at h ⊢
    split at h
    · rename_i hx
      cases h
      refine ⟨x.2, ?_, by rw [if_pos hx]⟩
      rw [List.reverse_cons, show r.length = r.reverse.length by simp, List.getElem?_concat_length]
      rw [← hx]
    · rename_i hx
      obtain ⟨s, h1, h2⟩ := ih h
      refine ⟨s, ?_, by rw [if_neg hx]; exact h2⟩
      have hl : i < r.reverse.length := (List.getElem?_eq_some_iff.1 h1).1
      rw [List.reverse_cons, List.getElem?_append_left hl]; exact h1
/-- what a sector reads as -/
def Dv.look (S : Dv) (n : Int) : Sector := (lastW S.ca n).getD (S.st.getD n.toNat zsec)
/-- all writes of a list made stable -/
def flushL (st : List Sector) (ca : List Wr) : List Sector := ca.foldl (fun s w => s.set w.1.toNat w.2) st
theorem flushL_length (st : List Sector) (ca : List Wr) : (flushL st ca).length = st.length := by
  unfold flushL
  induction ca generalizing st with
  | nil => rfl
  | cons x r ih => simp [ih]
theorem flushL_snoc (st : List Sector) (ca : List Wr) (x : Wr) : flushL st (ca ++ [x]) = (flushL st ca).set x.1.toNat x.2 := by simp [flushL]
/-- a state that a device may have -/
structure Dv.Ok (S : Dv) : Prop where
  s1 : 64 ≤ S.st.length
  s2 : S.st.length ≤ 256
  c1 : S.ca.length ≤ 400
  c2 : ∀ x ∈ S.ca, 0 ≤ x.1 ∧ x.1 < S.st.length
  t1 : 0 ≤ S.taken
  t2 : S.taken ≤ 1000000000000
  p1 : -1 ≤ S.power
  p2 : S.power ≤ 1000000000000
/-- the error of a read, or of a write -/
def Dv.at (S : Dv) (n : Int) : Int := if S.off then 13 else if n < 0 ∨ (S.st.length : Int) ≤ n then 7 else 0
/-- the state behind a flush of the cache -/
def Dv.stable (S : Dv) : Dv := { S with st := flushL S.st S.ca, ca := [] }
/-- the state with room in the cache -/
def Dv.roomy (S : Dv) : Dv := if 400 ≤ S.ca.length then S.stable else S
def Dv.push (S : Dv) (n : Int) (x : Sector) : Dv := { S with ca := S.ca ++ [(n, x)], taken := S.taken + 1, power := if 0 < S.power then S.power - 1 else S.power }
def Dv.write (S : Dv) (n : Int) (x : Sector) : Dv := if S.at n ≠ 0 then S else if S.power = 0 ∨ 1000000000000 ≤ S.taken then { S with off := true } else S.roomy.push n x
def Dv.writeE (S : Dv) (n : Int) : Int := if S.at n ≠ 0 then S.at n else if S.power = 0 ∨ 1000000000000 ≤ S.taken then 13 else 0
def Dv.flush (S : Dv) : Dv := if S.off then S else S.stable
def Dv.flushE (S : Dv) : Int := if S.off then 13 else 0
def Dv.limit (S : Dv) (n : Int) : Dv := if n < -1 ∨ 1000000000000 < n then S else { S with power := n }
def limitE (n : Int) : Int := if n < -1 ∨ 1000000000000 < n then 7 else 0
/-- is it not the number of a write? -/
def Dv.odd (S : Dv) (i : Int) : Bool := decide (i < 0) || decide ((S.ca.length : Int) ≤ i)
def risesI : List Int → Bool
  | [] => true
  | [_] => true
  | x :: y :: r => decide (x < y) && risesI (y :: r)
def Dv.keepL (S : Dv) (keep : List Int) : List Sector := flushL S.st (keep.map fun i => S.ca.getD i.toNat (0, zsec))
def Dv.crashE (S : Dv) (keep : List Int) : Int := if keep.any S.odd then 7 else if risesI keep then 0 else 6
def Dv.crash (S : Dv) (keep : List Int) : Dv := if S.crashE keep = 0 then { st := S.keepL keep, ca := [], taken := S.taken, power := -1, off := false } else S
def Dv.new (n : Nat) : Dv := { st := List.replicate n zsec, ca := [], taken := 0, power := -1, off := false }
/-- the sectors that read as different bytes -/
def Dv.diffs (S T : Dv) : List Int := ((List.range S.st.length).map Int.ofNat).filter fun i => S.look i != T.look i
theorem Dv.stable_ok {S : Dv} (h : S.Ok) : S.stable.Ok := ⟨by simpa [stable, flushL_length] using h.s1, by simpa [stable, flushL_length] using h.s2, by simp [stable], by simp [stable], h.t1, h.t2, h.p1, h.p2⟩
theorem Dv.roomy_ok {S : Dv} (h : S.Ok) : S.roomy.Ok := by unfold roomy; split; exact stable_ok h; exact h
theorem Dv.roomy_lt {S : Dv} : S.roomy.ca.length < 400 := by unfold roomy; split <;> simp_all [stable]
theorem Dv.roomy_len {S : Dv} : S.roomy.st.length = S.st.length := by unfold roomy; split <;> simp [stable, flushL_length]
theorem Dv.roomy_taken {S : Dv} : S.roomy.taken = S.taken := by unfold roomy; split <;> rfl
theorem Dv.roomy_power {S : Dv} : S.roomy.power = S.power := by unfold roomy; split <;> rfl
theorem Dv.write_ok {S : Dv} (h : S.Ok) (n : Int) (x : Sector) : (S.write n x).Ok := by
  unfold write
  split
  · exact h
  · rename_i ha
    split
    · exact ⟨h.s1, h.s2, h.c1, h.c2, h.t1, h.t2, h.p1, h.p2⟩
    · rename_i hp
      have r := roomy_ok h
      have hn : 0 ≤ n ∧ n < S.st.length := by
        unfold Dv.at at ha
        split at ha; simp at ha; skip
        split at ha; simp at ha; omega
      refine ⟨r.s1, r.s2, ?_, ?_, ?_, ?_, ?_, ?_⟩
      · have := @roomy_lt S; simp [push]; omega
      · intro y hy
        simp only [push, List.mem_append, List.mem_singleton] at hy
        rcases hy with hy | rfl
        · exact r.c2 y hy
        · show 0 ≤ n ∧ n < (S.roomy.st.length : Int); rw [roomy_len]; exact hn
      · simp only [push, roomy_taken]; have := h.t1; omega
      · simp only [push, roomy_taken]; omega
      · simp only [push, roomy_power]; have := h.p1; split <;> omega
      · simp only [push, roomy_power]; have := h.p2; split <;> omega
theorem Dv.flush_ok {S : Dv} (h : S.Ok) : S.flush.Ok := by unfold flush; split; exact h; exact stable_ok h
theorem Dv.limit_ok {S : Dv} (h : S.Ok) (n : Int) : (S.limit n).Ok := by
  unfold limit; split
  · exact h
  · exact ⟨h.s1, h.s2, h.c1, h.c2, h.t1, h.t2, by simp; omega, by simp; omega⟩
theorem Dv.crash_ok {S : Dv} (h : S.Ok) (keep : List Int) : (S.crash keep).Ok := by
  unfold crash; split
  · exact ⟨by simpa [keepL, flushL_length] using h.s1, by simpa [keepL, flushL_length] using h.s2, by simp, by simp, h.t1, h.t2, by simp, by simp⟩
  · exact h
theorem Dv.new_ok {n : Nat} (h : 64 ≤ n) (h2 : n ≤ 256) : (Dv.new n).Ok := ⟨by simpa [new] using h, by simpa [new] using h2, by simp [new], by simp [new], by simp [new], by simp [new], by simp [new], by simp [new]⟩
end Go.Proofs.YtfbkfdoekgnldaaGreatDoor
namespace Go.Proofs.YtfbkfdoekgnldaaGreatDoor
/-- a device that takes a write -/
structure Dv.Free (S : Dv) : Prop where
  on : S.off = false
  pw : S.power ≠ 0
  tk : S.taken < 1000000000000
  rm : S.ca.length < 400
theorem Dv.at_ok {S : Dv} (h : S.off = false) {n : Int} (h1 : 0 ≤ n) (h2 : n < S.st.length) : S.at n = 0 := by
  unfold Dv.at
  rw [h, if_neg (by simp), if_neg (by omega)]
theorem Dv.write_go {S : Dv} (h : S.Free) {n : Int} (h1 : 0 ≤ n) (h2 : n < S.st.length) (x : Sector) : S.write n x = S.push n x := by
  unfold Dv.write Dv.roomy
  have h3 := h.pw
  have h4 := h.tk
  have h5 := h.rm
  rw [if_neg (by simp [Dv.at_ok h.on h1 h2]), if_neg (by omega), if_neg (by omega)]
theorem Dv.writeE_go {S : Dv} (h : S.Free) {n : Int} (h1 : 0 ≤ n) (h2 : n < S.st.length) : S.writeE n = 0 := by
  unfold Dv.writeE
  have h3 := h.pw
  have h4 := h.tk
  rw [if_neg (by simp [Dv.at_ok h.on h1 h2]), if_neg (by omega)]
theorem Dv.flush_go {S : Dv} (h : S.off = false) : S.flush = S.stable ∧ S.flushE = 0 := by
  unfold Dv.flush Dv.flushE; rw [h]; simp
theorem Dv.look_push (S : Dv) (n : Int) (x : Sector) (m : Int) : (S.push n x).look m = if n = m then x else S.look m := by
  unfold Dv.look Dv.push
  simp only [lastW_snoc]
  split <;> rfl
theorem flushL_getD (st : List Sector) (ca : List Wr) (h : ∀ x ∈ ca, 0 ≤ x.1 ∧ x.1 < st.length) (m : Int) (hm : 0 ≤ m) : (flushL st ca).getD m.toNat zsec = (lastW ca m).getD (st.getD m.toNat zsec) := by
  have e : ca = ca.reverse.reverse := by simp
  revert h e; generalize hl : ca.reverse = l
  intro h e
  subst e
  clear hl
  induction l with
  | nil => simp [flushL, lastW, lastR]
  | cons x r ih =>
    rw [List.reverse_cons, flushL_snoc, lastW_snoc]
    have hx := h x (by simp)
    have ih' := ih (fun y hy => h y (by simp at hy ⊢; exact .inl hy))
    by_cases e : x.1 = m
    · rw [if_pos e, e]
      have hlt : m.toNat < (flushL st r.reverse).length := by rw [flushL_length]; omega
      simp [List.getD_eq_getElem?_getD, hlt]
    · rw [if_neg e, ← ih']
      have : ¬ x.1.toNat = m.toNat := by omega
      simp [List.getD_eq_getElem?_getD, this]
theorem Dv.look_stable {S : Dv} (h : S.Ok) (m : Int) (hm : 0 ≤ m) : S.stable.look m = S.look m := by
  unfold Dv.look Dv.stable
  simp only [lastW_nil, Option.getD_none]
  exact flushL_getD _ _ h.c2 m hm
theorem Dv.look_new (n : Nat) (m : Int) : (Dv.new n).look m = zsec := by
  unfold Dv.look Dv.new
  simp only [lastW_nil, Option.getD_none]
  by_cases h : m.toNat < n
  · simp [h]
  · simp [h]
theorem Dv.push_free {S : Dv} (h : S.Free) (n : Int) (x : Sector) (h1 : S.power < 0) (h2 : S.taken + 1 < 1000000000000) (h3 : S.ca.length + 1 < 400) : (S.push n x).Free :=
  ⟨h.on, by unfold push; dsimp only; rw [if_neg (by omega)]; exact h.pw, h2, by simp [push]; omega⟩
theorem Dv.stable_free {S : Dv} (h : S.Free) : S.stable.Free := ⟨h.on, h.pw, h.tk, by simp [stable]⟩
theorem Dv.new_free (n : Nat) : (Dv.new n).Free := ⟨rfl, by simp [new], by simp [new], by simp [new]⟩
end Go.Proofs.YtfbkfdoekgnldaaGreatDoor
