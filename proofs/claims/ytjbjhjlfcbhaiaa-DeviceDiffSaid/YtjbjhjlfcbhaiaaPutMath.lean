/- What a device reads as behind puts. -/
import Derived.Test.YtjbjhjlfcbhaiaaPut6
namespace Go.Proofs.Ytjbjhjlfcbhaiaa
/-- the writes of puts -/
def wrs (l : List PutV) : List Wr := l.map fun p => (p.sec, p.val)
theorem wrs_snoc (l : List PutV) (p : PutV) : wrs (l ++ [p]) = wrs l ++ [(p.sec, p.val)] := by simp [wrs]
theorem wrs_mem (l : List PutV) : ∀ x ∈ wrs l, 0 ≤ x.1 ∧ x.1 < 64 := by
  intro x hx
  simp only [wrs, List.mem_map] at hx
  obtain ⟨p, _, rfl⟩ := hx
  exact ⟨p.sec_ge, p.sec_lt⟩
theorem Dv.puts_snoc (S : Dv) (l : List PutV) (p : PutV) : S.puts (l ++ [p]) = (S.puts l).put1 p := by simp [puts]
theorem Dv.push_ok {S : Dv} (h : S.Ok) (hf : S.Free) {n : Int} (h1 : 0 ≤ n) (h2 : n < S.st.length) (x : Sector) : (S.push n x).Ok := by
  rw [← Dv.write_go hf h1 h2]; exact Dv.write_ok h n x
theorem Dv.put1_ok {S : Dv} (h : S.Ok) {n : Nat} (hr : S.Roomy n) (p : PutV) : (S.put1 p).Ok := by
  have := Dv.push_ok h hr.free p.sec_ge (by rw [hr.st]; exact p.sec_lt) p.val
  unfold put1
  split
  · exact Dv.stable_ok this
  · exact this
theorem Dv.puts_ok {S : Dv} (h : S.Ok) : ∀ (l : List PutV), S.Roomy l.length → (S.puts l).Ok := by
  intro l
  induction l generalizing S with
  | nil => intro _; exact h
  | cons p l ih => intro hr; exact ih (Dv.put1_ok h hr p) (Dv.put1_roomy hr p)
theorem rev_ind {α : Type} {P : List α → Prop} (h0 : P []) (h1 : ∀ l x, P l → P (l ++ [x])) (l : List α) : P l := by
  have : ∀ m : List α, P m.reverse := by
    intro m
    induction m with
    | nil => exact h0
    | cons x m ih => rw [List.reverse_cons]; exact h1 _ _ ih
  have h := this l.reverse
  rwa [List.reverse_reverse] at h
theorem Dv.Roomy.mono {S : Dv} {n m : Nat} (h : S.Roomy n) (hm : m ≤ n) : S.Roomy m := ⟨h.on, h.pw, by have := h.tk; omega, by have := h.rm; omega, h.st⟩
theorem Dv.puts_look {S : Dv} (h : S.Ok) (l : List PutV) : S.Roomy l.length → ∀ m : Int, 0 ≤ m → (S.puts l).look m = (lastW (wrs l) m).getD (S.look m) := by
  refine rev_ind (P := fun l => S.Roomy l.length → ∀ m : Int, 0 ≤ m → (S.puts l).look m = (lastW (wrs l) m).getD (S.look m)) ?_ ?_ l
  · intro _ m _; rfl
  · intro l p ih hr m hm
    have hr' : S.Roomy l.length := hr.mono (by simp)
    have h1 := Dv.puts_ok h l hr'
    have h2 : (S.puts l).Roomy 1 := Dv.puts_roomy (by rw [List.length_append] at hr; exact hr)
    have h3 := Dv.push_ok h1 h2.free p.sec_ge (by rw [h2.st]; exact p.sec_lt) p.val
    rw [Dv.puts_snoc, wrs_snoc, lastW_snoc]
    have e : ((S.puts l).put1 p).look m = ((S.puts l).push p.sec p.val).look m := by
      unfold put1
      split
      · exact Dv.look_stable h3 m hm
      · rfl
    rw [e, Dv.look_push, ih hr' m hm]
    dsimp only
    split <;> rfl
theorem Dv.put1_taken (S : Dv) (p : PutV) : (S.put1 p).taken = S.taken + 1 := by unfold put1; split <;> rfl
theorem Dv.puts_taken (l : List PutV) : ∀ S : Dv, (S.puts l).taken = S.taken + l.length := by
  induction l with
  | nil => intro S; simp [puts]
  | cons p l ih =>
    intro S
    have := ih (S.put1 p)
    rw [Dv.put1_taken] at this
    show (Dv.puts (S.put1 p) l).taken = _
    rw [this]; simp; omega
/-- the array of what is wanted -/
def wants (l : List PutV) : List Sector := flushL (List.replicate 64 zsec) (wrs l)
theorem wants_len (l : List PutV) : (wants l).length = 64 := by simp [wants, flushL_length]
theorem wants_take (l : List PutV) (k : Nat) (p : PutV) (h : l[k]? = some p) : wants (l.take (k + 1)) = (wants (l.take k)).set p.sec.toNat p.val := by
  unfold wants
  rw [List.take_add_one, h, Option.toList_some, wrs_snoc, flushL_snoc]
theorem new64_roomy {n : Nat} (h : n ≤ 300) : (Dv.new 64).Roomy n := ⟨rfl, by simp [Dv.new], by simp [Dv.new]; omega, by simp [Dv.new]; omega, by simp [Dv.new]⟩
theorem wants_look (l : List PutV) (hl : l.length ≤ 300) (k : Nat) (hk : k < 64) : (wants l)[k]? = some (((Dv.new 64).puts l).look k) := by
  have h1 := Dv.puts_look (Dv.new_ok (n := 64) (by decide) (by decide)) l (new64_roomy hl) k (by omega)
  rw [Dv.look_new] at h1
  have h2 := flushL_getD (List.replicate 64 zsec) (wrs l) (by simpa using wrs_mem l) k (by omega)
  have h3 : (List.replicate 64 zsec).getD (k : Int).toNat zsec = zsec := by
    rw [List.getD_eq_getElem?_getD, List.getElem?_replicate]
    split <;> rfl
  rw [h3] at h2
  have hlt : k < (wants l).length := by rw [wants_len]; exact hk
  rw [h1, ← h2]
  show (wants l)[k]? = some ((wants l).getD (k : Int).toNat zsec)
  rw [Int.toNat_natCast, List.getElem?_eq_getElem hlt, List.getD_eq_getElem?_getD, List.getElem?_eq_getElem hlt]
  rfl
end Go.Proofs.Ytjbjhjlfcbhaiaa
