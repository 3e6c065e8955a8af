/- A device's calls, said of what a walk owns. -/
import Derived.Test.YtfbkfdoekgnldaaGreatDoorDevWr
import Derived.Test.YtfbkfdoekgnldaaGreatDoorDevCr
import Derived.Test.YtfbkfdoekgnldaaGreatDoorDevNew
namespace Go.Proofs.YtfbkfdoekgnldaaGreatDoor
open Go.RowKit
/-- the first thing, and how it may be turned -/
theorem Has.focus {w W : World} {r : Res w.heap.size} {rs : List (Res w.heap.size)} (h : Has w W (r :: rs)) :
    ∃ F, r.P W F ∧ (∀ k ∈ F, w.heap.size ≤ k) ∧ (∀ r2 ∈ rs, ∃ F2, r2.P W F2 ∧ ∀ k ∈ F2, k ∉ F) ∧
      ∀ (W' : World) (r' : Res w.heap.size) (F' : List Nat), Only F W W' → r'.P W' F' → (∀ k ∈ F', k ∈ F ∨ W.heap.size ≤ k) → Has w W' (r' :: rs) := by
  obtain ⟨hB, F0, hF⟩ := h
  cases hF with
  | @cons _ _ f fs hP hb hd hr =>
    refine ⟨f, hP, hb, ?_, ?_⟩
    · intro r2 hr2
      obtain ⟨a, b, rfl⟩ := List.append_of_mem hr2
      obtain ⟨F', hF', he⟩ := hr.perm (rs' := r2 :: (a ++ b)) List.perm_middle
      cases hF' with
      | @cons _ _ f2 fs2 hP2 _ _ _ => exact ⟨f2, hP2, fun k hk hm => hd k hm ((he k).1 (List.mem_append_left _ hk))⟩
    · intro W' r' F' hO hP' hsub
      have hlt := hr.lt
      have hge := hr.ge
      refine ⟨hB.trans (hO.below hB.size hb), _, .cons hP' (fun k hk => ?_) (fun k hk hm => ?_) (hr.stay (fun k hk => ?_) (fun k hk => ?_))⟩
      · rcases hsub k hk with h | h
        · exact hb k h
        · exact Nat.le_trans hB.size h
      · rcases hsub k hk with h | h
        · exact hd k h hm
        · have := hlt k hm; omega
      · exact hO.block k (Nat.lt_of_lt_of_le hk hB.size) (fun e => by have := hb k e; omega)
      · exact hO.block k (hlt k hk) (fun e => hd k e hk)
section
variable {w W : World} {rs : List (Res w.heap.size)} {g : Nat} {S : Dv}
theorem write_has (h : Has w W (DevR _ g S :: rs)) (n : Int) (x : Sector) :
    Calls Tryz.prog 78 #[pv g, .int .i64 n, .agg (sec x)] W fun e w' => e = .returned (.int .i64 (S.writeE n)) ∧ Has w w' (DevR _ g (S.write n x) :: rs) := by
  obtain ⟨F, ⟨vS, vC, mb, hD, rfl⟩, hF, _, hT⟩ := h.focus
  refine (dev_write hD n x).mono ?_
  rintro e w' ⟨rfl, ⟨vC', hD', hf⟩, hO⟩
  refine ⟨rfl, hT w' (DevR _ g (S.write n x)) _ hO ⟨vS, vC', mb, hD', rfl⟩ (fun k hk => ?_)⟩
  simp only [List.mem_cons, List.mem_append] at hk ⊢
  rcases hk with h | h | h | h
  · exact .inl (.inl h)
  · exact .inl (.inr (.inl h))
  · exact .inl (.inr (.inr (.inl h)))
  · rcases hf k h with h | h
    · exact .inl (.inr (.inr (.inr h)))
    · exact .inr h
theorem flush_has (h : Has w W (DevR _ g S :: rs)) :
    Calls Tryz.prog 59 #[pv g] W fun e w' => e = .returned (.int .i64 S.flushE) ∧ Has w w' (DevR _ g S.flush :: rs) := by
  obtain ⟨F, ⟨vS, vC, mb, hD, rfl⟩, hF, _, hT⟩ := h.focus
  refine (dev_flush hD).mono ?_
  rintro e w' ⟨rfl, ⟨vC', hD', hf⟩, hO⟩
  refine ⟨rfl, hT w' (DevR _ g S.flush) _ (hO.mono (by intro k hk; simp at hk ⊢; rcases hk with h | h | h <;> simp [h])) ⟨vS, vC', mb, hD', rfl⟩ (fun k hk => ?_)⟩
  simp only [List.mem_cons, List.mem_append] at hk ⊢
  rcases hk with h | h | h | h
  · exact .inl (.inl h)
  · exact .inl (.inr (.inl h))
  · exact .inl (.inr (.inr (.inl h)))
  · exact .inl (.inr (.inr (.inr (hf k h))))
theorem limit_has (h : Has w W (DevR _ g S :: rs)) (n : Int) :
    Calls Tryz.prog 36 #[pv g, .int .i64 n] W fun e w' => e = .returned (.int .i64 (limitE n)) ∧ Has w w' (DevR _ g (S.limit n) :: rs) := by
  obtain ⟨F, ⟨vS, vC, mb, hD, rfl⟩, hF, _, hT⟩ := h.focus
  refine (dev_limit hD n).mono ?_
  rintro e w' ⟨rfl, hD', hO⟩
  exact ⟨rfl, hT w' (DevR _ g (S.limit n)) _ (hO.mono (by intro k hk; simp at hk ⊢; simp [hk])) ⟨vS, vC, mb, hD', rfl⟩ (fun k hk => .inl hk)⟩
/-- Crash, of numbers that lie in blocks that are not the device's -/
theorem crash_ne (h : Has w W (DevR _ g S :: rs)) (v : Value) (keep : List Int) (hv : RdL W 1 intL v keep) (hl : keep.length ≤ 1000000) (hap : keep ≠ [] → ∀ k ∈ blks v, k < w.heap.size ∨ ∃ r ∈ rs, ∀ F2, r.P W F2 → k ∈ F2) :
    Calls Tryz.prog 39 #[pv g, v] W fun e w' => e = .returned (.int .i64 (S.crashE keep)) ∧ Has w w' (DevR _ g (S.crash keep) :: rs) := by
  obtain ⟨F, ⟨vS, vC, mb, hD, rfl⟩, hF, hR, hT⟩ := h.focus
  refine (dev_crash hD v keep hv hl (fun hne k hk hm => ?_)).mono ?_
  · have hm' : k ∈ g :: mb :: (blks vS ++ blks vC) := by
      simp only [List.mem_cons, List.mem_append] at hm ⊢
      rcases hm with h | h | h
      · exact .inl h
      · exact .inr (.inl h)
      · exact .inr (.inr (.inl h))
    rcases hap hne k hk with h | ⟨r, hr, h⟩
    · have := hF k hm'; omega
    · obtain ⟨F2, hP2, hd⟩ := hR r hr
      exact hd k (h F2 hP2) hm'
  rintro e w' ⟨rfl, ⟨vC', hD', hf⟩, hO⟩
  refine ⟨rfl, hT w' (DevR _ g (S.crash keep)) _ (hO.mono (by intro k hk; simp at hk ⊢; rcases hk with h | h | h <;> simp [h])) ⟨vS, vC', mb, hD', rfl⟩ (fun k hk => ?_)⟩
  simp only [List.mem_cons, List.mem_append] at hk ⊢
  rcases hk with h | h | h | h
  · exact .inl (.inl h)
  · exact .inl (.inr (.inl h))
  · exact .inl (.inr (.inr (.inl h)))
  · exact .inl (.inr (.inr (.inr (hf k h))))
theorem crash_has (h : Has w W (DevR _ g S :: rs)) (v : Value) (keep : List Int) (hv : RdL W 1 intL v keep) (hl : keep.length ≤ 1000000) (hap : ∀ k ∈ blks v, k < w.heap.size ∨ ∃ r ∈ rs, ∀ F2, r.P W F2 → k ∈ F2) :
    Calls Tryz.prog 39 #[pv g, v] W fun e w' => e = .returned (.int .i64 (S.crashE keep)) ∧ Has w w' (DevR _ g (S.crash keep) :: rs) := crash_ne h v keep hv hl (fun _ => hap)
theorem read_has (h : Has w W rs) (hr : DevR _ g S ∈ rs) (n : Int) :
    Calls Tryz.prog 52 #[pv g, .int .i64 n] W fun e w' => e = .returned (S.readV n) ∧ Has w w' rs := by
  obtain ⟨F, ⟨vS, vC, mb, hD, rfl⟩, hF⟩ := h.mem hr
  exact (dev_read hD n).mono (fun e w' ⟨he, hB⟩ => ⟨he, h.below hB⟩)
theorem sectors_has (h : Has w W rs) (hr : DevR _ g S ∈ rs) :
    Calls Tryz.prog 91 #[pv g] W fun e w' => e = .returned (.int .i64 S.st.length) ∧ w' = W := by
  obtain ⟨F, ⟨vS, vC, mb, hD, rfl⟩, hF⟩ := h.mem hr
  exact dev_sectors hD
theorem ok_has (h : Has w W rs) (hr : DevR _ g S ∈ rs) : S.Ok := by
  obtain ⟨F, ⟨vS, vC, mb, hD, rfl⟩, hF⟩ := h.mem hr
  exact hD.ok
/-- a new device of a size that is allowed -/
theorem new_has (h : Has w W rs) (n : Nat) (h1 : 64 ≤ n) (h2 : n ≤ 256) :
    Calls Tryz.prog 7 #[.int .i64 (n : Int)] W fun e w' => ∃ g, e = .returned (.tuple #[pv g, .int .i64 0]) ∧ Has w w' (DevR _ g (Dv.new n) :: rs) := by
  refine (new_any W n).mono ?_
  rintro e w' ⟨h3 | ⟨_, g, F, rfl, hD, hF⟩, hB⟩
  · omega
  · rw [Int.toNat_natCast] at hD
    exact ⟨g, rfl, h.more hB (DevR _ g (Dv.new n)) F hD hF⟩
/-- a new device of another size -/
theorem new_none (n : Int) (hn : n < 64 ∨ 256 < n) :
    Calls Tryz.prog 7 #[.int .i64 n] W fun e w' => e = .returned (.tuple #[.pointer none, .int .i64 7]) ∧ Below W.heap.size W w' := by
  refine (new_any W n).mono ?_
  rintro e w' ⟨⟨_, rfl⟩ | ⟨h3, _⟩, hB⟩
  · exact ⟨rfl, hB⟩
  · omega
end
end Go.Proofs.YtfbkfdoekgnldaaGreatDoor
