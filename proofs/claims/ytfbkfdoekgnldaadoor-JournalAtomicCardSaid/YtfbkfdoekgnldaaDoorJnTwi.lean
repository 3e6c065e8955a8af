/- The walk of the journal's kept: which writes survive, by bits. A Replay behind a Replay does nothing; what trouble leaves of a transaction. -/
import Derived.Test.YtfbkfdoekgnldaaDoorJnAwake
namespace Go.Proofs.YtfbkfdoekgnldaaDoor
open Go.RowKit
open Lime
attribute [local go_sem] Oper.semAt_some setRow_alloc_at setRow_alloc_past setRow_drew
def bitAt (b : Int) (k : Nat) : Bool := (b / 2 ^ (k % 64)).tmod 2 == 1
def keptL (b : Int) : Nat → List Int
  | 0 => []
  | k + 1 => if bitAt b k then keptL b k ++ [(k : Int)] else keptL b k
theorem keptL_lt (b : Int) (n : Nat) : ∀ i ∈ keptL b n, 0 ≤ i ∧ i < n := by
  induction n with
  | zero => intro i h; simp [keptL] at h
  | succ n ih =>
    intro i h
    unfold keptL at h
    split at h
    · rcases List.mem_append.1 h with h | h
      · have := ih i h; omega
      · simp at h; omega
    · have := ih i h; omega
theorem keptL_len (b : Int) (n : Nat) : (keptL b n).length ≤ n := by
  induction n with
  | zero => simp [keptL]
  | succ n ih =>
    unfold keptL
    split
    · rw [List.length_append, List.length_singleton]; omega
    · omega
theorem rises_snoc (l : List Int) : ∀ (x : Int), risesI l = true → (∀ i ∈ l, i < x) → risesI (l ++ [x]) = true := by
  induction l with
  | nil => intro x _ _; rfl
  | cons a r ih =>
    intro x h hl
    cases r with
    | nil =>
      have := hl a (.head _)
      simp [risesI, this]
    | cons b r =>
      simp only [risesI, Bool.and_eq_true, decide_eq_true_eq] at h
      have h2 := ih x h.2 (fun i hi => hl i (.tail _ hi))
      simp only [List.cons_append] at h2 ⊢
      simp only [risesI, Bool.and_eq_true, decide_eq_true_eq]
      exact ⟨h.1, h2⟩
theorem keptL_rises (b : Int) (n : Nat) : risesI (keptL b n) = true := by
  induction n with
  | zero => rfl
  | succ n ih =>
    unfold keptL
    split
    · exact rises_snoc _ _ ih (fun i hi => (keptL_lt b n i hi).2)
    · exact ih
theorem keptL_ok (S : Dv) (b : Int) : S.crashE (keptL b S.ca.length) = 0 := by
  unfold Dv.crashE
  rw [if_neg, if_pos (keptL_rises b _)]
  intro h
  obtain ⟨i, hi, ho⟩ := List.any_eq_true.1 h
  have := keptL_lt b _ i hi
  simp [Dv.odd] at ho
  omega
set_option maxRecDepth 100000 in
set_option maxHeartbeats 4000000 in
theorem kept_has {w W : World} {rs : List (Res w.heap.size)} (h : Has w W rs) (n : Nat) (b : Int) (hn : n ≤ 1000) (hb0 : 0 ≤ b) (hb1 : b < 18446744073709551616) :
    Calls Tryd.prog 15 #[.int .i64 (n : Int), .int .u64 b] W fun e w' => ∃ v, e = .returned v ∧ Has w w' (OwnR _ 3 1 intL v (keptL b n) :: rs) := by
  have H := Lib.hid (OwnR.nil h 3 1 intL)
  clear h
  go_enter Tryd.func15, Tryd.ntmps15
  go_wp2_with fail
  go_loopw [5, 6] (fun v i wr => ∃ k : Nat, i = .int .i64 (k : Int) ∧ k ≤ n ∧ Has w wr (OwnR _ 3 1 intL v (keptL b k) :: rs)) (fun _ i _ => n - (intOf i).toNat)
  case atStart => exact ⟨0, rfl, Nat.zero_le _, H.out⟩
  case round =>
    obtain ⟨k, rfl, hk, hH⟩ := hrel
    clear H
    by_cases hlt : k < n
    · have hki : (k : Int) < (n : Int) := by omega
      obtain ⟨m, hm⟩ : ∃ m, m = k % 64 := ⟨_, rfl⟩
      have hm64 : m < 64 := by omega
      have hrem : (k : Int).tmod 64 = (m : Int) := by rw [Int.tmod_eq_emod_of_nonneg (by omega), hm]; norm_cast
      have hconv : IntKind.u64.wrap (m : Int) = (m : Int) := by rw [IntKind.wrap_u64]; omega
      have hmin : min m 64 = m := by omega
      have hlen := keptL_len b k
      obtain ⟨z, hz⟩ : ∃ z, ((b / 2 ^ m).tmod 2 == 1) = z := ⟨_, rfl⟩
      have HB : Hid (bitAt b k = z) := by unfold bitAt; rw [← hm]; exact Lib.hid hz
      cases z
      · have HN : Hid (keptL b (k + 1) = keptL b k) := by show (if _ then _ else _) = _; rw [HB.out]; exact Lib.hid rfl
        have HH := Lib.hid hH
        clear hm hH HB
        go_wp2_with fail
        go_roundw
        case rel => exact ⟨k + 1, by go_num, by omega, by rw [HN.out]; exact HH.out⟩
        case measure => simp [intOf]; omega
      · have HN : Hid (keptL b (k + 1) = keptL b k ++ [(k : Int)]) := by show (if _ then _ else _) = _; rw [HB.out]; exact Lib.hid rfl
        obtain ⟨v2, Wp, hrun, hp⟩ := Has.pushInt hH (k : Int) (by omega)
        have HH := Lib.hid hp
        clear hm hH HB hp
        go_wp2_with (at_builtin; (with_reducible refine wpList_append_eq rfl _ _ _ rfl _ _ _ _ ?_ ?_ hrun ?_); rfl; rfl)
        go_roundw
        case rel => exact ⟨k + 1, by go_num, by omega, by rw [HN.out]; exact HH.out⟩
        case measure => simp [intOf]; omega
    · obtain rfl : k = n := by omega
      have HH := Lib.hid hH
      clear hH
      go_wp2_with fail
      go_ret
      exact ⟨_, rfl, HH.out⟩
end Go.Proofs.YtfbkfdoekgnldaaDoor
namespace Go.Proofs.YtfbkfdoekgnldaaDoor
open Go.RowKit
section
variable {S : Dv} {l : Lay} {m : Nat} {run : List Rec} {f : Int → Option (Int × ByteArray)}
theorem limit_eq (S : Dv) (n : Int) (h0 : 0 ≤ n) (h1 : n ≤ 1000) : S.limit n = { S with power := n } ∧ limitE n = 0 := by
  unfold Dv.limit limitE
  rw [if_neg (by omega), if_neg (by omega)]
  exact ⟨rfl, rfl⟩
theorem limit_get (S : Dv) (n : Int) (p : Int) : (S.limit n).get p = S.get p := by
  unfold Dv.limit
  split <;> rfl
theorem limit_look (S : Dv) (n : Int) (p : Int) : (S.limit n).look p = S.look p := by
  unfold Dv.limit
  split <;> rfl
theorem limit_parts (S : Dv) (n : Int) : (S.limit n).st = S.st ∧ (S.limit n).ca = S.ca ∧ (S.limit n).taken = S.taken ∧ (S.limit n).off = S.off := by
  unfold Dv.limit
  split <;> exact ⟨rfl, rfl, rfl, rfl⟩
theorem limit_calm (h : Calm S l) (n : Int) : Calm (S.limit n) l := by
  obtain ⟨e1, e2, e3, e4⟩ := limit_parts S n
  exact ⟨⟨by rw [e4]; exact h.f.on, h.f.chk, by rw [e1]; exact h.f.end_, by rw [e1]; exact h.f.n256⟩, by rw [e2]; exact h.ca, Dv.limit_ok h.ok n⟩
theorem limit_T0 (h : T0 S l m) (n : Int) : T0 (S.limit n) l m := by
  refine ⟨?_, fun i h1 h2 => by rw [limit_get]; exact h.old i h1 h2⟩
  unfold HeadIs
  rw [limit_get]; exact h.hd
theorem limit_Pl (h : Pl S l f) (n : Int) : Pl (S.limit n) l f := by
  intro p h0 h1 hi
  obtain ⟨e1, _, _, _⟩ := limit_parts S n
  have := h p h0 (by rw [← e1]; exact h1) hi
  cases hx : f p with
  | none => rw [hx] at this; show (S.limit n).look p = zsec; rw [limit_look]; exact this
  | some x => rw [hx] at this; obtain ⟨q, hq⟩ := this; exact ⟨q, by rw [limit_get]; exact hq⟩
theorem recE_ne (n : Nat) (l : Lay) (b : List Rec) (r : Rec) : recE n l b r ≠ 13 := by
  unfold recE
  split
  · decide
  · split
    · decide
    · split
      · decide
      · split <;> decide
theorem validK_ne (n : Nat) (l : Lay) (run : List Rec) : ∀ b, validK n l b run ≠ 13 := by
  induction run with
  | nil => intro b; show (0 : Int) ≠ 13; decide
  | cons r rest ih =>
    intro b
    unfold validK
    split
    · exact recE_ne _ _ _ _
    · exact ih _
theorem validM_ne (n : Nat) (l : Lay) (run : List Rec) : validM n l run ≠ 13 := by
  unfold validM
  split
  · decide
  · exact validK_ne _ _ _ _
theorem replay_T0 (h : Calm S l) (hm : m + 1 < 4294967296) (ht : T0 S l m) : replayM S l = (S, 0, 0) ∧ lookM S l = ([], false, 0) := by
  have hl := look_T0 h.f hm ht
  refine ⟨?_, hl⟩
  unfold replayM
  rw [hl, head_of h.f.chk ht.hd, if_neg (by simp), if_neg (by simp)]
  dsimp only
  rw [stale_T0 h.f hm ht, if_neg (by simp), if_neg (by simp)]
/-- what a Commit leaves, whether its power went or not, and a crash behind it -/
theorem commit_trouble (h : Calm S l) (ht : T0 S l m) (hf : Pl S l f) (hm : m + 2 < 4294967296) (htk : S.taken ≤ 800000) (hv : validM S.st.length l run = 0) :
    (commitM S l run).1.ca.length ≤ 200 ∧ ∀ b, (commitM S l run).1.crashE (keptL b (commitM S l run).1.ca.length) = 0 ∧
      Calm ((commitM S l run).1.crash (keptL b (commitM S l run).1.ca.length)) l ∧ ((commitM S l run).1.crash (keptL b (commitM S l run).1.ca.length)).power = -1 ∧ ((commitM S l run).1.crash (keptL b (commitM S l run).1.ca.length)).taken ≤ S.taken + 200 ∧
      ((commitM S l run).1.crash (keptL b (commitM S l run).1.ca.length)).st.length = S.st.length ∧ Mid ((commitM S l run).1.crash (keptL b (commitM S l run).1.ca.length)) l m f run ∧
      ((commitM S l run).2 = 0 → T0 ((commitM S l run).1.crash (keptL b (commitM S l run).1.ca.length)) l (m + 1) ∧ Pl ((commitM S l run).1.crash (keptL b (commitM S l run).1.ca.length)) l (upd f run)) := by
  have hr := valid_ok hv
  have hrl : run.length ≤ 80 := by have := hr.len; have := (most_le l).2; omega
  rcases commit_run h ht hf hv hm (by omega) with ⟨h0, hd⟩ | ⟨h0, _, hca, _, hk⟩
  · have hca : (commitM S l run).1.ca = [] := hd.calm.ca
    refine ⟨by rw [hca]; simp, fun b => ?_⟩
    have hke := keptL_ok (commitM S l run).1 b
    obtain ⟨k1, k2, k3, k4⟩ := calm_crash hd.calm _ hke
    have c := Lay.check_ok h.f.chk
    have hsame : ∀ p : Int, 0 ≤ p → ((commitM S l run).1.crash (keptL b (commitM S l run).1.ca.length)).look p = (commitM S l run).1.look p := fun p hp => by
      rcases k4.each p hp with h | ⟨a, ha, _⟩
      · exact h
      · simp at ha
    have ht0 := T0_same hd.calm.f k1.f k4.len (fun i hi => hsame _ (by omega)) hd.t0
    have hpl := Pl_same hd.calm.f k1.f k4.len (fun p hp _ => hsame p hp) hd.pl
    have htk2 := hd.tk
    exact ⟨hke, k1, k2, by rw [k3, htk2]; omega, k4.len.trans hd.len, .inr (.inr ⟨ht0, .inr hpl⟩), fun _ => ⟨ht0, hpl⟩⟩
  · refine ⟨hca, fun b => ?_⟩
    have hke := keptL_ok (commitM S l run).1 b
    obtain ⟨k1, k2, k3, k4, k5⟩ := hk _ hke
    exact ⟨hke, k1, k2, k3, k4, k5, fun e => by rw [h0] at e; exact absurd e (by decide)⟩
theorem twice_math (h : Calm S l) (ht : T0 S l m) (hf : Pl S l f) (hm : m + 2 < 4294967296) (htk : S.taken ≤ 800000) (hc : (commitM S l run).2 = 0 ∨ (commitM S l run).2 = 13) (b : Int) :
    (commitM S l run).1.ca.length ≤ 200 ∧ (commitM S l run).1.crashE (keptL b (commitM S l run).1.ca.length) = 0 ∧
    ∃ (D : Dv) (n : Int), replayM ((commitM S l run).1.crash (keptL b (commitM S l run).1.ca.length)) l = (D, n, 0) ∧ (n = 0 ∨ n = run.length) ∧ replayM D l = (D, 0, 0) ∧ lookM D l = ([], false, 0) := by
  have hv : validM S.st.length l run = 0 := by
    by_cases hv : validM S.st.length l run = 0
    · exact hv
    · exfalso
      have e := commit_no (run := run) h ht hv
      rw [e] at hc
      rcases hc with hc | hc
      · exact hv hc
      · exact validM_ne _ _ _ hc
  obtain ⟨hca, hk⟩ := commit_trouble h ht hf hm htk hv
  obtain ⟨k1, k2, k3, k4, k5, k6, _⟩ := hk b
  refine ⟨hca, k1, ?_⟩
  obtain ⟨C, hC⟩ : ∃ C, C = (commitM S l run).1.crash (keptL b (commitM S l run).1.ca.length) := ⟨_, rfl⟩
  rw [← hC] at k2 k3 k4 k5 k6 ⊢
  rcases replay_run k2 k6 (by rw [k5]; exact valid_ok hv) hm (by omega) with ⟨r0, was, now, hd⟩ | ⟨_, hp, _⟩
  · obtain ⟨e1, e2⟩ := replay_T0 hd.calm (by have := hd.n1; omega) hd.t0
    refine ⟨(replayM C l).1, (replayM C l).2.1, ?_, ?_, e1, e2⟩
    · rw [← r0]
    · cases hw : (lookM C l).2.1
      · exact .inl (hd.no hw)
      · right
        have := hd.yes hw
        rw [this.1, this.2]
  · omega
end
end Go.Proofs.YtfbkfdoekgnldaaDoor
