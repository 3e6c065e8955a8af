/- What a transaction and its trouble do to the number of a journal. -/
import Derived.Test.YtfbkfdoekgnldaaDoorJnComB
namespace Go.Proofs.YtfbkfdoekgnldaaDoor
open Go.RowKit
section
variable {S C : Dv} {l : Lay} {m n k : Nat} {run : List Rec} {f : Int → Option (Int × ByteArray)}
/-- a journal at rest -/
structure Num (S : Dv) (l : Lay) (n : Nat) : Prop where
  calm : Calm S l
  t0 : T0 S l n
  pl : ∃ f, Pl S l f
  len : S.st.length = 64
  pw : S.power = -1
structure NumOut (c : Int) (n : Nat) (C : Dv) (l : Lay) (E : Dv) (was now : Nat) (out : List Rec) (wh : Bool) (many : Int) : Prop where
  h1 : headM C l = (q32 was, 0)
  lk : lookM C l = (out, wh, 0)
  rp : replayM C l = (E, many, 0)
  h2 : headM E l = (q32 now, 0)
  w0 : n ≤ was
  w1 : was ≤ n + 1
  n0 : now = was ∨ now = was + 1
  n1 : now ≤ n + 1
  ok : c = 0 → now = n + 1
  an : (wh = true ∨ 0 < out.length) → now = was + 1
  yes : wh = true → many = out.length
  no : wh = false → many = 0
  num : Num E l now
  tk : E.taken ≤ C.taken + 200
theorem crash_rest (h : Calm S l) (ht : T0 S l m) (hf : Pl S l f) (b : Int) :
    S.crashE (keptL b S.ca.length) = 0 ∧ Calm (S.crash (keptL b S.ca.length)) l ∧ (S.crash (keptL b S.ca.length)).power = -1 ∧ (S.crash (keptL b S.ca.length)).taken = S.taken ∧ (S.crash (keptL b S.ca.length)).st.length = S.st.length ∧ T0 (S.crash (keptL b S.ca.length)) l m ∧ Pl (S.crash (keptL b S.ca.length)) l f := by
  have hke := keptL_ok S b
  obtain ⟨k1, k2, k3, k4⟩ := calm_crash h _ hke
  have c := Lay.check_ok h.f.chk
  have hsame : ∀ p : Int, 0 ≤ p → (S.crash (keptL b S.ca.length)).look p = S.look p := fun p hp => by
    rcases k4.each p hp with h | ⟨a, ha, _⟩
    · exact h
    · simp at ha
  exact ⟨hke, k1, k2, k3, k4.len, T0_same h.f k1.f k4.len (fun i hi => hsame _ (by omega)) ht, Pl_same h.f k1.f k4.len (fun p hp _ => hsame p hp) hf⟩
theorem num_rest {c : Int} (h : Num C l k) (hn0 : n ≤ k) (hn1 : k ≤ n + 1) (hk : k + 1 < 4294967296) (hc : c = 0 → k = n + 1) : NumOut c n C l C k k [] false 0 := by
  obtain ⟨e1, e2⟩ := replay_T0 h.calm hk h.t0
  have hh := head_of h.calm.f.chk h.t0.hd
  exact ⟨hh, e2, e1, hh, hn0, hn1, .inl rfl, hn1, hc, fun h => by simp at h, fun h => by simp at h, fun _ => rfl, h, by omega⟩
theorem num_redone {c : Int} {was now : Nat} (hp : C.power = -1) (hl : C.st.length = 64) (hd : Redone C l n f run was now) (hn : n + 2 < 4294967296) (hr : (replayM C l).2.2 = 0) (hc : c = 0 → T0 C l (n + 1) ∧ Calm C l ) :
    NumOut c n C l (replayM C l).1 was now (lookM C l).1 (lookM C l).2.1 (replayM C l).2.1 := by
  have hck := hd.calm.f.chk
  have hx : now = was ∨ now = was + 1 := hd.n0
  refine ⟨head_of hck hd.hd, Prod.ext rfl (Prod.ext rfl hd.le), Prod.ext rfl (Prod.ext rfl hr), head_of hck hd.t0.hd, hd.w0, hd.w1, hx, hd.n1, fun h0 => ?_, fun h0 => ?_, fun h0 => (hd.yes h0).1, hd.no, ⟨hd.calm, hd.t0, ?_, hd.len.trans hl, (hd.pw (by omega)).trans hp⟩, hd.tk⟩
  · obtain ⟨ht, hcm⟩ := hc h0
    obtain ⟨e1, _⟩ := replay_T0 hcm (by omega) ht
    have h1 := hd.t0.hd
    have e2 : (replayM C l).1 = C := by rw [e1]
    rw [e2] at h1
    have h2 := ht.hd
    have hb := hd.n1
    unfold HeadIs at h1 h2
    rw [h1] at h2
    have h3 := congrArg (fun x => x.1.q.toNat) h2
    dsimp only at h3
    rw [q32_toNat (by omega), q32_toNat (by omega)] at h3
    exact h3
  · rcases hx with h | h
    · have := hd.none h
      rw [this] at h0
      simp at h0
    · exact h
  · rcases hd.pl with ⟨_, h⟩ | ⟨_, h | h⟩
    · exact ⟨_, h⟩
    · exact ⟨_, h⟩
    · exact ⟨_, h⟩
/-- without trouble -/
theorem num_free (h : Num S l n) (hn : n + 2 < 4294967296) (htk : S.taken ≤ 800000) (run : List Rec) : ∃ E was now out wh many, NumOut (commitM S l run).2 n (commitM S l run).1 l E was now out wh many ∧ E.taken ≤ S.taken + 400 := by
  obtain ⟨f, hf⟩ := h.pl
  by_cases hv : validM S.st.length l run = 0
  · have hrl : run.length ≤ 80 := by have := (valid_ok hv).len; have := (most_le l).2; omega
    rcases commit_run h.calm h.t0 hf hv hn (by omega) with ⟨h0, hd⟩ | ⟨_, hp, _⟩
    · have ht := hd.tk
      exact ⟨_, _, _, _, _, _, num_rest ⟨hd.calm, hd.t0, ⟨_, hd.pl⟩, hd.len.trans h.len, (hd.pw (by have := h.pw; omega)).trans h.pw⟩ (by omega) (by omega) (by omega) (fun _ => rfl), by omega⟩
    · have := h.pw; omega
  · rw [commit_no h.calm h.t0 hv]
    exact ⟨_, _, _, _, _, _, num_rest h (Nat.le_refl n) (by omega) (by omega) (fun h => absurd h hv), by dsimp only; omega⟩
/-- with it -/
theorem num_trouble (h : Num S l n) (hn : n + 2 < 4294967296) (htk : S.taken ≤ 800000) (run : List Rec) (p b : Int) : (commitM (S.limit p) l run).1.ca.length ≤ 200 ∧ (commitM (S.limit p) l run).1.crashE (keptL b (commitM (S.limit p) l run).1.ca.length) = 0 ∧
    ∃ E was now out wh many, NumOut (commitM (S.limit p) l run).2 n ((commitM (S.limit p) l run).1.crash (keptL b (commitM (S.limit p) l run).1.ca.length)) l E was now out wh many ∧ E.taken ≤ S.taken + 400 := by
  obtain ⟨f, hf⟩ := h.pl
  have hc1 := limit_calm h.calm p
  have ht1 := limit_T0 h.t0 p
  have hf1 := limit_Pl hf p
  obtain ⟨e1, e2, e3, e4⟩ := limit_parts S p
  obtain ⟨T, hT⟩ : ∃ T, T = S.limit p := ⟨_, rfl⟩
  rw [← hT] at hc1 ht1 hf1 e1 e2 e3 e4 ⊢
  have hlen : T.st.length = 64 := by rw [e1]; exact h.len
  by_cases hv : validM T.st.length l run = 0
  · obtain ⟨hca, hk⟩ := commit_trouble hc1 ht1 hf1 hn (by omega) hv
    obtain ⟨k1, k2, k3, k4, k5, k6, k7⟩ := hk b
    refine ⟨hca, k1, ?_⟩
    obtain ⟨C, hC⟩ : ∃ C, C = (commitM T l run).1.crash (keptL b (commitM T l run).1.ca.length) := ⟨_, rfl⟩
    rw [← hC] at k2 k3 k4 k5 k6 k7 ⊢
    rcases replay_run k2 k6 (by rw [k5]; exact valid_ok hv) hn (by omega) with ⟨r0, was, now, hd⟩ | ⟨_, hp, _⟩
    · have htt := hd.tk
      exact ⟨_, _, _, _, _, _, num_redone k3 (k5.trans hlen) hd hn r0 (fun h0 => ⟨(k7 h0).1, k2⟩), by omega⟩
    · omega
  · rw [commit_no hc1 ht1 hv]
    dsimp only
    obtain ⟨k1, k2, k3, k4, k5, k6, k7⟩ := crash_rest hc1 ht1 hf1 b
    refine ⟨by rw [hc1.ca]; simp, k1, _, _, _, _, _, _, num_rest ⟨k2, k6, ⟨_, k7⟩, k5.trans hlen, k3⟩ (Nat.le_refl n) (by omega) (by omega) (fun h => absurd h hv), by omega⟩
end
end Go.Proofs.YtfbkfdoekgnldaaDoor
