/- What Locate returns, said by the changes of single bytes. -/
import Derived.Test.YtpmfpbfbfahniaaDoorShown
namespace Go.Proofs.YtpmfpbfbfahniaaDoor
open Lime
def small8 (x : BitVec 32) : Bool := decide (x.toNat < 256)
theorem lo8_x8 (c : UInt8) : lo8 (x8 c) = c := by
  unfold lo8 x8
  apply UInt8.eq_of_toBitVec_eq
  simp
theorem x8_lo8 {x : BitVec 32} (h : x.toNat < 256) : x8 (lo8 x) = x := by
  apply BitVec.eq_of_toNat_eq
  unfold lo8 x8
  simp
  omega
theorem x8_small (c : UInt8) : (x8 c).toNat < 256 := by rw [x8_toNat]; exact c.toNat_lt
theorem xor_cancel8 (a b : UInt8) : a ^^^ (a ^^^ b) = b := by
  rw [← UInt8.xor_assoc, UInt8.xor_self, UInt8.zero_xor]
theorem at8_get (l : List UInt8) (i : Nat) (h : i < l.length) : at8 l i = l[i] := by simp [at8, h]
/-- a byte can be changed so that the crc is what is wanted just if the undone difference is a byte -/
theorem set_iff (l : List UInt8) (i : Nat) (v : UInt8) (want : BitVec 32) (h : i < l.length) :
    crc (l.set i v) = want ↔ (b8n (l.length - i) (crc l ^^^ want)).toNat < 256 ∧ v = at8 l i ^^^ lo8 (b8n (l.length - i) (crc l ^^^ want)) := by
  rw [crc_set_iff l i v want h, at8_get l i h]
  constructor
  · intro e
    rw [← e]
    refine ⟨x8_small _, ?_⟩
    rw [lo8_x8, xor_cancel8]
  · rintro ⟨h1, rfl⟩
    rw [xor_cancel8, x8_lo8 h1]
theorem loc_inv (l : List UInt8) (d : BitVec 32) (k : Nat) (hk : k ≤ l.length) :
    (locS d (bwd l k)).1 = b8n k d ∧
    (((locS d (bwd l k)).2.1 = -1 ∧ ∀ i, l.length - k ≤ i → i < l.length → ¬ (b8n (l.length - i) d).toNat < 256) ∨
     ∃ i, l.length - k ≤ i ∧ i < l.length ∧ (b8n (l.length - i) d).toNat < 256 ∧ (locS d (bwd l k)).2 = ((i : Int), at8 l i ^^^ lo8 (b8n (l.length - i) d)) ∧ ∀ j, l.length - k ≤ j → j < i → ¬ (b8n (l.length - j) d).toNat < 256) := by
  induction k with
  | zero => exact ⟨rfl, .inl ⟨rfl, fun i h1 h2 => by omega⟩⟩
  | succ k ih =>
    obtain ⟨h1, h2⟩ := ih (by omega)
    have e1 : l.length - (l.length - 1 - k) = k + 1 := by omega
    have hm : l.length - (k + 1) = l.length - 1 - k := by omega
    rw [bwd_succ, locS_snoc, h1, ← b8n_succ]
    refine ⟨rfl, ?_⟩
    by_cases hp : (b8n (k + 1) d).toNat < 256
    · right
      refine ⟨l.length - 1 - k, by omega, by omega, by rw [e1]; exact hp, ?_, fun j ha hb => by omega⟩
      dsimp only
      rw [decide_eq_true hp, cond_true, e1]
    · dsimp only
      rw [decide_eq_false hp, cond_false]
      rcases h2 with ⟨h3, h4⟩ | ⟨i, h3, h4, h5, h6, h7⟩
      · left
        refine ⟨h3, fun i ha hb => ?_⟩
        by_cases hi : i = l.length - 1 - k
        · rw [hi, e1]; exact hp
        · exact h4 i (by omega) hb
      · right
        refine ⟨i, by omega, h4, h5, h6, fun j ha hb => ?_⟩
        by_cases hi : j = l.length - 1 - k
        · rw [hi, e1]; exact hp
        · exact h7 j (by omega) hb
theorem loc_found (l : List UInt8) (want : BitVec 32) (i : Nat) (v : UInt8) (hl : l.length ≤ 1000) (hne : crc l ≠ want) (hi : i < l.length) (hv : crc (l.set i v) = want)
    (hf : ∀ j, j < i → ∀ u, crc (l.set j u) ≠ want) : locAny l want = .tuple #[.int .i64 (i : Int), .int .u8 (vb v), .int .i64 0] := by
  obtain ⟨h1, h2⟩ := loc_inv l (crc l ^^^ want) l.length (Nat.le_refl _)
  obtain ⟨hp, hve⟩ := (set_iff l i v want hi).1 hv
  rw [locAny, if_neg (by omega), if_neg hne, locV]
  rcases h2 with ⟨h3, h4⟩ | ⟨j, h3, h4, h5, h6, h7⟩
  · exact absurd hp (h4 i (by omega) hi)
  · have hji : j = i := by
      rcases Nat.lt_trichotomy j i with h | h | h
      · exact absurd ((set_iff l j _ want h4).2 ⟨h5, rfl⟩) (hf j h _)
      · exact h
      · exact absurd hp (h7 i (by omega) h)
    subst hji
    rw [h6, if_neg (by omega), ← hve]
theorem loc_none (l : List UInt8) (want : BitVec 32) (hl : l.length ≤ 1000) (hne : crc l ≠ want) (hf : ∀ j, j < l.length → ∀ u, crc (l.set j u) ≠ want) :
    locAny l want = .tuple #[.int .i64 0, .int .u8 0, .int .i64 4] := by
  obtain ⟨h1, h2⟩ := loc_inv l (crc l ^^^ want) l.length (Nat.le_refl _)
  rw [locAny, if_neg (by omega), if_neg hne, locV]
  rcases h2 with ⟨h3, h4⟩ | ⟨j, h3, h4, h5, h6, h7⟩
  · rw [h3]; rfl
  · exact absurd ((set_iff l j _ want h4).2 ⟨h5, rfl⟩) (hf j h4 _)
/-- what Locate returns, where some change of a byte is there to be found -/
theorem loc_some (l : List UInt8) (want : BitVec 32) (k : Nat) (u : UInt8) (hl : l.length ≤ 1000) (hne : crc l ≠ want) (hk : k < l.length) (hu : crc (l.set k u) = want) :
    ∃ (i : Nat) (v : UInt8), i ≤ k ∧ crc (l.set i v) = want ∧ (i = k → v = u) ∧ v ≠ at8 l i ∧ locAny l want = .tuple #[.int .i64 (i : Int), .int .u8 (vb v), .int .i64 0] := by
  obtain ⟨h1, h2⟩ := loc_inv l (crc l ^^^ want) l.length (Nat.le_refl _)
  obtain ⟨hp, hve⟩ := (set_iff l k u want hk).1 hu
  rcases h2 with ⟨h3, h4⟩ | ⟨j, h3, h4, h5, h6, h7⟩
  · exact absurd hp (h4 k (by omega) hk)
  · have hjk : j ≤ k := by
      rcases Nat.lt_or_ge k j with h | h
      · exact absurd hp (h7 k (by omega) h)
      · exact h
    have hset := (set_iff l j _ want h4).2 ⟨h5, rfl⟩
    refine ⟨j, _, hjk, hset, ?_, ?_, loc_found l want j _ hl hne h4 hset ?_⟩
    · rintro rfl; exact hve.symm
    · intro e
      rw [e, at8_get l j h4, List.set_getElem_self] at hset
      exact hne hset
    · intro i hi w hw
      exact h7 i (by omega) hi ((set_iff l i w want (by omega)).1 hw).1
end Go.Proofs.YtpmfpbfbfahniaaDoor
