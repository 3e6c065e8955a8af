/- What a sector of a frame holds, byte by byte, and that Open is the inverse of Seal. -/
import Derived.Test.YtfbkfdoekgnldaaGreatDoorOpenW
import Derived.Test.YtfbkfdoekgnldaaGreatDoorRef7
import Derived.Test.YtfbkfdoekgnldaaGreatDoorBurst
namespace Go.Proofs.YtfbkfdoekgnldaaGreatDoor
open Lime
theorem sat_putK (s : Sector) (p : Nat) (n : BitVec 32) (k i : Nat) (h : p + k ≤ 128) : sat (putK s p n k) i = if p ≤ i ∧ i < p + k then lo8 (n >>> (8 * (i - p))) else sat s i := by
  induction k with
  | zero => rw [putK, if_neg (by omega)]
  | succ k ih =>
    rw [putK, sat_put _ _ _ _ (by omega), ih (by omega)]
    by_cases h1 : i = p + k
    · rw [if_pos h1, if_pos (by omega), show i - p = k by omega]
    · rw [if_neg h1]
      by_cases h2 : p ≤ i ∧ i < p + k
      · rw [if_pos h2, if_pos (by omega)]
      · rw [if_neg h2, if_neg (by omega)]
theorem sat_putN (s : Sector) (p : Nat) (n : BitVec 32) (i : Nat) (h : p + 4 ≤ 128) : sat (putN s p n) i = if p ≤ i ∧ i < p + 4 then lo8 (n >>> (8 * (i - p))) else sat s i := sat_putK s p n 4 i h
theorem sat_putL (l : List UInt8) : ∀ (s : Sector) (p i : Nat), p + l.length ≤ 128 → sat (putL s p l) i = if p ≤ i ∧ i < p + l.length then at8 l (i - p) else sat s i := by
  induction l with
  | nil => intro s p i _; rw [putL, if_neg (by simp)]
  | cons c l ih =>
    intro s p i h
    simp only [List.length_cons] at h ⊢
    rw [putL, ih _ _ _ (by omega), sat_put _ _ _ _ (by omega)]
    by_cases h1 : p + 1 ≤ i ∧ i < p + 1 + l.length
    · rw [if_pos h1, if_pos (by omega), show i - p = (i - (p + 1)) + 1 by omega]; simp [at8]
    · rw [if_neg h1]
      by_cases h2 : i = p
      · subst h2; rw [if_pos rfl, if_pos (by omega)]; simp [at8]
      · rw [if_neg h2, if_neg (by omega)]
theorem u8_bits {a b : UInt8} (h : ∀ i, i < 8 → a.toBitVec.getLsbD i = b.toBitVec.getLsbD i) : a = b := UInt8.toBitVec_inj.1 (BitVec.eq_of_getLsbD_eq h)
theorem lo8_bits (n : BitVec 32) (i : Nat) (h : i < 8) : (lo8 n).toBitVec.getLsbD i = n.getLsbD i := by
  unfold lo8
  show (BitVec.setWidth 8 n).getLsbD i = _
  rw [BitVec.getLsbD_setWidth]; simp [h]
theorem x8_bits (c : UInt8) (i : Nat) (h : i < 32) : (x8 c).getLsbD i = c.toBitVec.getLsbD i := by
  unfold x8; rw [BitVec.getLsbD_setWidth]; simp [h]
theorem getK_bits (s : Sector) (p k i : Nat) (hk : k ≤ 4) : (getK s p k).getLsbD i = (decide (i < 8 * k) && (sat s (p + i / 8)).toBitVec.getLsbD (i % 8)) := by
  induction k with
  | zero => simp [getK]
  | succ k ih =>
    rw [getK, BitVec.getLsbD_or, ih (by omega), BitVec.getLsbD_shiftLeft]
    by_cases h1 : i < 8 * k
    · have : i < 8 * (k + 1) := by omega
      simp [h1, this]
    · by_cases h2 : i < 8 * (k + 1)
      · rw [x8_bits _ _ (by omega), show i / 8 = k by omega, show i % 8 = i - 8 * k by omega]
        have : i < 32 := by omega
        simp [h1, h2, this]
      · have hx : (sat s (p + k)).toBitVec.getLsbD (i - 8 * k) = false := BitVec.getLsbD_of_ge _ _ (by omega)
        by_cases h3 : i - 8 * k < 32
        · rw [x8_bits _ _ h3, hx]; simp [h1, h2]
        · rw [BitVec.getLsbD_of_ge (x8 _) _ (by omega)]; simp [h1, h2]
theorem getN_bits (s : Sector) (p i : Nat) (h : i < 32) : (getN s p).getLsbD i = (sat s (p + i / 8)).toBitVec.getLsbD (i % 8) := by
  rw [getN, getK_bits _ _ _ _ (by omega)]; simp [show i < 8 * 4 by omega]
theorem getN_of (s : Sector) (p : Nat) (n : BitVec 32) (h : ∀ j, j < 4 → sat s (p + j) = lo8 (n >>> (8 * j))) : getN s p = n := by
  apply BitVec.eq_of_getLsbD_eq
  intro i hi
  rw [getN_bits _ _ _ hi, h _ (by omega), lo8_bits _ _ (by omega), BitVec.getLsbD_ushiftRight]
  congr 1; omega
theorem lo8_getN (s : Sector) (p j : Nat) (h : j < 4) : lo8 (getN s p >>> (8 * j)) = sat s (p + j) := by
  apply u8_bits
  intro i hi
  rw [lo8_bits _ _ hi, BitVec.getLsbD_ushiftRight, getN_bits _ _ _ (by omega), show (8 * j + i) / 8 = j by omega, show (8 * j + i) % 8 = i by omega]
theorem take_congr {s t : Sector} {k : Nat} (h : ∀ i, i < k → sat s i = sat t i) : s.toList.take k = t.toList.take k := by
  apply List.ext_getElem?
  intro i
  rw [List.getElem?_take, List.getElem?_take]
  split
  · rename_i hk
    have := h i hk
    unfold sat at this
    by_cases h1 : i < 128
    · simpa [h1] using this
    · simp [h1]
  · rfl
theorem sat_num (kb lb : UInt8) (l : List UInt8) (seq : BitVec 32) (p i : Nat) (hl : l.length ≤ 112) : sat (sealNum kb lb l seq p) i =
    if 120 ≤ i ∧ i < 124 then lo8 (BitVec.ofNat 32 p >>> (8 * (i - 120))) else if 4 ≤ i ∧ i < 8 then lo8 (seq >>> (8 * (i - 4))) else
    if 8 ≤ i ∧ i < 8 + l.length then at8 l (i - 8) else if i = 2 then lb else if i = 1 then kb else if i = 0 then 76 else 0 := by
  rw [sealNum, sat_putN _ _ _ _ (by omega), sat_putN _ _ _ _ (by omega), sealBase, sat_putL _ _ _ _ (by omega), sat_put _ _ _ _ (by omega), sat_put _ _ _ _ (by omega), sat_put _ _ _ _ (by omega), sat_zero]
theorem sat_seal (kb lb : UInt8) (l : List UInt8) (seq : BitVec 32) (p i : Nat) (hi : i < 124) : sat (sealOf kb lb l seq p) i = sat (sealNum kb lb l seq p) i := by
  rw [sealOf, sat_putN _ _ _ _ (by omega), if_neg (by omega)]
theorem seal_take (kb lb : UInt8) (l : List UInt8) (seq : BitVec 32) (p : Nat) : (sealOf kb lb l seq p).toList.take 124 = (sealNum kb lb l seq p).toList.take 124 :=
  take_congr fun i hi => sat_seal kb lb l seq p i hi
theorem seal_sum (kb lb : UInt8) (l : List UInt8) (seq : BitVec 32) (p : Nat) : getN (sealOf kb lb l seq p) 124 = crc ((sealOf kb lb l seq p).toList.take 124) := by
  rw [seal_take]
  apply getN_of
  intro j hj
  rw [sealOf, sat_putN _ _ _ _ (by omega), if_pos (by omega), show 124 + j - 124 = j by omega]
theorem seal_data (kb lb : UInt8) (l : List UInt8) (seq : BitVec 32) (p : Nat) (hl : l.length ≤ 112) : ((sealOf kb lb l seq p).toList.drop 8).take l.length = l := by
  apply List.ext_getElem?
  intro i
  by_cases hi : i < l.length
  · have h := sat_seal kb lb l seq p (8 + i) (by omega)
    rw [sat_num _ _ _ _ _ _ hl, if_neg (by omega), if_neg (by omega), if_pos (by omega), show 8 + i - 8 = i by omega] at h
    unfold sat at8 at h
    rw [List.getElem?_take, if_pos hi, List.getElem?_drop]
    have h1 : 8 + i < (sealOf kb lb l seq p).toList.length := by simp; omega
    rw [getD_lt _ _ _ h1, getD_lt _ _ _ hi] at h
    rw [List.getElem?_eq_getElem h1, List.getElem?_eq_getElem hi, h]
  · rw [List.getElem?_eq_none (by simp; omega), List.getElem?_eq_none (by omega)]
theorem seal_ne_zero (kb lb : UInt8) (l : List UInt8) (seq : BitVec 32) (p : Nat) (hl : l.length ≤ 112) : ¬ sealOf kb lb l seq p = zsec := by
  intro h
  have h1 := sat_seal kb lb l seq p 0 (by omega)
  rw [h, sat_zero, sat_num _ _ _ _ _ _ hl] at h1
  simp at h1
theorem ofNat_toNat (p : Nat) (h : p < 256) : (BitVec.ofNat 32 p).toNat = p := by simp; omega
theorem seal_place (kb lb : UInt8) (l : List UInt8) (seq : BitVec 32) (p : Nat) (hl : l.length ≤ 112) (hp : p < 256) : (getN (sealOf kb lb l seq p) 120).toNat = p := by
  rw [getN_of _ _ (BitVec.ofNat 32 p) (fun j hj => by rw [sat_seal _ _ _ _ _ _ (by omega), sat_num _ _ _ _ _ _ hl, if_pos (by omega), show 120 + j - 120 = j by omega]), ofNat_toNat p hp]
theorem seal_seq (kb lb : UInt8) (l : List UInt8) (seq : BitVec 32) (p : Nat) (hl : l.length ≤ 112) : getN (sealOf kb lb l seq p) 4 = seq :=
  getN_of _ _ _ (fun j hj => by rw [sat_seal _ _ _ _ _ _ (by omega), sat_num _ _ _ _ _ _ hl, if_neg (by omega), if_pos (by omega), show 4 + j - 4 = j by omega])
theorem seal_at0 (kb lb : UInt8) (l : List UInt8) (seq : BitVec 32) (p : Nat) (hl : l.length ≤ 112) : sat (sealOf kb lb l seq p) 0 = 76 := by
  rw [sat_seal _ _ _ _ _ _ (by omega), sat_num _ _ _ _ _ _ hl]; simp
theorem seal_at1 (kb lb : UInt8) (l : List UInt8) (seq : BitVec 32) (p : Nat) (hl : l.length ≤ 112) : sat (sealOf kb lb l seq p) 1 = kb := by
  rw [sat_seal _ _ _ _ _ _ (by omega), sat_num _ _ _ _ _ _ hl]; simp
theorem seal_at2 (kb lb : UInt8) (l : List UInt8) (seq : BitVec 32) (p : Nat) (hl : l.length ≤ 112) : sat (sealOf kb lb l seq p) 2 = lb := by
  rw [sat_seal _ _ _ _ _ _ (by omega), sat_num _ _ _ _ _ _ hl]; simp
theorem seal_at3 (kb lb : UInt8) (l : List UInt8) (seq : BitVec 32) (p : Nat) (hl : l.length ≤ 112) : sat (sealOf kb lb l seq p) 3 = 0 := by
  rw [sat_seal _ _ _ _ _ _ (by omega), sat_num _ _ _ _ _ _ hl]; simp
theorem seal_tail (kb lb : UInt8) (l : List UInt8) (seq : BitVec 32) (p : Nat) (hl : l.length ≤ 112) (hb : lb.toNat = l.length) : tailZ (sealOf kb lb l seq p) = true := by
  rw [tailZ, List.all_eq_true]
  intro i hi
  simp only [List.mem_range] at hi
  rw [seal_at2 _ _ _ _ _ hl, hb]
  by_cases h : i < 8 + l.length
  · simp [h]
  · rw [sat_seal _ _ _ _ _ _ (by omega), sat_num _ _ _ _ _ _ hl, if_neg (by omega), if_neg (by omega), if_neg (by omega), if_neg (by omega), if_neg (by omega), if_neg (by omega)]; simp
/-- Open of the sector of a frame -/
theorem open_seal (kb lb : UInt8) (l : List UInt8) (seq : BitVec 32) (p q : Nat) (hl : l.length ≤ 112) (hb : lb.toNat = l.length) (hk : kb ≠ 0) (hp : p < 256) :
    openCode q (sealOf kb lb l seq p) = if p ≠ q then 72 else 0 := by
  rw [openCode, if_neg (seal_ne_zero _ _ _ _ _ hl), if_neg (fun h => h (seal_sum _ _ _ _ _)), if_neg (by
    rw [seal_at0 _ _ _ _ _ hl, seal_at1 _ _ _ _ _ hl, seal_at2 _ _ _ _ _ hl, seal_at3 _ _ _ _ _ hl, seal_place _ _ _ _ _ hl hp, hb]
    rintro (h | h | h | h | h)
    · exact h rfl
    · exact hk h
    · omega
    · exact h rfl
    · omega), seal_tail _ _ _ _ _ hl hb, seal_place _ _ _ _ _ hl hp]
  simp
theorem open_seal_data (kb lb : UInt8) (d : ByteArray) (seq : BitVec 32) (p : Nat) (hl : d.data.toList.length ≤ 112) (hb : lb.toNat = d.data.toList.length) : frData (sealOf kb lb d.data.toList seq p) = d := by
  rw [frData, seal_at2 _ _ _ _ _ hl, hb, seal_data _ _ _ _ _ hl]
/-- the form of a sector that holds a frame -/
structure Formed (s : Sector) : Prop where
  sum : getN s 124 = crc (s.toList.take 124)
  t0 : sat s 0 = 76
  t1 : sat s 1 ≠ 0
  t2 : (sat s 2).toNat ≤ 112
  t3 : sat s 3 = 0
  t4 : (getN s 120).toNat < 256
  tail : tailZ s = true
def dataL (s : Sector) : List UInt8 := (s.toList.drop 8).take (sat s 2).toNat
theorem dataL_len (s : Sector) (h : (sat s 2).toNat ≤ 112) : (dataL s).length = (sat s 2).toNat := by simp [dataL]; omega
theorem dataL_at (s : Sector) (i : Nat) (hi : i < (sat s 2).toNat) : at8 (dataL s) i = sat s (8 + i) := by
  unfold at8 dataL sat
  simp only [List.getD_eq_getElem?_getD, List.getElem?_take, List.getElem?_drop]
  unfold sat at hi
  simp only [List.getD_eq_getElem?_getD] at hi
  rw [if_pos hi]
theorem formed_seal {s : Sector} (h : Formed s) : sealOf (sat s 1) (sat s 2) (dataL s) (getN s 4) (getN s 120).toNat = s := by
  have hlen := dataL_len s h.t2
  have hl : (dataL s).length ≤ 112 := by rw [hlen]; exact h.t2
  have hlow : ∀ i, i < 124 → sat (sealNum (sat s 1) (sat s 2) (dataL s) (getN s 4) (getN s 120).toNat) i = sat s i := by
    intro i hi
    rw [sat_num _ _ _ _ _ _ hl, hlen]
    by_cases h1 : 120 ≤ i ∧ i < 124
    · rw [if_pos h1, BitVec.ofNat_toNat, BitVec.setWidth_eq, lo8_getN _ _ _ (by omega), show 120 + (i - 120) = i by omega]
    rw [if_neg h1]
    by_cases h2 : 4 ≤ i ∧ i < 8
    · rw [if_pos h2, lo8_getN _ _ _ (by omega), show 4 + (i - 4) = i by omega]
    rw [if_neg h2]
    by_cases h3 : 8 ≤ i ∧ i < 8 + (sat s 2).toNat
    · rw [if_pos h3, dataL_at s _ (by omega)]; congr 1; omega
    rw [if_neg h3]
    by_cases h4 : i = 2
    · rw [if_pos h4, h4]
    rw [if_neg h4]
    by_cases h5 : i = 1
    · rw [if_pos h5, h5]
    rw [if_neg h5]
    by_cases h6 : i = 0
    · rw [if_pos h6, h6, h.t0]
    rw [if_neg h6]
    by_cases h7 : i = 3
    · rw [h7, h.t3]
    have ht := h.tail
    rw [tailZ, List.all_eq_true] at ht
    have := ht i (by simp; omega)
    have hi8 : ¬ i < 8 + (sat s 2).toNat := by omega
    simp [hi8] at this
    exact this.symm
  apply sat_ext
  intro i hi
  by_cases h1 : i < 124
  · rw [sat_seal _ _ _ _ _ _ h1, hlow i h1]
  · rw [sealOf, sat_putN _ _ _ _ (by omega), if_pos (by omega), take_congr hlow, ← h.sum, lo8_getN _ _ _ (by omega), show 124 + (i - 124) = i by omega]
theorem formed_of_seal (kb lb : UInt8) (l : List UInt8) (seq : BitVec 32) (p : Nat) (hl : l.length ≤ 112) (hb : lb.toNat = l.length) (hk : kb ≠ 0) (hp : p < 256) : Formed (sealOf kb lb l seq p) :=
  ⟨seal_sum _ _ _ _ _, seal_at0 _ _ _ _ _ hl, by rw [seal_at1 _ _ _ _ _ hl]; exact hk, by rw [seal_at2 _ _ _ _ _ hl, hb]; exact hl, seal_at3 _ _ _ _ _ hl, by rw [seal_place _ _ _ _ _ hl hp]; exact hp, seal_tail _ _ _ _ _ hl hb⟩
theorem openCode_zero {p : Nat} {s : Sector} (h : openCode p s = 0) : Formed s ∧ (getN s 120).toNat = p := by
  unfold openCode at h
  split at h
  · cases h
  split at h
  · cases h
  rename_i h2
  split at h
  · cases h
  rename_i h3
  split at h
  · cases h
  rename_i h4
  split at h
  · cases h
  rename_i h5
  simp only [not_or, Decidable.not_not] at h2 h3 h5
  obtain ⟨a, b, c, d, e⟩ := h3
  exact ⟨⟨h2, a, b, by omega, d, by omega, by cases ht : tailZ s with | true => rfl | false => exact absurd ht h4⟩, h5⟩
end Go.Proofs.YtfbkfdoekgnldaaGreatDoor
