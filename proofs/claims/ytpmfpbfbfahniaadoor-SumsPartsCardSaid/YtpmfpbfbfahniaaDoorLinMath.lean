/- Plain mathematics for SumsLinear and SumsParts: the mix as sums, one byte changed, the next window. -/
import Derived.Test.YtpmfpbfbfahniaaDoorMixW
import Derived.Test.YtpmfpbfbfahniaaDoorSums
namespace Go.Proofs.YtpmfpbfbfahniaaDoor
open Lime
/-- the sum of bytes; and the sum where each counts as often as it is from the end -/
def sumB : List UInt8 → Int
  | [] => 0
  | c :: l => vb c + sumB l
def wgtB : List UInt8 → Int
  | [] => 0
  | c :: l => ((l.length : Int) + 1) * vb c + wgtB l
theorem sumB_append (l m : List UInt8) : sumB (l ++ m) = sumB l + sumB m := by
  induction l with
  | nil => simp [sumB]
  | cons c l ih => simp only [List.cons_append, sumB, ih]; omega
theorem wgtB_snoc (l : List UInt8) (v : UInt8) : wgtB (l ++ [v]) = wgtB l + sumB l + vb v := by
  induction l with
  | nil => simp [wgtB, sumB]
  | cons c l ih =>
    simp only [List.cons_append, wgtB, sumB, ih, List.length_append, List.length_cons, List.length_nil]
    have : ((l.length + (0 + 1) : Nat) : Int) + 1 = ((l.length : Int) + 1) + 1 := by omega
    rw [this, Int.add_mul ((l.length : Int) + 1) 1 (vb c), Int.one_mul]
    omega
theorem mix2_sums (a b : Int) (l : List UInt8) : mix2 (a % 4294967291) (b % 4294967291) l = ((a + sumB l) % 4294967291, (b + l.length * a + wgtB l) % 4294967291) := by
  induction l generalizing a b with
  | nil => simp [mix2, sumB, wgtB]
  | cons c l ih =>
    have e1 : mxA (a % 4294967291) c = (a + vb c) % 4294967291 := by unfold mxA; omega
    have e2 : mxB (a % 4294967291) (b % 4294967291) c = (b + (a + vb c)) % 4294967291 := by unfold mxB; rw [e1]; omega
    rw [mix2, e1, e2, ih]
    have h1 : a + vb c + sumB l = a + sumB (c :: l) := by simp only [sumB]; omega
    have h2 : b + (a + vb c) + (l.length : Int) * (a + vb c) + wgtB l = b + ((c :: l).length : Int) * a + wgtB (c :: l) := by
      simp only [wgtB, List.length_cons]
      rw [show ((l.length + 1 : Nat) : Int) = (l.length : Int) + 1 by omega, Int.mul_add, Int.add_mul, Int.add_mul]
      omega
    rw [h1, h2]
theorem mix2_one (l : List UInt8) : mix2 1 0 l = ((1 + sumB l) % 4294967291, ((l.length : Int) + wgtB l) % 4294967291) := by
  have := mix2_sums 1 0 l
  rw [show (1 : Int) % 4294967291 = 1 from rfl, show (0 : Int) % 4294967291 = 0 from rfl] at this
  rw [this]
  congr 2
  omega
def mixL (l : List UInt8) : Int := joinM (mix2 1 0 l)
theorem sumB_set (l : List UInt8) (k : Nat) (v : UInt8) (h : k < l.length) : sumB (l.set k v) = sumB l - vb (at8 l k) + vb v := by
  induction l generalizing k with
  | nil => simp at h
  | cons c l ih =>
    cases k with
    | zero => simp [sumB, at8]; omega
    | succ k =>
      have := ih k (by simpa using h)
      simp only [List.set_cons_succ, sumB, this]
      have e : at8 (c :: l) (k + 1) = at8 l k := by simp [at8]
      rw [e]; omega
theorem mix_change (l : List UInt8) (k : Nat) (v : UInt8) (h : k < l.length) : (mixL (l.set k v) != mixL l) = (at8 l k != v) := by
  by_cases e : at8 l k = v
  · have : l.set k v = l := by
      rw [← e]
      have hg : at8 l k = l[k] := by simp [at8, h]
      rw [hg, List.set_getElem_self]
    rw [this, e]; simp
  · have hne : vb (at8 l k) ≠ vb v := fun h => e (vb_inj.1 h)
    have h1 := vb_nonneg (at8 l k)
    have h2 := vb_lt (at8 l k)
    have h3 := vb_nonneg v
    have h4 := vb_lt v
    have hm : mixL (l.set k v) ≠ mixL l := by
      unfold mixL
      rw [mix2_one, mix2_one, sumB_set l k v h]
      unfold joinM
      dsimp only
      generalize sumB l = s
      generalize (((l.set k v).length : Int) + wgtB (l.set k v)) = x
      generalize ((l.length : Int) + wgtB l) = y
      omega
    have hl : (mixL (l.set k v) != mixL l) = true := by simpa using hm
    have hr : (at8 l k != v) = true := by simpa using e
    rw [hl, hr]
theorem mixL_bd (l : List UInt8) : 0 ≤ mixL l ∧ mixL l < 18446744073709551616 ∧ mixL l % 4294967296 = (1 + sumB l) % 4294967291 ∧ mixL l / 4294967296 = ((l.length : Int) + wgtB l) % 4294967291 := by
  unfold mixL
  rw [mix2_one]
  unfold joinM
  dsimp only
  generalize (1 + sumB l) = s
  generalize ((l.length : Int) + wgtB l) = t
  omega
theorem mixL_is (l : List UInt8) : ∃ n : Nat, mixL l = (n : Int) ∧ n < 18446744073709551616 ∧ isMix n = true := by
  obtain ⟨h1, h2, h3, h4⟩ := mixL_bd l
  refine ⟨(mixL l).toNat, by omega, by omega, ?_⟩
  unfold isMix
  simp only [Bool.and_eq_true, decide_eq_true_eq]
  omega
/-- Roll is the mix of the next window -/
theorem roll_next (o v : UInt8) (t : List UInt8) : joinM (rollA (mixL (o :: t) % 4294967296) o v, rollB (mixL (o :: t) % 4294967296) (mixL (o :: t) / 4294967296) ((o :: t).length : Int) o v) = mixL (t ++ [v]) := by
  obtain ⟨_, _, h3, h4⟩ := mixL_bd (o :: t)
  rw [h3, h4]
  unfold mixL
  rw [mix2_one, sumB_append, wgtB_snoc]
  have hs : sumB [v] = vb v := by simp [sumB]
  have hw : wgtB (o :: t) = ((t.length : Int) + 1) * vb o + wgtB t := rfl
  have hl : ((o :: t).length : Int) = (t.length : Int) + 1 := by simp
  have hl2 : ((t ++ [v]).length : Int) = (t.length : Int) + 1 := by simp
  have hso : sumB (o :: t) = vb o + sumB t := rfl
  rw [hs, hw, hl, hl2, hso]
  unfold joinM rollB rollA
  dsimp only
  generalize ((t.length : Int) + 1) * vb o = q
  generalize (t.length : Int) = n
  generalize sumB t = s
  generalize wgtB t = g
  have ho := vb_nonneg o
  have hv := vb_nonneg v
  have e1 : ((1 + (vb o + s)) % 4294967291 + vb v + 4294967291 - vb o) % 4294967291 = (1 + (s + vb v)) % 4294967291 := by omega
  rw [e1]
  have e2 : ((n + 1 + (q + g)) % 4294967291 + (1 + (s + vb v)) % 4294967291 + 8589934582 - 1 - q) % 4294967291 = (n + 1 + (g + s + vb v)) % 4294967291 := by omega
  rw [e2]
/-- a string as long as wanted, repeated -/
def repL (b : List UInt8) (n : Nat) : List UInt8 := (List.range n).map fun i => at8 b (i % b.length)
def xorL (a x y : List UInt8) (n : Nat) : List UInt8 := (List.range n).map fun i => at8 a i ^^^ at8 x i ^^^ at8 y i
theorem repL_length (b : List UInt8) (n : Nat) : (repL b n).length = n := by simp [repL]
theorem xorL_length (a x y : List UInt8) (n : Nat) : (xorL a x y n).length = n := by simp [xorL]
theorem at8_repL (b : List UInt8) (n i : Nat) (h : i < n) : at8 (repL b n) i = at8 b (i % b.length) := by
  simp [repL, at8, h]
theorem at8_xorL (a x y : List UInt8) (n i : Nat) (h : i < n) : at8 (xorL a x y n) i = at8 a i ^^^ at8 x i ^^^ at8 y i := by
  have : (xorL a x y n)[i]? = some (at8 a i ^^^ at8 x i ^^^ at8 y i) := by simp [xorL, h]
  conv => lhs; unfold at8
  rw [List.getD_eq_getElem?_getD, this]; rfl
theorem crc_xorL (a x y : List UInt8) (n : Nat) (ha : a.length = n) (hx : x.length = n) (hy : y.length = n) : crc (xorL a x y n) = crc a ^^^ crc x ^^^ crc y := by
  rw [← crc_linear a x y (by omega) (by omega)]
  congr 1
  apply List.ext_getElem
  · simp [xorL]; omega
  · intro i h1 h2
    have hi : i < n := by simpa [xorL] using h1
    simp [xorL, at8, show i < a.length by omega, show i < x.length by omega, show i < y.length by omega]
end Go.Proofs.YtpmfpbfbfahniaaDoor
