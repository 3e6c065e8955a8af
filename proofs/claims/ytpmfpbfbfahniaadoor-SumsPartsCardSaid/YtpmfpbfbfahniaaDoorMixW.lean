/- The walk of the mix: the program's and the reference's functions return what 'mixOn' and 'roll' say. -/
import Derived.Test.YtpmfpbfbfahniaaDoorBase
import Derived.Deep.QuietTactic
import Derived.BigQuiet
namespace Go.Proofs.YtpmfpbfbfahniaaDoor
open Go.RowKit
open Lime
/-- the halves of a mix behind a byte, and behind bytes -/
def mxA (a : Int) (c : UInt8) : Int := (a + vb c) % 4294967291
def mxB (a b : Int) (c : UInt8) : Int := (b + mxA a c) % 4294967291
def mix2 : Int → Int → List UInt8 → Int × Int
  | a, b, [] => (a, b)
  | a, b, c :: l => mix2 (mxA a c) (mxB a b c) l
theorem mxA_bd (a : Int) (c : UInt8) : 0 ≤ mxA a c ∧ mxA a c < 4294967291 := by unfold mxA; omega
theorem mxB_bd (a b : Int) (c : UInt8) : 0 ≤ mxB a b c ∧ mxB a b c < 4294967291 := by unfold mxB; omega
theorem mix2_snoc (a b : Int) (l : List UInt8) (c : UInt8) : mix2 a b (l ++ [c]) = (mxA (mix2 a b l).1 c, mxB (mix2 a b l).1 (mix2 a b l).2 c) := by
  induction l generalizing a b with
  | nil => rfl
  | cons d l ih => simp only [List.cons_append, mix2, ih]
theorem mix2_append (a b : Int) (l m : List UInt8) : mix2 a b (l ++ m) = mix2 (mix2 a b l).1 (mix2 a b l).2 m := by
  induction l generalizing a b with
  | nil => rfl
  | cons d l ih => simp only [List.cons_append, mix2, ih]
theorem mix2_bd (a b : Int) (l : List UInt8) (ha : 0 ≤ a ∧ a < 4294967291) (hb : 0 ≤ b ∧ b < 4294967291) :
    (0 ≤ (mix2 a b l).1 ∧ (mix2 a b l).1 < 4294967291) ∧ (0 ≤ (mix2 a b l).2 ∧ (mix2 a b l).2 < 4294967291) := by
  induction l generalizing a b with
  | nil => exact ⟨ha, hb⟩
  | cons d l ih => exact ih _ _ (mxA_bd _ _) (mxB_bd _ _ _)
def isMix (n : Nat) : Bool := decide (n % 4294967296 < 4294967291) && decide (n / 4294967296 < 4294967291)
theorem g_lo64 (n : Nat) (h : n < 18446744073709551616) : bits .and .u64 (n : Int) 4294967295 = ((n % 4294967296 : Nat) : Int) := by
  have := u64_and_nat n 4294967295 h (by decide)
  rw [nat_mask32] at this; exact this
set_option maxHeartbeats 400000 in
theorem open_any (n : Nat) (w : World) (hn : n < 18446744073709551616) :
    Calls Tryd.prog 37 #[.int .u64 (n : Int)] w fun e w' =>
      e = .returned (.tuple #[.agg #[.int .u64 ((n : Int) % 4294967296), .int .u64 ((n : Int) / 4294967296)], .bool (isMix n)]) ∧ Below w.heap.size w w' := by
  have hlo := g_lo64 n hn
  rcases (show (n % 4294967296 < 4294967291 ∧ n / 4294967296 < 4294967291) ∨ (n % 4294967296 < 4294967291 ∧ ¬ n / 4294967296 < 4294967291) ∨ ¬ n % 4294967296 < 4294967291 by omega) with ⟨h1, h2⟩ | ⟨h1, h2⟩ | h1
  · have hd : isMix n = true := by simp [isMix, h1, h2]
    have d1 : decide ((n : Int) % 4294967296 < 4294967291) = true := by simp; omega
    have d2 : decide ((n : Int) / 4294967296 < 4294967291) = true := by simp; omega
    rw [hd]
    clear hd h1 h2
    go_enter Tryd.func37, Tryd.ntmps37
    go_wp2
    go_region
    all_goals go_wp2
    exact bodyPost_ret (v := .tuple #[.agg #[.int .u64 ((n : Int) % 4294967296), .int .u64 ((n : Int) / 4294967296)], .bool true]) (by simp [results, Tryd.results37, go_sem]) rfl ⟨rfl, (((Below.refl _ _).alloc (Nat.le_refl _) _).alloc (by simp) _).drew⟩
  · have hd : isMix n = false := by simp [isMix, h1, h2]
    have d1 : decide ((n : Int) % 4294967296 < 4294967291) = true := by simp; omega
    have d2 : decide ((n : Int) / 4294967296 < 4294967291) = false := by simp; omega
    rw [hd]
    clear hd h1 h2
    go_enter Tryd.func37, Tryd.ntmps37
    go_wp2
    go_region
    all_goals go_wp2
    exact bodyPost_ret (v := .tuple #[.agg #[.int .u64 ((n : Int) % 4294967296), .int .u64 ((n : Int) / 4294967296)], .bool false]) (by simp [results, Tryd.results37, go_sem]) rfl ⟨rfl, (((Below.refl _ _).alloc (Nat.le_refl _) _).alloc (by simp) _).drew⟩
  · have hd : isMix n = false := by simp [isMix, h1]
    have d1 : decide ((n : Int) % 4294967296 < 4294967291) = false := by simp; omega
    rw [hd]
    clear hd h1
    go_enter Tryd.func37, Tryd.ntmps37
    go_wp2
    go_region
    all_goals go_wp2
    exact bodyPost_ret (v := .tuple #[.agg #[.int .u64 ((n : Int) % 4294967296), .int .u64 ((n : Int) / 4294967296)], .bool false]) (by simp [results, Tryd.results37, go_sem]) rfl ⟨rfl, (((Below.refl _ _).alloc (Nat.le_refl _) _).alloc (by simp) _).drew⟩

theorem g_join64 (a b : Int) (ha : 0 ≤ a ∧ a < 4294967296) (hb : 0 ≤ b ∧ b < 4294967296) : bits .or .u64 (b * 4294967296) a = b * 4294967296 + a := by
  have := u64_or (b * 4294967296) a (by omega) (by omega) (by omega) (by omega)
  rw [this, nat_join 32 _ _ (by omega) (by omega)]
  omega
set_option maxHeartbeats 400000 in
theorem close_any (a b : Int) (w : World) (ha : 0 ≤ a ∧ a < 4294967296) (hb : 0 ≤ b ∧ b < 4294967296) :
    Calls Tryd.prog 39 #[.agg #[.int .u64 a, .int .u64 b]] w fun e w' =>
      e = .returned (.int .u64 (b * 4294967296 + a)) ∧ Below w.heap.size w w' := by
  have hj := g_join64 a b ha hb
  go_enter Tryd.func39, Tryd.ntmps39
  go_wp2
  go_ret
  exact ⟨rfl, (Below.refl _ _).alloc (Nat.le_refl _) _⟩

set_option maxHeartbeats 400000 in
theorem mixput_any (mb : Nat) (a b : Int) (c : UInt8) (w : World) (ha : 0 ≤ a ∧ a < 4294967296) (hb : 0 ≤ b ∧ b < 4294967296)
    (hc : w.heap[mb]? = some (.cells #[.int .u64 a, .int .u64 b] 61)) :
    Calls Tryd.prog 38 #[.pointer (some ⟨mb, 0, none⟩), .int .u8 (vb c)] w fun e w' =>
      e = .returned (.tuple #[]) ∧ w'.heap[mb]? = some (.cells #[.int .u64 (mxA a c), .int .u64 (mxB a b c)] 61)
      ∧ ∀ B, B ≤ mb → Below B w w' := by
  have c0 := cell_of_row w mb 0 _ _ _ hc
  have c1 := cell_of_row w mb 1 _ _ _ hc
  have f0 := frozen_of_row w mb 0 _ _ hc
  have f1 := frozen_of_row w mb 1 _ _ hc
  simp at c0 c1
  have v0 := vb_nonneg c
  have v1 := vb_lt c
  have hm : 0 ≤ (a + vb c) % 4294967291 ∧ (a + vb c) % 4294967291 < 4294967291 := by omega
  go_enter Tryd.func38, Tryd.ntmps38
  go_wp2
  go_region
  all_goals go_wp2
  go_end0
  refine ⟨rfl, ?_, fun B hB => (((Below.refl _ _).setCell (p := ⟨mb, 0, none⟩) hB _).setCell (p := ⟨mb, 1, none⟩) hB _).drew⟩
  rw [heap_drew, heap_setCell_same _ mb 1 _ _ _ (heap_setCell_same _ mb 0 _ _ _ hc)]
  simp [mxA, mxB]

/-- a mix as a number -/
def joinM (x : Int × Int) : Int := x.2 * 4294967296 + x.1
set_option maxHeartbeats 1000000 in
theorem mixon_yes (n cap : Nat) (a : Option Addr) (l : List UInt8) (w : World) (hn : n < 18446744073709551616) (hmix : isMix n = true) (hb : BytesAt w a l) :
    Calls Tryd.prog 20 #[.int .u64 (n : Int), .slice a l.length cap] w fun e w' =>
      e = .returned (.tuple #[.int .u64 (joinM (mix2 ((n : Int) % 4294967296) ((n : Int) / 4294967296) l)), .int .i64 0]) ∧ Below w.heap.size w w' := by
  go_enter Tryd.func20, Tryd.ntmps20
  go_wp2_with fail
  refine (open_any n _ hn).mono ?_
  rintro e w1 ⟨rfl, hB1⟩
  have hb1 := hb.below hB1
  go_wp2_with fail
  go_loopw [21] (fun i wr => ∃ k : Nat, k ≤ l.length ∧ i = .int .i64 k ∧ wr.heap[w1.heap.size]? = some (.cells #[.int .u64 (mix2 ((n : Int) % 4294967296) ((n : Int) / 4294967296) (l.take k)).1, .int .u64 (mix2 ((n : Int) % 4294967296) ((n : Int) / 4294967296) (l.take k)).2] 61) ∧ Below w1.heap.size w1 wr) (fun i _ => l.length - (intOf i).toNat)
  case atStart => exact ⟨0, Nat.zero_le _, rfl, heap_alloc_new _ _, (Below.refl _ _).alloc (Nat.le_refl _) _⟩
  case round =>
    obtain ⟨k, hk, rfl, hm, hB⟩ := hrel
    obtain ⟨hlen, hb2⟩ := hb1.below hB
    have hbd := mix2_bd ((n : Int) % 4294967296) ((n : Int) / 4294967296) (l.take k) (by simp [isMix] at hmix; omega) (by simp [isMix] at hmix; omega)
    have HS : Hid (k < l.length → mix2 ((n : Int) % 4294967296) ((n : Int) / 4294967296) (l.take (k + 1)) = (mxA (mix2 ((n : Int) % 4294967296) ((n : Int) / 4294967296) (l.take k)).1 (at8 l k), mxB (mix2 ((n : Int) % 4294967296) ((n : Int) / 4294967296) (l.take k)).1 (mix2 ((n : Int) % 4294967296) ((n : Int) / 4294967296) (l.take k)).2 (at8 l k))) :=
      fun h => by rw [take_at l k h, mix2_snoc]
    have HF : Hid (¬ k < l.length → mix2 ((n : Int) % 4294967296) ((n : Int) / 4294967296) l = mix2 ((n : Int) % 4294967296) ((n : Int) / 4294967296) (l.take k)) :=
      fun h => by rw [List.take_of_length_le (by omega)]
    generalize mix2 ((n : Int) % 4294967296) ((n : Int) / 4294967296) (l.take k) = ab at *
    obtain ⟨x, y⟩ := ab
    dsimp only at hm hbd HS
    by_cases hlt : k < l.length
    · rcases hb2 with hb2 | ⟨b, off, rfl, hb2⟩
      · omega
      have hc := hb2 k hlt
      clear hb2 hb1
      go_wp2_with fail
      refine (mixput_any w1.heap.size x y _ _ (by omega) (by omega) hm).mono ?_
      rintro e w2 ⟨rfl, hm2, hB2⟩
      have hB3 := hB.trans (hB2 _ (Nat.le_refl _))
      clear hB hB2 hm hc
      go_wp2
      go_roundw
      case rel => exact ⟨k + 1, by omega, by go_num, by rw [HS.out hlt]; exact hm2, hB3⟩
      case measure => simp [intOf]; omega
    · have c0 : wr.cell? ⟨w1.heap.size, 0, none⟩ = some (.int .u64 x) := cell_of_row wr _ 0 _ _ _ hm
      have c1 : wr.cell? ⟨w1.heap.size, 1, none⟩ = some (.int .u64 y) := cell_of_row wr _ 1 _ _ _ hm
      go_wp2_with fail
      refine (close_any x y _ (by omega) (by omega)).mono ?_
      rintro e w2 ⟨rfl, hB2⟩
      go_wp2
      go_ret2
      exact ⟨by rw [HF.out hlt]; rfl, (hB1.trans (hB.mono hB1.size)).trans (hB2.mono (Nat.le_trans hB1.size hB.size))⟩

set_option maxHeartbeats 400000 in
theorem mixon_no (n cap : Nat) (a : Option Addr) (l : List UInt8) (w : World) (hn : n < 18446744073709551616) (hmix : isMix n = false) :
    Calls Tryd.prog 20 #[.int .u64 (n : Int), .slice a l.length cap] w fun e w' =>
      e = .returned (.tuple #[.int .u64 0, .int .i64 6]) ∧ Below w.heap.size w w' := by
  go_enter Tryd.func20, Tryd.ntmps20
  go_wp2_with fail
  refine (open_any n _ hn).mono ?_
  rintro e w1 ⟨rfl, hB1⟩
  go_wp2
  go_ret2
  exact ⟨rfl, hB1.alloc hB1.size _⟩

theorem mix_any (cap : Nat) (a : Option Addr) (l : List UInt8) (w : World) (hb : BytesAt w a l) :
    Calls Tryd.prog 24 #[.slice a l.length cap] w fun e w' =>
      e = .returned (.int .u64 (joinM (mix2 1 0 l))) ∧ Below w.heap.size w w' := by
  go_enter Tryd.func24, Tryd.ntmps24
  go_wp2_with fail
  refine (mixon_yes 1 cap a l _ (by decide) (by decide) hb).mono ?_
  rintro e w1 ⟨rfl, hB1⟩
  go_wp2
  go_ret
  exact ⟨rfl, hB1⟩

def rollA (a : Int) (o i : UInt8) : Int := (a + vb i + 4294967291 - vb o) % 4294967291
def rollB (a b : Int) (n : Int) (o i : UInt8) : Int := (b + rollA a o i + 8589934582 - 1 - n * vb o) % 4294967291
theorem prod_bd (n : Int) (o : UInt8) (h1 : 1 ≤ n) (h2 : n ≤ 1000000) : 0 ≤ n * vb o ∧ n * vb o ≤ 255000000 := by
  have v0 := vb_nonneg o
  have v1 := vb_lt o
  refine ⟨Int.mul_nonneg (by omega) v0, ?_⟩
  have := Int.mul_le_mul h2 (show vb o ≤ 255 by omega) v0 (by omega)
  omega
set_option maxRecDepth 100000 in
set_option maxHeartbeats 1000000 in
theorem roll_yes (n : Nat) (m : Int) (o i : UInt8) (w : World) (hn : n < 18446744073709551616) (hmix : isMix n = true) (h1 : 1 ≤ m) (h2 : m ≤ 1000000) :
    Calls Tryd.prog 22 #[.int .u64 (n : Int), .int .i64 m, .int .u8 (vb o), .int .u8 (vb i)] w fun e w' =>
      e = .returned (.tuple #[.int .u64 (joinM (rollA ((n : Int) % 4294967296) o i, rollB ((n : Int) % 4294967296) ((n : Int) / 4294967296) m o i)), .int .i64 0]) ∧ Below w.heap.size w w' := by
  have hm := hmix
  simp [isMix] at hm
  have v0 := vb_nonneg o
  have v1 := vb_lt o
  have v2 := vb_nonneg i
  have v3 := vb_lt i
  have v4 := prod_bd m o h1 h2
  go_enter Tryd.func22, Tryd.ntmps22
  go_wp2_with fail
  refine (open_any n _ hn).mono ?_
  rintro e w1 ⟨rfl, hB1⟩
  go_wp2_with fail
  refine (close_any _ _ _ (by omega) (by omega)).mono ?_
  rintro e w2 ⟨rfl, hB2⟩
  go_wp2
  go_ret2
  exact ⟨rfl, (hB1.alloc hB1.size _).trans (hB2.mono (by have := hB1.size; simp; omega))⟩

set_option maxRecDepth 100000 in
set_option maxHeartbeats 1000000 in
theorem roll_form (n : Nat) (m : Int) (o i : UInt8) (w : World) (hn : n < 18446744073709551616) (hmix : isMix n = false) :
    Calls Tryd.prog 22 #[.int .u64 (n : Int), .int .i64 m, .int .u8 (vb o), .int .u8 (vb i)] w fun e w' =>
      e = .returned (.tuple #[.int .u64 0, .int .i64 6]) ∧ Below w.heap.size w w' := by
  go_enter Tryd.func22, Tryd.ntmps22
  go_wp2_with fail
  refine (open_any n _ hn).mono ?_
  rintro e w1 ⟨rfl, hB1⟩
  go_wp2
  go_ret2
  exact ⟨rfl, hB1.alloc hB1.size _⟩

set_option maxRecDepth 100000 in
set_option maxHeartbeats 1000000 in
theorem roll_range (n : Nat) (m : Int) (o i : UInt8) (w : World) (hn : n < 18446744073709551616) (hmix : isMix n = true) (hm : m < 1 ∨ 1000000 < m) :
    Calls Tryd.prog 22 #[.int .u64 (n : Int), .int .i64 m, .int .u8 (vb o), .int .u8 (vb i)] w fun e w' =>
      e = .returned (.tuple #[.int .u64 0, .int .i64 7]) ∧ Below w.heap.size w w' := by
  go_enter Tryd.func22, Tryd.ntmps22
  go_wp2_with fail
  refine (open_any n _ hn).mono ?_
  rintro e w1 ⟨rfl, hB1⟩
  go_wp2
  all_goals
    go_ret2
    exact ⟨rfl, hB1.alloc hB1.size _⟩

/-! ### the reference's -/
set_option maxRecDepth 100000 in
set_option maxHeartbeats 400000 in
theorem halves_any (n : Nat) (w : World) (hn : n < 18446744073709551616) :
    Calls Tryd.prog 40 #[.int .u64 (n : Int)] w fun e w' =>
      e = .returned (.tuple #[.int .u64 ((n : Int) % 4294967296), .int .u64 ((n : Int) / 4294967296), .bool (isMix n)]) ∧ w = w' := by
  rcases (show (n % 4294967296 < 4294967291 ∧ n / 4294967296 < 4294967291) ∨ (n % 4294967296 < 4294967291 ∧ ¬ n / 4294967296 < 4294967291) ∨ ¬ n % 4294967296 < 4294967291 by omega) with ⟨h1, h2⟩ | ⟨h1, h2⟩ | h1
  · have hd : isMix n = true := by simp [isMix, h1, h2]
    have d1 : decide ((n : Int) % 4294967296 < 4294967291) = true := by simp; omega
    have d2 : decide ((n : Int) / 4294967296 < 4294967291) = true := by simp; omega
    rw [hd]
    clear hd h1 h2
    go_enter Tryd.func40, Tryd.ntmps40
    go_wp2
    go_ret3
    exact ⟨rfl, rfl⟩
  · have hd : isMix n = false := by simp [isMix, h1, h2]
    have d1 : decide ((n : Int) % 4294967296 < 4294967291) = true := by simp; omega
    have d2 : decide ((n : Int) / 4294967296 < 4294967291) = false := by simp; omega
    rw [hd]
    clear hd h1 h2
    go_enter Tryd.func40, Tryd.ntmps40
    go_wp2
    go_ret3
    exact ⟨rfl, rfl⟩
  · have hd : isMix n = false := by simp [isMix, h1]
    have d1 : decide ((n : Int) % 4294967296 < 4294967291) = false := by simp; omega
    rw [hd]
    clear hd h1
    go_enter Tryd.func40, Tryd.ntmps40
    go_wp2
    go_ret3
    exact ⟨rfl, rfl⟩

set_option maxRecDepth 100000 in
set_option maxHeartbeats 1000000 in
theorem refmixon_yes (n cap : Nat) (a : Option Addr) (l : List UInt8) (w : World) (hn : n < 18446744073709551616) (hmix : isMix n = true) (hb : BytesAt w a l) :
    Calls Tryd.prog 21 #[.int .u64 (n : Int), .slice a l.length cap] w fun e w' =>
      e = .returned (.tuple #[.int .u64 (joinM (mix2 ((n : Int) % 4294967296) ((n : Int) / 4294967296) l)), .int .i64 0]) ∧ w = w' := by
  obtain ⟨hlen, hb⟩ := hb
  go_enter Tryd.func21, Tryd.ntmps21
  go_wp2_with fail
  refine (halves_any n _ hn).mono ?_
  rintro e w1 ⟨rfl, rfl⟩
  go_wp2_with fail
  go_loop [6, 7, 9] (fun x y i => ∃ k : Nat, k ≤ l.length ∧ i = .int .i64 k ∧ x = .int .u64 (mix2 ((n : Int) % 4294967296) ((n : Int) / 4294967296) (l.take k)).1 ∧ y = .int .u64 (mix2 ((n : Int) % 4294967296) ((n : Int) / 4294967296) (l.take k)).2) (fun _ _ i => l.length - (intOf i).toNat)
  case atStart => exact ⟨0, Nat.zero_le _, rfl, rfl, rfl⟩
  case round =>
    obtain ⟨k, hk, rfl, rfl, rfl⟩ := hrel
    have hbd := mix2_bd ((n : Int) % 4294967296) ((n : Int) / 4294967296) (l.take k) (by simp [isMix] at hmix; omega) (by simp [isMix] at hmix; omega)
    have HS : Hid (k < l.length → mix2 ((n : Int) % 4294967296) ((n : Int) / 4294967296) (l.take (k + 1)) = (mxA (mix2 ((n : Int) % 4294967296) ((n : Int) / 4294967296) (l.take k)).1 (at8 l k), mxB (mix2 ((n : Int) % 4294967296) ((n : Int) / 4294967296) (l.take k)).1 (mix2 ((n : Int) % 4294967296) ((n : Int) / 4294967296) (l.take k)).2 (at8 l k))) :=
      fun h => by rw [take_at l k h, mix2_snoc]
    have HF : Hid (¬ k < l.length → mix2 ((n : Int) % 4294967296) ((n : Int) / 4294967296) l = mix2 ((n : Int) % 4294967296) ((n : Int) / 4294967296) (l.take k)) :=
      fun h => by rw [List.take_of_length_le (by omega)]
    generalize mix2 ((n : Int) % 4294967296) ((n : Int) / 4294967296) (l.take k) = ab at *
    obtain ⟨x, y⟩ := ab
    dsimp only at hbd HS ⊢
    by_cases hlt : k < l.length
    · rcases hb with hb | ⟨b, off, rfl, hb⟩
      · omega
      have hc := hb k hlt
      clear hb
      have v0 := vb_nonneg (at8 l k)
      have v1 := vb_lt (at8 l k)
      go_wp2
      go_round
      case rel => exact ⟨k + 1, by omega, by go_num, by rw [HS.out hlt]; simp [mxA], by rw [HS.out hlt]; simp [mxA, mxB]⟩
      case measure => simp [intOf]; omega
    · go_wp2
      go_ret2
      exact ⟨by rw [HF.out hlt]; rfl, rfl⟩

set_option maxHeartbeats 400000 in
theorem refmixon_no (n cap : Nat) (a : Option Addr) (l : List UInt8) (w : World) (hn : n < 18446744073709551616) (hmix : isMix n = false) :
    Calls Tryd.prog 21 #[.int .u64 (n : Int), .slice a l.length cap] w fun e w' =>
      e = .returned (.tuple #[.int .u64 0, .int .i64 6]) ∧ w = w' := by
  go_enter Tryd.func21, Tryd.ntmps21
  go_wp2_with fail
  refine (halves_any n _ hn).mono ?_
  rintro e w1 ⟨rfl, rfl⟩
  go_wp2
  go_ret2
  exact ⟨rfl, rfl⟩

theorem refmix_any (cap : Nat) (a : Option Addr) (l : List UInt8) (w : World) (hb : BytesAt w a l) :
    Calls Tryd.prog 25 #[.slice a l.length cap] w fun e w' =>
      e = .returned (.int .u64 (joinM (mix2 1 0 l))) ∧ w = w' := by
  go_enter Tryd.func25, Tryd.ntmps25
  go_wp2_with fail
  refine (refmixon_yes 1 cap a l _ (by decide) (by decide) hb).mono ?_
  rintro e w1 ⟨rfl, rfl⟩
  go_wp2
  go_ret
  exact ⟨rfl, rfl⟩

theorem roll_same (x y m : Int) (o i : UInt8) : (y + 4294967291 - m * vb o + (x + 4294967291 - vb o + vb i) % 4294967291 + 4294967291 - 1) % 4294967291 * 4294967296 + (x + 4294967291 - vb o + vb i) % 4294967291 =
    joinM (rollA x o i, rollB x y m o i) := by
  unfold joinM rollB rollA
  dsimp only
  have e : (x + 4294967291 - vb o + vb i) = (x + vb i + 4294967291 - vb o) := by omega
  rw [e]
  congr 2
  congr 1
  omega
set_option maxRecDepth 100000 in
set_option maxHeartbeats 1000000 in
theorem refroll_yes (n : Nat) (m : Int) (o i : UInt8) (w : World) (hn : n < 18446744073709551616) (hmix : isMix n = true) (h1 : 1 ≤ m) (h2 : m ≤ 1000000) :
    Calls Tryd.prog 23 #[.int .u64 (n : Int), .int .i64 m, .int .u8 (vb o), .int .u8 (vb i)] w fun e w' =>
      e = .returned (.tuple #[.int .u64 (joinM (rollA ((n : Int) % 4294967296) o i, rollB ((n : Int) % 4294967296) ((n : Int) / 4294967296) m o i)), .int .i64 0]) ∧ w = w' := by
  have hm := hmix
  simp [isMix] at hm
  have v0 := vb_nonneg o
  have v1 := vb_lt o
  have v2 := vb_nonneg i
  have v3 := vb_lt i
  have v4 := prod_bd m o h1 h2
  go_enter Tryd.func23, Tryd.ntmps23
  go_wp2_with fail
  refine (halves_any n _ hn).mono ?_
  rintro e w1 ⟨rfl, rfl⟩
  go_wp2
  go_ret2
  exact ⟨by rw [← roll_same]; rfl, rfl⟩

set_option maxRecDepth 100000 in
set_option maxHeartbeats 1000000 in
theorem refroll_form (n : Nat) (m : Int) (o i : UInt8) (w : World) (hn : n < 18446744073709551616) (hmix : isMix n = false) :
    Calls Tryd.prog 23 #[.int .u64 (n : Int), .int .i64 m, .int .u8 (vb o), .int .u8 (vb i)] w fun e w' =>
      e = .returned (.tuple #[.int .u64 0, .int .i64 6]) ∧ w = w' := by
  go_enter Tryd.func23, Tryd.ntmps23
  go_wp2_with fail
  refine (halves_any n _ hn).mono ?_
  rintro e w1 ⟨rfl, rfl⟩
  go_wp2
  go_ret2
  exact ⟨rfl, rfl⟩

set_option maxRecDepth 100000 in
set_option maxHeartbeats 1000000 in
theorem refroll_range (n : Nat) (m : Int) (o i : UInt8) (w : World) (hn : n < 18446744073709551616) (hmix : isMix n = true) (hm : m < 1 ∨ 1000000 < m) :
    Calls Tryd.prog 23 #[.int .u64 (n : Int), .int .i64 m, .int .u8 (vb o), .int .u8 (vb i)] w fun e w' =>
      e = .returned (.tuple #[.int .u64 0, .int .i64 7]) ∧ w = w' := by
  go_enter Tryd.func23, Tryd.ntmps23
  go_wp2_with fail
  refine (halves_any n _ hn).mono ?_
  rintro e w1 ⟨rfl, rfl⟩
  go_wp2
  all_goals
    go_ret2
    exact ⟨rfl, rfl⟩
end Go.Proofs.YtpmfpbfbfahniaaDoor
