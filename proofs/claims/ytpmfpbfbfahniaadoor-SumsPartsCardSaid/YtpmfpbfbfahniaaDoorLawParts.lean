/- The walk of the statement SumsParts. -/
import Derived.Test.YtpmfpbfbfahniaaDoorLawLinear
import Derived.Test.YtpmfpbfbfahniaaDoorLawMixes
import Derived.Test.YtpmfpbfbfahniaaDoorLawBurstS
namespace Go.Proofs.YtpmfpbfbfahniaaDoor
open Go.RowKit
open Lime
attribute [local go_sem] g_eq32 g_ne32 g_eq8 g_ne8 g_xor8 g_xor32 g_same8
attribute [local go_sem ↓] Go.wp_at_zero Go.wp_at_succ
theorem Lin1.alloc {w W : World} {g : Nat} {l : List UInt8} (h : Lin1 w W g l) (o : Obj) : Lin1 w (W.alloc o) g l := h.below ((Below.refl _ _).alloc (Nat.le_refl _) _)
theorem on_len (h : BitVec 32) (cap n : Nat) (a : Option Addr) (l : List UInt8) (W : World) (hb : BytesAt W a l) (hl : n = l.length) (hh : HalfLaid W) :
    Calls Tryd.prog 16 #[.int .u32 (vu h), .slice a n cap] W fun e w' => e = .returned (.int .u32 (vu (on h l))) ∧ Below W.heap.size W w' := by
  subst hl; exact on_any h cap a l W hb hh
theorem mixon_parts (a b : List UInt8) (cap n : Nat) (ab : Option Addr) (W : World) (hb : BytesAt W ab b) (hl : n = b.length) :
    Calls Tryd.prog 20 #[.int .u64 (mixL a), .slice ab n cap] W fun e w' => e = .returned (.tuple #[.int .u64 (mixL (a ++ b)), .int .i64 0]) ∧ Below W.heap.size W w' := by
  subst hl
  obtain ⟨m, hm, hlt, his⟩ := mixL_is a
  have h := mixon_yes m cap ab b W hlt his hb
  rw [← hm] at h
  have e : joinM (mix2 (mixL a % 4294967296) (mixL a / 4294967296) b) = mixL (a ++ b) := by
    have hbd := mix2_bd 1 0 a (by omega) (by omega)
    have e1 : mixL a % 4294967296 = (mix2 1 0 a).1 := by unfold mixL joinM; omega
    have e2 : mixL a / 4294967296 = (mix2 1 0 a).2 := by unfold mixL joinM; omega
    rw [e1, e2]
    unfold mixL
    rw [mix2_append]
  rw [e] at h
  exact h
theorem zeros_parts (c : BitVec 32) (k : Nat) (hk : k ≤ 1000) : zerosV c (k : Int) = .tuple #[.int .u32 (vu (on c (List.replicate k 0))), .int .i64 0] := by
  have hr : reg (~~~ c) (List.replicate k 0) = s8n k (~~~ c) := reg_zeros k _
  rw [zerosV, if_pos (by omega), show ((k : Int)).toNat = k from rfl, on, hr]
theorem comb_parts (a b : List UInt8) (n : Nat) (hn : n = b.length) (h : n ≤ 1000) : combV (crc a) (crc b) (n : Int) = .tuple #[.int .u32 (vu (crc (a ++ b))), .int .i64 0] := by
  rw [combV, if_pos (by omega), show ((n : Int)).toNat = n from rfl, hn, crc_combine]
theorem on_parts (a b : List UInt8) : on (crc a) b = crc (a ++ b) := by
  unfold crc; rw [on_append]
set_option maxRecDepth 100000 in
set_option maxHeartbeats 4000000 in
theorem parts_walk (ca cb : Nat) (aa ab : Option Addr) (a b : List UInt8) (k : Nat) (w : World) (ha : BytesAt w aa a) (hb : BytesAt w ab b) (hh : HalfLaid w) :
    Calls Tryd.prog 10 #[.slice aa a.length ca, .slice ab b.length cb, .int .u16 (k : Int)] w fun e w' => e = .returned (.bool true) ∧ Below w.heap.size w w' := by
  have hma := ha.1
  have hmb := hb.1
  have hcase : 1000 < a.length ∨ (a.length ≤ 1000 ∧ 1000 < b.length) ∨ (a.length ≤ 1000 ∧ b.length ≤ 1000 ∧ 1000 < k) ∨ (a.length ≤ 1000 ∧ b.length ≤ 1000 ∧ k ≤ 1000) := by omega
  rcases hcase with h1 | ⟨h1, h2⟩ | ⟨h1, h2, h3⟩ | ⟨h1, h2, h3⟩
  · have q1 : decide (1000 < (a.length : Int)) = true := by simp; omega
    go_enter Tryd.func10, Tryd.ntmps10
    go_wp2_with fail
    refine (shown_any w hh).mono ?_
    rintro e w1 ⟨rfl, hB⟩
    go_wp2
    go_ret
    exact ⟨rfl, hB⟩
  · have q1 : decide (1000 < (a.length : Int)) = false := by simp; omega
    have q2 : decide (1000 < (b.length : Int)) = true := by simp; omega
    go_enter Tryd.func10, Tryd.ntmps10
    go_wp2_with fail
    refine (shown_any w hh).mono ?_
    rintro e w1 ⟨rfl, hB⟩
    go_wp2
    go_ret
    exact ⟨rfl, hB⟩
  · have q1 : decide (1000 < (a.length : Int)) = false := by simp; omega
    have q2 : decide (1000 < (b.length : Int)) = false := by simp; omega
    have q3 : decide (1000 < (k : Int)) = true := by simp; omega
    go_enter Tryd.func10, Tryd.ntmps10
    go_wp2_with fail
    refine (shown_any w hh).mono ?_
    rintro e w1 ⟨rfl, hB⟩
    go_wp2
    go_ret
    exact ⟨rfl, hB⟩
  · have q1 : decide (1000 < (a.length : Int)) = false := by simp; omega
    have q2 : decide (1000 < (b.length : Int)) = false := by simp; omega
    have q3 : decide (1000 < (k : Int)) = false := by simp; omega
    obtain ⟨na, hna⟩ : ∃ n, n = a.length := ⟨_, rfl⟩
    obtain ⟨nb, hnb⟩ : ∃ n, n = b.length := ⟨_, rfl⟩
    have HNA := Lib.hid hna
    have HNB := Lib.hid hnb
    rw [← hna] at h1 q1 hma ⊢
    rw [← hnb] at h2 q2 hmb ⊢
    clear hna hnb
    have hB0 : Below w.heap.size w (w.alloc (.cells #[] 5)) := (Below.refl _ _).alloc (Nat.le_refl _) _
    have HOE := Lib.hid (own_empty w w.heap.size (Nat.le_refl _))
    have ha0 := ha.below hB0
    have hlen1 : ([] : List UInt8).length + a.length ≤ 1000000 := by rw [← HNA.out]; simp; omega
    have hlen2 : (([] : List UInt8) ++ a).length + b.length ≤ 1000000 := by rw [List.nil_append, ← HNA.out, ← HNB.out]; omega
    have hsz : w.heap.size ≤ (w.alloc (.cells #[] 5)).heap.size := by simp
    go_enter Tryd.func10, Tryd.ntmps10
    go_wp2_with (first
      | (at_builtin; (with_reducible refine wpList_append_bytes _ rfl (.tmp 27) (.tmp 28) rfl w.heap.size w.heap.size 0 [] a _ ca ?_ ?_ HOE.out ha0 hlen1 hsz ?_); rfl; (rw [← HNA.out]; rfl); intro gA capA WA hoA hgA hatA hcA; have bA : Below w.heap.size w WA := hB0.grown hgA hsz (fun j e => by cases e; exact Nat.le_refl _); have hb1 := hb.below bA; have hsA := bA.size)
      | (at_builtin; (with_reducible refine wpList_append_bytes _ rfl (.tmp 29) (.tmp 30) rfl w.heap.size gA capA ([] ++ a) b _ cb ?_ ?_ hoA hb1 hlen2 hsA ?_); rfl; (rw [← HNB.out]; rfl); intro gB capB WB hoB hgB hatB hcB))
    have hgA2 : w.heap.size ≤ gA := by rcases hatA with e | e <;> rw [e] <;> simp
    have L0 : Lin1 w WB gB (a ++ b) := ⟨bA.grown hgB hsA (fun j e => by cases e; exact hgA2), by have := own_of_row hoB; rwa [List.nil_append] at this⟩
    have hall : (a ++ b).length ≤ 9223372036854775807 := by rw [List.length_append, ← HNA.out, ← HNB.out]; omega
    have KCA : Hid (∀ W, Lin1 w W gB (a ++ b) → Calls Tryd.prog 14 #[.slice aa na ca] W fun e w' => e = .returned (.int .u32 (vu (crc a))) ∧ Lin1 w w' gB (a ++ b) ∧ Below W.heap.size W w') := fun W h => (crc_len ca na aa a W (ha.below h.hB) HNA.out (hh.below h.hB)).mono fun e w' ⟨h1, h2⟩ => ⟨h1, h.below h2, h2⟩
    have KCB : Hid (∀ W, Lin1 w W gB (a ++ b) → Calls Tryd.prog 14 #[.slice ab nb cb] W fun e w' => e = .returned (.int .u32 (vu (crc b))) ∧ Lin1 w w' gB (a ++ b) ∧ Below W.heap.size W w') := fun W h => (crc_len cb nb ab b W (hb.below h.hB) HNB.out (hh.below h.hB)).mono fun e w' ⟨h1, h2⟩ => ⟨h1, h.below h2, h2⟩
    have KCL : Hid (∀ W, Lin1 w W gB (a ++ b) → Calls Tryd.prog 14 #[.slice (some ⟨gB, 0, none⟩) (a.length + b.length) capB] W fun e w' => e = .returned (.int .u32 (vu (crc (a ++ b)))) ∧ Lin1 w w' gB (a ++ b) ∧ Below W.heap.size W w') := fun W h => (crc_len capB (a.length + b.length) (some ⟨gB, 0, none⟩) (a ++ b) W (h.o.bytes hall) List.length_append.symm (hh.below h.hB)).mono fun e w' ⟨h1, h2⟩ => ⟨h1, h.below h2, h2⟩
    have KCO : Hid (∀ W, Lin1 w W gB (a ++ b) → Calls Tryd.prog 28 #[.int .u32 (vu (crc a)), .int .u32 (vu (crc b)), .int .i64 (nb : Int)] W fun e w' => e = .returned (.tuple #[.int .u32 (vu (crc (a ++ b))), .int .i64 0]) ∧ Lin1 w w' gB (a ++ b) ∧ Below W.heap.size W w') := fun W h => by
      have hx := combine_any (crc a) (crc b) nb W (hh.below h.hB)
      rw [comb_parts a b nb HNB.out h2] at hx
      exact hx.mono fun e w' ⟨h1, h2⟩ => ⟨h1, h.below h2, h2⟩
    have KZE : Hid (∀ W, Lin1 w W gB (a ++ b) → Calls Tryd.prog 26 #[.int .u32 (vu (crc a)), .int .i64 (k : Int)] W fun e w' => e = .returned (.tuple #[.int .u32 (vu (on (crc a) (List.replicate k 0))), .int .i64 0]) ∧ Lin1 w w' gB (a ++ b) ∧ Below W.heap.size W w') := fun W h => by
      have hx := zeros_any (crc a) k W (hh.below h.hB)
      rw [zeros_parts (crc a) k h3] at hx
      exact hx.mono fun e w' ⟨h1, h2⟩ => ⟨h1, h.below h2, h2⟩
    have KMA : Hid (∀ W, Lin1 w W gB (a ++ b) → Calls Tryd.prog 24 #[.slice aa na ca] W fun e w' => e = .returned (.int .u64 (mixL a)) ∧ Lin1 w w' gB (a ++ b) ∧ Below W.heap.size W w') := fun W h => (mix_len ca na aa a W (ha.below h.hB) HNA.out).mono fun e w' ⟨h1, h2⟩ => ⟨h1, h.below h2, h2⟩
    have KML : Hid (∀ W, Lin1 w W gB (a ++ b) → Calls Tryd.prog 24 #[.slice (some ⟨gB, 0, none⟩) (a.length + b.length) capB] W fun e w' => e = .returned (.int .u64 (mixL (a ++ b))) ∧ Lin1 w w' gB (a ++ b) ∧ Below W.heap.size W w') := fun W h => (mix_len capB (a.length + b.length) (some ⟨gB, 0, none⟩) (a ++ b) W (h.o.bytes hall) List.length_append.symm).mono fun e w' ⟨h1, h2⟩ => ⟨h1, h.below h2, h2⟩
    have KMO : Hid (∀ W, Lin1 w W gB (a ++ b) → Calls Tryd.prog 20 #[.int .u64 (mixL a), .slice ab nb cb] W fun e w' => e = .returned (.tuple #[.int .u64 (mixL (a ++ b)), .int .i64 0]) ∧ Lin1 w w' gB (a ++ b) ∧ Below W.heap.size W w') := fun W h => (mixon_parts a b cb nb ab W (hb.below h.hB) HNB.out).mono fun e w' ⟨h1, h2⟩ => ⟨h1, h.below h2, h2⟩
    have KON : Hid (∀ W, Lin1 w W gB (a ++ b) → Calls Tryd.prog 16 #[.int .u32 (vu (crc a)), .slice ab nb cb] W fun e w' => e = .returned (.int .u32 (vu (crc (a ++ b)))) ∧ Lin1 w w' gB (a ++ b) ∧ Below W.heap.size W w') := fun W h => by
      have hx := on_len (crc a) cb nb ab b W (hb.below h.hB) HNB.out (hh.below h.hB)
      rw [on_parts] at hx
      exact hx.mono fun e w' ⟨h1, h2⟩ => ⟨h1, h.below h2, h2⟩
    have KSH : Hid (∀ W, Lin1 w W gB (a ++ b) → Calls Tryd.prog 13 #[] W fun e w' => e = .returned (.bool true) ∧ Lin1 w w' gB (a ++ b) ∧ Below W.heap.size W w') := fun W h => (shown_any W (hh.below h.hB)).mono fun e w' ⟨h1, h2⟩ => ⟨h1, h.below h2, h2⟩
    have KOZ : Hid (∀ W gm, Lin1 w W gB (a ++ b) → W.heap[gm]? = some (.cells (zb k) 5 (0, 0)) → Calls Tryd.prog 16 #[.int .u32 (vu (crc a)), .slice (some ⟨gm, 0, none⟩) k k] W fun e w' => e = .returned (.int .u32 (vu (on (crc a) (List.replicate k 0)))) ∧ Lin1 w w' gB (a ++ b) ∧ Below W.heap.size W w') := fun W gm h hz => (on_len (crc a) k k (some ⟨gm, 0, none⟩) (List.replicate k 0) W ((own_zeros W gm k 0 hz (Nat.zero_le _)).bytes (by simp; omega)) (by simp) (hh.below h.hB)).mono fun e w' ⟨h1, h2⟩ => ⟨h1, h.below h2, h2⟩
    clear hoA hgA hatA hcA bA hb1 hsA hoB hgB hatB hcB ha0 hB0 HOE hgA2 hlen1 hlen2 hsz q1 q2 q3
    have hmk := fun W => run_make_bytes .u16 .u16 k (by omega) W
    have hki : IntKind.i64.wrap (k : Int) = (k : Int) := IntWalk.i64_in _ (by omega)
    go_upto_region 7 with (first | (go_at_call 14; (with_reducible refine (KCA.out _ (by assumption)).mono ?_); rintro e w' ⟨rfl, N, hBz⟩) | (go_at_call 14; (with_reducible refine (KCB.out _ (by assumption)).mono ?_); rintro e w' ⟨rfl, N, hBz⟩) | (go_at_call 28; (with_reducible refine (KCO.out _ (by assumption)).mono ?_); rintro e w' ⟨rfl, N, hBz⟩) | (go_at_call 26; (with_reducible refine (KZE.out _ (by assumption)).mono ?_); rintro e w' ⟨rfl, N, hBz⟩) | (go_at_call 24; (with_reducible refine (KMA.out _ (by assumption)).mono ?_); rintro e w' ⟨rfl, N, hBz⟩) | (go_at_call 20; (with_reducible refine (KMO.out _ (by assumption)).mono ?_); rintro e w' ⟨rfl, N, hBz⟩))
    clear KCB KCO KZE KMA KMO
    go_region_held3 (fun _ => True) (trivial) (first | (go_at_call 14; (with_reducible refine (KCA.out _ (by first | assumption | exact Lin1.alloc (by assumption) _ | exact Lin1.drew (by assumption) | exact (Lin1.alloc (by assumption) _).drew)).mono ?_); rintro e w' ⟨rfl, N, hBz⟩) | (go_at_call 14; (with_reducible refine (KCL.out _ (by first | assumption | exact Lin1.alloc (by assumption) _ | exact Lin1.drew (by assumption) | exact (Lin1.alloc (by assumption) _).drew)).mono ?_); rintro e w' ⟨rfl, N, hBz⟩) | (go_at_call 24; (with_reducible refine (KML.out _ (by first | assumption | exact Lin1.alloc (by assumption) _ | exact Lin1.drew (by assumption) | exact (Lin1.alloc (by assumption) _).drew)).mono ?_); rintro e w' ⟨rfl, N, hBz⟩) | (go_at_call 16; (with_reducible refine (KON.out _ (by first | assumption | exact Lin1.alloc (by assumption) _ | exact Lin1.drew (by assumption) | exact (Lin1.alloc (by assumption) _).drew)).mono ?_); rintro e w' ⟨rfl, N, hBz⟩) | (go_at_call 13; (with_reducible refine (KSH.out _ (by first | assumption | exact Lin1.alloc (by assumption) _ | exact Lin1.drew (by assumption) | exact (Lin1.alloc (by assumption) _).drew)).mono ?_); rintro e w' ⟨rfl, N, hBz⟩) | (go_at_call 16; refine (KOZ.out _ _ (by first | assumption | exact Lin1.alloc (by assumption) _ | exact Lin1.drew (by assumption) | exact (Lin1.alloc (by assumption) _).drew) (by first | exact heap_alloc_new _ _ | exact (hBz.block _ (by simp)).trans (heap_alloc_new _ _))).mono ?_; rintro e w' ⟨rfl, N, hBz⟩))
    all_goals
      go_wp2
      go_ret
      exact ⟨rfl, N.hB⟩
end Go.Proofs.YtpmfpbfbfahniaaDoor
