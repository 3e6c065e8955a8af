/- The walk of the statement SumsFound. -/
import Derived.Test.YtpmfpbfbfahniaaDoorLocMath
import Derived.Test.YtpmfpbfbfahniaaDoorOwnB
namespace Go.Proofs.YtpmfpbfbfahniaaDoor
open Go.RowKit
open Lime
attribute [local go_sem] g_eq32 g_ne32 g_eq8 g_ne8
set_option maxRecDepth 100000 in
set_option maxHeartbeats 2000000 in
theorem found_walk (cap : Nat) (a : Option Addr) (l : List UInt8) (p : Int) (v : UInt8) (w : World) (hb : BytesAt w a l) (hh : HalfLaid w) :
    Calls Tryd.prog 5 #[.slice a l.length cap, .int .i64 p, .int .u8 (vb v)] w fun e w' => e = .returned (.bool true) ∧ Below w.heap.size w w' := by
  have hm := hb.1
  have hcase : 500 < l.length ∨ (l.length ≤ 500 ∧ p < 0) ∨ (l.length ≤ 500 ∧ 0 ≤ p ∧ (l.length : Int) ≤ p) ∨ (l.length ≤ 500 ∧ 0 ≤ p ∧ p < (l.length : Int)) := by omega
  rcases hcase with h1 | ⟨h1, h2⟩ | ⟨h1, h2, h3⟩ | ⟨h1, h2, h3⟩
  · have q1 : decide (500 < (l.length : Int)) = true := by simp; omega
    go_enter Tryd.func5, Tryd.ntmps5
    go_wp2_with fail
    refine (shown_any w hh).mono ?_
    rintro e w1 ⟨rfl, hB⟩
    go_wp2
    go_ret
    exact ⟨rfl, hB⟩
  · have q1 : decide (500 < (l.length : Int)) = false := by simp; omega
    have q2 : decide (p < 0) = true := by simp; omega
    go_enter Tryd.func5, Tryd.ntmps5
    go_wp2_with fail
    refine (shown_any w hh).mono ?_
    rintro e w1 ⟨rfl, hB⟩
    go_wp2
    go_ret
    exact ⟨rfl, hB⟩
  · have q1 : decide (500 < (l.length : Int)) = false := by simp; omega
    have q2 : decide (p < 0) = false := by simp; omega
    have q3 : decide ((l.length : Int) ≤ p) = true := by simp; omega
    go_enter Tryd.func5, Tryd.ntmps5
    go_wp2_with fail
    refine (shown_any w hh).mono ?_
    rintro e w1 ⟨rfl, hB⟩
    go_wp2
    go_ret
    exact ⟨rfl, hB⟩
  · obtain ⟨k, rfl⟩ : ∃ k : Nat, p = (k : Int) := ⟨p.toNat, by omega⟩
    have hk : k < l.length := by omega
    have q1 : decide (500 < (l.length : Int)) = false := by simp; omega
    have q2 : decide ((k : Int) < 0) = false := by simp
    have q3 : decide ((l.length : Int) ≤ (k : Int)) = false := by simp; omega
    have q3' : decide (l.length ≤ k) = false := by simp; omega
    clear h2 h3
    obtain ⟨b, off, rfl, hc⟩ : ∃ b off, a = some ⟨b, off, none⟩ ∧ ∀ i, i < l.length → w.cell? ⟨b, off + i, none⟩ = some (.int .u8 (vb (at8 l i))) := by
      rcases hb.2 with h | h
      · omega
      · exact h
    have hbk := hc k hk
    have HCC := Lib.hid hc
    clear hc
    by_cases hv : at8 l k = v
    · have q4 : (at8 l k == v) = true := by simpa using hv
      clear hv
      go_enter Tryd.func5, Tryd.ntmps5
      go_wp2_with fail
      refine (shown_any w hh).mono ?_
      rintro e w1 ⟨rfl, hB⟩
      go_wp2
      go_ret
      exact ⟨rfl, hB⟩
    · have q4 : (at8 l k == v) = false := by simpa using hv
      have hne : crc l ≠ crc (l.set k v) := by
        intro e
        have := (crc_set_iff l k v (crc l) hk).1 e.symm
        rw [BitVec.xor_self] at this
        have hz : b8n (l.length - k) 0#32 = 0#32 := by
          have := b8n_s8n (l.length - k) 0#32
          rwa [s8n_zero] at this
        rw [hz] at this
        have h8 : l[k] ^^^ v = 0 := x8_inj (this.trans x8_zero.symm)
        rw [at8_get l k hk] at hv
        exact hv (by rw [← xor_cancel8 l[k] v, h8, UInt8.xor_zero])
      obtain ⟨i, u, hi, hset, hiu, hub, hloc⟩ := loc_some l (crc (l.set k v)) k v (by omega) hne hk rfl
      have HLOC := Lib.hid hloc
      have HSET := Lib.hid hset
      have HIU := Lib.hid hiu
      have q5 : (u == at8 l i) = false := by simpa using hub
      have q5' : (u != at8 l i) = true := by simpa using hub
      clear hv hne hset hiu hub hloc
      have hil : i < l.length := by omega
      have hbi := HCC.out i hil
      go_enter Tryd.func5, Tryd.ntmps5
      go_wp2_with (at_builtin; (with_reducible refine wpList_copy_bytes _ rfl (.tmp 34) (.tmp 35) rfl w.heap.size l _ cap ?_ ?_ hb (by omega) (Nat.le_refl _) ?_); rfl; rfl; intro g cap1 W1 ho hgw hB1 hgc; have cgk := ho.cell k hk; have fgk := ho.frozen k; have ho2 := ho.set k v hk; have hB2 := hB1.setCell (p := ⟨g, k, none⟩) hgw (.int .u8 (vb v)))
      revert ho2 hB2
      generalize W1.setCell ⟨g, k, none⟩ (.int .u8 (vb v)) = W2
      intro ho2 hB2
      clear ho cgk fgk hB1
      have hsl : (l.set k v).length = l.length := List.length_set
      have hc1 := fun W (h : OwnB w.heap.size W g (l.set k v)) (h' : HalfLaid W) => crc_any cap1 (some ⟨g, 0, none⟩) (l.set k v) W (h.bytes (by rw [hsl]; exact hm)) h'
      rw [hsl] at hc1
      have HC1 := Lib.hid hc1
      clear hc1 hsl
      refine (HC1.out W2 ho2 (hh.below hB2)).mono ?_
      rintro e w3 ⟨rfl, hB⟩
      have ho3 := ho2.below hB
      have c3 := hB2.trans (hB.mono hB2.size)
      clear ho2 hB hB2
      go_wp2_with fail
      refine (locate_any cap (some ⟨b, off, none⟩) l (crc (l.set k v)) w3 (hb.below c3) (hh.below c3)).mono ?_
      rw [HLOC.out]
      rintro e w4 ⟨rfl, hB⟩
      have ho4 := ho3.below hB
      have c4 := c3.trans (hB.mono c3.size)
      clear ho3 hB c3 HLOC hbk q4 q1 q2 q3 q3'
      have t1 : decide ((i : Int) < 0) = false := by simp
      have t2 : decide ((k : Int) < (i : Int)) = false := by simp; omega
      have t2' : decide (k < i) = false := by simp; omega
      have hb4 := hb.below c4
      rcases (show i < k ∨ (i = k ∧ u = v) from (by rcases Nat.lt_or_ge i k with h | h; exact .inl h; exact .inr ⟨by omega, HIU.out (by omega)⟩)) with hik | ⟨hik, huv⟩
      · have t3 : decide ((i : Int) < (k : Int)) = true := by simp; omega
        have t3' : decide (i < k) = true := by simp; omega
        go_wp2_with (at_builtin; (with_reducible refine wpList_copy_bytes _ rfl (.tmp 60) (.tmp 61) rfl w.heap.size l _ cap ?_ ?_ hb4 (by omega) c4.size ?_); rfl; rfl; intro g2 cap2 W5 ho5 hgw2 hB5 hgc2; have cgi := ho5.cell i hil; have fgi := ho5.frozen i; have hne : g ≠ g2 := (by have := ho4.lt; omega); have ho6 := (ho4.below hB5).far ⟨g2, i, none⟩ hne (.int .u8 (vb u)); have ho7 := ho5.set i u hil; have c5 := (c4.trans (hB5.mono c4.size)).setCell (p := ⟨g2, i, none⟩) (by have := c4.size; show _ ≤ g2; omega) (.int .u8 (vb u)); have hbi5 := (c5.cell (p := ⟨b, off + i, none⟩) (block_lt_of_cell hbi)).trans hbi)
        revert ho6 ho7 c5
        generalize W5.setCell ⟨g2, i, none⟩ (.int .u8 (vb u)) = W6
        intro ho6 ho7 c5
        have hsl : (l.set i u).length = l.length := List.length_set
        have hc1 := crc_any cap2 (some ⟨g2, 0, none⟩) (l.set i u) W6 (ho7.bytes (by rw [hsl]; exact hm)) (hh.below c5)
        rw [hsl, HSET.out] at hc1
        refine hc1.mono ?_
        clear hc1 hsl
        rintro e w7 ⟨rfl, hB⟩
        have ho8 := ho6.below hB
        have c7 := c5.trans (hB.mono c5.size)
        clear ho6 ho7 hB c5 ho5 ho4 hb4 cgi fgi
        go_wp2_with fail
        refine (HC1.out w7 ho8 (hh.below c7)).mono ?_
        rintro e w8 ⟨rfl, hB⟩
        have c8 := c7.trans (hB.mono c7.size)
        clear hB c7 ho8
        go_wp2_with fail
        refine (shown_any w8 (hh.below c8)).mono ?_
        rintro e w9 ⟨rfl, hB⟩
        go_wp2
        go_ret
        exact ⟨rfl, c8.trans (hB.mono c8.size)⟩
      · have t3 : decide ((i : Int) < (k : Int)) = false := by simp; omega
        have t3' : decide (i < k) = false := by simp; omega
        have t4 : (u == v) = true := by simpa using huv
        clear hik huv
        go_wp2_with (at_builtin; (with_reducible refine wpList_copy_bytes _ rfl (.tmp 60) (.tmp 61) rfl w.heap.size l _ cap ?_ ?_ hb4 (by omega) c4.size ?_); rfl; rfl; intro g2 cap2 W5 ho5 hgw2 hB5 hgc2; have cgi := ho5.cell i hil; have fgi := ho5.frozen i; have hne : g ≠ g2 := (by have := ho4.lt; omega); have ho6 := (ho4.below hB5).far ⟨g2, i, none⟩ hne (.int .u8 (vb u)); have ho7 := ho5.set i u hil; have c5 := (c4.trans (hB5.mono c4.size)).setCell (p := ⟨g2, i, none⟩) (by have := c4.size; show _ ≤ g2; omega) (.int .u8 (vb u)); have hbi5 := (c5.cell (p := ⟨b, off + i, none⟩) (block_lt_of_cell hbi)).trans hbi)
        revert ho6 ho7 c5
        generalize W5.setCell ⟨g2, i, none⟩ (.int .u8 (vb u)) = W6
        intro ho6 ho7 c5
        have hsl : (l.set i u).length = l.length := List.length_set
        have hc1 := crc_any cap2 (some ⟨g2, 0, none⟩) (l.set i u) W6 (ho7.bytes (by rw [hsl]; exact hm)) (hh.below c5)
        rw [hsl, HSET.out] at hc1
        refine hc1.mono ?_
        clear hc1 hsl
        rintro e w7 ⟨rfl, hB⟩
        have ho8 := ho6.below hB
        have c7 := c5.trans (hB.mono c5.size)
        clear ho6 ho7 hB c5 ho5 ho4 hb4 cgi fgi
        go_wp2_with fail
        refine (HC1.out w7 ho8 (hh.below c7)).mono ?_
        rintro e w8 ⟨rfl, hB⟩
        have c8 := c7.trans (hB.mono c7.size)
        clear hB c7 ho8
        go_wp2_with fail
        refine (shown_any w8 (hh.below c8)).mono ?_
        rintro e w9 ⟨rfl, hB⟩
        go_wp2
        go_ret
        exact ⟨rfl, c8.trans (hB.mono c8.size)⟩
end Go.Proofs.YtpmfpbfbfahniaaDoor
