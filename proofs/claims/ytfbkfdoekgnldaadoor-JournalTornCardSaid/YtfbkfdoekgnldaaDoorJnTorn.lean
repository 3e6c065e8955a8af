/- A journal of which one frame of a whole transaction is taken away. -/
import Derived.Test.YtfbkfdoekgnldaaDoorJnAwake
namespace Go.Proofs.YtfbkfdoekgnldaaDoor
open Go.RowKit
theorem zsec_get {S : Dv} (hon : S.off = false) {p : Int} (h0 : 0 ≤ p) (h1 : p < S.st.length) (h2 : S.st.length ≤ 256) (h : S.look p = zsec) : S.get p = (fr0F, 70) := by
  rw [Dv.get_on hon h0 h1, h]
  unfold openF
  rw [if_pos ⟨by omega, by omega⟩]
  have : openCode p.toNat zsec = 70 := by rw [openCode, if_pos rfl]
  rw [this, if_neg (by decide)]
theorem torn_math {D : Dv} {run : List Rec} {m : Nat} (hc : Calm D nineL) (ht : T2 D nineL m run) (hr : RunOk D.st.length nineL run) (hm : m + 1 < 4294967296) (hp : D.power < 0) (htk : D.taken ≤ 1000000) (k : Nat) (hk : k ≤ run.length) :
    D.writeE (2 + (k : Int)) = 0 ∧ lookM (D.write (2 + (k : Int)) zsec) nineL = (run.take k, false, 0) := by
  have hf := hc.f
  have e1 : nineL.first = 1 := rfl
  have e8 : nineL.size = 8 := rfl
  have hml := (most_le nineL).1
  have hrl := hr.len
  have hen := hf.end_
  have hn := hf.n256
  have hfree : D.Free := ⟨hf.on, by omega, by omega, by rw [hc.ca]; simp⟩
  have hW : D.write (2 + (k : Int)) zsec = D.push (2 + (k : Int)) zsec := Dv.write_go hfree (by omega) (by omega) _
  refine ⟨Dv.writeE_go hfree (by omega) (by omega), ?_⟩
  rw [hW]
  obtain ⟨Y, hY⟩ : ∃ Y, Y = D.push (2 + (k : Int)) zsec := ⟨_, rfl⟩
  have hlen : Y.st.length = D.st.length := by rw [hY]; rfl
  have hon : Y.off = false := by rw [hY]; exact hf.on
  have hlook : ∀ p : Int, Y.look p = if 2 + (k : Int) = p then zsec else D.look p := fun p => by rw [hY]; exact Dv.look_push D _ _ p
  rw [← hY]
  have hfY : Fits Y nineL := ⟨hon, hf.chk, by rw [hlen]; exact hf.end_, by rw [hlen]; exact hf.n256⟩
  have hsame : ∀ p : Int, 0 ≤ p → p < D.st.length → p ≠ 2 + (k : Int) → Y.get p = D.get p := fun p h0 h1 h2 => get_same hf hfY hlen h0 h1 (by rw [hlook, if_neg (fun e => h2 e.symm)])
  have hblank : Y.get (2 + (k : Int)) = (fr0F, 70) := zsec_get hon (by omega) (by rw [hlen]; omega) hfY.n256 (by rw [hlook, if_pos rfl])
  have hold : OldF m (Y.get (2 + (k : Int))) := by
    rw [hblank]; exact ⟨by show broken 70 = false; decide, fun h => absurd h (by show ¬ (70 : Int) = 0; decide)⟩
  have hrY : RunOk Y.st.length nineL run := by rw [hlen]; exact hr
  have h1 : T1 Y nineL m run := by
    refine ⟨?_, fun i i1 i2 => ?_⟩
    · have := ht.t1.hd
      unfold HeadIs at *
      rw [hsame _ (by omega) (by omega) (by omega)]; exact this
    · by_cases e : nineL.first + (i : Int) = 2 + (k : Int)
      · left; rw [e]; exact hold
      · rw [hsame _ (by omega) (by omega) e]
        exact ht.t1.part i i1 i2
  have hlp : ∀ j : Nat, j ≤ run.length → ∃ a, (logPuts nineL (q32 (m + 1)) 1 run)[j]? = some a ∧ a.q = q32 (m + 1) := fun j hj => by
    rw [logPuts_get]
    by_cases hlt : j < run.length
    · rw [dif_pos hlt]; exact ⟨_, rfl, rfl⟩
    · rw [dif_neg hlt, if_pos (by omega)]; exact ⟨_, rfl, rfl⟩
  rcases look_T1 hfY hm hrY h1 with ⟨j, hj, hjo, hpre, hl⟩ | ⟨h2, _⟩
  · have hjk : j = k := by
      rcases Nat.lt_trichotomy j k with h | h | h
      · exfalso
        obtain ⟨a, ha, hq⟩ := hlp j hj
        have hg := ht.all j a ha
        rw [hsame _ (by omega) (by omega) (by omega), hg] at hjo
        have := hjo.lo rfl
        dsimp only at this
        rw [hq, q32_toNat hm] at this
        omega
      · exact h
      · exfalso
        obtain ⟨a, _, hg⟩ := hpre k h
        rw [show nineL.first + ((k + 1 : Nat) : Int) = 2 + (k : Int) by omega, hblank] at hg
        have := congrArg Prod.snd hg
        exact absurd this (by show ¬ (70 : Int) = 0; decide)
    rw [hl, hjk]
  · exfalso
    obtain ⟨a, ha, _⟩ := hlp k hk
    have hg := h2.all k a ha
    rw [show nineL.first + ((k + 1 : Nat) : Int) = 2 + (k : Int) by omega, hblank] at hg
    have := congrArg Prod.snd hg
    exact absurd this (by show ¬ (70 : Int) = 0; decide)
end Go.Proofs.YtfbkfdoekgnldaaDoor
