/- The walk of the statement JournalTorn. -/
import Derived.Test.YtfbkfdoekgnldaaDoorJnTorn
import Derived.Test.YtfbkfdoekgnldaaDoorJnSame
import Derived.Test.YtfbkfdoekgnldaaDoorOpenRun
namespace Go.Proofs.YtfbkfdoekgnldaaDoor
open Go.RowKit
open Lime
attribute [local go_sem] Oper.semAt_some setRow_alloc_at setRow_alloc_past setRow_drew g_same32 g_eq32 g_ne32
theorem wrap_small (x : Int) (h0 : -1000000 ≤ x) (h1 : x ≤ 1000000) : wrap64 x = x := by unfold wrap64; omega
theorem run_bound2 (i y : Nat) (c : BoundsCode) (h : i ≤ y) (w : World) : (Instr.sliceBound (.int .i64 (i : Int)) y c).run Tryd.prog w = .ok i w := by
  have h' : (0 : Int) ≤ i ∧ (i : Int) ≤ y := by omega
  simp [Instr.sliceBound, asIntOf, h']
def upR (a : Option Addr) (cap : Nat) : Option Addr := if cap = 0 then a else a.map (·.add (0 * 3))
theorem run_slice_recs (a : Option Addr) (len cap i : Nat) (h : i ≤ cap) (w : World) :
    (Instr.sliceAt 22 (.slice a len cap) none (some (.int .i64 (i : Int))) none).run Tryd.prog w = .ok (.slice (upR a cap) i cap) w := by
  simp only [Instr.sliceAt, Instr.slice, Sem.run_bind, run_underlying Tryd.underlying22, Result.andThen_ok, Instr.sliceBounds, run_bound2 i cap _ h, Sem.run_pure, rec_sz, Nat.sub_zero]
  rfl
theorem rdl_upto {W : World} {a : Option Addr} {cap : Nat} {l : List Rec} (h : RdL W 3 recL (.slice a l.length cap) l) (k : Nat) (hk : k ≤ l.length) (hc : l.length ≤ cap) : RdL W 3 recL (.slice (upR a cap) (l.take k).length cap) (l.take k) := by
  obtain ⟨a', cap', hv, h2⟩ := h
  injection hv with e1 _ e2
  subst e1 e2
  refine ⟨_, _, rfl, ?_⟩
  rcases h2 with rfl | ⟨b, o, rfl, hr⟩
  · left; simp
  · by_cases h0 : l.take k = []
    · exact .inl h0
    · right
      have hc0 : ¬ cap = 0 := by
        intro e
        have : l.length = 0 := by omega
        have : l = [] := List.eq_nil_of_length_eq_zero this
        rw [this] at h0; simp at h0
      refine ⟨b, o, by unfold upR; rw [if_neg hc0]; rfl, fun j u hu => hr j u ?_⟩
      have hs : flat recL l = flat recL (l.take k) ++ flat recL (l.drop k) := by rw [← flat_append, List.take_append_drop]
      rw [hs, List.getElem?_append_left (List.getElem?_eq_some_iff.1 hu).1]
      exact hu
theorem log_ok_iff {S : Dv} {l : Lay} {run : List Rec} (hc : l.check = 0) {m : Nat} (hd : HeadIs S l m) (h : (logM S l run).2 = 0) : validM S.st.length l run = 0 := by
  by_cases hv : validM S.st.length l run = 0
  · exact hv
  · exfalso
    unfold logM at h
    rw [head_of hc hd, if_neg (by simp), if_pos hv] at h
    exact hv h
set_option maxRecDepth 100000 in
set_option maxHeartbeats 4000000 in
theorem torn_law (v : Value) (run : List Rec) (b : UInt8) (w : World) (hv : RunIn w v run) (hh : HalfLaid w) :
    Calls Tryd.prog 5 #[v, .int .u8 (vb b)] w fun e w' => e = .returned (.bool true) ∧ Below w.heap.size w w' := by
  have HAW : Hid (∀ w', Below w.heap.size w w' → Calls Tryd.prog 12 #[] w' fun e w'' => e = .returned (.bool true) ∧ Below w'.heap.size w' w'') := fun w' hB => awake9 w' (hh.below hB)
  have hrd := hv.hL
  have hdl := hv.dlen
  have hln := hv.len
  have hrm := hv.room
  obtain ⟨a, cap, rfl, -⟩ := hv.hL
  have hroom := hrm a cap rfl
  have h0 := (Has.start w).addRd hrd recL_len (by decide)
  have HF := Lib.hid (formatted_has h0 hh)
  have HHL := Lib.hid hh
  have HDL := Lib.hid hdl
  clear hh hv hrd hdl h0 hrm
  go_enter Tryd.func5, Tryd.ntmps5
  go_wp2_with fail
  refine HF.out.mono ?_
  clear HF
  rintro e w1 ⟨g, S, rfl, hfr, h1⟩
  have HFR := Lib.hid hfr
  have H1 := Lib.hid h1
  clear hfr h1
  by_cases q0 : 100 < (run.length : Int)
  · go_wp2_with fail
    refine (HAW.out _ H1.out.hB).mono ?_
    rintro e w9 ⟨rfl, hB9⟩
    have HB := Lib.hid (H1.out.hB.trans (hB9.mono H1.out.hB.size))
    clear hB9
    go_wp2_with fail
    go_ret
    exact ⟨rfl, HB.out⟩
  go_wp2_with fail
  refine (nine_any _).mono ?_
  rintro e w2 ⟨rfl, hB2⟩
  have hc := log_at [] (H1.out.below hB2) nineL (.head _) HDL.out hln HHL.out
  obtain ⟨X, hX⟩ : ∃ X, X = logM S nineL run := ⟨_, rfl⟩
  rw [← hX] at hc
  obtain ⟨D, c⟩ := X
  dsimp only at hc
  have HC := Lib.hid hc
  have HX := Lib.hid hX
  clear hc hB2 H1 hX
  go_wp2_with fail
  refine HC.out.mono ?_
  clear HC
  rintro e w3 ⟨rfl, h3⟩
  have H3 := Lib.hid h3
  clear h3
  by_cases hc0 : c = 0
  · subst hc0
    have hfr := HFR.out
    have hck : nineL.check = 0 := by decide
    have hval : validM S.st.length nineL run = 0 := log_ok_iff hck hfr.t0.hd (by rw [← HX.out])
    have htk0 := hfr.tk
    have e8 : nineL.size = 8 := rfl
    have hpw0 := hfr.pw
    have hlr := log_run (run := run) hfr.calm hfr.t0 hfr.pl hval (by omega)
    rw [← HX.out] at hlr
    dsimp only at hlr
    rcases hlr with ⟨_, hcalm, ht2, _, _, hlen, htk, hpw⟩ | ⟨h, _⟩
    rotate_left
    · omega
    have hr : RunOk D.st.length nineL run := by rw [hlen]; exact valid_ok hval
    have hlk := look_T2 hcalm.f (by decide) hr ht2
    have hml := (most_le nineL).2
    have hrl := hr.len
    obtain ⟨k, hk⟩ : ∃ k, k = b.toNat % (run.length + 1) := ⟨_, rfl⟩
    have hkl : k ≤ run.length := by have := Nat.mod_lt b.toNat (show 0 < run.length + 1 by omega); omega
    obtain ⟨hwE, hlk2⟩ := torn_math hcalm ht2 hr (by decide) (by have := hpw (by omega); omega) (by omega) k hkl
    have hb0 := vb_lt b
    have hvn := vb_nonneg b
    obtain ⟨hw1, hw2, hw3, hnz⟩ : wrap64 ((run.length : Int) + 1) = (run.length : Int) + 1 ∧ wrap64 (vb b) = vb b ∧ wrap64 (2 + (k : Int)) = 2 + (k : Int) ∧ ¬ ((run.length : Int) + 1 = 0) :=
      ⟨wrap_small _ (by omega) (by omega), wrap_small _ (by omega) (by omega), wrap_small _ (by omega) (by omega), by omega⟩
    have hrem : (vb b).tmod ((run.length : Int) + 1) = (k : Int) := by
      rw [Int.tmod_eq_emod_of_nonneg (vb_nonneg b), hk]; unfold vb; norm_cast
    have HLK := Lib.hid hlk
    have HLK2 := Lib.hid hlk2
    have HWE := Lib.hid hwE
    have HK := Lib.hid hkl
    clear hfr hck hval htk0 e8 hpw0 hcalm ht2 hlen htk hpw hr hlk hlk2 hwE hml hrl hk HX HFR
    go_wp2_with fail
    refine (nine_any _).mono ?_
    rintro e w4 ⟨rfl, hB4⟩
    have hc := lookE_has (H3.out.below hB4) (.head _) nineL HHL.out
    rw [HLK.out] at hc
    have HC := Lib.hid hc
    clear hc hB4 H3
    go_wp2_with fail
    refine HC.out.mono ?_
    clear HC
    rintro e w5 ⟨a5, cap5, rfl, h5⟩
    have hs := samerun_any (h5.ownRd (.head _)).rd (h5.rd (.tail _ (.tail _ (.head _)))) (by omega)
    rw [show decide (run = run) = true by simp] at hs
    have HS := Lib.hid hs
    have H5 := Lib.hid h5.drop
    clear hs h5
    go_wp2_with fail
    refine HS.out.mono ?_
    clear HS
    rintro e w6 ⟨rfl, hB6⟩
    have H6 := Lib.hid (H5.out.below hB6)
    clear hB6 H5
    have hwr := write_at [] H6.out (2 + (k : Int)) zsec
    rw [HWE.out] at hwr
    obtain ⟨Y, hY⟩ : ∃ Y, Y = D.write (2 + (k : Int)) zsec := ⟨_, rfl⟩
    have hlk2 := HLK2.out
    rw [← hY] at hwr hlk2
    obtain ⟨L, hL⟩ : ∃ L, L = run.take k := ⟨_, rfl⟩
    have hLk : L.length = k := by rw [hL, List.length_take]; have := HK.out; omega
    rw [← hL] at hlk2
    have HWR := Lib.hid hwr
    have HLK3 := Lib.hid hlk2
    have HL := Lib.hid hL
    have HLL := Lib.hid hLk
    clear hwr hY hlk2 hL hLk H6 HLK HLK2 HWE
    go_wp2_with (with_reducible refine wpList_build_sector rfl rfl ?_)
    refine HWR.out.mono ?_
    clear HWR
    rintro e w7 ⟨rfl, h7⟩
    have H7 := Lib.hid h7
    clear h7
    go_wp2_with fail
    refine (nine_any _).mono ?_
    rintro e w8 ⟨rfl, hB8⟩
    have hc := lookE_has (H7.out.below hB8) (.head _) nineL HHL.out
    rw [HLK3.out] at hc
    dsimp only at hc
    have HC := Lib.hid hc
    clear hc hB8 H7
    go_wp2_with fail
    refine HC.out.mono ?_
    clear HC
    rintro e w9 ⟨a9, cap9, rfl, h9⟩
    have hup := rdl_upto (h9.rd (.tail _ (.tail _ (.head _)))) k HK.out hroom
    rw [← HL.out] at hup
    have hs := samerun_any (h9.ownRd (.head _)).rd hup (by rw [HLL.out]; omega)
    rw [show decide (L = L) = true by simp, HLL.out] at hs
    have HS := Lib.hid hs
    have H9 := Lib.hid h9.drop
    have hsl := fun w => run_slice_recs a run.length cap k (by have := HK.out; omega) w
    clear hs h9 hup
    rw [HLL.out]
    go_wp2_with fail
    refine HS.out.mono ?_
    clear HS
    rintro e w10 ⟨rfl, hB10⟩
    have h10 := H9.out.below hB10
    have HA := Lib.hid (HAW.out _ h10.hB)
    have HB3 := Lib.hid h10.hB
    clear hB10 h10 H9
    go_wp2_with fail
    refine HA.out.mono ?_
    rintro e w11 ⟨rfl, hB11⟩
    have HB := Lib.hid (HB3.out.trans (hB11.mono HB3.out.size))
    clear hB11 HA
    go_wp2_with fail
    go_ret
    exact ⟨rfl, HB.out⟩
  · have hc2 : (c != 0) = true := by simpa using hc0
    have HA := Lib.hid (HAW.out _ H3.out.hB)
    have HB3 := Lib.hid H3.out.hB
    clear H3 hc0
    go_wp2_with fail
    refine HA.out.mono ?_
    rintro e w9 ⟨rfl, hB9⟩
    have HB := Lib.hid (HB3.out.trans (hB9.mono HB3.out.size))
    clear hB9 HA
    go_wp2_with fail
    go_ret
    exact ⟨rfl, HB.out⟩
end Go.Proofs.YtfbkfdoekgnldaaDoor
