/- The examples that each statement on the journal asks first. -/
import Derived.Test.YtfbkfdoekgnldaaDoorJnMathA
import Derived.Test.YtfbkfdoekgnldaaDoorJnComA
namespace Go.Proofs.YtfbkfdoekgnldaaDoor
open Go.RowKit
open Lime
attribute [local go_sem] Oper.semAt_some setRow_alloc_at setRow_alloc_past setRow_drew g_same32 g_eq32 g_ne32
def nineL : Lay := ⟨1, 8⟩
theorem fresh_format (l : Lay) (n : Nat) (hc : l.check = 0) (hn : l.first + l.size ≤ n) (h1 : 64 ≤ n) (h2 : n ≤ 256) : ∃ F, formatM (Dv.new n) l = (F, 0) ∧ Fresh F l n := by
  have h := format_new l n hc hn h1 h2
  obtain ⟨X, hX⟩ : ∃ X, X = formatM (Dv.new n) l := ⟨_, rfl⟩
  rw [← hX] at h ⊢
  exact ⟨X.1, Prod.ext rfl h.1, h.2⟩
def run1 : List Rec := [⟨20, 8, ⟨#[97, 98]⟩⟩, ⟨21, 7, ⟨#[99]⟩⟩]
def run2 : List Rec := [⟨20, 8, ⟨#[120]⟩⟩]
theorem valid1 : validM 64 nineL run1 = 0 := by decide
theorem valid2 : validM 64 nineL run2 = 0 := by decide
theorem awake_math {S : Dv} (hf : Fresh S nineL 64) : ∃ D1 D2 D3 : Dv, commitM S nineL run1 = (D1, 0) ∧ headM D1 nineL = (q32 1, 0) ∧ D1.get 20 = (⟨8, q32 1, ⟨#[97, 98]⟩⟩, 0) ∧
    logM D1 nineL run2 = (D2, 0) ∧ lookM D2 nineL = (run2, true, 0) ∧ replayM D2 nineL = (D3, 1, 0) ∧ D3.get 20 = (⟨8, q32 2, ⟨#[120]⟩⟩, 0) := by
  have hlen := hf.len
  have hpw := hf.pw
  have htk := hf.tk
  have e8 : nineL.size = 8 := rfl
  have hck : nineL.check = 0 := by decide
  have el1 : run1.length = 2 := rfl
  have el2 : run2.length = 1 := rfl
  have v1 : validM S.st.length nineL run1 = 0 := by rw [hlen]; exact valid1
  have c1 := commit_run (run := run1) hf.calm hf.t0 hf.pl v1 (by decide) (by omega)
  rcases c1 with ⟨c0, hd⟩ | ⟨_, h, _⟩
  rotate_left
  · omega
  obtain ⟨hcalm, hl1, ht0, hpl, htk1, hpw1, hrec, _⟩ := hd
  obtain ⟨X, hX⟩ : ∃ X, X = commitM S nineL run1 := ⟨_, rfl⟩
  rw [← hX] at c0 hcalm hl1 ht0 hpl htk1 hpw1 hrec ⊢
  obtain ⟨D1, k1⟩ := X
  dsimp only at c0 hcalm hl1 ht0 hpl htk1 hpw1 hrec
  subst c0
  have hg1 := hrec ⟨20, 8, ⟨#[97, 98]⟩⟩ (.head _)
  dsimp only at hg1
  have hp1 := hpw1 (by omega)
  have v2 : validM D1.st.length nineL run2 = 0 := by rw [hl1, hlen]; exact valid2
  have hh1 := head_of hck ht0.hd
  rcases log_run (run := run2) hcalm ht0 hpl v2 (by omega) with ⟨l0, hcalm2, ht2, hpl2, _, hl2, htk2, hpw2⟩ | ⟨_, h, _⟩
  rotate_left
  · omega
  obtain ⟨Y, hY⟩ : ∃ Y, Y = logM D1 nineL run2 := ⟨_, rfl⟩
  rw [← hY] at l0 hcalm2 ht2 hpl2 hl2 htk2 hpw2
  obtain ⟨D2, k2⟩ := Y
  dsimp only at l0 hcalm2 ht2 hpl2 hl2 htk2 hpw2
  subst l0
  have hp2 := hpw2 (by omega)
  have hr2 : RunOk D2.st.length nineL run2 := by rw [hl2]; exact valid_ok v2
  have hlk := look_T2 hcalm2.f (by decide) hr2 ht2
  rcases replay_run (f := upd (fun _ => none) run1) hcalm2 (.inr (.inl ⟨ht2, hpl2.part0⟩)) hr2 (by decide) (by omega) with ⟨r0, was, now, hd⟩ | ⟨_, h, _⟩
  rotate_left
  · omega
  have hy := hd.yes (by rw [hlk])
  rw [hlk] at hy
  have hw : was = 0 + 1 := by
    have h1 := hd.hd
    have h2 := ht2.t1.hd
    have w1 := hd.w1
    unfold HeadIs at h1 h2
    rw [h1] at h2
    have h3 := congrArg (fun x => x.1.q.toNat) h2
    dsimp only at h3
    rw [q32_toNat (by omega), q32_toNat (by omega)] at h3
    exact h3
  have hg3 := hd.recs (by rw [hlk]) ⟨20, 8, ⟨#[120]⟩⟩ (.head _)
  rw [hw] at hg3
  obtain ⟨Z, hZ⟩ : ∃ Z, Z = replayM D2 nineL := ⟨_, rfl⟩
  rw [← hZ] at r0 hy hg3
  obtain ⟨D3, n3, k3⟩ := Z
  dsimp only at r0 hy hg3
  subst r0
  refine ⟨D1, D2, D3, rfl, hh1, hg1, hY.symm, hlk, ?_, hg3⟩
  rw [← hZ, hy.1]
  rfl
theorem lay_size : (Tryd.prog.info? 27).map (·.size) = some 2 := by kernel_rfl
theorem results_lay1 {fn : Func} {p : Tmp} (h : fn.results = #[.cell p 27]) (tmps : Array Value) (w : World) (g : Nat) (cs : Array Value)
    (hp : tmps.getD p undef = .pointer (some ⟨g, 0, none⟩)) (hg : w.heap[g]? = some (.cells cs 27 (0, 0))) (hc : cs.size = 2) :
    (results fn tmps).run Tryd.prog w = .ok (.agg cs) w := by
  have hp' : tmps[p]?.getD undef = .pointer (some ⟨g, 0, none⟩) := by simpa using hp
  have hl := run_loadVar_row (P := Tryd.prog) w g _ _ _ _ _ hg Tryd.underlying27 rfl (by rw [hc]; exact lay_size)
  simp [results, h, hp', asAddr, hl]
theorem nine_any (w : World) : Calls Tryd.prog 22 #[] w fun e w' => e = .returned (.agg #[.int .i64 1, .int .i64 8]) ∧ Below w.heap.size w w' := by
  have HB := Lib.hid ((Below.refl _ w).alloc (Nat.le_refl _) (.cells #[.int .i64 1, .int .i64 8] 27))
  go_enter Tryd.func22, Tryd.ntmps22
  go_wp2_with fail
  exact bodyPost_ret (results_lay1 rfl _ _ w.heap.size _ rfl (heap_alloc_new _ _) rfl) rfl ⟨rfl, HB.out⟩
set_option maxRecDepth 100000 in
set_option maxHeartbeats 2000000 in
theorem formatted_has {w W : World} {rs : List (Res w.heap.size)} (h : Has w W rs) (hh : HalfLaid w) :
    Calls Tryd.prog 21 #[] W fun e w' => ∃ g F, e = .returned (pv g) ∧ Fresh F nineL 64 ∧ Has w w' (DevR _ g F :: rs) := by
  have HN := Lib.hid (new_has h 64 (by decide) (by decide))
  have HHL := Lib.hid hh
  clear h hh
  go_enter Tryd.func21, Tryd.ntmps21
  go_wp2_with fail
  refine HN.out.mono ?_
  clear HN
  rintro e w1 ⟨g, rfl, h1⟩
  have H1 := Lib.hid h1
  clear h1
  go_wp2_with fail
  refine (nine_any _).mono ?_
  rintro e w2 ⟨rfl, hB2⟩
  have hf := format_at [] (H1.out.below hB2) nineL HHL.out
  obtain ⟨F, e0, hfr⟩ := fresh_format nineL 64 (by decide) (by decide) (by decide) (by decide)
  rw [e0] at hf
  have HFR := Lib.hid hfr
  have HF := Lib.hid hf
  clear hf hB2 H1 e0 hfr
  go_wp2_with fail
  refine HF.out.mono ?_
  clear HF
  rintro e w3 ⟨rfl, h3⟩
  have H3 := Lib.hid h3
  clear h3
  go_wp2_with fail
  go_ret
  exact ⟨g, F, rfl, HFR.out, H3.out⟩
/-- a run of records in a block of the walk's own -/
theorem Has.runBlk {w W : World} {rs : List (Res w.heap.size)} (h : Has w W rs) (cs : Array Value) (run : List Rec) (hc : cs.toList = flat recL run) (cap : Nat) : Has w (W.alloc (.cells cs 67)) (RunR _ (.slice (some ⟨W.heap.size, 0, none⟩) run.length cap) run :: rs) :=
  h.more ((Below.refl _ _).alloc (Nat.le_refl _) _) _ [W.heap.size] ⟨rdl_block (heap_alloc_new _ _) run hc cap, fun k hk => .inr (by have := blksL_sub _ _ k hk; simpa [blks, Value.ownBlock] using this), by simp⟩ (by simp)
theorem vu_q1 : vu (q32 1) = 1 := by decide
theorem vu_q2 : vu (q32 2) = 2 := by decide
set_option maxRecDepth 100000 in
set_option maxHeartbeats 4000000 in
theorem awake9 (w : World) (hh : HalfLaid w) :
    Calls Tryd.prog 12 #[] w fun e w' => e = .returned (.bool true) ∧ Below w.heap.size w w' := by
  have HF := Lib.hid (formatted_has (Has.start w) hh)
  have HHL := Lib.hid hh
  clear hh
  go_enter Tryd.func12, Tryd.ntmps12
  go_wp2_with fail
  refine HF.out.mono ?_
  clear HF
  rintro e w1 ⟨g, S, rfl, hfr, h1⟩
  obtain ⟨D1, D2, D3, m1, m2, m3, m4, m5, m6, m7⟩ := awake_math hfr
  have M1 := Lib.hid m1
  have M2 := Lib.hid m2
  have M3 := Lib.hid m3
  have M4 := Lib.hid m4
  have M5 := Lib.hid m5
  have M6 := Lib.hid m6
  have M7 := Lib.hid m7
  have H1 := Lib.hid h1
  clear hfr h1 m1 m2 m3 m4 m5 m6 m7
  go_wp2_with fail
  refine (nine_any _).mono ?_
  rintro e w2 ⟨rfl, hB2⟩
  have h2 := (H1.out.below hB2).runBlk #[.int .i64 20, .int .i64 8, .string ⟨#[97, 98]⟩, .int .i64 21, .int .i64 7, .string ⟨#[99]⟩] run1 rfl 2
  have hc := commit_at [_] h2 nineL (.head _) (by decide) (by decide) HHL.out
  rw [M1.out] at hc
  have HC := Lib.hid hc
  clear hc h2 hB2 H1
  go_wp2_with fail
  refine HC.out.mono ?_
  clear HC
  rintro e w3 ⟨rfl, h3⟩
  have H3 := Lib.hid h3
  clear h3
  go_wp2_with fail
  refine (nine_any _).mono ?_
  rintro e w4 ⟨rfl, hB4⟩
  have hc := head_has (H3.out.below hB4) (.tail _ (.head _)) nineL HHL.out
  rw [M2.out, vu_q1] at hc
  have HC := Lib.hid hc
  clear hc hB4 H3
  go_wp2_with fail
  refine HC.out.mono ?_
  clear HC
  rintro e w5 ⟨rfl, h5⟩
  have hc := get_ret h5 (.tail _ (.head _)) 20 HHL.out
  rw [M3.out] at hc
  dsimp only at hc
  rw [vu_q1] at hc
  have HC := Lib.hid hc
  clear hc h5
  go_wp2_with fail
  refine HC.out.mono ?_
  clear HC
  rintro e w6 ⟨rfl, h6⟩
  have H6 := Lib.hid (h6.alloc (.cells #[.int .i64 8, .int .u32 1, .string ⟨#[97, 98]⟩] 76))
  clear h6
  go_wp2_with fail
  refine (nine_any _).mono ?_
  rintro e w7 ⟨rfl, hB7⟩
  have h7 := (H6.out.below hB7).runBlk #[.int .i64 20, .int .i64 8, .string ⟨#[120]⟩] run2 rfl 1
  have hc := log_at [_, _, _] h7 nineL (.head _) (by decide) (by decide) HHL.out
  rw [M4.out] at hc
  have HC := Lib.hid hc
  clear hc h7 hB7 H6
  go_wp2_with fail
  refine HC.out.mono ?_
  clear HC
  rintro e w8 ⟨rfl, h8⟩
  have H8 := Lib.hid h8
  clear h8
  go_wp2_with fail
  refine (nine_any _).mono ?_
  rintro e w9 ⟨rfl, hB9⟩
  have hc := lookE_has (H8.out.below hB9) (.tail _ (.tail _ (.tail _ (.head _)))) nineL HHL.out
  rw [M5.out] at hc
  have HC := Lib.hid hc
  clear hc hB9 H8
  go_wp2_with fail
  refine HC.out.mono ?_
  clear HC
  rintro e w10 ⟨a, cap, rfl, h10⟩
  have H10 := Lib.hid h10.drop
  clear h10
  go_wp2_with fail
  refine (nine_any _).mono ?_
  rintro e w11 ⟨rfl, hB11⟩
  have hc := replay_at [_, _, _] (H10.out.below hB11) nineL HHL.out
  rw [M6.out] at hc
  have HC := Lib.hid hc
  clear hc hB11 H10
  go_wp2_with fail
  refine HC.out.mono ?_
  clear HC
  rintro e w12 ⟨rfl, h12⟩
  have hc := get_ret h12 (.tail _ (.tail _ (.tail _ (.head _)))) 20 HHL.out
  rw [M7.out] at hc
  dsimp only at hc
  rw [vu_q2] at hc
  have HC := Lib.hid hc
  clear hc h12
  go_wp2_with fail
  refine HC.out.mono ?_
  clear HC
  rintro e w13 ⟨rfl, h13⟩
  have f0 := h13.cell 1 _ _ _ rfl 0 _ rfl
  have f1 := h13.cell 1 _ _ _ rfl 1 _ rfl
  have f2 := h13.cell 1 _ _ _ rfl 2 _ rfl
  have z := block_lt_of_cell f0
  dsimp only at z
  have H13 := Lib.hid (h13.alloc (.cells #[.int .i64 8, .int .u32 2, .string ⟨#[120]⟩] 76))
  clear h13
  go_wp2_with fail
  go_ret
  exact ⟨rfl, H13.out.hB⟩
end Go.Proofs.YtfbkfdoekgnldaaDoor
