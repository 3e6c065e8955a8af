/- The walks of the journal's Clear and Apply. The walks of the journal's Apply and Replay. The walks of the journal's Commit and Format. The walk of the journal's Format. -/
import Derived.Test.YtfbkfdoekgnldaaDoorJnLogA
namespace Go.Proofs.YtfbkfdoekgnldaaDoor
open Go.RowKit
open Lime
attribute [local go_sem] Oper.semAt_some setRow_alloc_at setRow_alloc_past setRow_drew g_same32 g_eq32 g_ne32 run_store_fn
set_option maxRecDepth 100000 in
set_option maxHeartbeats 2000000 in
theorem clear1_at {w W : World} {bd bl bs : Nat} {q : BitVec 32} {l : Lay} (l1 : List (Res w.heap.size)) {l2 : List (Res w.heap.size)} {g : Nat} {S : Dv} (h : Has w W (Blk _ bd (.cells #[pv g] 28) :: Blk _ bl (.cells #[.int .i64 l.first, .int .i64 l.size] 27) :: Blk _ bs (.cells #[.int .u32 (vu q)] 53) :: (l1 ++ DevR _ g S :: l2))) (hh : HalfLaid w) :
    Calls Tryd.prog 70 #[.pointer (some ⟨bd, 0, none⟩), .pointer (some ⟨bl, 0, none⟩), .pointer (some ⟨bs, 0, none⟩)] W fun e w' => e = .returned (.int .i64 (S.putAE ⟨l.first, 1, q + 1#32, ⟨#[]⟩⟩)) ∧
      Has w w' (Blk _ bd (.cells #[pv g] 28) :: Blk _ bl (.cells #[.int .i64 l.first, .int .i64 l.size] 27) :: Blk _ bs (.cells #[.int .u32 (vu q)] 53) :: (l1 ++ DevR _ g (S.putA ⟨l.first, 1, q + 1#32, ⟨#[]⟩⟩) :: l2)) := by
  obtain ⟨Q, hQ⟩ : ∃ Q, Q = q + 1#32 := ⟨_, rfl⟩
  have hw1 : IntKind.u32.wrap (vu q + 1) = vu Q := by rw [hQ]; exact g_add32 q 1#32
  rw [← hQ]
  have b0 := h.cell 0 _ _ _ rfl 0 _ rfl
  have c0 := h.cell 1 _ _ _ rfl 0 _ rfl
  have c1 := h.cell 1 _ _ _ rfl 1 _ rfl
  have s0 := h.cell 2 _ _ _ rfl 0 _ rfl
  have HP := Lib.hid (put_at (_ :: _ :: _ :: l1) h ⟨l.first, 1, Q, ⟨#[]⟩⟩ (show 0 ≤ 9223372036854775807 by decide) hh)
  dsimp only at HP
  clear h hQ hh
  go_enter Tryd.func70, Tryd.ntmps70
  go_wp2_with fail
  refine HP.out.mono ?_
  clear HP
  rintro e w3 ⟨rfl, h3⟩
  have H3 := Lib.hid h3
  clear h3 b0 c0 c1 s0
  go_wp2_with fail
  go_ret
  exact ⟨rfl, H3.out⟩
set_option maxRecDepth 100000 in
set_option maxHeartbeats 4000000 in
theorem clear_at {w W : World} (l1 : List (Res w.heap.size)) {l2 : List (Res w.heap.size)} {g : Nat} {S : Dv} (h : Has w W (l1 ++ DevR _ g S :: l2)) (l : Lay) (hh : HalfLaid w) :
    Calls Tryd.prog 48 #[pv g, .agg #[.int .i64 l.first, .int .i64 l.size]] W fun e w' => e = .returned (.int .i64 (clearM S l).2) ∧ Has w w' (l1 ++ DevR _ g (clearM S l).1 :: l2) := by
  have h1 := (h.alloc (.cells #[pv g] 28)).allocAt (.cells #[.int .i64 l.first, .int .i64 l.size] 27) (W.heap.size + 1) (by simp)
  have HHD := Lib.hid (head_has h1 (.tail _ (.tail _ (show DevR w.heap.size g S ∈ l1 ++ DevR _ g S :: l2 by simp))) l hh)
  obtain ⟨R, hR⟩ : ∃ R, R = clearM S l := ⟨_, rfl⟩
  rw [← hR]
  have hRd : R = if (headM S l).2 ≠ 0 then (S, (headM S l).2) else Dv.done (S.putAll [⟨l.first, 1, (headM S l).1 + 1#32, ⟨#[]⟩⟩]) := hR
  obtain ⟨⟨q, c⟩, hq⟩ : ∃ x, x = headM S l := ⟨_, rfl⟩
  rw [← hq] at HHD hRd
  dsimp only at HHD hRd
  have HRD := Lib.hid hRd
  have HHL := Lib.hid hh
  clear h h1 hh hR hRd hq
  go_enter Tryd.func48, Tryd.ntmps48
  go_wp2_with fail
  refine HHD.out.mono ?_
  clear HHD
  rintro e w2 ⟨rfl, h2⟩
  have d0 := h2.cell 1 _ _ _ rfl 0 _ rfl
  have zd := block_lt_of_cell d0
  dsimp only at zd
  have h3 := h2.alloc (.cells #[.int .u32 (vu q)] 53)
  have H3 := Lib.hid h3
  clear h2 h3
  by_cases hc : c = 0
  · subst hc
    obtain ⟨E, hE⟩ : ∃ E, E = S.putAE ⟨l.first, 1, q + 1#32, ⟨#[]⟩⟩ := ⟨_, rfl⟩
    obtain ⟨D1, hD1⟩ : ∃ D1, D1 = S.putA ⟨l.first, 1, q + 1#32, ⟨#[]⟩⟩ := ⟨_, rfl⟩
    have hRE : R = if E ≠ 0 then (D1, E) else (D1.flush, D1.flushE) := by
      rw [HRD.out, if_neg (by simp)]
      unfold Dv.putAll Dv.putAll Dv.done
      rw [← hE, ← hD1]
      by_cases he : E ≠ 0
      · rw [if_pos he, if_pos he]
      · rw [if_neg he, if_neg he]; rfl
    have h4 := H3.out.allocAt (.cells #[.func (.func 70) #[] #[.pointer (some ⟨W.heap.size, 0, none⟩), .pointer (some ⟨W.heap.size + 1, 0, none⟩), .pointer (some ⟨w2.heap.size, 0, none⟩)], .func (.func 41) #[pv g] #[]] 82) (w2.heap.size + 1) (by simp)
    have h5 := h4.perm (show List.Perm (_ :: _ :: _ :: _ :: (l1 ++ DevR _ g S :: l2)) (_ :: _ :: _ :: _ :: (l1 ++ DevR _ g S :: l2)) from (List.perm_middle (l₁ := [_, _, _]) (a := Blk _ W.heap.size (.cells #[pv g] 28)) (l₂ := l1 ++ DevR _ g S :: l2)).trans (.cons _ ((List.perm_middle (l₁ := [_, _]) (a := Blk _ (W.heap.size + 1) (.cells #[.int .i64 l.first, .int .i64 l.size] 27)) (l₂ := l1 ++ DevR _ g S :: l2)).trans (.cons _ (List.Perm.swap _ _ _)))))
    have HT : Hid (Calls Tryd.prog 36 #[.slice (some ⟨w2.heap.size + 1, 0, none⟩) 2 2] ((w2.alloc (.cells #[.int .u32 (vu q)] 53)).alloc (.cells #[.func (.func 70) #[] #[.pointer (some ⟨W.heap.size, 0, none⟩), .pointer (some ⟨W.heap.size + 1, 0, none⟩), .pointer (some ⟨w2.heap.size, 0, none⟩)], .func (.func 41) #[pv g] #[]] 82)) fun e w' => ∃ c, e = .returned (.int .i64 c) ∧ (c = R.2 ∧ Has w w' (l1 ++ DevR _ g R.1 :: l2))) := by
      refine then_any [⟨70, #[], #[.pointer (some ⟨W.heap.size, 0, none⟩), .pointer (some ⟨W.heap.size + 1, 0, none⟩), .pointer (some ⟨w2.heap.size, 0, none⟩)]⟩, ⟨41, #[pv g], #[]⟩] (w2.heap.size + 1) 2
        (fun k W' => (k = 0 → Has w W' (Blk _ W.heap.size (.cells #[pv g] 28) :: Blk _ (W.heap.size + 1) (.cells #[.int .i64 l.first, .int .i64 l.size] 27) :: Blk _ w2.heap.size (.cells #[.int .u32 (vu q)] 53) :: Blk _ (w2.heap.size + 1) (.cells #[.func (.func 70) #[] #[.pointer (some ⟨W.heap.size, 0, none⟩), .pointer (some ⟨W.heap.size + 1, 0, none⟩), .pointer (some ⟨w2.heap.size, 0, none⟩)], .func (.func 41) #[pv g] #[]] 82) :: (l1 ++ DevR _ g S :: l2))) ∧ (k = 1 → E = 0 ∧ Has w W' (Blk _ W.heap.size (.cells #[pv g] 28) :: Blk _ (W.heap.size + 1) (.cells #[.int .i64 l.first, .int .i64 l.size] 27) :: Blk _ w2.heap.size (.cells #[.int .u32 (vu q)] 53) :: Blk _ (w2.heap.size + 1) (.cells #[.func (.func 70) #[] #[.pointer (some ⟨W.heap.size, 0, none⟩), .pointer (some ⟨W.heap.size + 1, 0, none⟩), .pointer (some ⟨w2.heap.size, 0, none⟩)], .func (.func 41) #[pv g] #[]] 82) :: (l1 ++ DevR _ g D1 :: l2))) ∧ (k = 2 → E = 0 ∧ D1.flushE = 0 ∧ Has w W' (Blk _ W.heap.size (.cells #[pv g] 28) :: Blk _ (W.heap.size + 1) (.cells #[.int .i64 l.first, .int .i64 l.size] 27) :: Blk _ w2.heap.size (.cells #[.int .u32 (vu q)] 53) :: Blk _ (w2.heap.size + 1) (.cells #[.func (.func 70) #[] #[.pointer (some ⟨W.heap.size, 0, none⟩), .pointer (some ⟨W.heap.size + 1, 0, none⟩), .pointer (some ⟨w2.heap.size, 0, none⟩)], .func (.func 41) #[pv g] #[]] 82) :: (l1 ++ DevR _ g D1.flush :: l2)))) _ _ (by simp) ⟨fun _ => h5, fun h => absurd h (by decide), fun h => absurd h (by decide)⟩ ?_ ?_ ?_ ?_
      · intro k W' f hI hf
        match k, hf with
        | 0, hf => injection hf with hf; subst hf; exact (hI.1 rfl).cell 3 _ _ _ rfl 0 _ rfl
        | 1, hf => injection hf with hf; subst hf; exact (hI.2.1 rfl).2.cell 3 _ _ _ rfl 1 _ rfl
        | (n + 2), hf => simp at hf
      · intro k f hf W' hI
        match k, hf with
        | 0, hf =>
          injection hf with hf; subst hf
          refine (clear1_at (_ :: l1) (hI.1 rfl) HHL.out).mono ?_
          rintro e w' ⟨rfl, h'⟩
          rw [← hE]
          rw [← hD1] at h'
          refine ⟨E, rfl, fun h0 => ⟨fun h => absurd h (by decide), fun _ => ⟨h0, h'⟩, fun h => absurd h (by decide)⟩, fun h0 => ?_⟩
          rw [hRE, if_pos h0]
          exact ⟨rfl, h'.drop.drop.drop.drop⟩
        | 1, hf =>
          injection hf with hf; subst hf
          obtain ⟨he0, h1⟩ := hI.2.1 rfl
          refine (flush_at (_ :: _ :: _ :: _ :: l1) h1).mono ?_
          rintro e w' ⟨rfl, h'⟩
          refine ⟨_, rfl, fun h0 => ⟨fun h => absurd h (by decide), fun h => absurd h (by decide), fun _ => ⟨he0, h0, h'⟩⟩, fun h0 => ?_⟩
          rw [hRE, if_neg (by rw [he0]; simp)]
          exact ⟨rfl, h'.drop.drop.drop.drop⟩
        | (n + 2), hf => simp at hf
      · intro k f hf
        match k, hf with
        | 0, hf => injection hf with hf; subst hf; exact fun args w => enter_fn Tryd.func70 (by kernel_rfl) rfl args w
        | 1, hf => injection hf with hf; subst hf; exact fun args w => enter_fn Tryd.func41 (by kernel_rfl) rfl args w
        | (n + 2), hf => simp at hf
      · intro W' hI
        obtain ⟨he0, hf0, h'⟩ := hI.2.2 rfl
        rw [hRE, if_neg (by rw [he0]; simp)]
        exact ⟨hf0.symm, h'.drop.drop.drop.drop⟩
    clear h4 h5 hRE hE hD1 HRD H3
    go_wp2_with fail
    refine HT.out.mono ?_
    clear HT
    rintro e w5 ⟨c, rfl, rfl, h5⟩
    have H5 := Lib.hid h5
    clear h5 d0 zd
    go_wp2_with fail
    go_ret
    exact ⟨rfl, H5.out⟩
  · have hc2 : (c != 0) = true := by simpa using hc
    have HE : Hid (R = (S, c)) := by rw [HRD.out, if_pos hc]; exact Lib.hid rfl
    have H4 := Lib.hid H3.out.drop.drop.drop
    clear hc HRD H3 d0 zd
    go_wp2_with fail
    go_ret
    exact ⟨by rw [HE.out]; rfl, by rw [HE.out]; exact H4.out⟩
end Go.Proofs.YtfbkfdoekgnldaaDoor
namespace Go.Proofs.YtfbkfdoekgnldaaDoor
open Go.RowKit
open Lime
attribute [local go_sem] Oper.semAt_some setRow_alloc_at setRow_alloc_past setRow_drew g_same32 g_eq32 g_ne32 run_store_fn
/-- what is found is small -/
theorem lookQ_small (S : Dv) (l : Lay) (q : BitVec 32) : ∀ (n : Nat) (i : Int) (out : List Rec), (∀ r ∈ out, r.data.size ≤ 120) → (∀ r ∈ (lookQ S l q n i out).1, r.data.size ≤ 120) ∧ (lookQ S l q n i out).1.length ≤ out.length + n := by
  intro n
  induction n with
  | zero => intro i out h; exact ⟨h, Nat.le_refl _⟩
  | succ n ih =>
    intro i out h
    rw [lookQ_succ]
    split
    · exact ⟨by simp, by simp⟩
    · split
      · have hd : (recOf (S.get (l.first + i)).1.d).data.size ≤ 120 := by
          have := Dv.get_size S (l.first + i)
          unfold recOf
          rw [ByteArray.size_extract]
          omega
        have := ih (i + 1) (out ++ [recOf (S.get (l.first + i)).1.d]) (fun r hr => by
          rcases List.mem_append.1 hr with hr | hr
          · exact h r hr
          · simp at hr; rw [hr]; exact hd)
        refine ⟨this.1, ?_⟩
        have h2 := this.2
        simp at h2
        omega
      · exact ⟨h, by simp⟩
theorem look_small (S : Dv) (l : Lay) : (∀ r ∈ (lookM S l).1, r.data.size ≤ 120) ∧ (lookM S l).1.length ≤ 96 := by
  unfold lookM
  by_cases h : (headM S l).2 ≠ 0
  · rw [if_pos h]; exact ⟨by simp, by simp⟩
  · rw [if_neg h]
    have hc : l.check = 0 := by
      have h0 : (headM S l).2 = 0 := by simpa using h
      unfold headM at h0
      by_cases hc : l.check = 0
      · exact hc
      · rw [if_pos hc] at h0; exact h0
    have c := Lay.check_ok hc
    have := lookQ_small S l ((headM S l).1 + 1#32) (l.size - 1).toNat 1 [] (by simp)
    refine ⟨this.1, ?_⟩
    have h2 := this.2
    rw [List.length_nil] at h2
    omega
/-- what is found is found under a layout that is one -/
theorem look_check {S : Dv} {l : Lay} (h : (lookM S l).2.2 = 0) : l.check = 0 := by
  by_cases hc : l.check = 0
  · exact hc
  · exfalso
    have h1 : (headM S l).2 = l.check := by unfold headM; rw [if_pos hc]
    unfold lookM at h
    rw [h1, if_pos hc] at h
    exact hc h
set_option maxRecDepth 100000 in
set_option maxHeartbeats 4000000 in
theorem applyE_at {w W : World} (l1 : List (Res w.heap.size)) {l2 : List (Res w.heap.size)} {g : Nat} {S : Dv} (h : Has w W (l1 ++ DevR _ g S :: l2)) (l : Lay) (hh : HalfLaid w) :
    Calls Tryd.prog 46 #[pv g, .agg #[.int .i64 l.first, .int .i64 l.size]] W fun e w' => e = .returned (.tuple #[.int .i64 (applyM S l).2.1, .int .i64 (applyM S l).2.2]) ∧ Has w w' (l1 ++ DevR _ g (applyM S l).1 :: l2) := by
  have h1 := h.alloc (.cells #[.int .i64 l.first, .int .i64 l.size] 27)
  have HL := Lib.hid (look_has h1 (.tail _ (show DevR w.heap.size g S ∈ l1 ++ DevR _ g S :: l2 by simp)) l hh)
  obtain ⟨R, hR⟩ : ∃ R, R = applyM S l := ⟨_, rfl⟩
  rw [← hR]
  have hRd : R = if (lookM S l).2.2 ≠ 0 then (S, 0, (lookM S l).2.2) else if (lookM S l).2.1 = false then (S, 0, 9) else many (appM S ((headM S l).1 + 1#32) (lookM S l).1) (lookM S l).1.length := hR
  have hsm := look_small S l
  obtain ⟨⟨out, wh, c⟩, hq⟩ : ∃ x, x = lookM S l := ⟨_, rfl⟩
  rw [← hq] at HL hRd hsm
  dsimp only at HL hRd hsm
  have HRD := Lib.hid hRd
  have HHL := Lib.hid hh
  have HSM := Lib.hid hsm
  clear h h1 hh hR hRd hq hsm
  go_enter Tryd.func46, Tryd.ntmps46
  go_wp2_with fail
  refine HL.out.mono ?_
  clear HL
  rintro e w2 ⟨q, a, cap, rfl, hqq, h2⟩
  have h3 := h2.asRd.alloc (.cells #[.int .u32 (vu q), .slice a out.length cap, .bool wh] 95)
  have H3 := Lib.hid h3
  have HQ := Lib.hid hqq
  clear h2 h3 hqq
  by_cases hc : c = 0
  · subst hc
    have hq2 := HQ.out rfl
    cases wh
    · have HE : Hid (R = (S, 0, 9)) := by rw [HRD.out, if_neg (by simp), if_pos rfl]; exact Lib.hid rfl
      have H4 := Lib.hid H3.out.drop.drop.drop
      clear HRD H3 HQ hq2
      go_wp2_with fail
      go_ret2
      exact ⟨by rw [HE.out]; rfl, by rw [HE.out]; exact H4.out⟩
    · have HAP := Lib.hid (apply_at (_ :: _ :: _ :: l1) H3.out (.tail _ (.head _)) q true (fun r hr => by have := HSM.out.1 r hr; omega) (by have := HSM.out.2; omega) HHL.out)
      obtain ⟨X, hX⟩ : ∃ X, X = appM S (q + 1#32) out := ⟨_, rfl⟩
      rw [← hX] at HAP
      have HE : Hid (R = many X out.length) := by rw [HRD.out, if_neg (by simp), if_neg (by simp), ← hq2, ← hX]; exact Lib.hid rfl
      obtain ⟨X1, X2⟩ := X
      dsimp only at HAP
      clear HRD H3 HQ hq2 hX
      go_wp2_with fail
      refine HAP.out.mono ?_
      clear HAP
      rintro e w4 ⟨rfl, h4⟩
      have f0 := h4.cell 0 _ _ _ rfl 0 _ rfl
      have f1 := h4.cell 0 _ _ _ rfl 1 _ rfl
      have H4 := Lib.hid h4.drop.drop.drop
      clear h4
      by_cases hx : X2 = 0
      · subst hx
        have HE2 : Hid (R = (X1, (out.length : Int), 0)) := by rw [HE.out]; unfold many; exact Lib.hid (if_neg (by simp))
        go_wp2_with fail
        go_ret2
        exact ⟨by rw [HE2.out]; rfl, by rw [HE2.out]; exact H4.out⟩
      · have hx2 : (X2 != 0) = true := by simpa using hx
        have HE2 : Hid (R = (X1, 0, X2)) := by rw [HE.out]; unfold many; exact Lib.hid (if_pos hx)
        clear hx
        go_wp2_with fail
        go_ret2
        exact ⟨by rw [HE2.out]; rfl, by rw [HE2.out]; exact H4.out⟩
  · have hc2 : (c != 0) = true := by simpa using hc
    have HE : Hid (R = (S, 0, c)) := by rw [HRD.out, if_pos hc]; exact Lib.hid rfl
    have H4 := Lib.hid H3.out.drop.drop.drop
    clear hc HRD H3 HQ
    go_wp2_with fail
    go_ret2
    exact ⟨by rw [HE.out]; rfl, by rw [HE.out]; exact H4.out⟩
set_option maxRecDepth 100000 in
set_option maxHeartbeats 8000000 in
theorem replay_at {w W : World} (l1 : List (Res w.heap.size)) {l2 : List (Res w.heap.size)} {g : Nat} {S : Dv} (h : Has w W (l1 ++ DevR _ g S :: l2)) (l : Lay) (hh : HalfLaid w) :
    Calls Tryd.prog 17 #[pv g, .agg #[.int .i64 l.first, .int .i64 l.size]] W fun e w' => e = .returned (.tuple #[.int .i64 (replayM S l).2.1, .int .i64 (replayM S l).2.2]) ∧ Has w w' (l1 ++ DevR _ g (replayM S l).1 :: l2) := by
  have hmem : DevR w.heap.size g S ∈ l1 ++ DevR _ g S :: l2 := by simp
  have h1 := h.alloc (.cells #[.int .i64 l.first, .int .i64 l.size] 27)
  have HL := Lib.hid (look_has h1 (.tail _ hmem) l hh)
  obtain ⟨R, hR⟩ : ∃ R, R = replayM S l := ⟨_, rfl⟩
  rw [← hR]
  have hRd : R = if (lookM S l).2.2 ≠ 0 then (S, 0, (lookM S l).2.2)
    else if (lookM S l).2.1 then
      if (appM S ((headM S l).1 + 1#32) (lookM S l).1).2 ≠ 0 then ((appM S ((headM S l).1 + 1#32) (lookM S l).1).1, 0, (appM S ((headM S l).1 + 1#32) (lookM S l).1).2)
      else many (clearM (appM S ((headM S l).1 + 1#32) (lookM S l).1).1 l) (lookM S l).1.length
    else if (staleM S l (headM S l).1).2 ≠ 0 then (S, 0, (staleM S l (headM S l).1).2)
    else if (staleM S l (headM S l).1).1 then many (clearM S l) 0
    else (S, 0, 0) := hR
  have hsm := look_small S l
  have hlc := @look_check S l
  obtain ⟨⟨out, wh, c⟩, hq⟩ : ∃ x, x = lookM S l := ⟨_, rfl⟩
  rw [← hq] at HL hRd hsm hlc
  dsimp only at HL hRd hsm hlc
  have HRD := Lib.hid hRd
  have HHL := Lib.hid hh
  have HSM := Lib.hid hsm
  have HM := Lib.hid hmem
  have HLC := Lib.hid hlc
  clear h h1 hh hR hRd hq hsm hmem hlc
  go_enter Tryd.func17, Tryd.ntmps17
  go_wp2_with fail
  refine HL.out.mono ?_
  clear HL
  rintro e w2 ⟨q, a, cap, rfl, hqq, h2⟩
  have h3 := h2.asRd.alloc (.cells #[.int .u32 (vu q), .slice a out.length cap, .bool wh] 95)
  have H3 := Lib.hid h3
  have HQ := Lib.hid hqq
  have y0 := h2.cell 1 _ _ _ rfl 0 _ rfl
  have y1 := h2.cell 1 _ _ _ rfl 1 _ rfl
  have zy := block_lt_of_cell y0
  dsimp only at zy
  clear h2 h3 hqq
  by_cases hc : c = 0
  · subst hc
    have hq2 := HQ.out rfl
    have HCH := Lib.hid (HLC.out rfl)
    clear HLC
    cases wh
    · have HST := Lib.hid (stale_has H3.out (.tail _ (.tail _ (.tail _ HM.out))) l HCH.out q HHL.out)
      obtain ⟨X, hX⟩ : ∃ X, X = staleM S l q := ⟨_, rfl⟩
      rw [← hX] at HST
      have HE : Hid (R = if X.2 ≠ 0 then (S, 0, X.2) else if X.1 then many (clearM S l) 0 else (S, 0, 0)) := by rw [HRD.out, if_neg (by simp), if_neg (by simp), ← hq2, ← hX]; exact Lib.hid rfl
      obtain ⟨X1, X2⟩ := X
      dsimp only at HST HE
      clear HRD H3 HQ hq2 hX
      go_wp2_with fail
      refine HST.out.mono ?_
      clear HST
      rintro e w4 ⟨rfl, h4⟩
      by_cases hx : X2 = 0
      · subst hx
        cases X1
        · have HE2 : Hid (R = (S, 0, 0)) := by rw [HE.out, if_neg (by simp)]; exact Lib.hid rfl
          have H4 := Lib.hid h4.drop.drop.drop
          clear h4 HE
          go_wp2_with fail
          go_ret2
          exact ⟨by rw [HE2.out]; rfl, by rw [HE2.out]; exact H4.out⟩
        · have z0 := h4.cell 2 _ _ _ rfl 0 _ rfl
          have z1 := h4.cell 2 _ _ _ rfl 1 _ rfl
          have HC := Lib.hid (clear_at (_ :: _ :: _ :: l1) h4 l HHL.out)
          obtain ⟨Y, hY⟩ : ∃ Y, Y = clearM S l := ⟨_, rfl⟩
          rw [← hY] at HC
          have HE2 : Hid (R = many Y 0) := by rw [HE.out, if_neg (by simp), ← hY]; exact Lib.hid rfl
          obtain ⟨Y1, Y2⟩ := Y
          dsimp only at HC
          clear h4 HE hY y0 y1
          go_wp2_with fail
          refine HC.out.mono ?_
          clear HC
          rintro e w5 ⟨rfl, h5⟩
          have H5 := Lib.hid h5.drop.drop.drop
          clear h5 z0 z1
          by_cases hy : Y2 = 0
          · subst hy
            have HE3 : Hid (R = (Y1, 0, 0)) := by rw [HE2.out]; unfold many; exact Lib.hid (if_neg (by simp))
            go_wp2_with fail
            go_ret2
            exact ⟨by rw [HE3.out]; rfl, by rw [HE3.out]; exact H5.out⟩
          · have hy2 : (Y2 != 0) = true := by simpa using hy
            have HE3 : Hid (R = (Y1, 0, Y2)) := by rw [HE2.out]; unfold many; exact Lib.hid (if_pos hy)
            clear hy
            go_wp2_with fail
            go_ret2
            exact ⟨by rw [HE3.out]; rfl, by rw [HE3.out]; exact H5.out⟩
      · have hx2 : (X2 == 0) = false := by simpa using hx
        have hx3 : (X2 != 0) = true := by simpa using hx
        have HE2 : Hid (R = (S, 0, X2)) := by rw [HE.out]; exact Lib.hid (if_pos hx)
        have H4 := Lib.hid h4.drop.drop.drop
        clear h4 HE hx
        go_wp2_with fail
        go_ret2
        exact ⟨by rw [HE2.out]; rfl, by rw [HE2.out]; exact H4.out⟩
    · have HAPW : Hid (∀ W', Has w W' (Blk _ w2.heap.size (.cells #[.int .u32 (vu q), .slice a out.length cap, .bool true] 95) :: RunR _ (.slice a out.length cap) out :: Blk _ W.heap.size (.cells #[.int .i64 l.first, .int .i64 l.size] 27) :: (l1 ++ DevR _ g S :: l2)) → _) := fun W' h => apply_at (_ :: _ :: _ :: l1) h (.tail _ (.head _)) q true (fun r hr => by have := HSM.out.1 r hr; omega) (by have := HSM.out.2; omega) HHL.out
      have HSZ : Hid (∀ W' S', Has w W' (Blk _ w2.heap.size (.cells #[.int .u32 (vu q), .slice a out.length cap, .bool true] 95) :: RunR _ (.slice a out.length cap) out :: Blk _ W.heap.size (.cells #[.int .i64 l.first, .int .i64 l.size] 27) :: (l1 ++ DevR _ g S' :: l2)) → (W'.cell? ⟨w2.heap.size, 0, none⟩ = some (.int .u32 (vu q)) ∧ W'.cell? ⟨w2.heap.size, 1, none⟩ = some (.slice a out.length cap) ∧ W'.cell? ⟨w2.heap.size, 2, none⟩ = some (.bool true))) := fun W' S' h => ⟨h.cell 0 _ _ _ rfl 0 _ rfl, h.cell 0 _ _ _ rfl 1 _ rfl, h.cell 0 _ _ _ rfl 2 _ rfl⟩
      obtain ⟨X, hX⟩ : ∃ X, X = appM S (q + 1#32) out := ⟨_, rfl⟩
      rw [← hX] at HAPW
      have HE : Hid (R = if X.2 ≠ 0 then (X.1, 0, X.2) else many (clearM X.1 l) out.length) := by rw [HRD.out, if_neg (by simp), if_pos rfl, ← hq2, ← hX]; exact Lib.hid rfl
      obtain ⟨X1, X2⟩ := X
      dsimp only at HAPW HE
      clear HRD HQ hq2 hX
      go_wp2_with fail
      refine wp_region_ordJ (fun W' => W'.cell? ⟨w2.heap.size, 0, none⟩ = some (.int .u32 (vu q)) ∧ W'.cell? ⟨w2.heap.size, 1, none⟩ = some (.slice a out.length cap) ∧ W'.cell? ⟨w2.heap.size, 2, none⟩ = some (.bool true)) (OrdT.takes [0, 1, 2, 3, 4] (.one 5 (OrdT.takes [6, 7] .done))) (by kernel_rfl) (by kernel_rfl) (HSZ.out _ _ H3.out.drew) (fun wz hz => ?_)
      have h8 := H3.out.drew
      rw [← hz] at h8
      have H8 := Lib.hid h8
      clear hz h8 H3 y0 y1 zy
      unfold OrdT.takes
      --ordt yyymy
      iterate 3 (refine' t_yield _ rfl rfl rfl _ _; rotate_left; (intro w' hSw; obtain ⟨s0, s1, s2⟩ := hSw; go_simp; with_reducible rfl); simp only [Act.put, List.setIfInBounds_toArray, List.set_cons_zero, List.set_cons_succ])
      (refine' t_move _ _ rfl rfl rfl rfl _ _; rotate_left; (go_simp; with_reducible rfl); simp only [Act.put, List.setIfInBounds_toArray, List.set_cons_zero, List.set_cons_succ])
      (refine' t_yield _ rfl rfl rfl _ _; rotate_left; (intro w' hSw; obtain ⟨s0, s1, s2⟩ := hSw; go_simp; with_reducible rfl); simp only [Act.put, List.setIfInBounds_toArray, List.set_cons_zero, List.set_cons_succ])
      --end
      refine t_one rfl rfl (fun K hK => ?_)
      go_simp
      refine (HAPW.out _ H8.out).mono ?_
      rintro e w9 ⟨rfl, h10⟩
      have H10 := Lib.hid h10
      clear h10 H8 HAPW
      dsimp only
      refine hK _ _ (HSZ.out _ _ H10.out) ?_
      clear hK
      unfold OrdT.takes
      --ordt yy
      iterate 2 (refine' t_yield _ rfl rfl rfl _ _; rotate_left; (intro w' hSw; obtain ⟨s0, s1, s2⟩ := hSw; go_simp; with_reducible rfl); simp only [Act.put, List.setIfInBounds_toArray, List.set_cons_zero, List.set_cons_succ])
      --end
      refine t_done ?_
      by_cases hx : X2 = 0
      · subst hx
        have z0 := H10.out.cell 2 _ _ _ rfl 0 _ rfl
        have z1 := H10.out.cell 2 _ _ _ rfl 1 _ rfl
        have HC := Lib.hid (clear_at (_ :: _ :: _ :: l1) H10.out l HHL.out)
        obtain ⟨Y, hY⟩ : ∃ Y, Y = clearM X1 l := ⟨_, rfl⟩
        rw [← hY] at HC
        have HE2 : Hid (R = many Y out.length) := by rw [HE.out, if_neg (by simp), ← hY]; exact Lib.hid rfl
        obtain ⟨Y1, Y2⟩ := Y
        dsimp only at HC
        clear HE hY H10
        go_wp2_with fail
        refine HC.out.mono ?_
        clear HC
        rintro e w5 ⟨rfl, h5⟩
        have H5 := Lib.hid h5.drop.drop.drop
        clear h5 z0 z1
        by_cases hy : Y2 = 0
        · subst hy
          have HE3 : Hid (R = (Y1, (out.length : Int), 0)) := by rw [HE2.out]; unfold many; exact Lib.hid (if_neg (by simp))
          go_wp2_with fail
          go_ret2
          exact ⟨by rw [HE3.out]; rfl, by rw [HE3.out]; exact H5.out⟩
        · have hy2 : (Y2 != 0) = true := by simpa using hy
          have HE3 : Hid (R = (Y1, 0, Y2)) := by rw [HE2.out]; unfold many; exact Lib.hid (if_pos hy)
          clear hy
          go_wp2_with fail
          go_ret2
          exact ⟨by rw [HE3.out]; rfl, by rw [HE3.out]; exact H5.out⟩
      · have hx2 : (X2 == 0) = false := by simpa using hx
        have hx3 : (X2 != 0) = true := by simpa using hx
        have HE2 : Hid (R = (X1, 0, X2)) := by rw [HE.out]; exact Lib.hid (if_pos hx)
        have H4 := Lib.hid H10.out.drop.drop.drop
        clear HE hx H10
        go_wp2_with fail
        go_ret2
        exact ⟨by rw [HE2.out]; rfl, by rw [HE2.out]; exact H4.out⟩
  · have hc2 : (c != 0) = true := by simpa using hc
    have HE : Hid (R = (S, 0, c)) := by rw [HRD.out, if_pos hc]; exact Lib.hid rfl
    have H4 := Lib.hid H3.out.drop.drop.drop
    clear hc HRD H3 HQ
    go_wp2_with fail
    go_ret2
    exact ⟨by rw [HE.out]; rfl, by rw [HE.out]; exact H4.out⟩
end Go.Proofs.YtfbkfdoekgnldaaDoor
namespace Go.Proofs.YtfbkfdoekgnldaaDoor
open Go.RowKit
open Lime
attribute [local go_sem] Oper.semAt_some setRow_alloc_at setRow_alloc_past setRow_drew g_same32 g_eq32 g_ne32 run_store_fn
section
variable {w W : World} {X : Res w.heap.size} {br bl bd : Nat} {l : Lay} {a : Option Addr} {cap : Nat} {run : List Rec} (l1 : List (Res w.heap.size)) {l2 : List (Res w.heap.size)} {g : Nat} {S : Dv}
set_option maxRecDepth 100000 in
set_option maxHeartbeats 2000000 in
theorem com1_at (h : Has w W (X :: Blk _ br (.cells #[.slice a run.length cap] 22) :: Blk _ bl (.cells #[.int .i64 l.first, .int .i64 l.size] 27) :: Blk _ bd (.cells #[pv g] 28) :: (l1 ++ DevR _ g S :: l2))) (hv : RunR _ (.slice a run.length cap) run ∈ l1 ++ l2) (hd : ∀ r ∈ run, r.data.size ≤ 9223372036854775807) (hlen : run.length ≤ 9223372036854775807) (hh : HalfLaid w) :
    Calls Tryd.prog 44 #[.pointer (some ⟨bd, 0, none⟩), .pointer (some ⟨bl, 0, none⟩), .pointer (some ⟨br, 0, none⟩)] W fun e w' => e = .returned (.int .i64 (logM S l run).2) ∧ Has w w' (X :: Blk _ br (.cells #[.slice a run.length cap] 22) :: Blk _ bl (.cells #[.int .i64 l.first, .int .i64 l.size] 27) :: Blk _ bd (.cells #[pv g] 28) :: (l1 ++ DevR _ g (logM S l run).1 :: l2)) := by
  have b0 := h.cell 3 _ _ _ rfl 0 _ rfl
  have c0 := h.cell 2 _ _ _ rfl 0 _ rfl
  have c1 := h.cell 2 _ _ _ rfl 1 _ rfl
  have r0 := h.cell 1 _ _ _ rfl 0 _ rfl
  have HL := Lib.hid (log_at (_ :: _ :: _ :: _ :: l1) h l (.tail _ (.tail _ (.tail _ (.tail _ hv)))) hd hlen hh)
  clear h hh hv hd
  go_enter Tryd.func44, Tryd.ntmps44
  go_wp2_with fail
  refine HL.out.mono ?_
  clear HL
  rintro e w3 ⟨rfl, h3⟩
  have H3 := Lib.hid h3
  clear h3 b0 c0 c1 r0
  go_wp2_with fail
  go_ret
  exact ⟨rfl, H3.out⟩
set_option maxRecDepth 100000 in
set_option maxHeartbeats 2000000 in
theorem com2_at (h : Has w W (X :: Blk _ br (.cells #[.slice a run.length cap] 22) :: Blk _ bl (.cells #[.int .i64 l.first, .int .i64 l.size] 27) :: Blk _ bd (.cells #[pv g] 28) :: (l1 ++ DevR _ g S :: l2))) (hh : HalfLaid w) :
    Calls Tryd.prog 45 #[.pointer (some ⟨bd, 0, none⟩), .pointer (some ⟨bl, 0, none⟩)] W fun e w' => e = .returned (.int .i64 (applyM S l).2.2) ∧ Has w w' (X :: Blk _ br (.cells #[.slice a run.length cap] 22) :: Blk _ bl (.cells #[.int .i64 l.first, .int .i64 l.size] 27) :: Blk _ bd (.cells #[pv g] 28) :: (l1 ++ DevR _ g (applyM S l).1 :: l2)) := by
  have b0 := h.cell 3 _ _ _ rfl 0 _ rfl
  have c0 := h.cell 2 _ _ _ rfl 0 _ rfl
  have c1 := h.cell 2 _ _ _ rfl 1 _ rfl
  have HL := Lib.hid (applyE_at (_ :: _ :: _ :: _ :: l1) h l hh)
  clear h hh
  go_enter Tryd.func45, Tryd.ntmps45
  go_wp2_with fail
  refine HL.out.mono ?_
  clear HL
  rintro e w3 ⟨rfl, h3⟩
  have H3 := Lib.hid h3
  clear h3 b0 c0 c1
  go_wp2_with fail
  go_ret
  exact ⟨rfl, H3.out⟩
set_option maxRecDepth 100000 in
set_option maxHeartbeats 2000000 in
theorem com3_at (h : Has w W (X :: Blk _ br (.cells #[.slice a run.length cap] 22) :: Blk _ bl (.cells #[.int .i64 l.first, .int .i64 l.size] 27) :: Blk _ bd (.cells #[pv g] 28) :: (l1 ++ DevR _ g S :: l2))) (hh : HalfLaid w) :
    Calls Tryd.prog 47 #[.pointer (some ⟨bd, 0, none⟩), .pointer (some ⟨bl, 0, none⟩)] W fun e w' => e = .returned (.int .i64 (clearM S l).2) ∧ Has w w' (X :: Blk _ br (.cells #[.slice a run.length cap] 22) :: Blk _ bl (.cells #[.int .i64 l.first, .int .i64 l.size] 27) :: Blk _ bd (.cells #[pv g] 28) :: (l1 ++ DevR _ g (clearM S l).1 :: l2)) := by
  have b0 := h.cell 3 _ _ _ rfl 0 _ rfl
  have c0 := h.cell 2 _ _ _ rfl 0 _ rfl
  have c1 := h.cell 2 _ _ _ rfl 1 _ rfl
  have HL := Lib.hid (clear_at (_ :: _ :: _ :: _ :: l1) h l hh)
  clear h hh
  go_enter Tryd.func47, Tryd.ntmps47
  go_wp2_with fail
  refine HL.out.mono ?_
  clear HL
  rintro e w3 ⟨rfl, h3⟩
  have H3 := Lib.hid h3
  clear h3 b0 c0 c1
  go_wp2_with fail
  go_ret
  exact ⟨rfl, H3.out⟩
end
set_option maxRecDepth 100000 in
set_option maxHeartbeats 4000000 in
theorem commit_at {w W : World} (l1 : List (Res w.heap.size)) {l2 : List (Res w.heap.size)} {g : Nat} {S : Dv} {a : Option Addr} {cap : Nat} {run : List Rec} (h : Has w W (l1 ++ DevR _ g S :: l2)) (l : Lay) (hv : RunR _ (.slice a run.length cap) run ∈ l1 ++ l2)
    (hd : ∀ r ∈ run, r.data.size ≤ 9223372036854775807) (hlen : run.length ≤ 9223372036854775807) (hh : HalfLaid w) :
    Calls Tryd.prog 13 #[pv g, .agg #[.int .i64 l.first, .int .i64 l.size], .slice a run.length cap] W fun e w' => e = .returned (.int .i64 (commitM S l run).2) ∧ Has w w' (l1 ++ DevR _ g (commitM S l run).1 :: l2) := by
  obtain ⟨R, hR⟩ : ∃ R, R = commitM S l run := ⟨_, rfl⟩
  rw [← hR]
  obtain ⟨A, hA⟩ : ∃ A, A = logM S l run := ⟨_, rfl⟩
  obtain ⟨B, hB⟩ : ∃ B, B = applyM A.1 l := ⟨_, rfl⟩
  obtain ⟨C, hC⟩ : ∃ C, C = clearM B.1 l := ⟨_, rfl⟩
  have hRE : R = if A.2 ≠ 0 then A else if B.2.2 ≠ 0 then (B.1, B.2.2) else C := by rw [hR, hC, hB, hA]; rfl
  have h4 : Has w ((((W.alloc (.cells #[pv g] 28)).alloc (.cells #[.int .i64 l.first, .int .i64 l.size] 27)).alloc (.cells #[.slice a run.length cap] 22)).alloc (.cells #[.func (.func 44) #[] #[.pointer (some ⟨W.heap.size, 0, none⟩), .pointer (some ⟨W.heap.size + 1, 0, none⟩), .pointer (some ⟨W.heap.size + 1 + 1, 0, none⟩)], .func (.func 45) #[] #[.pointer (some ⟨W.heap.size, 0, none⟩), .pointer (some ⟨W.heap.size + 1, 0, none⟩)], .func (.func 47) #[] #[.pointer (some ⟨W.heap.size, 0, none⟩), .pointer (some ⟨W.heap.size + 1, 0, none⟩)]] 82)) (Blk _ (W.heap.size + 1 + 1 + 1) (.cells #[.func (.func 44) #[] #[.pointer (some ⟨W.heap.size, 0, none⟩), .pointer (some ⟨W.heap.size + 1, 0, none⟩), .pointer (some ⟨W.heap.size + 1 + 1, 0, none⟩)], .func (.func 45) #[] #[.pointer (some ⟨W.heap.size, 0, none⟩), .pointer (some ⟨W.heap.size + 1, 0, none⟩)], .func (.func 47) #[] #[.pointer (some ⟨W.heap.size, 0, none⟩), .pointer (some ⟨W.heap.size + 1, 0, none⟩)]] 82) :: Blk _ (W.heap.size + 1 + 1) (.cells #[.slice a run.length cap] 22) :: Blk _ (W.heap.size + 1) (.cells #[.int .i64 l.first, .int .i64 l.size] 27) :: Blk _ W.heap.size (.cells #[pv g] 28) :: (l1 ++ DevR _ g S :: l2)) := (((h.alloc (.cells #[pv g] 28)).allocAt (.cells #[.int .i64 l.first, .int .i64 l.size] 27) (W.heap.size + 1) (by simp)).allocAt (.cells #[.slice a run.length cap] 22) (W.heap.size + 1 + 1) (by simp)).allocAt _ (W.heap.size + 1 + 1 + 1) (by simp)
  have HT : Hid (Calls Tryd.prog 36 #[.slice (some ⟨W.heap.size + 1 + 1 + 1, 0, none⟩) 3 3] ((((W.alloc (.cells #[pv g] 28)).alloc (.cells #[.int .i64 l.first, .int .i64 l.size] 27)).alloc (.cells #[.slice a run.length cap] 22)).alloc (.cells #[.func (.func 44) #[] #[.pointer (some ⟨W.heap.size, 0, none⟩), .pointer (some ⟨W.heap.size + 1, 0, none⟩), .pointer (some ⟨W.heap.size + 1 + 1, 0, none⟩)], .func (.func 45) #[] #[.pointer (some ⟨W.heap.size, 0, none⟩), .pointer (some ⟨W.heap.size + 1, 0, none⟩)], .func (.func 47) #[] #[.pointer (some ⟨W.heap.size, 0, none⟩), .pointer (some ⟨W.heap.size + 1, 0, none⟩)]] 82)) fun e w' => ∃ c, e = .returned (.int .i64 c) ∧ (c = R.2 ∧ Has w w' (l1 ++ DevR _ g R.1 :: l2))) := by
    refine then_any [⟨44, #[], #[.pointer (some ⟨W.heap.size, 0, none⟩), .pointer (some ⟨W.heap.size + 1, 0, none⟩), .pointer (some ⟨W.heap.size + 1 + 1, 0, none⟩)]⟩, ⟨45, #[], #[.pointer (some ⟨W.heap.size, 0, none⟩), .pointer (some ⟨W.heap.size + 1, 0, none⟩)]⟩, ⟨47, #[], #[.pointer (some ⟨W.heap.size, 0, none⟩), .pointer (some ⟨W.heap.size + 1, 0, none⟩)]⟩] (W.heap.size + 1 + 1 + 1) 3
      (fun k W' => (k = 0 → Has w W' (Blk _ (W.heap.size + 1 + 1 + 1) (.cells #[.func (.func 44) #[] #[.pointer (some ⟨W.heap.size, 0, none⟩), .pointer (some ⟨W.heap.size + 1, 0, none⟩), .pointer (some ⟨W.heap.size + 1 + 1, 0, none⟩)], .func (.func 45) #[] #[.pointer (some ⟨W.heap.size, 0, none⟩), .pointer (some ⟨W.heap.size + 1, 0, none⟩)], .func (.func 47) #[] #[.pointer (some ⟨W.heap.size, 0, none⟩), .pointer (some ⟨W.heap.size + 1, 0, none⟩)]] 82) :: Blk _ (W.heap.size + 1 + 1) (.cells #[.slice a run.length cap] 22) :: Blk _ (W.heap.size + 1) (.cells #[.int .i64 l.first, .int .i64 l.size] 27) :: Blk _ W.heap.size (.cells #[pv g] 28) :: (l1 ++ DevR _ g S :: l2))) ∧ (k = 1 → A.2 = 0 ∧ Has w W' (Blk _ (W.heap.size + 1 + 1 + 1) (.cells #[.func (.func 44) #[] #[.pointer (some ⟨W.heap.size, 0, none⟩), .pointer (some ⟨W.heap.size + 1, 0, none⟩), .pointer (some ⟨W.heap.size + 1 + 1, 0, none⟩)], .func (.func 45) #[] #[.pointer (some ⟨W.heap.size, 0, none⟩), .pointer (some ⟨W.heap.size + 1, 0, none⟩)], .func (.func 47) #[] #[.pointer (some ⟨W.heap.size, 0, none⟩), .pointer (some ⟨W.heap.size + 1, 0, none⟩)]] 82) :: Blk _ (W.heap.size + 1 + 1) (.cells #[.slice a run.length cap] 22) :: Blk _ (W.heap.size + 1) (.cells #[.int .i64 l.first, .int .i64 l.size] 27) :: Blk _ W.heap.size (.cells #[pv g] 28) :: (l1 ++ DevR _ g A.1 :: l2))) ∧ (k = 2 → A.2 = 0 ∧ B.2.2 = 0 ∧ Has w W' (Blk _ (W.heap.size + 1 + 1 + 1) (.cells #[.func (.func 44) #[] #[.pointer (some ⟨W.heap.size, 0, none⟩), .pointer (some ⟨W.heap.size + 1, 0, none⟩), .pointer (some ⟨W.heap.size + 1 + 1, 0, none⟩)], .func (.func 45) #[] #[.pointer (some ⟨W.heap.size, 0, none⟩), .pointer (some ⟨W.heap.size + 1, 0, none⟩)], .func (.func 47) #[] #[.pointer (some ⟨W.heap.size, 0, none⟩), .pointer (some ⟨W.heap.size + 1, 0, none⟩)]] 82) :: Blk _ (W.heap.size + 1 + 1) (.cells #[.slice a run.length cap] 22) :: Blk _ (W.heap.size + 1) (.cells #[.int .i64 l.first, .int .i64 l.size] 27) :: Blk _ W.heap.size (.cells #[pv g] 28) :: (l1 ++ DevR _ g B.1 :: l2))) ∧ (k = 3 → A.2 = 0 ∧ B.2.2 = 0 ∧ C.2 = 0 ∧ Has w W' (Blk _ (W.heap.size + 1 + 1 + 1) (.cells #[.func (.func 44) #[] #[.pointer (some ⟨W.heap.size, 0, none⟩), .pointer (some ⟨W.heap.size + 1, 0, none⟩), .pointer (some ⟨W.heap.size + 1 + 1, 0, none⟩)], .func (.func 45) #[] #[.pointer (some ⟨W.heap.size, 0, none⟩), .pointer (some ⟨W.heap.size + 1, 0, none⟩)], .func (.func 47) #[] #[.pointer (some ⟨W.heap.size, 0, none⟩), .pointer (some ⟨W.heap.size + 1, 0, none⟩)]] 82) :: Blk _ (W.heap.size + 1 + 1) (.cells #[.slice a run.length cap] 22) :: Blk _ (W.heap.size + 1) (.cells #[.int .i64 l.first, .int .i64 l.size] 27) :: Blk _ W.heap.size (.cells #[pv g] 28) :: (l1 ++ DevR _ g C.1 :: l2)))) _ _ (by simp)
      ⟨fun _ => h4, fun h => absurd h (by decide), fun h => absurd h (by decide), fun h => absurd h (by decide)⟩ ?_ ?_ ?_ ?_
    · intro k W' f hI hf
      match k, hf with
      | 0, hf => injection hf with hf; subst hf; exact (hI.1 rfl).cell 0 _ _ _ rfl 0 _ rfl
      | 1, hf => injection hf with hf; subst hf; exact (hI.2.1 rfl).2.cell 0 _ _ _ rfl 1 _ rfl
      | 2, hf => injection hf with hf; subst hf; exact (hI.2.2.1 rfl).2.2.cell 0 _ _ _ rfl 2 _ rfl
      | (n + 3), hf => simp at hf
    · intro k f hf W' hI
      match k, hf with
      | 0, hf =>
        injection hf with hf; subst hf
        refine (com1_at l1 (hI.1 rfl) hv hd hlen hh).mono ?_
        rintro e w' ⟨rfl, h'⟩
        rw [← hA] at h' ⊢
        refine ⟨A.2, rfl, fun h0 => ⟨fun h => absurd h (by decide), fun _ => ⟨h0, h'⟩, fun h => absurd h (by decide), fun h => absurd h (by decide)⟩, fun h0 => ?_⟩
        rw [hRE, if_pos h0]
        exact ⟨rfl, h'.drop.drop.drop.drop⟩
      | 1, hf =>
        injection hf with hf; subst hf
        obtain ⟨ha, h1⟩ := hI.2.1 rfl
        refine (com2_at l1 h1 hh).mono ?_
        rintro e w' ⟨rfl, h'⟩
        rw [← hB] at h' ⊢
        refine ⟨_, rfl, fun h0 => ⟨fun h => absurd h (by decide), fun h => absurd h (by decide), fun _ => ⟨ha, h0, h'⟩, fun h => absurd h (by decide)⟩, fun h0 => ?_⟩
        rw [hRE, if_neg (by rw [ha]; simp), if_pos h0]
        exact ⟨rfl, h'.drop.drop.drop.drop⟩
      | 2, hf =>
        injection hf with hf; subst hf
        obtain ⟨ha, hb, h1⟩ := hI.2.2.1 rfl
        refine (com3_at l1 h1 hh).mono ?_
        rintro e w' ⟨rfl, h'⟩
        rw [← hC] at h' ⊢
        refine ⟨_, rfl, fun h0 => ⟨fun h => absurd h (by decide), fun h => absurd h (by decide), fun h => absurd h (by decide), fun _ => ⟨ha, hb, h0, h'⟩⟩, fun h0 => ?_⟩
        rw [hRE, if_neg (by rw [ha]; simp), if_neg (by rw [hb]; simp)]
        exact ⟨rfl, h'.drop.drop.drop.drop⟩
      | (n + 3), hf => simp at hf
    · intro k f hf
      match k, hf with
      | 0, hf => injection hf with hf; subst hf; exact fun args w => enter_fn Tryd.func44 (by kernel_rfl) rfl args w
      | 1, hf => injection hf with hf; subst hf; exact fun args w => enter_fn Tryd.func45 (by kernel_rfl) rfl args w
      | 2, hf => injection hf with hf; subst hf; exact fun args w => enter_fn Tryd.func47 (by kernel_rfl) rfl args w
      | (n + 3), hf => simp at hf
    · intro W' hI
      obtain ⟨ha, hb, hc, h'⟩ := hI.2.2.2 rfl
      rw [hRE, if_neg (by rw [ha]; simp), if_neg (by rw [hb]; simp)]
      exact ⟨hc.symm, h'.drop.drop.drop.drop⟩
  clear h h4 hRE hA hB hC hR hv hd hh
  go_enter Tryd.func13, Tryd.ntmps13
  go_wp2_with fail
  refine HT.out.mono ?_
  clear HT
  rintro e w5 ⟨c, rfl, rfl, h5⟩
  have H5 := Lib.hid h5
  clear h5
  go_wp2_with fail
  go_ret
  exact ⟨rfl, H5.out⟩
end Go.Proofs.YtfbkfdoekgnldaaDoor
namespace Go.Proofs.YtfbkfdoekgnldaaDoor
open Go.RowKit
open Lime
attribute [local go_sem] Oper.semAt_some setRow_alloc_at setRow_alloc_past setRow_drew g_same32 g_eq32 g_ne32 run_store_fn
theorem write_at {w W : World} (l1 : List (Res w.heap.size)) {l2 : List (Res w.heap.size)} {g : Nat} {S : Dv} (h : Has w W (l1 ++ DevR _ g S :: l2)) (n : Int) (x : Sector) :
    Calls Tryd.prog 26 #[pv g, .int .i64 n, .agg (sec x)] W fun e w' => e = .returned (.int .i64 (S.writeE n)) ∧ Has w w' (l1 ++ DevR _ g (S.write n x) :: l2) :=
  (write_has (h.perm List.perm_middle) n x).mono fun _ _ ⟨he, h'⟩ => ⟨he, h'.perm List.perm_middle.symm⟩
section
variable {w W : World} {X : Res w.heap.size} {bl bd : Nat} {l : Lay} (l1 : List (Res w.heap.size)) {l2 : List (Res w.heap.size)} {g : Nat} {S : Dv}
set_option maxRecDepth 100000 in
set_option maxHeartbeats 2000000 in
theorem fmt1_at (h : Has w W (X :: Blk _ bl (.cells #[.int .i64 l.first, .int .i64 l.size] 27) :: Blk _ bd (.cells #[pv g] 28) :: (l1 ++ DevR _ g S :: l2))) :
    Calls Tryd.prog 37 #[.pointer (some ⟨bl, 0, none⟩)] W fun e w' => e = .returned (.int .i64 l.check) ∧ Has w w' (X :: Blk _ bl (.cells #[.int .i64 l.first, .int .i64 l.size] 27) :: Blk _ bd (.cells #[pv g] 28) :: (l1 ++ DevR _ g S :: l2)) := by
  have c0 := h.cell 1 _ _ _ rfl 0 _ rfl
  have c1 := h.cell 1 _ _ _ rfl 1 _ rfl
  have H := Lib.hid h
  clear h
  go_enter Tryd.func37, Tryd.ntmps37
  go_wp2_with fail
  refine (check_any l W).mono ?_
  rintro e w3 ⟨rfl, hB⟩
  have H3 := Lib.hid (H.out.below hB)
  clear hB H c0 c1
  go_wp2_with fail
  go_ret
  exact ⟨rfl, H3.out⟩
set_option maxRecDepth 100000 in
set_option maxHeartbeats 2000000 in
theorem fmt2_at (h : Has w W (X :: Blk _ bl (.cells #[.int .i64 l.first, .int .i64 l.size] 27) :: Blk _ bd (.cells #[pv g] 28) :: (l1 ++ DevR _ g S :: l2))) (hh : HalfLaid w) :
    Calls Tryd.prog 38 #[.pointer (some ⟨bd, 0, none⟩), .pointer (some ⟨bl, 0, none⟩)] W fun e w' => e = .returned (.int .i64 (S.putE l.first 1 0#32 ⟨#[]⟩)) ∧ Has w w' (X :: Blk _ bl (.cells #[.int .i64 l.first, .int .i64 l.size] 27) :: Blk _ bd (.cells #[pv g] 28) :: (l1 ++ DevR _ g (S.put l.first 1 0#32 ⟨#[]⟩) :: l2)) := by
  have b0 := h.cell 2 _ _ _ rfl 0 _ rfl
  have c0 := h.cell 1 _ _ _ rfl 0 _ rfl
  have c1 := h.cell 1 _ _ _ rfl 1 _ rfl
  have HP := Lib.hid (put_has (_ :: _ :: _ :: l1) h l.first 1 0#32 ⟨#[]⟩ (by decide) hh)
  clear h hh
  go_enter Tryd.func38, Tryd.ntmps38
  go_wp2_with fail
  refine HP.out.mono ?_
  clear HP
  rintro e w3 ⟨rfl, h3⟩
  have H3 := Lib.hid h3
  clear h3 b0 c0 c1
  go_wp2_with fail
  go_ret
  exact ⟨rfl, H3.out⟩
set_option maxRecDepth 100000 in
set_option maxHeartbeats 2000000 in
theorem fmt3_at (h : Has w W (X :: Blk _ bl (.cells #[.int .i64 l.first, .int .i64 l.size] 27) :: Blk _ bd (.cells #[pv g] 28) :: (l1 ++ DevR _ g S :: l2))) (hc : l.check = 0) :
    Calls Tryd.prog 40 #[.pointer (some ⟨bl, 0, none⟩), .pointer (some ⟨bd, 0, none⟩)] W fun e w' => e = .returned (.int .i64 (zerosK l S (l.size - 1).toNat 1).2) ∧ Has w w' (X :: Blk _ bl (.cells #[.int .i64 l.first, .int .i64 l.size] 27) :: Blk _ bd (.cells #[pv g] 28) :: (l1 ++ DevR _ g (zerosK l S (l.size - 1).toNat 1).1 :: l2)) := by
  obtain ⟨k1, k2, k3, k4⟩ := Lay.check_ok hc
  obtain ⟨R, hR⟩ : ∃ R, R = zerosK l S (l.size - 1).toNat 1 := ⟨_, rfl⟩
  rw [← hR]
  have HR : Hid (R = zerosK l S (l.size.toNat - 1) ((1 : Nat) : Int)) := by rw [hR, show (l.size - 1).toNat = l.size.toNat - 1 by omega]; exact Lib.hid rfl
  have H := Lib.hid h
  clear h hR hc
  obtain ⟨Z, hZ⟩ : ∃ Z, Z = zsec := ⟨_, rfl⟩
  have HZ := Lib.hid hZ
  clear hZ
  go_enter Tryd.func40, Tryd.ntmps40
  go_wp2_with fail
  go_loopw [3] (fun i wr => ∃ (k : Nat) (D : Dv), i = .int .i64 (k : Int) ∧ (k : Int) ≤ l.size ∧ 1 ≤ k ∧ R = zerosK l D (l.size.toNat - k) (k : Int) ∧ Has w wr (X :: Blk _ bl (.cells #[.int .i64 l.first, .int .i64 l.size] 27) :: Blk _ bd (.cells #[pv g] 28) :: (l1 ++ DevR _ g D :: l2))) (fun i _ => l.size.toNat - (intOf i).toNat)
  case atStart => exact ⟨1, S, rfl, by omega, by omega, HR.out, H.out⟩
  case round =>
    obtain ⟨k, D, rfl, hk, hk1, hRk, hH⟩ := hrel
    clear H HR
    have b0 := hH.cell 2 _ _ _ rfl 0 _ rfl
    have c0 := hH.cell 1 _ _ _ rfl 0 _ rfl
    have c1 := hH.cell 1 _ _ _ rfl 1 _ rfl
    by_cases hlt : (k : Int) < l.size
    · have hw : wrap64 (l.first + (k : Int)) = l.first + (k : Int) := by unfold wrap64; omega
      have e1 : l.size.toNat - k = (l.size.toNat - (k + 1)) + 1 := by omega
      rw [e1] at hRk
      unfold zerosK at hRk
      have HW := Lib.hid (write_at (_ :: _ :: _ :: l1) hH (l.first + (k : Int)) zsec)
      obtain ⟨E, hE⟩ : ∃ E, E = D.writeE (l.first + (k : Int)) := ⟨_, rfl⟩
      obtain ⟨D1, hD1⟩ : ∃ D1, D1 = D.write (l.first + (k : Int)) zsec := ⟨_, rfl⟩
      rw [← hE, ← hD1] at HW hRk
      have HRK := Lib.hid hRk
      clear hRk hH hE hD1 e1
      go_wp2_with (with_reducible refine wpList_build_sector rfl rfl ?_)
      refine HW.out.mono ?_
      clear HW
      rintro e w3 ⟨rfl, h3⟩
      have H3 := Lib.hid h3
      clear h3 b0 c0 c1
      by_cases he : E = 0
      · subst he
        have HN : Hid (R = zerosK l D1 (l.size.toNat - (k + 1)) ((k : Int) + 1)) := by rw [HRK.out]; exact Lib.hid (if_neg (by simp))
        go_wp2_with fail
        go_roundw
        case rel => exact ⟨k + 1, D1, by go_num, by omega, by omega, HN.out, H3.out⟩
        case measure => simp [intOf]; omega
      · have he2 : (E != 0) = true := by simpa using he
        have HN : Hid (R = (D1, E)) := by rw [HRK.out]; exact Lib.hid (if_pos he)
        clear he
        go_wp2_with fail
        go_ret
        exact ⟨by rw [HN.out]; rfl, by rw [HN.out]; exact H3.out⟩
    · have e1 : l.size.toNat - k = 0 := by omega
      rw [e1] at hRk
      have HN : Hid (R = (D, 0)) := hRk
      have H3 := Lib.hid hH
      clear hRk hH e1
      go_wp2_with fail
      go_ret
      exact ⟨by rw [HN.out]; rfl, by rw [HN.out]; exact H3.out⟩
end
set_option maxRecDepth 100000 in
set_option maxHeartbeats 4000000 in
theorem format_at {w W : World} (l1 : List (Res w.heap.size)) {l2 : List (Res w.heap.size)} {g : Nat} {S : Dv} (h : Has w W (l1 ++ DevR _ g S :: l2)) (l : Lay) (hh : HalfLaid w) :
    Calls Tryd.prog 10 #[pv g, .agg #[.int .i64 l.first, .int .i64 l.size]] W fun e w' => e = .returned (.int .i64 (formatM S l).2) ∧ Has w w' (l1 ++ DevR _ g (formatM S l).1 :: l2) := by
  obtain ⟨R, hR⟩ : ∃ R, R = formatM S l := ⟨_, rfl⟩
  rw [← hR]
  obtain ⟨E1, hE1⟩ : ∃ E1, E1 = S.putE l.first 1 0#32 ⟨#[]⟩ := ⟨_, rfl⟩
  obtain ⟨A, hA⟩ : ∃ A, A = S.put l.first 1 0#32 ⟨#[]⟩ := ⟨_, rfl⟩
  obtain ⟨B, hB⟩ : ∃ B, B = zerosK l A (l.size - 1).toNat 1 := ⟨_, rfl⟩
  have hRE : R = if l.check ≠ 0 then (S, l.check) else if E1 ≠ 0 then (A, E1) else if B.2 ≠ 0 then B else (B.1.flush, B.1.flushE) := by rw [hR, hB, hE1, hA]; rfl
  have h4 : Has w (((W.alloc (.cells #[pv g] 28)).alloc (.cells #[.int .i64 l.first, .int .i64 l.size] 27)).alloc (.cells #[.func (.func 37) #[] #[.pointer (some ⟨W.heap.size + 1, 0, none⟩)], .func (.func 38) #[] #[.pointer (some ⟨W.heap.size, 0, none⟩), .pointer (some ⟨W.heap.size + 1, 0, none⟩)], .func (.func 40) #[] #[.pointer (some ⟨W.heap.size + 1, 0, none⟩), .pointer (some ⟨W.heap.size, 0, none⟩)], .func (.func 41) #[pv g] #[]] 82)) (Blk _ (W.heap.size + 1 + 1) (.cells #[.func (.func 37) #[] #[.pointer (some ⟨W.heap.size + 1, 0, none⟩)], .func (.func 38) #[] #[.pointer (some ⟨W.heap.size, 0, none⟩), .pointer (some ⟨W.heap.size + 1, 0, none⟩)], .func (.func 40) #[] #[.pointer (some ⟨W.heap.size + 1, 0, none⟩), .pointer (some ⟨W.heap.size, 0, none⟩)], .func (.func 41) #[pv g] #[]] 82) :: Blk _ (W.heap.size + 1) (.cells #[.int .i64 l.first, .int .i64 l.size] 27) :: Blk _ W.heap.size (.cells #[pv g] 28) :: (l1 ++ DevR _ g S :: l2)) := ((h.alloc (.cells #[pv g] 28)).allocAt (.cells #[.int .i64 l.first, .int .i64 l.size] 27) (W.heap.size + 1) (by simp)).allocAt _ (W.heap.size + 1 + 1) (by simp)
  have HT : Hid (Calls Tryd.prog 36 #[.slice (some ⟨W.heap.size + 1 + 1, 0, none⟩) 4 4] (((W.alloc (.cells #[pv g] 28)).alloc (.cells #[.int .i64 l.first, .int .i64 l.size] 27)).alloc (.cells #[.func (.func 37) #[] #[.pointer (some ⟨W.heap.size + 1, 0, none⟩)], .func (.func 38) #[] #[.pointer (some ⟨W.heap.size, 0, none⟩), .pointer (some ⟨W.heap.size + 1, 0, none⟩)], .func (.func 40) #[] #[.pointer (some ⟨W.heap.size + 1, 0, none⟩), .pointer (some ⟨W.heap.size, 0, none⟩)], .func (.func 41) #[pv g] #[]] 82)) fun e w' => ∃ c, e = .returned (.int .i64 c) ∧ (c = R.2 ∧ Has w w' (l1 ++ DevR _ g R.1 :: l2))) := by
    refine then_any [⟨37, #[], #[.pointer (some ⟨W.heap.size + 1, 0, none⟩)]⟩, ⟨38, #[], #[.pointer (some ⟨W.heap.size, 0, none⟩), .pointer (some ⟨W.heap.size + 1, 0, none⟩)]⟩, ⟨40, #[], #[.pointer (some ⟨W.heap.size + 1, 0, none⟩), .pointer (some ⟨W.heap.size, 0, none⟩)]⟩, ⟨41, #[pv g], #[]⟩] (W.heap.size + 1 + 1) 4
      (fun k W' => (k = 0 → Has w W' (Blk _ (W.heap.size + 1 + 1) (.cells #[.func (.func 37) #[] #[.pointer (some ⟨W.heap.size + 1, 0, none⟩)], .func (.func 38) #[] #[.pointer (some ⟨W.heap.size, 0, none⟩), .pointer (some ⟨W.heap.size + 1, 0, none⟩)], .func (.func 40) #[] #[.pointer (some ⟨W.heap.size + 1, 0, none⟩), .pointer (some ⟨W.heap.size, 0, none⟩)], .func (.func 41) #[pv g] #[]] 82) :: Blk _ (W.heap.size + 1) (.cells #[.int .i64 l.first, .int .i64 l.size] 27) :: Blk _ W.heap.size (.cells #[pv g] 28) :: (l1 ++ DevR _ g S :: l2))) ∧ (k = 1 → l.check = 0 ∧ Has w W' (Blk _ (W.heap.size + 1 + 1) (.cells #[.func (.func 37) #[] #[.pointer (some ⟨W.heap.size + 1, 0, none⟩)], .func (.func 38) #[] #[.pointer (some ⟨W.heap.size, 0, none⟩), .pointer (some ⟨W.heap.size + 1, 0, none⟩)], .func (.func 40) #[] #[.pointer (some ⟨W.heap.size + 1, 0, none⟩), .pointer (some ⟨W.heap.size, 0, none⟩)], .func (.func 41) #[pv g] #[]] 82) :: Blk _ (W.heap.size + 1) (.cells #[.int .i64 l.first, .int .i64 l.size] 27) :: Blk _ W.heap.size (.cells #[pv g] 28) :: (l1 ++ DevR _ g S :: l2))) ∧ (k = 2 → l.check = 0 ∧ E1 = 0 ∧ Has w W' (Blk _ (W.heap.size + 1 + 1) (.cells #[.func (.func 37) #[] #[.pointer (some ⟨W.heap.size + 1, 0, none⟩)], .func (.func 38) #[] #[.pointer (some ⟨W.heap.size, 0, none⟩), .pointer (some ⟨W.heap.size + 1, 0, none⟩)], .func (.func 40) #[] #[.pointer (some ⟨W.heap.size + 1, 0, none⟩), .pointer (some ⟨W.heap.size, 0, none⟩)], .func (.func 41) #[pv g] #[]] 82) :: Blk _ (W.heap.size + 1) (.cells #[.int .i64 l.first, .int .i64 l.size] 27) :: Blk _ W.heap.size (.cells #[pv g] 28) :: (l1 ++ DevR _ g A :: l2))) ∧ (k = 3 → l.check = 0 ∧ E1 = 0 ∧ B.2 = 0 ∧ Has w W' (Blk _ (W.heap.size + 1 + 1) (.cells #[.func (.func 37) #[] #[.pointer (some ⟨W.heap.size + 1, 0, none⟩)], .func (.func 38) #[] #[.pointer (some ⟨W.heap.size, 0, none⟩), .pointer (some ⟨W.heap.size + 1, 0, none⟩)], .func (.func 40) #[] #[.pointer (some ⟨W.heap.size + 1, 0, none⟩), .pointer (some ⟨W.heap.size, 0, none⟩)], .func (.func 41) #[pv g] #[]] 82) :: Blk _ (W.heap.size + 1) (.cells #[.int .i64 l.first, .int .i64 l.size] 27) :: Blk _ W.heap.size (.cells #[pv g] 28) :: (l1 ++ DevR _ g B.1 :: l2))) ∧ (k = 4 → l.check = 0 ∧ E1 = 0 ∧ B.2 = 0 ∧ B.1.flushE = 0 ∧ Has w W' (Blk _ (W.heap.size + 1 + 1) (.cells #[.func (.func 37) #[] #[.pointer (some ⟨W.heap.size + 1, 0, none⟩)], .func (.func 38) #[] #[.pointer (some ⟨W.heap.size, 0, none⟩), .pointer (some ⟨W.heap.size + 1, 0, none⟩)], .func (.func 40) #[] #[.pointer (some ⟨W.heap.size + 1, 0, none⟩), .pointer (some ⟨W.heap.size, 0, none⟩)], .func (.func 41) #[pv g] #[]] 82) :: Blk _ (W.heap.size + 1) (.cells #[.int .i64 l.first, .int .i64 l.size] 27) :: Blk _ W.heap.size (.cells #[pv g] 28) :: (l1 ++ DevR _ g B.1.flush :: l2)))) _ _ (by simp)
      ⟨fun _ => h4, fun h => absurd h (by decide), fun h => absurd h (by decide), fun h => absurd h (by decide), fun h => absurd h (by decide)⟩ ?_ ?_ ?_ ?_
    · intro k W' f hI hf
      match k, hf with
      | 0, hf => injection hf with hf; subst hf; exact (hI.1 rfl).cell 0 _ _ _ rfl 0 _ rfl
      | 1, hf => injection hf with hf; subst hf; exact (hI.2.1 rfl).2.cell 0 _ _ _ rfl 1 _ rfl
      | 2, hf => injection hf with hf; subst hf; exact (hI.2.2.1 rfl).2.2.cell 0 _ _ _ rfl 2 _ rfl
      | 3, hf => injection hf with hf; subst hf; exact (hI.2.2.2.1 rfl).2.2.2.cell 0 _ _ _ rfl 3 _ rfl
      | (n + 4), hf => simp at hf
    · intro k f hf W' hI
      match k, hf with
      | 0, hf =>
        injection hf with hf; subst hf
        refine (fmt1_at l1 (hI.1 rfl)).mono ?_
        rintro e w' ⟨rfl, h'⟩
        refine ⟨_, rfl, fun h0 => ⟨fun h => absurd h (by decide), fun _ => ⟨h0, h'⟩, fun h => absurd h (by decide), fun h => absurd h (by decide), fun h => absurd h (by decide)⟩, fun h0 => ?_⟩
        rw [hRE, if_pos h0]
        exact ⟨rfl, h'.drop.drop.drop⟩
      | 1, hf =>
        injection hf with hf; subst hf
        obtain ⟨hc, h1⟩ := hI.2.1 rfl
        refine (fmt2_at l1 h1 hh).mono ?_
        rintro e w' ⟨rfl, h'⟩
        rw [← hE1]
        rw [← hA] at h'
        refine ⟨_, rfl, fun h0 => ⟨fun h => absurd h (by decide), fun h => absurd h (by decide), fun _ => ⟨hc, h0, h'⟩, fun h => absurd h (by decide), fun h => absurd h (by decide)⟩, fun h0 => ?_⟩
        rw [hRE, if_neg (by rw [hc]; simp), if_pos h0]
        exact ⟨rfl, h'.drop.drop.drop⟩
      | 2, hf =>
        injection hf with hf; subst hf
        obtain ⟨hc, he, h1⟩ := hI.2.2.1 rfl
        refine (fmt3_at l1 h1 hc).mono ?_
        rintro e w' ⟨rfl, h'⟩
        rw [← hB] at h' ⊢
        refine ⟨_, rfl, fun h0 => ⟨fun h => absurd h (by decide), fun h => absurd h (by decide), fun h => absurd h (by decide), fun _ => ⟨hc, he, h0, h'⟩, fun h => absurd h (by decide)⟩, fun h0 => ?_⟩
        rw [hRE, if_neg (by rw [hc]; simp), if_neg (by rw [he]; simp), if_pos h0]
        exact ⟨rfl, h'.drop.drop.drop⟩
      | 3, hf =>
        injection hf with hf; subst hf
        obtain ⟨hc, he, hb, h1⟩ := hI.2.2.2.1 rfl
        refine (flush_at (_ :: _ :: _ :: l1) h1).mono ?_
        rintro e w' ⟨rfl, h'⟩
        refine ⟨_, rfl, fun h0 => ⟨fun h => absurd h (by decide), fun h => absurd h (by decide), fun h => absurd h (by decide), fun h => absurd h (by decide), fun _ => ⟨hc, he, hb, h0, h'⟩⟩, fun h0 => ?_⟩
        rw [hRE, if_neg (by rw [hc]; simp), if_neg (by rw [he]; simp), if_neg (by rw [hb]; simp)]
        exact ⟨rfl, h'.drop.drop.drop⟩
      | (n + 4), hf => simp at hf
    · intro k f hf
      match k, hf with
      | 0, hf => injection hf with hf; subst hf; exact fun args w => enter_fn Tryd.func37 (by kernel_rfl) rfl args w
      | 1, hf => injection hf with hf; subst hf; exact fun args w => enter_fn Tryd.func38 (by kernel_rfl) rfl args w
      | 2, hf => injection hf with hf; subst hf; exact fun args w => enter_fn Tryd.func40 (by kernel_rfl) rfl args w
      | 3, hf => injection hf with hf; subst hf; exact fun args w => enter_fn Tryd.func41 (by kernel_rfl) rfl args w
      | (n + 4), hf => simp at hf
    · intro W' hI
      obtain ⟨hc, he, hb, hf, h'⟩ := hI.2.2.2.2 rfl
      rw [hRE, if_neg (by rw [hc]; simp), if_neg (by rw [he]; simp), if_neg (by rw [hb]; simp)]
      exact ⟨hf.symm, h'.drop.drop.drop⟩
  clear h h4 hRE hA hB hE1 hR hh
  go_enter Tryd.func10, Tryd.ntmps10
  go_wp2_with fail
  refine HT.out.mono ?_
  clear HT
  rintro e w5 ⟨c, rfl, rfl, h5⟩
  have H5 := Lib.hid h5
  clear h5
  go_wp2_with fail
  go_ret
  exact ⟨rfl, H5.out⟩
end Go.Proofs.YtfbkfdoekgnldaaDoor
