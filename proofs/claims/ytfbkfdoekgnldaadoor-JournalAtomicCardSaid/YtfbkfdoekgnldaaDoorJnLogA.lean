/- The walk of the journal's then: steps that are function values, one after the other, as long as there is no error. The walks of the journal's Look and apply. The walk of the journal's valid. The walk of the journal's Log. The walk of the journal's Log, joined. -/
import Derived.Test.YtfbkfdoekgnldaaDoorHas
import Derived.Test.YtfbkfdoekgnldaaDoorJnLookA
namespace Go.Proofs.YtfbkfdoekgnldaaDoor
open Go.RowKit
attribute [local go_sem] Oper.semAt_some
/-- a function value -/
structure FunD where
  k : Nat
  first : Array Value
  cap : Array Value
def FunD.v (f : FunD) : Value := .func (.func f.k) f.first f.cap
theorem run_index_fun (b n cap i : Nat) (h : i < n) (w : World) : (Instr.indexAt 111 (.slice (some ⟨b, 0, none⟩) n cap) (.int .i64 (i : Int))).run Tryd.prog w = .ok (.pointer (some ⟨b, i, none⟩)) w := by
  have h1 : (0 : Int) ≤ i ∧ (i : Int) < n := by omega
  have hs : (sizeOf 82).run Tryd.prog w = .ok 1 w := by kernel_rfl
  simp only [Instr.indexAt, asIntOf, Sem.run_bind, Sem.run_pure, Result.andThen_ok, run_underlying Tryd.underlying111, if_pos h1, hs, Addr.add_lit, Int.toNat_natCast]
  simp
theorem enter_fn {k : Nat} {fn : Func} {c : Code} (hf : Tryd.prog.funcs[k]? = some fn) (hn : (fn.name == "runtime.NumGoroutine") = false) (hb : fn.body = some c) (args : Array Value) (w : World) : (callFunc k args).run Tryd.prog w = .ok (.enter k args) w := by
  have h1 : fn.name ≠ "runtime.NumGoroutine" := by simpa using hn
  simp [callFunc, hf, h1, hb]
set_option maxHeartbeats 1000000 in
theorem then_any (fs : List FunD) (b cap : Nat) (I : Nat → World → Prop) (Q : Int → World → Prop) (W : World) (hlen : fs.length ≤ 1000) (h0 : I 0 W)
    (hcell : ∀ k W' f, I k W' → fs[k]? = some f → W'.cell? ⟨b, k, none⟩ = some (.func (.func f.k) f.first f.cap))
    (hstep : ∀ k f, fs[k]? = some f → ∀ W', I k W' → Calls Tryd.prog f.k (f.first ++ f.cap) W' fun e w' => ∃ c, e = .returned (.int .i64 c) ∧ (c = 0 → I (k + 1) w') ∧ (c ≠ 0 → Q c w'))
    (hent : ∀ (k : Nat) (f : FunD), fs[k]? = some f → ∀ (args : Array Value) (w : World), (callFunc f.k args).run Tryd.prog w = .ok (.enter f.k args) w) (hend : ∀ (W' : World), I fs.length W' → Q 0 W') :
    Calls Tryd.prog 36 #[.slice (some ⟨b, 0, none⟩) fs.length cap] W fun e w' => ∃ c, e = .returned (.int .i64 c) ∧ Q c w' := by
  have HC := Lib.hid hcell
  have HS := Lib.hid hstep
  have HE := Lib.hid hend
  have HN := Lib.hid hent
  have H0 := Lib.hid h0
  clear hcell hstep hend h0 hent
  go_enter Tryd.func36, Tryd.ntmps36
  go_wp2_with fail
  go_loopw [8] (fun i wr => ∃ k : Nat, k ≤ fs.length ∧ i = .int .i64 k ∧ I k wr) (fun i _ => fs.length - (intOf i).toNat)
  case atStart => exact ⟨0, Nat.zero_le _, rfl, H0.out⟩
  case round =>
    obtain ⟨k, hk, rfl, hI⟩ := hrel
    clear H0
    by_cases hlt : k < fs.length
    · obtain ⟨f, hf⟩ : ∃ f, fs[k]? = some f := ⟨_, List.getElem?_eq_getElem hlt⟩
      have hc := HC.out k _ f hI hf
      have HST := Lib.hid (HS.out k f hf _ hI)
      have hix := fun w => run_index_fun b fs.length cap k hlt w
      have hki : (k : Int) < (fs.length : Int) := by omega
      have hent := HN.out k f hf
      clear HC HS HE HN hI hf
      go_wp2_with fail
      refine HST.out.mono ?_
      rintro e w2 ⟨c, rfl, h1, h2⟩
      have H1 := Lib.hid h1
      have H2 := Lib.hid h2
      clear h1 h2 HST hc
      by_cases hc0 : c = 0
      · subst hc0
        go_wp2_with fail
        go_roundw
        case rel => exact ⟨k + 1, by omega, by go_num, H1.out trivial⟩
        case measure => simp [intOf]; omega
      · have hne : (c != 0) = true := by simpa using hc0
        go_wp2_with fail
        go_ret
        exact ⟨_, rfl, H2.out hc0⟩
    · obtain rfl : k = fs.length := by omega
      have HQ := Lib.hid (HE.out _ hI)
      clear HC HS HE HN hI
      go_wp2_with fail
      go_ret
      exact ⟨_, rfl, HQ.out⟩
end Go.Proofs.YtfbkfdoekgnldaaDoor
namespace Go.Proofs.YtfbkfdoekgnldaaDoor
open Go.RowKit
open Lime
attribute [local go_sem] Oper.semAt_some setRow_alloc_at setRow_alloc_past setRow_drew g_same32 g_eq32 g_ne32
abbrev RunR (B : Nat) (v : Value) (l : List Rec) : Res B := RdR B 3 recL v l
set_option maxRecDepth 100000 in
set_option maxHeartbeats 4000000 in
theorem lookE_has {w W : World} {rs : List (Res w.heap.size)} {g : Nat} {S : Dv} (h : Has w W rs) (hr : DevR _ g S ∈ rs) (l : Lay) (hh : HalfLaid w) :
    Calls Tryd.prog 19 #[pv g, .agg #[.int .i64 l.first, .int .i64 l.size]] W fun e w' => ∃ (a : Option Addr) (cap : Nat), e = .returned (.tuple #[.slice a (lookM S l).1.length cap, .bool (lookM S l).2.1, .int .i64 (lookM S l).2.2]) ∧ Has w w' (RecsR _ (.slice a (lookM S l).1.length cap) (lookM S l).1 :: rs) := by
  have h1 := h.alloc (.cells #[.int .i64 l.first, .int .i64 l.size] 27)
  have HL := Lib.hid (look_has h1 (.tail _ hr) l hh)
  obtain ⟨R, hR⟩ : ∃ R, R = lookM S l := ⟨_, rfl⟩
  rw [← hR] at HL ⊢
  obtain ⟨out, wh, c⟩ := R
  dsimp only at HL ⊢
  clear h h1 hr hh hR
  go_enter Tryd.func19, Tryd.ntmps19
  go_wp2_with fail
  refine HL.out.mono ?_
  clear HL
  rintro e w1 ⟨q, a, cap, rfl, -, h2⟩
  have H3 := Lib.hid (h2.alloc (.cells #[.int .u32 (vu q), .slice a out.length cap, .bool wh] 95))
  clear h2
  go_wp2_with fail
  refine wp_region_ordJ (fun W' => W'.cell? ⟨w1.heap.size, 1, none⟩ = some (.slice a out.length cap) ∧ W'.cell? ⟨w1.heap.size, 2, none⟩ = some (.bool wh) ∧ True) (OrdT.takes [0, 1, 2, 3, 4, 5, 6, 7] .done) (by kernel_rfl) (by kernel_rfl) ⟨H3.out.drew.cell 0 _ _ _ rfl 1 _ rfl, H3.out.drew.cell 0 _ _ _ rfl 2 _ rfl, trivial⟩ (fun wz hz => ?_)
  have h4 := H3.out.drew
  rw [← hz] at h4
  have H4 := Lib.hid h4
  clear hz h4 H3
  unfold OrdT.takes
  --ordt yyyymyyy
  iterate 4 (refine' t_yield _ rfl rfl rfl _ _; rotate_left; (intro w' hSw; obtain ⟨s0, s1, s2⟩ := hSw; go_simp; with_reducible rfl); simp only [Act.put, List.setIfInBounds_toArray, List.set_cons_zero, List.set_cons_succ])
  (refine' t_move _ _ rfl rfl rfl rfl _ _; rotate_left; (go_simp; with_reducible rfl); simp only [Act.put, List.setIfInBounds_toArray, List.set_cons_zero, List.set_cons_succ])
  iterate 3 (refine' t_yield _ rfl rfl rfl _ _; rotate_left; (intro w' hSw; obtain ⟨s0, s1, s2⟩ := hSw; go_simp; with_reducible rfl); simp only [Act.put, List.setIfInBounds_toArray, List.set_cons_zero, List.set_cons_succ])
  --end
  refine t_done ?_
  go_wp2_with fail
  exact bodyPost_ret (results_tmp3 rfl _ _ _) rfl ⟨a, cap, rfl, ((H4.out.drop).perm (List.Perm.swap _ _ _)).drop⟩
theorem rec_sz (w : World) : (sizeOf 67).run Tryd.prog w = .ok 3 w := by kernel_rfl
theorem run_index_rec (sb o n cap i : Nat) (h : i < n) (w : World) : (Instr.indexAt 22 (.slice (some ⟨sb, o, none⟩) n cap) (.int .i64 (i : Int))).run Tryd.prog w = .ok (.pointer (some ⟨sb, o + i * 3, none⟩)) w := by
  have h1 : (0 : Int) ≤ i ∧ (i : Int) < n := by omega
  simp only [Instr.indexAt, asIntOf, Sem.run_bind, Sem.run_pure, Result.andThen_ok, run_underlying Tryd.underlying22, if_pos h1, rec_sz, Addr.add_lit, Int.toNat_natCast]
/-- puts up to one of them -/
theorem putAll_split (ps : List PutA) : ∀ (S : Dv) (k : Nat) (a : PutA), ps[k]? = some a → S.putAll (ps.take k) = ((S.putAll (ps.take k)).1, 0) →
    S.putAll ps = if ((S.putAll (ps.take k)).1).putAE a ≠ 0 then (((S.putAll (ps.take k)).1).putA a, ((S.putAll (ps.take k)).1).putAE a) else (((S.putAll (ps.take k)).1).putA a).putAll (ps.drop (k + 1)) := by
  induction ps with
  | nil => intro S k a h; simp at h
  | cons b r ih =>
    intro S k a h h0
    cases k with
    | zero =>
      simp at h
      subst h
      rfl
    | succ k =>
      simp only [List.getElem?_cons_succ] at h
      rw [List.take_succ_cons] at h0 ⊢
      rw [Dv.putAll] at h0 ⊢
      by_cases hb : S.putAE b ≠ 0
      · rw [if_pos hb] at h0
        have := congrArg Prod.snd h0
        exact absurd this hb
      · rw [if_neg hb] at h0 ⊢
        rw [Dv.putAll, if_neg hb]
        exact ih _ k a h h0
theorem put_at {w W : World} (l1 : List (Res w.heap.size)) {l2 : List (Res w.heap.size)} {g : Nat} {S : Dv} (h : Has w W (l1 ++ DevR _ g S :: l2)) (a : PutA) (hd : a.d.size ≤ 9223372036854775807) (hh : HalfLaid w) :
    Calls Tryd.prog 39 #[pv g, .int .i64 a.p, .int .i64 a.kind, .int .u32 (vu a.q), .string a.d] W fun e w' => e = .returned (.int .i64 (S.putAE a)) ∧ Has w w' (l1 ++ DevR _ g (S.putA a) :: l2) := put_has l1 h a.p a.kind a.q a.d hd hh
theorem flush_at {w W : World} (l1 : List (Res w.heap.size)) {l2 : List (Res w.heap.size)} {g : Nat} {S : Dv} (h : Has w W (l1 ++ DevR _ g S :: l2)) :
    Calls Tryd.prog 41 #[pv g] W fun e w' => e = .returned (.int .i64 S.flushE) ∧ Has w w' (l1 ++ DevR _ g S.flush :: l2) :=
  (flush_has (h.perm List.perm_middle)).mono fun _ _ ⟨he, h'⟩ => ⟨he, h'.perm List.perm_middle.symm⟩
set_option maxRecDepth 100000 in
set_option maxHeartbeats 4000000 in
theorem apply_at {w W : World} (l1 : List (Res w.heap.size)) {l2 : List (Res w.heap.size)} {g : Nat} {S : Dv} {a : Option Addr} {cap : Nat} {run : List Rec} (h : Has w W (l1 ++ DevR _ g S :: l2)) (hv : RunR _ (.slice a run.length cap) run ∈ l1 ++ l2) (q : BitVec 32) (wh : Bool)
    (hd : ∀ r ∈ run, r.data.size ≤ 9223372036854775807) (hl : run.length ≤ 1000000) (hh : HalfLaid w) :
    Calls Tryd.prog 53 #[pv g, .agg #[.int .u32 (vu q), .slice a run.length cap, .bool wh]] W fun e w' => e = .returned (.int .i64 (appM S (q + 1#32) run).2) ∧ Has w w' (l1 ++ DevR _ g (appM S (q + 1#32) run).1 :: l2) := by
  obtain ⟨R, hR⟩ : ∃ R, R = appM S (q + 1#32) run := ⟨_, rfl⟩
  rw [← hR]
  obtain ⟨Q, hQ⟩ : ∃ Q, Q = q + 1#32 := ⟨_, rfl⟩
  have hw1 : IntKind.u32.wrap (vu q + 1) = vu Q := by rw [hQ]; exact g_add32 q 1#32
  rw [← hQ] at hR
  have HRR := Lib.hid hR
  have HV : Hid (∀ (S' : Dv), RunR _ (.slice a run.length cap) run ∈ l1 ++ DevR _ g S' :: l2) := fun S' => by
    rcases List.mem_append.1 hv with h | h
    · exact List.mem_append_left _ h
    · exact List.mem_append_right _ (.tail _ h)
  have HD := Lib.hid hd
  have HHL := Lib.hid hh
  have H1 := Lib.hid (h.alloc (.cells #[.int .u32 (vu q), .slice a run.length cap, .bool wh] 95))
  clear h hR hQ hd hh hv
  go_enter Tryd.func53, Tryd.ntmps53
  go_wp2_with fail
  go_loopw [11] (fun i wr => ∃ (k : Nat), i = .int .i64 (k : Int) ∧ k ≤ run.length ∧ (S.putAll ((appPuts Q run).take k)).2 = 0 ∧ Has w wr (Blk _ W.heap.size (.cells #[.int .u32 (vu q), .slice a run.length cap, .bool wh] 95) :: (l1 ++ DevR _ g (S.putAll ((appPuts Q run).take k)).1 :: l2))) (fun i _ => run.length - (intOf i).toNat)
  case atStart => exact ⟨0, rfl, Nat.zero_le _, rfl, H1.out⟩
  case round =>
    obtain ⟨k, rfl, hk, hz, hH⟩ := hrel
    clear H1
    have f0 := hH.cell 0 _ _ _ rfl 0 _ rfl
    have f1 := hH.cell 0 _ _ _ rfl 1 _ rfl
    by_cases hlt : k < run.length
    · obtain ⟨r, hr⟩ : ∃ r, run[k]? = some r := ⟨_, List.getElem?_eq_getElem hlt⟩
      obtain ⟨ba, oa, cap2, hv2, rr⟩ := (hH.drop.rd (HV.out _)).elem recL_len k r hr
      injection hv2 with hv2 _ hcap
      subst hcap
      subst hv2
      have r0 : wr.cell? ⟨ba, oa + k * 3, none⟩ = some (.int .i64 r.at_) := rr 0 _ rfl
      have r1 : wr.cell? ⟨ba, oa + k * 3 + 1, none⟩ = some (.int .i64 r.kind) := rr 1 _ rfl
      have r2 : wr.cell? ⟨ba, oa + k * 3 + 2, none⟩ = some (.string r.data) := rr 2 _ rfl
      have hix := fun w => run_index_rec ba oa run.length cap k hlt w
      have hki : (k : Int) < (run.length : Int) := by omega
      have hpk : (appPuts Q run)[k]? = some ⟨r.at_, r.kind, Q, r.data⟩ := by unfold appPuts; rw [List.getElem?_map, hr]; rfl
      have hsp := putAll_split (appPuts Q run) S k _ hpk (by rw [← hz])
      have hd1 := HD.out r (List.mem_of_getElem? hr)
      obtain ⟨D, hD⟩ : ∃ D, D = (S.putAll ((appPuts Q run).take k)).1 := ⟨_, rfl⟩
      rw [← hD] at hH hsp
      have hnext : (S.putAll ((appPuts Q run).take (k + 1))) = if D.putAE ⟨r.at_, r.kind, Q, r.data⟩ ≠ 0 then (D.putA ⟨r.at_, r.kind, Q, r.data⟩, D.putAE ⟨r.at_, r.kind, Q, r.data⟩) else (D.putA ⟨r.at_, r.kind, Q, r.data⟩, 0) := by
        have h1 : ((appPuts Q run).take (k + 1))[k]? = some ⟨r.at_, r.kind, Q, r.data⟩ := by rw [List.getElem?_take, if_pos (by omega)]; exact hpk
        have h2 : ((appPuts Q run).take (k + 1)).take k = (appPuts Q run).take k := by rw [List.take_take, Nat.min_eq_left (by omega)]
        have h3 : ((appPuts Q run).take (k + 1)).drop (k + 1) = [] := List.drop_eq_nil_of_le (by rw [List.length_take]; omega)
        have := putAll_split ((appPuts Q run).take (k + 1)) S k _ h1 (by rw [h2, ← hz])
        rw [h2, h3, ← hD] at this
        rw [this]; rfl
      have h2 := hH.alloc (.cells #[.int .i64 r.at_, .int .i64 r.kind, .string r.data] 67)
      have HP := Lib.hid (put_at (_ :: _ :: l1) h2 ⟨r.at_, r.kind, Q, r.data⟩ hd1 HHL.out)
      have HSP := Lib.hid hsp
      have HNX := Lib.hid hnext
      have zb := block_lt_of_cell f0
      have zc := block_lt_of_cell r0
      dsimp only at zb zc HP
      clear hr hpk hsp hD hH h2 rr hnext hz hd1
      go_wp2_with fail
      refine HP.out.mono ?_
      rintro e w3 ⟨rfl, h3⟩
      obtain ⟨E, hE⟩ : ∃ E, E = D.putAE ⟨r.at_, r.kind, Q, r.data⟩ := ⟨_, rfl⟩
      rw [← hE] at HSP HNX ⊢
      have H3 := Lib.hid h3.drop
      clear h3 HP f0 f1 r0 r1 r2 hE zb zc
      by_cases he : E = 0
      · subst he
        have HN2 : Hid (S.putAll ((appPuts Q run).take (k + 1)) = (D.putA ⟨r.at_, r.kind, Q, r.data⟩, 0)) := by rw [HNX.out, if_neg (by simp)]; exact Lib.hid rfl
        go_wp2_with fail
        go_roundw
        case rel => exact ⟨k + 1, by go_num, by omega, by rw [HN2.out], by rw [HN2.out]; exact H3.out⟩
        case measure => simp [intOf]; omega
      · have he2 : (E != 0) = true := by simpa using he
        have HN2 : Hid (R = (D.putA ⟨r.at_, r.kind, Q, r.data⟩, E)) := by rw [HRR.out]; unfold appM Dv.done; rw [HSP.out, if_pos he]; exact Lib.hid (if_pos he)
        clear he
        go_wp2_with fail
        go_ret
        exact ⟨by rw [HN2.out]; rfl, by rw [HN2.out]; exact H3.out.drop⟩
    · obtain rfl : k = run.length := by omega
      have htk : (appPuts Q run).take run.length = appPuts Q run := List.take_of_length_le (by unfold appPuts; simp)
      rw [htk] at hz hH
      have HN2 : Hid (R = ((S.putAll (appPuts Q run)).1.flush, (S.putAll (appPuts Q run)).1.flushE)) := by rw [HRR.out]; unfold appM Dv.done; rw [if_neg (by rw [hz]; simp)]; exact Lib.hid rfl
      have HF := Lib.hid (flush_at (_ :: l1) hH)
      clear hz hH htk f0 f1
      go_wp2_with fail
      refine HF.out.mono ?_
      rintro e w3 ⟨rfl, h3⟩
      have H3 := Lib.hid h3.drop
      clear h3 HF
      go_wp2_with fail
      go_ret
      exact ⟨by rw [HN2.out]; rfl, by rw [HN2.out]; exact H3.out⟩
end Go.Proofs.YtfbkfdoekgnldaaDoor
namespace Go.Proofs.YtfbkfdoekgnldaaDoor
open Go.RowKit
open Lime
attribute [local go_sem] Oper.semAt_some setRow_alloc_at setRow_alloc_past setRow_drew
theorem validQ_step (n : Nat) (l : Lay) (run : List Rec) (k : Nat) (r : Rec) (hr : run[k]? = some r) :
    validK n l (run.take k) (run.drop k) = if recE n l (run.take k) r ≠ 0 then recE n l (run.take k) r else validK n l (run.take (k + 1)) (run.drop (k + 1)) := by
  have hk := (List.getElem?_eq_some_iff.1 hr).1
  have he : run[k] = r := (List.getElem?_eq_some_iff.1 hr).2
  rw [List.drop_eq_getElem_cons hk, he, validK, List.take_add_one, hr]
  rfl
set_option maxRecDepth 100000 in
set_option maxHeartbeats 8000000 in
theorem valid_has {w W : World} {rs : List (Res w.heap.size)} {g : Nat} {S : Dv} (h : Has w W rs) (hr : DevR _ g S ∈ rs) (l : Lay) (hc : l.check = 0) {a : Option Addr} {cap : Nat} {run : List Rec} (hv : RunR _ (.slice a run.length cap) run ∈ rs) (hd : ∀ r ∈ run, r.data.size ≤ 9223372036854775807)
    (_hlen : run.length ≤ 9223372036854775807) :
    Calls Tryd.prog 57 #[pv g, .agg #[.int .i64 l.first, .int .i64 l.size], .slice a run.length cap] W fun e w' => e = .returned (.int .i64 (validM S.st.length l run)) ∧ Has w w' rs := by
  have h1 := h.alloc (.cells #[.int .i64 l.first, .int .i64 l.size] 27)
  obtain ⟨n, hn⟩ : ∃ n, n = S.st.length := ⟨_, rfl⟩
  have hok := (ok_has h hr).s2
  rw [← hn] at hok ⊢
  obtain ⟨R, hR⟩ : ∃ R, R = validM n l run := ⟨_, rfl⟩
  rw [← hR]
  have HR := Lib.hid hR
  have HD := Lib.hid hd
  have HC := Lib.hid hc
  have HDV := Lib.hid hr
  have HV := Lib.hid hv
  have HSEC : Hid (∀ W' (x y z : Res w.heap.size), Has w W' (x :: y :: z :: rs) → Calls Tryd.prog 76 #[pv g] W' fun e w' => e = .returned (.int .i64 (n : Int)) ∧ w' = W') := fun W' x y z h => by rw [hn]; exact sectors_has h (.tail _ (.tail _ (.tail _ hr)))
  have HMO := Lib.hid (most_any l (W.alloc (.cells #[.int .i64 l.first, .int .i64 l.size] 27)) hc)
  have H1 := Lib.hid h1
  obtain ⟨m, hm⟩ : ∃ m, m = l.most := ⟨_, rfl⟩
  rw [← hm] at HMO
  have HM := Lib.hid hm
  have hm2 : m ≤ 80 := by rw [hm]; unfold Lay.most; omega
  clear h h1 hR hd hc hr hv hn hm
  by_cases hbig : m < (run.length : Int)
  · have HE : Hid (R = 12) := by rw [HR.out]; unfold validM; rw [← HM.out]; exact Lib.hid (if_pos hbig)
    go_enter Tryd.func57, Tryd.ntmps57
    go_wp2_with fail
    refine HMO.out.mono ?_
    clear HMO
    rintro e w2 ⟨rfl, hB2⟩
    have H2 := Lib.hid (H1.out.below hB2).drop
    clear hB2 H1
    go_wp2_with fail
    go_ret
    exact ⟨by rw [HE.out]; rfl, H2.out⟩
  · have HE : Hid (R = validK n l (run.take 0) (run.drop 0)) := by rw [HR.out]; unfold validM; rw [← HM.out]; exact Lib.hid (if_neg hbig)
    clear HR HM
    have hmm := @run_makeMap Tryd.prog
    go_enter Tryd.func57, Tryd.ntmps57
    go_wp2_with fail
    refine HMO.out.mono ?_
    clear HMO
    rintro e w2 ⟨rfl, hB2⟩
    have H2 := Lib.hid (H1.out.below hB2).madeMap
    clear hB2 H1
    go_wp2_with fail
    go_loopw [18] (fun i wr => ∃ (k : Nat), i = .int .i64 (k : Int) ∧ k ≤ run.length ∧ R = validK n l (run.take k) (run.drop k) ∧ Has w wr (MapR _ w2.heap.size k (hasAt (run.take k)) :: Blk _ W.heap.size (.cells #[.int .i64 l.first, .int .i64 l.size] 27) :: rs)) (fun i _ => run.length - (intOf i).toNat)
    case atStart => exact ⟨0, rfl, Nat.zero_le _, HE.out, H2.out⟩
    case round =>
      obtain ⟨k, rfl, hk, hRk, hH⟩ := hrel
      clear H2 HE hmm
      by_cases hlt : k < run.length
      · obtain ⟨r, hr⟩ : ∃ r, run[k]? = some r := ⟨_, List.getElem?_eq_getElem hlt⟩
        obtain ⟨ba, oa, cap2, hv2, rr⟩ := (hH.rd (.tail _ (.tail _ HV.out))).elem recL_len k r hr
        injection hv2 with hv2 _ hcap
        subst hcap
        subst hv2
        have r0 : wr.cell? ⟨ba, oa + k * 3, none⟩ = some (.int .i64 r.at_) := rr 0 _ rfl
        have r1 : wr.cell? ⟨ba, oa + k * 3 + 1, none⟩ = some (.int .i64 r.kind) := rr 1 _ rfl
        have r2 : wr.cell? ⟨ba, oa + k * 3 + 2, none⟩ = some (.string r.data) := rr 2 _ rfl
        have hix := fun w => run_index_rec ba oa run.length cap k hlt w
        have hki : (k : Int) < (run.length : Int) := by omega
        rw [validQ_step n l run k r hr] at hRk
        have hd1 := HD.out r (List.mem_of_getElem? hr)
        obtain ⟨bf, hbf⟩ : ∃ bf, bf = run.take k := ⟨_, rfl⟩
        have hnx : run.take (k + 1) = bf ++ [r] := by rw [hbf, List.take_add_one, hr]; rfl
        rw [← hbf] at hRk hH
        rw [hnx] at hRk
        have HNX := Lib.hid hnx
        have HRK := Lib.hid hRk
        have d0 := hH.cell 1 _ _ _ rfl 0 _ rfl
        have d1 := hH.cell 1 _ _ _ rfl 1 _ rfl
        have zb := block_lt_of_cell d0
        have zc := block_lt_of_cell r0
        dsimp only at zb zc
        have H2 := Lib.hid (hH.alloc (.cells #[.int .i64 r.at_, .int .i64 r.kind, .string r.data] 67))
        have HIN := Lib.hid (inside_any l r.at_ (wr.alloc (.cells #[.int .i64 r.at_, .int .i64 r.kind, .string r.data] 67)) HC.out)
        obtain ⟨ins, hins⟩ : ∃ b, b = l.inside r.at_ := ⟨_, rfl⟩
        rw [← hins] at HIN
        have HINS := Lib.hid hins
        clear hbf hnx hRk hH rr hr hins
        go_wp2_with fail
        refine HIN.out.mono ?_
        clear HIN
        rintro e w3 ⟨rfl, hB3⟩
        have h3 := H2.out.below hB3
        have x0 := h3.cell 0 _ _ _ rfl 0 _ rfl
        have x1 := h3.cell 0 _ _ _ rfl 1 _ rfl
        have x2 := h3.cell 0 _ _ _ rfl 2 _ rfl
        have H3 := Lib.hid h3
        clear h3 hB3 H2 r0 r1 r2 d0 d1 zb zc
        cases ins
        · have HSZ : Hid (∀ (W' : World), Has w W' (Blk _ wr.heap.size (.cells #[.int .i64 r.at_, .int .i64 r.kind, .string r.data] 67) :: MapR _ w2.heap.size k (hasAt bf) :: Blk _ W.heap.size (.cells #[.int .i64 l.first, .int .i64 l.size] 27) :: rs) → (W'.cell? ⟨wr.heap.size, 0, none⟩ = some (.int .i64 r.at_) ∧ W'.cell? ⟨wr.heap.size, 1, none⟩ = some (.int .i64 r.kind) ∧ True)) := fun W' h => ⟨h.cell 0 _ _ _ rfl 0 _ rfl, h.cell 0 _ _ _ rfl 1 _ rfl, trivial⟩
          obtain ⟨B, hB⟩ : ∃ B, B = decide (r.at_ < 0 ∨ (n : Int) ≤ r.at_ ∨ r.kind < 1 ∨ 255 < r.kind) := ⟨_, rfl⟩
          have HB := Lib.hid hB
          clear hB
          go_upto_region 9 with fail
          go_cut [27] (fun c wx => c = .bool B ∧ Has w wx (Blk _ wr.heap.size (.cells #[.int .i64 r.at_, .int .i64 r.kind, .string r.data] 67) :: MapR _ w2.heap.size k (hasAt bf) :: Blk _ W.heap.size (.cells #[.int .i64 l.first, .int .i64 l.size] 27) :: rs))
          case first =>
            clear x0 x1 x2
            by_cases q1 : r.at_ < 0
            · have e1 : decide (r.at_ < 0) = true := by simpa using q1
              have HBV : Hid (B = true) := by rw [HB.out]; exact Lib.hid (by simp; omega)
              refine wp_region_ordJ (fun W' => W'.cell? ⟨wr.heap.size, 0, none⟩ = some (.int .i64 r.at_) ∧ W'.cell? ⟨wr.heap.size, 1, none⟩ = some (.int .i64 r.kind) ∧ True) (OrdT.takes [0, 1, 2, 3, 4, 5, 6, 7, 8, 9, 10, 11, 12, 13, 14, 15, 16, 17, 18, 19, 20] .done) (by kernel_rfl) (by kernel_rfl) (HSZ.out _ H3.out.drew) (fun wz hz => ?_)
              have h8 := H3.out.drew
              rw [← hz] at h8
              have H8 := Lib.hid h8
              clear hz h8 H3
              unfold OrdT.takes
              --ordt yyymsssssymsssymsssyy
              iterate 3 (refine' t_yield _ rfl rfl rfl _ _; rotate_left; (intro w' hSw; obtain ⟨s0, s1, s2⟩ := hSw; go_simp; with_reducible rfl); simp only [Act.put, List.setIfInBounds_toArray, List.set_cons_zero, List.set_cons_succ])
              (refine' t_move _ _ rfl rfl rfl rfl _ _; rotate_left; (go_simp; with_reducible rfl); simp only [Act.put, List.setIfInBounds_toArray, List.set_cons_zero, List.set_cons_succ])
              iterate 5 (refine t_skip rfl rfl rfl ?_; simp only [Act.put, List.setIfInBounds_toArray, List.set_cons_zero, List.set_cons_succ])
              (refine' t_yield _ rfl rfl rfl _ _; rotate_left; (intro w' hSw; obtain ⟨s0, s1, s2⟩ := hSw; go_simp; with_reducible rfl); simp only [Act.put, List.setIfInBounds_toArray, List.set_cons_zero, List.set_cons_succ])
              (refine' t_move _ _ rfl rfl rfl rfl _ _; rotate_left; (go_simp; with_reducible rfl); simp only [Act.put, List.setIfInBounds_toArray, List.set_cons_zero, List.set_cons_succ])
              iterate 3 (refine t_skip rfl rfl rfl ?_; simp only [Act.put, List.setIfInBounds_toArray, List.set_cons_zero, List.set_cons_succ])
              (refine' t_yield _ rfl rfl rfl _ _; rotate_left; (intro w' hSw; obtain ⟨s0, s1, s2⟩ := hSw; go_simp; with_reducible rfl); simp only [Act.put, List.setIfInBounds_toArray, List.set_cons_zero, List.set_cons_succ])
              (refine' t_move _ _ rfl rfl rfl rfl _ _; rotate_left; (go_simp; with_reducible rfl); simp only [Act.put, List.setIfInBounds_toArray, List.set_cons_zero, List.set_cons_succ])
              iterate 3 (refine t_skip rfl rfl rfl ?_; simp only [Act.put, List.setIfInBounds_toArray, List.set_cons_zero, List.set_cons_succ])
              iterate 2 (refine' t_yield _ rfl rfl rfl _ _; rotate_left; (intro w' hSw; obtain ⟨s0, s1, s2⟩ := hSw; go_simp; with_reducible rfl); simp only [Act.put, List.setIfInBounds_toArray, List.set_cons_zero, List.set_cons_succ])
              --end
              refine t_done ?_
              go_wp2_with fail
              go_meet
              exact ⟨by rw [HBV.out], H8.out⟩
            have e1 : decide (r.at_ < 0) = false := by simpa using q1
            by_cases q2 : (n : Int) ≤ r.at_
            · have e2 : decide ((n : Int) ≤ r.at_) = true := by simpa using q2
              have HBV : Hid (B = true) := by rw [HB.out]; exact Lib.hid (by simp; omega)
              refine wp_region_ordJ (fun W' => W'.cell? ⟨wr.heap.size, 0, none⟩ = some (.int .i64 r.at_) ∧ W'.cell? ⟨wr.heap.size, 1, none⟩ = some (.int .i64 r.kind) ∧ True) (OrdT.takes [0, 1, 2, 3, 4, 5, 6] (.one 7 (OrdT.takes [8, 9, 10, 11, 12, 13, 14, 15, 16, 17, 18, 19, 20] .done))) (by kernel_rfl) (by kernel_rfl) (HSZ.out _ H3.out.drew) (fun wz hz => ?_)
              have h8 := H3.out.drew
              rw [← hz] at h8
              have H8 := Lib.hid h8
              clear hz h8 H3
              unfold OrdT.takes
              --ordt yyymyym
              iterate 3 (refine' t_yield _ rfl rfl rfl _ _; rotate_left; (intro w' hSw; obtain ⟨s0, s1, s2⟩ := hSw; go_simp; with_reducible rfl); simp only [Act.put, List.setIfInBounds_toArray, List.set_cons_zero, List.set_cons_succ])
              (refine' t_move _ _ rfl rfl rfl rfl _ _; rotate_left; (go_simp; with_reducible rfl); simp only [Act.put, List.setIfInBounds_toArray, List.set_cons_zero, List.set_cons_succ])
              iterate 2 (refine' t_yield _ rfl rfl rfl _ _; rotate_left; (intro w' hSw; obtain ⟨s0, s1, s2⟩ := hSw; go_simp; with_reducible rfl); simp only [Act.put, List.setIfInBounds_toArray, List.set_cons_zero, List.set_cons_succ])
              (refine' t_move _ _ rfl rfl rfl rfl _ _; rotate_left; (go_simp; with_reducible rfl); simp only [Act.put, List.setIfInBounds_toArray, List.set_cons_zero, List.set_cons_succ])
              --end
              refine t_one rfl rfl (fun K hK => ?_)
              go_simp
              refine (HSEC.out _ _ _ _ H8.out).mono ?_
              rintro e w8 ⟨rfl, rfl⟩
              dsimp only
              refine hK _ _ (HSZ.out _ H8.out) ?_
              clear hK
              unfold OrdT.takes
              --ordt yymsssymsssyy
              iterate 2 (refine' t_yield _ rfl rfl rfl _ _; rotate_left; (intro w' hSw; obtain ⟨s0, s1, s2⟩ := hSw; go_simp; with_reducible rfl); simp only [Act.put, List.setIfInBounds_toArray, List.set_cons_zero, List.set_cons_succ])
              (refine' t_move _ _ rfl rfl rfl rfl _ _; rotate_left; (go_simp; with_reducible rfl); simp only [Act.put, List.setIfInBounds_toArray, List.set_cons_zero, List.set_cons_succ])
              iterate 3 (refine t_skip rfl rfl rfl ?_; simp only [Act.put, List.setIfInBounds_toArray, List.set_cons_zero, List.set_cons_succ])
              (refine' t_yield _ rfl rfl rfl _ _; rotate_left; (intro w' hSw; obtain ⟨s0, s1, s2⟩ := hSw; go_simp; with_reducible rfl); simp only [Act.put, List.setIfInBounds_toArray, List.set_cons_zero, List.set_cons_succ])
              (refine' t_move _ _ rfl rfl rfl rfl _ _; rotate_left; (go_simp; with_reducible rfl); simp only [Act.put, List.setIfInBounds_toArray, List.set_cons_zero, List.set_cons_succ])
              iterate 3 (refine t_skip rfl rfl rfl ?_; simp only [Act.put, List.setIfInBounds_toArray, List.set_cons_zero, List.set_cons_succ])
              iterate 2 (refine' t_yield _ rfl rfl rfl _ _; rotate_left; (intro w' hSw; obtain ⟨s0, s1, s2⟩ := hSw; go_simp; with_reducible rfl); simp only [Act.put, List.setIfInBounds_toArray, List.set_cons_zero, List.set_cons_succ])
              --end
              refine t_done ?_
              go_wp2_with fail
              go_meet
              exact ⟨by rw [HBV.out], H8.out⟩
            have e2 : decide ((n : Int) ≤ r.at_) = false := by simpa using q2
            by_cases q3 : r.kind < 1
            · have e3 : decide (r.kind < 1) = true := by simpa using q3
              have HBV : Hid (B = true) := by rw [HB.out]; exact Lib.hid (by simp; omega)
              refine wp_region_ordJ (fun W' => W'.cell? ⟨wr.heap.size, 0, none⟩ = some (.int .i64 r.at_) ∧ W'.cell? ⟨wr.heap.size, 1, none⟩ = some (.int .i64 r.kind) ∧ True) (OrdT.takes [0, 1, 2, 3, 4, 5, 6] (.one 7 (OrdT.takes [8, 9, 10, 11, 12, 13, 14, 15, 16, 17, 18, 19, 20] .done))) (by kernel_rfl) (by kernel_rfl) (HSZ.out _ H3.out.drew) (fun wz hz => ?_)
              have h8 := H3.out.drew
              rw [← hz] at h8
              have H8 := Lib.hid h8
              clear hz h8 H3
              unfold OrdT.takes
              --ordt yyymyym
              iterate 3 (refine' t_yield _ rfl rfl rfl _ _; rotate_left; (intro w' hSw; obtain ⟨s0, s1, s2⟩ := hSw; go_simp; with_reducible rfl); simp only [Act.put, List.setIfInBounds_toArray, List.set_cons_zero, List.set_cons_succ])
              (refine' t_move _ _ rfl rfl rfl rfl _ _; rotate_left; (go_simp; with_reducible rfl); simp only [Act.put, List.setIfInBounds_toArray, List.set_cons_zero, List.set_cons_succ])
              iterate 2 (refine' t_yield _ rfl rfl rfl _ _; rotate_left; (intro w' hSw; obtain ⟨s0, s1, s2⟩ := hSw; go_simp; with_reducible rfl); simp only [Act.put, List.setIfInBounds_toArray, List.set_cons_zero, List.set_cons_succ])
              (refine' t_move _ _ rfl rfl rfl rfl _ _; rotate_left; (go_simp; with_reducible rfl); simp only [Act.put, List.setIfInBounds_toArray, List.set_cons_zero, List.set_cons_succ])
              --end
              refine t_one rfl rfl (fun K hK => ?_)
              go_simp
              refine (HSEC.out _ _ _ _ H8.out).mono ?_
              rintro e w8 ⟨rfl, rfl⟩
              dsimp only
              refine hK _ _ (HSZ.out _ H8.out) ?_
              clear hK
              unfold OrdT.takes
              --ordt yymyyyymsssyy
              iterate 2 (refine' t_yield _ rfl rfl rfl _ _; rotate_left; (intro w' hSw; obtain ⟨s0, s1, s2⟩ := hSw; go_simp; with_reducible rfl); simp only [Act.put, List.setIfInBounds_toArray, List.set_cons_zero, List.set_cons_succ])
              (refine' t_move _ _ rfl rfl rfl rfl _ _; rotate_left; (go_simp; with_reducible rfl); simp only [Act.put, List.setIfInBounds_toArray, List.set_cons_zero, List.set_cons_succ])
              iterate 4 (refine' t_yield _ rfl rfl rfl _ _; rotate_left; (intro w' hSw; obtain ⟨s0, s1, s2⟩ := hSw; go_simp; with_reducible rfl); simp only [Act.put, List.setIfInBounds_toArray, List.set_cons_zero, List.set_cons_succ])
              (refine' t_move _ _ rfl rfl rfl rfl _ _; rotate_left; (go_simp; with_reducible rfl); simp only [Act.put, List.setIfInBounds_toArray, List.set_cons_zero, List.set_cons_succ])
              iterate 3 (refine t_skip rfl rfl rfl ?_; simp only [Act.put, List.setIfInBounds_toArray, List.set_cons_zero, List.set_cons_succ])
              iterate 2 (refine' t_yield _ rfl rfl rfl _ _; rotate_left; (intro w' hSw; obtain ⟨s0, s1, s2⟩ := hSw; go_simp; with_reducible rfl); simp only [Act.put, List.setIfInBounds_toArray, List.set_cons_zero, List.set_cons_succ])
              --end
              refine t_done ?_
              go_wp2_with fail
              go_meet
              exact ⟨by rw [HBV.out], H8.out⟩
            have e3 : decide (r.kind < 1) = false := by simpa using q3
            by_cases q4 : 255 < r.kind
            · have e4 : decide (255 < r.kind) = true := by simpa using q4
              have HBV : Hid (B = true) := by rw [HB.out]; exact Lib.hid (by simp; omega)
              refine wp_region_ordJ (fun W' => W'.cell? ⟨wr.heap.size, 0, none⟩ = some (.int .i64 r.at_) ∧ W'.cell? ⟨wr.heap.size, 1, none⟩ = some (.int .i64 r.kind) ∧ True) (OrdT.takes [0, 1, 2, 3, 4, 5, 6] (.one 7 (OrdT.takes [8, 9, 10, 11, 12, 13, 14, 15, 16, 17, 18, 19, 20] .done))) (by kernel_rfl) (by kernel_rfl) (HSZ.out _ H3.out.drew) (fun wz hz => ?_)
              have h8 := H3.out.drew
              rw [← hz] at h8
              have H8 := Lib.hid h8
              clear hz h8 H3
              unfold OrdT.takes
              --ordt yyymyym
              iterate 3 (refine' t_yield _ rfl rfl rfl _ _; rotate_left; (intro w' hSw; obtain ⟨s0, s1, s2⟩ := hSw; go_simp; with_reducible rfl); simp only [Act.put, List.setIfInBounds_toArray, List.set_cons_zero, List.set_cons_succ])
              (refine' t_move _ _ rfl rfl rfl rfl _ _; rotate_left; (go_simp; with_reducible rfl); simp only [Act.put, List.setIfInBounds_toArray, List.set_cons_zero, List.set_cons_succ])
              iterate 2 (refine' t_yield _ rfl rfl rfl _ _; rotate_left; (intro w' hSw; obtain ⟨s0, s1, s2⟩ := hSw; go_simp; with_reducible rfl); simp only [Act.put, List.setIfInBounds_toArray, List.set_cons_zero, List.set_cons_succ])
              (refine' t_move _ _ rfl rfl rfl rfl _ _; rotate_left; (go_simp; with_reducible rfl); simp only [Act.put, List.setIfInBounds_toArray, List.set_cons_zero, List.set_cons_succ])
              --end
              refine t_one rfl rfl (fun K hK => ?_)
              go_simp
              refine (HSEC.out _ _ _ _ H8.out).mono ?_
              rintro e w8 ⟨rfl, rfl⟩
              dsimp only
              refine hK _ _ (HSZ.out _ H8.out) ?_
              clear hK
              unfold OrdT.takes
              --ordt yymyyyymyyyyy
              iterate 2 (refine' t_yield _ rfl rfl rfl _ _; rotate_left; (intro w' hSw; obtain ⟨s0, s1, s2⟩ := hSw; go_simp; with_reducible rfl); simp only [Act.put, List.setIfInBounds_toArray, List.set_cons_zero, List.set_cons_succ])
              (refine' t_move _ _ rfl rfl rfl rfl _ _; rotate_left; (go_simp; with_reducible rfl); simp only [Act.put, List.setIfInBounds_toArray, List.set_cons_zero, List.set_cons_succ])
              iterate 4 (refine' t_yield _ rfl rfl rfl _ _; rotate_left; (intro w' hSw; obtain ⟨s0, s1, s2⟩ := hSw; go_simp; with_reducible rfl); simp only [Act.put, List.setIfInBounds_toArray, List.set_cons_zero, List.set_cons_succ])
              (refine' t_move _ _ rfl rfl rfl rfl _ _; rotate_left; (go_simp; with_reducible rfl); simp only [Act.put, List.setIfInBounds_toArray, List.set_cons_zero, List.set_cons_succ])
              iterate 5 (refine' t_yield _ rfl rfl rfl _ _; rotate_left; (intro w' hSw; obtain ⟨s0, s1, s2⟩ := hSw; go_simp; with_reducible rfl); simp only [Act.put, List.setIfInBounds_toArray, List.set_cons_zero, List.set_cons_succ])
              --end
              refine t_done ?_
              go_wp2_with fail
              go_meet
              exact ⟨by rw [HBV.out], H8.out⟩
            · have e4 : decide (255 < r.kind) = false := by simpa using q4
              have HBV : Hid (B = false) := by rw [HB.out]; exact Lib.hid (by simp; omega)
              refine wp_region_ordJ (fun W' => W'.cell? ⟨wr.heap.size, 0, none⟩ = some (.int .i64 r.at_) ∧ W'.cell? ⟨wr.heap.size, 1, none⟩ = some (.int .i64 r.kind) ∧ True) (OrdT.takes [0, 1, 2, 3, 4, 5, 6] (.one 7 (OrdT.takes [8, 9, 10, 11, 12, 13, 14, 15, 16, 17, 18, 19, 20] .done))) (by kernel_rfl) (by kernel_rfl) (HSZ.out _ H3.out.drew) (fun wz hz => ?_)
              have h8 := H3.out.drew
              rw [← hz] at h8
              have H8 := Lib.hid h8
              clear hz h8 H3
              unfold OrdT.takes
              --ordt yyymyym
              iterate 3 (refine' t_yield _ rfl rfl rfl _ _; rotate_left; (intro w' hSw; obtain ⟨s0, s1, s2⟩ := hSw; go_simp; with_reducible rfl); simp only [Act.put, List.setIfInBounds_toArray, List.set_cons_zero, List.set_cons_succ])
              (refine' t_move _ _ rfl rfl rfl rfl _ _; rotate_left; (go_simp; with_reducible rfl); simp only [Act.put, List.setIfInBounds_toArray, List.set_cons_zero, List.set_cons_succ])
              iterate 2 (refine' t_yield _ rfl rfl rfl _ _; rotate_left; (intro w' hSw; obtain ⟨s0, s1, s2⟩ := hSw; go_simp; with_reducible rfl); simp only [Act.put, List.setIfInBounds_toArray, List.set_cons_zero, List.set_cons_succ])
              (refine' t_move _ _ rfl rfl rfl rfl _ _; rotate_left; (go_simp; with_reducible rfl); simp only [Act.put, List.setIfInBounds_toArray, List.set_cons_zero, List.set_cons_succ])
              --end
              refine t_one rfl rfl (fun K hK => ?_)
              go_simp
              refine (HSEC.out _ _ _ _ H8.out).mono ?_
              rintro e w8 ⟨rfl, rfl⟩
              dsimp only
              refine hK _ _ (HSZ.out _ H8.out) ?_
              clear hK
              unfold OrdT.takes
              --ordt yymyyyymyyyyy
              iterate 2 (refine' t_yield _ rfl rfl rfl _ _; rotate_left; (intro w' hSw; obtain ⟨s0, s1, s2⟩ := hSw; go_simp; with_reducible rfl); simp only [Act.put, List.setIfInBounds_toArray, List.set_cons_zero, List.set_cons_succ])
              (refine' t_move _ _ rfl rfl rfl rfl _ _; rotate_left; (go_simp; with_reducible rfl); simp only [Act.put, List.setIfInBounds_toArray, List.set_cons_zero, List.set_cons_succ])
              iterate 4 (refine' t_yield _ rfl rfl rfl _ _; rotate_left; (intro w' hSw; obtain ⟨s0, s1, s2⟩ := hSw; go_simp; with_reducible rfl); simp only [Act.put, List.setIfInBounds_toArray, List.set_cons_zero, List.set_cons_succ])
              (refine' t_move _ _ rfl rfl rfl rfl _ _; rotate_left; (go_simp; with_reducible rfl); simp only [Act.put, List.setIfInBounds_toArray, List.set_cons_zero, List.set_cons_succ])
              iterate 5 (refine' t_yield _ rfl rfl rfl _ _; rotate_left; (intro w' hSw; obtain ⟨s0, s1, s2⟩ := hSw; go_simp; with_reducible rfl); simp only [Act.put, List.setIfInBounds_toArray, List.set_cons_zero, List.set_cons_succ])
              --end
              refine t_done ?_
              go_wp2_with fail
              go_meet
              exact ⟨by rw [HBV.out], H8.out⟩
          case rest =>
            obtain ⟨rfl, h4⟩ := hcut
            clear H3 HSZ x0 x1 x2
            have x0 := h4.cell 0 _ _ _ rfl 0 _ rfl
            have x1 := h4.cell 0 _ _ _ rfl 1 _ rfl
            have x2 := h4.cell 0 _ _ _ rfl 2 _ rfl
            have H4 := Lib.hid h4
            have HR0 : Hid (recE n l bf r = if B = true then 7 else if 96 < r.data.size then 3 else if hasAt bf r.at_ then 8 else 0) := by unfold recE; rw [← HINS.out, HB.out]; exact Lib.hid (by simp)
            clear h4 HINS
            cases B
            · have hq : ¬ (r.at_ < 0 ∨ (n : Int) ≤ r.at_ ∨ r.kind < 1 ∨ 255 < r.kind) := by have := HB.out; simpa using this.symm
              clear HB
              by_cases q5 : 96 < (r.data.size : Int)
              · have hx : recE n l bf r = 3 := by rw [HR0.out, if_neg (by simp), if_pos (by omega)]
                have HE : Hid (R = 3) := by rw [HRK.out, hx]; exact Lib.hid rfl
                clear hx
                go_wp2_with fail
                go_ret
                exact ⟨by rw [HE.out]; rfl, H4.out.drop.drop.drop⟩
              · have hwf : (Lit.int .i64 r.at_).wf = true := by
                  simp only [Lit.wf, Bool.and_eq_true, decide_eq_true_eq]
                  have m0 : IntKind.i64.min = -9223372036854775808 := by decide
                  have m1 : IntKind.i64.max = 9223372036854775807 := by decide
                  omega
                have hlk := H4.out.lookMap (b := w2.heap.size) (n := k) (f := hasAt bf) (by simp) r.at_ hwf
                obtain ⟨P, hP⟩ : ∃ P, P = hasAt bf r.at_ := ⟨_, rfl⟩
                rw [← hP] at hlk HR0
                have HR1 : Hid (recE n l bf r = if P = true then 8 else 0) := by rw [HR0.out, if_neg (by simp), if_neg (by omega)]; exact Lib.hid rfl
                clear hP HR0 hq
                cases P
                · obtain ⟨Wm, hrun1, hm⟩ := Has.storeMap [_] H4.out (by unfold maxLen; omega) r.at_ hwf
                  have e2 : (fun j => if j = r.at_ then true else hasAt bf j) = hasAt (bf ++ [r]) := by funext j; rw [hasAt_snoc]
                  rw [e2] at hm
                  have H5 := Lib.hid hm.drop
                  have HN : Hid (R = validK n l (bf ++ [r]) (run.drop (k + 1))) := by rw [HRK.out, HR1.out]; exact Lib.hid (if_neg (by simp))
                  clear hm e2 hwf HRK HR1
                  go_wp2_with fail
                  go_roundw
                  case rel => exact ⟨k + 1, by go_num, by omega, by rw [HNX.out]; exact HN.out, by rw [HNX.out]; exact H5.out⟩
                  case measure => simp [intOf]; omega
                · have HE : Hid (R = 8) := by rw [HRK.out, HR1.out]; exact Lib.hid rfl
                  clear hwf
                  go_wp2_with fail
                  go_ret
                  exact ⟨by rw [HE.out]; rfl, H4.out.drop.drop.drop⟩
            · have HE : Hid (R = 7) := by rw [HRK.out, HR0.out]; exact Lib.hid rfl
              go_wp2_with fail
              go_ret
              exact ⟨by rw [HE.out]; rfl, H4.out.drop.drop.drop⟩
        · have HE : Hid (R = 2) := by rw [HRK.out]; unfold recE; rw [← HINS.out]; exact Lib.hid rfl
          go_wp2_with fail
          go_ret
          exact ⟨by rw [HE.out]; rfl, H3.out.drop.drop.drop⟩
      · obtain rfl : k = run.length := by omega
        have HE : Hid (R = 0) := by rw [hRk, List.drop_length]; exact Lib.hid rfl
        have H3 := Lib.hid hH.drop.drop
        clear hRk hH
        go_wp2_with fail
        go_ret
        exact ⟨by rw [HE.out]; rfl, H3.out⟩
end Go.Proofs.YtfbkfdoekgnldaaDoor
namespace Go.Proofs.YtfbkfdoekgnldaaDoor
open Go.RowKit
open Lime
attribute [local go_sem] Oper.semAt_some setRow_alloc_at setRow_alloc_past setRow_drew g_same32 g_eq32 g_ne32
theorem run_store_fn (P : Program) (w : World) (a : Addr) (m : Mode) (f : Fn) (x y : Array Value) : (store a (.func f x y) m).run P w = stored P w a (.func f x y) m := run_store P w a _ m rfl
theorem conv1 (w : World) (b : Nat) (c : UInt8) (h : w.heap[b]? = some (.cells #[.int .u8 (vb c)] 5 (0, 0))) :
    (convert 105 9 (.slice (some ⟨b, 0, none⟩) 1 1)).run Tryd.prog w = .ok (.string ⟨#[c]⟩) w :=
  run_string_bytes _ ⟨b, 0, none⟩ [c] 1 (fun i hi => by
    rw [Addr.add_lit, cell_of_row _ _ _ _ _ _ h]
    match i, hi with
    | 0, _ => rfl)
set_option maxRecDepth 100000 in
set_option maxHeartbeats 2000000 in
/-- the put of Log: the next place, and a frame there -/
theorem log1_at {w W : World} {ba bd bs : Nat} {p : Int} {q : BitVec 32} (l1 : List (Res w.heap.size)) {l2 : List (Res w.heap.size)} {g : Nat} {S : Dv} (h : Has w W (Blk _ ba (.cells #[.int .i64 p] 3) :: Blk _ bd (.cells #[pv g] 28) :: Blk _ bs (.cells #[.int .u32 (vu q)] 53) :: (l1 ++ DevR _ g S :: l2)))
    (kind : Int) (d : ByteArray) (hd : d.size ≤ 9223372036854775807) (hp0 : 0 ≤ p) (hp : p ≤ 1000) (hh : HalfLaid w) :
    Calls Tryd.prog 58 #[.int .i64 kind, .string d, .pointer (some ⟨ba, 0, none⟩), .pointer (some ⟨bd, 0, none⟩), .pointer (some ⟨bs, 0, none⟩)] W fun e w' => e = .returned (.int .i64 (S.putAE ⟨p + 1, kind, q + 1#32, d⟩)) ∧
      Has w w' (Blk _ ba (.cells #[.int .i64 (p + 1)] 3) :: Blk _ bd (.cells #[pv g] 28) :: Blk _ bs (.cells #[.int .u32 (vu q)] 53) :: (l1 ++ DevR _ g (S.putA ⟨p + 1, kind, q + 1#32, d⟩) :: l2)) := by
  obtain ⟨Q, hQ⟩ : ∃ Q, Q = q + 1#32 := ⟨_, rfl⟩
  have hw1 : IntKind.u32.wrap (vu q + 1) = vu Q := by rw [hQ]; exact g_add32 q 1#32
  have hw2 : wrap64 (p + 1) = p + 1 := by unfold wrap64; omega
  rw [← hQ]
  have a0 := h.cell 0 _ _ _ rfl 0 _ rfl
  have a1 := h.frozen 0 _ _ _ rfl 0
  have b0 := h.cell 1 _ _ _ rfl 0 _ rfl
  have c0 := h.cell 2 _ _ _ rfl 0 _ rfl
  have h2 := Has.setCell [] h 0 (.int .i64 (p + 1))
  have b2 := h2.cell 1 _ _ _ rfl 0 _ rfl
  have c2 := h2.cell 2 _ _ _ rfl 0 _ rfl
  have a2 := h2.cell 0 _ _ _ rfl 0 _ rfl
  have HP := Lib.hid (put_at (_ :: _ :: _ :: l1) h2 ⟨p + 1, kind, Q, d⟩ hd hh)
  dsimp only at HP
  clear h h2 hQ hh hd
  go_enter Tryd.func58, Tryd.ntmps58
  go_wp2_with fail
  refine HP.out.mono ?_
  clear HP
  rintro e w3 ⟨rfl, h3⟩
  have H3 := Lib.hid h3
  clear h3 a0 a1 b0 c0 b2 c2 a2
  go_wp2_with fail
  go_ret
  exact ⟨rfl, H3.out⟩
abbrev putF (ba bd bs : Nat) : Value := .func (.func 58) #[] #[.pointer (some ⟨ba, 0, none⟩), .pointer (some ⟨bd, 0, none⟩), .pointer (some ⟨bs, 0, none⟩)]
set_option maxRecDepth 100000 in
set_option maxHeartbeats 2000000 in
/-- the last put of Log -/
theorem log2_at {w W : World} {ba bd bs bp br : Nat} {p : Int} {q : BitVec 32} {a : Option Addr} {cap n : Nat} (l1 : List (Res w.heap.size)) {l2 : List (Res w.heap.size)} {g : Nat} {S : Dv} (h : Has w W (Blk _ bp (.cells #[putF ba bd bs] 103) :: Blk _ br (.cells #[.slice a n cap] 22) :: Blk _ ba (.cells #[.int .i64 p] 3) :: Blk _ bd (.cells #[pv g] 28) :: Blk _ bs (.cells #[.int .u32 (vu q)] 53) :: (l1 ++ DevR _ g S :: l2)))
    (hp0 : 0 ≤ p) (hp : p ≤ 1000) (hh : HalfLaid w) :
    Calls Tryd.prog 60 #[.pointer (some ⟨bp, 0, none⟩), .pointer (some ⟨br, 0, none⟩)] W fun e w' => e = .returned (.int .i64 (S.putAE ⟨p + 1, 3, q + 1#32, two n⟩)) ∧
      Has w w' (Blk _ ba (.cells #[.int .i64 (p + 1)] 3) :: Blk _ bd (.cells #[pv g] 28) :: Blk _ bs (.cells #[.int .u32 (vu q)] 53) :: (Blk _ bp (.cells #[putF ba bd bs] 103) :: Blk _ br (.cells #[.slice a n cap] 22) :: l1 ++ DevR _ g (S.putA ⟨p + 1, 3, q + 1#32, two n⟩) :: l2)) := by
  have h0 : Has w W (Blk _ ba (.cells #[.int .i64 p] 3) :: Blk _ bd (.cells #[pv g] 28) :: Blk _ bs (.cells #[.int .u32 (vu q)] 53) :: (Blk _ bp (.cells #[putF ba bd bs] 103) :: Blk _ br (.cells #[.slice a n cap] 22) :: l1 ++ DevR _ g S :: l2)) :=
    h.perm (List.perm_append_comm (l₁ := [_, _]) (l₂ := [_, _, _]) |>.append_right _)
  have H0 := Lib.hid h0
  have HS : Hid (∀ W', Has w W' (Blk _ ba (.cells #[.int .i64 p] 3) :: Blk _ bd (.cells #[pv g] 28) :: Blk _ bs (.cells #[.int .u32 (vu q)] 53) :: (Blk _ bp (.cells #[putF ba bd bs] 103) :: Blk _ br (.cells #[.slice a n cap] 22) :: l1 ++ DevR _ g S :: l2)) → (W'.cell? ⟨bp, 0, none⟩ = some (putF ba bd bs) ∧ W'.cell? ⟨br, 0, none⟩ = some (.slice a n cap) ∧ True)) :=
    fun W' h => ⟨h.cell 3 _ _ _ rfl 0 _ rfl, h.cell 4 _ _ _ rfl 0 _ rfl, trivial⟩
  have HL : Hid (∀ W', Has w W' (Blk _ ba (.cells #[.int .i64 p] 3) :: Blk _ bd (.cells #[pv g] 28) :: Blk _ bs (.cells #[.int .u32 (vu q)] 53) :: (Blk _ bp (.cells #[putF ba bd bs] 103) :: Blk _ br (.cells #[.slice a n cap] 22) :: l1 ++ DevR _ g S :: l2)) → _) := fun W' h => log1_at (_ :: _ :: l1) h 3 (two n) (show 2 ≤ 9223372036854775807 by decide) hp0 hp hh
  have HK : Hid (∀ W', Has w W' (Blk _ ba (.cells #[.int .i64 (p + 1)] 3) :: Blk _ bd (.cells #[pv g] 28) :: Blk _ bs (.cells #[.int .u32 (vu q)] 53) :: (Blk _ bp (.cells #[putF ba bd bs] 103) :: Blk _ br (.cells #[.slice a n cap] 22) :: l1 ++ DevR _ g (S.putA ⟨p + 1, 3, q + 1#32, two n⟩) :: l2)) → (W'.cell? ⟨bp, 0, none⟩ = some (putF ba bd bs) ∧ W'.cell? ⟨br, 0, none⟩ = some (.slice a n cap) ∧ True)) :=
    fun W' h => ⟨h.cell 3 _ _ _ rfl 0 _ rfl, h.cell 4 _ _ _ rfl 0 _ rfl, trivial⟩
  clear h h0 hh
  go_enter Tryd.func60, Tryd.ntmps60
  go_wp2_with fail
  refine wp_region_ordJ (fun W' => W'.cell? ⟨bp, 0, none⟩ = some (putF ba bd bs) ∧ W'.cell? ⟨br, 0, none⟩ = some (.slice a n cap) ∧ True) (OrdT.takes [0, 1, 2] (.one 3 (.one 4 (OrdT.takes [5] .done)))) (by kernel_rfl) (by kernel_rfl) (HS.out _ H0.out.drew) (fun wz hz => ?_)
  have h8 := H0.out.drew
  rw [← hz] at h8
  have H8 := Lib.hid h8
  clear hz h8 H0
  unfold OrdT.takes
  --ordt yyy
  iterate 3 (refine' t_yield _ rfl rfl rfl _ _; rotate_left; (intro w' hSw; obtain ⟨s0, s1, s2⟩ := hSw; go_simp; with_reducible rfl); simp only [Act.put, List.setIfInBounds_toArray, List.set_cons_zero, List.set_cons_succ])
  --end
  refine t_one rfl rfl (fun K hK => ?_)
  go_simp
  refine (short_any _ _).mono ?_
  rintro e w8 ⟨rfl, hB8⟩
  have H9 := Lib.hid (H8.out.below hB8)
  clear hB8 H8
  dsimp only
  refine hK _ _ (HS.out _ H9.out) ?_
  clear hK
  refine t_one rfl rfl (fun K hK => ?_)
  go_simp
  refine (HL.out _ H9.out).mono ?_
  rintro e w9 ⟨rfl, h10⟩
  have H10 := Lib.hid h10
  clear h10 H9
  dsimp only
  refine hK _ _ (HK.out _ H10.out) ?_
  clear hK
  unfold OrdT.takes
  --ordt y
  (refine' t_yield _ rfl rfl rfl _ _; rotate_left; (intro w' hSw; obtain ⟨s0, s1, s2⟩ := hSw; go_simp; with_reducible rfl); simp only [Act.put, List.setIfInBounds_toArray, List.set_cons_zero, List.set_cons_succ])
  --end
  refine t_done ?_
  go_wp2_with fail
  go_ret
  exact ⟨rfl, H10.out⟩
end Go.Proofs.YtfbkfdoekgnldaaDoor
namespace Go.Proofs.YtfbkfdoekgnldaaDoor
open Go.RowKit
open Lime
attribute [local go_sem] Oper.semAt_some setRow_alloc_at setRow_alloc_past setRow_drew g_same32 g_eq32 g_ne32 run_store_fn
theorem logP_get (l : Lay) (q : BitVec 32) (run : List Rec) : ∀ (i : Int) (k : Nat), (logPuts l q i run)[k]? = if h : k < run.length then some ⟨l.first + (i + k), 2, q, recBytes run[k]⟩ else if k = run.length then some ⟨l.first + (i + k), 3, q, two (i + k - 1)⟩ else none := by
  induction run with
  | nil =>
    intro i k
    cases k with
    | zero => simp [logPuts]
    | succ k => simp [logPuts]
  | cons r rest ih =>
    intro i k
    cases k with
    | zero => simp [logPuts]
    | succ k =>
      rw [logPuts, List.getElem?_cons_succ, ih (i + 1) k]
      have e : i + 1 + (k : Int) = i + ((k + 1 : Nat) : Int) := by omega
      rw [e]
      simp only [List.length_cons, Nat.add_lt_add_iff_right, Nat.add_right_cancel_iff, List.getElem_cons_succ]
theorem logP_len (l : Lay) (q : BitVec 32) (run : List Rec) : ∀ (i : Int), (logPuts l q i run).length = run.length + 1 := by
  induction run with
  | nil => intro i; rfl
  | cons r rest ih => intro i; rw [logPuts, List.length_cons, ih, List.length_cons]
theorem putAll_next (ps : List PutA) (S : Dv) (k : Nat) (a : PutA) (ha : ps[k]? = some a) (hz : (S.putAll (ps.take k)).2 = 0) :
    S.putAll (ps.take (k + 1)) = if ((S.putAll (ps.take k)).1).putAE a ≠ 0 then (((S.putAll (ps.take k)).1).putA a, ((S.putAll (ps.take k)).1).putAE a) else (((S.putAll (ps.take k)).1).putA a, 0) := by
  have h1 : (ps.take (k + 1))[k]? = some a := by rw [List.getElem?_take, if_pos (by omega)]; exact ha
  have h2 : (ps.take (k + 1)).take k = ps.take k := by rw [List.take_take, Nat.min_eq_left (by omega)]
  have h3 : (ps.take (k + 1)).drop (k + 1) = [] := List.drop_eq_nil_of_le (by rw [List.length_take]; omega)
  have := putAll_split (ps.take (k + 1)) S k _ h1 (by rw [h2, ← hz])
  rw [h2, h3] at this
  rw [this]; rfl
theorem valid_len {n : Nat} {l : Lay} {run : List Rec} (h : validM n l run = 0) : run.length ≤ 80 := by
  unfold validM at h
  by_cases h0 : l.most < run.length
  · rw [if_pos h0] at h; simp at h
  · unfold Lay.most at h0; omega
theorem valid_kind {n : Nat} {l : Lay} (run : List Rec) : ∀ before, validK n l before run = 0 → ∀ r ∈ run, r.data.size ≤ 96 := by
  induction run with
  | nil => intro _ _ r h; simp at h
  | cons x rest ih =>
    intro before h r hr
    unfold validK at h
    by_cases h0 : recE n l before x = 0
    · rw [if_neg (by simp [h0])] at h
      rcases List.mem_cons.1 hr with rfl | hr
      · unfold recE at h0
        split at h0
        · simp at h0
        · split at h0
          · simp at h0
          · split at h0
            · simp at h0
            · omega
      · exact ih _ h r hr
    · rw [if_pos h0] at h; exact absurd h h0
theorem u8_kind (k : Int) : IntKind.u8.wrap k = vb (UInt8.ofNat (k % 256).toNat) := by
  unfold IntKind.wrap vb; simp [IntKind.signed, IntKind.bits]; omega
theorem perm6 {α : Type} (a b c d e f : α) (t : List α) : (a :: b :: c :: d :: e :: f :: t).Perm (b :: f :: c :: a :: d :: e :: t) :=
  (List.perm_middle (l₁ := [a]) (a := b) (l₂ := c :: d :: e :: f :: t)).trans (.cons b ((List.perm_middle (l₁ := [a, c, d, e]) (a := f) (l₂ := t)).trans (.cons f (List.perm_middle (l₁ := [a]) (a := c) (l₂ := d :: e :: t)))))
theorem perm7 {α : Type} (s a b c d e f : α) (t : List α) : (s :: a :: b :: c :: d :: e :: f :: t).Perm (d :: e :: a :: b :: c :: s :: f :: t) :=
  (List.perm_middle (l₁ := [s, a, b, c]) (a := d) (l₂ := e :: f :: t)).trans (.cons d ((List.perm_middle (l₁ := [s, a, b, c]) (a := e) (l₂ := f :: t)).trans (.cons e (List.perm_middle (l₁ := [a, b, c]) (a := s) (l₂ := f :: t)).symm)))
set_option maxRecDepth 100000 in
set_option maxHeartbeats 8000000 in
theorem log_at {w W : World} (l1 : List (Res w.heap.size)) {l2 : List (Res w.heap.size)} {g : Nat} {S : Dv} {a : Option Addr} {cap : Nat} {run : List Rec} (h : Has w W (l1 ++ DevR _ g S :: l2)) (l : Lay) (hv : RunR _ (.slice a run.length cap) run ∈ l1 ++ l2)
    (hd : ∀ r ∈ run, r.data.size ≤ 9223372036854775807) (hlen : run.length ≤ 9223372036854775807) (hh : HalfLaid w) :
    Calls Tryd.prog 24 #[pv g, .agg #[.int .i64 l.first, .int .i64 l.size], .slice a run.length cap] W fun e w' => e = .returned (.int .i64 (logM S l run).2) ∧ Has w w' (l1 ++ DevR _ g (logM S l run).1 :: l2) := by
  have hmem : ∀ S' : Dv, DevR w.heap.size g S' ∈ l1 ++ DevR _ g S' :: l2 := fun S' => by simp
  have hvm : ∀ S' : Dv, RunR _ (.slice a run.length cap) run ∈ l1 ++ DevR _ g S' :: l2 := fun S' => by
    rcases List.mem_append.1 hv with h | h
    · exact List.mem_append_left _ h
    · exact List.mem_append_right _ (.tail _ h)
  have h1 := ((h.alloc (.cells #[pv g] 28)).allocAt (.cells #[.int .i64 l.first, .int .i64 l.size] 27) (W.heap.size + 1) (by simp)).allocAt (.cells #[.slice a run.length cap] 22) (W.heap.size + 1 + 1) (by simp)
  have HHD := Lib.hid (head_has h1 (.tail _ (.tail _ (.tail _ (hmem S)))) l hh)
  obtain ⟨R, hR⟩ : ∃ R, R = logM S l run := ⟨_, rfl⟩
  rw [← hR]
  have hRd : R = if (headM S l).2 ≠ 0 then (S, (headM S l).2) else if validM S.st.length l run ≠ 0 then (S, validM S.st.length l run) else Dv.done (S.putAll (logPuts l ((headM S l).1 + 1#32) 1 run)) := hR
  have hck : (headM S l).2 = 0 → l.check = 0 := by
    intro h0
    unfold headM at h0
    by_cases hc : l.check = 0
    · exact hc
    · rw [if_pos hc] at h0; exact h0
  obtain ⟨⟨q, c⟩, hq⟩ : ∃ x, x = headM S l := ⟨_, rfl⟩
  rw [← hq] at HHD hRd hck
  dsimp only at HHD hRd hck
  have HVL : Hid (c = 0 → ∀ W' (x y z t : Res w.heap.size), Has w W' (x :: y :: z :: t :: (l1 ++ DevR _ g S :: l2)) → Calls Tryd.prog 57 #[pv g, .agg #[.int .i64 l.first, .int .i64 l.size], .slice a run.length cap] W' fun e w' => e = .returned (.int .i64 (validM S.st.length l run)) ∧ Has w w' (x :: y :: z :: t :: (l1 ++ DevR _ g S :: l2))) :=
    fun hc W' x y z t h => valid_has h (.tail _ (.tail _ (.tail _ (.tail _ (hmem S))))) l (hck hc) (.tail _ (.tail _ (.tail _ (.tail _ (hvm S))))) hd hlen
  obtain ⟨V, hV⟩ : ∃ V, V = validM S.st.length l run := ⟨_, rfl⟩
  rw [← hV] at HVL hRd
  have HRD := Lib.hid hRd
  have HV := Lib.hid hV
  have HVM := Lib.hid hvm
  have HHL := Lib.hid hh
  have HCK := Lib.hid hck
  clear h h1 hh hR hRd hq hV hvm hmem hv hd hck
  go_enter Tryd.func24, Tryd.ntmps24
  go_wp2_with fail
  refine HHD.out.mono ?_
  clear HHD
  rintro e w2 ⟨rfl, h2⟩
  have d0 := h2.cell 2 _ _ _ rfl 0 _ rfl
  have y0 := h2.cell 1 _ _ _ rfl 0 _ rfl
  have y1 := h2.cell 1 _ _ _ rfl 1 _ rfl
  have v0 := h2.cell 0 _ _ _ rfl 0 _ rfl
  have zz := block_lt_of_cell v0
  have zd := block_lt_of_cell d0
  have zy := block_lt_of_cell y0
  dsimp only at zz zd zy
  have H3 := Lib.hid (h2.alloc (.cells #[.int .u32 (vu q)] 53))
  clear h2
  by_cases hc : c = 0
  · subst hc
    have HVL2 := Lib.hid (HVL.out rfl _ _ _ _ _ H3.out)
    have hc2 := HCK.out rfl
    obtain ⟨k1, k2, k3, k4⟩ := Lay.check_ok hc2
    clear HVL hc2 HCK
    go_wp2_with fail
    refine HVL2.out.mono ?_
    clear HVL2 d0 y0 y1 v0 zz zd zy H3
    rintro e w4 ⟨rfl, h4⟩
    by_cases hv0 : V = 0
    · subst hv0
      have hl80 := valid_len HV.out.symm
      have hdl : ∀ r ∈ run, r.data.size ≤ 96 := valid_kind run [] (by have := HV.out.symm; unfold validM at this; by_cases h0 : l.most < run.length; rw [if_pos h0] at this; simp at this; rw [if_neg h0] at this; exact this)
      have HDL := Lib.hid hdl
      have HR2 : Hid (R = Dv.done (S.putAll (logPuts l (q + 1#32) 1 run))) := by rw [HRD.out, if_neg (by simp), if_neg (by simp)]; exact Lib.hid rfl
      have y0 := h4.cell 2 _ _ _ rfl 0 _ rfl
      have y1 := h4.cell 2 _ _ _ rfl 1 _ rfl
      have v0 := h4.cell 1 _ _ _ rfl 0 _ rfl
      have zv := block_lt_of_cell v0
      dsimp only at zv
      have zv2 : W.heap.size + 1 + 1 < w4.heap.size + 1 := by omega
      have h5 := (h4.alloc (.cells #[.int .i64 l.first] 3)).allocAt (.cells #[putF w4.heap.size W.heap.size w2.heap.size] 103) (w4.heap.size + 1) (by simp)
      have H5 := Lib.hid h5
      clear h4 h5 hdl HRD
      go_wp2_with fail
      have h6 := H5.out.perm (perm6 _ _ _ _ _ _ _)
      have H6 : Hid (Has w ((w4.alloc (.cells #[.int .i64 l.first] 3)).alloc (.cells #[putF w4.heap.size W.heap.size w2.heap.size] 103)) (Blk _ w4.heap.size (.cells #[.int .i64 (l.first + 0)] 3) :: Blk _ W.heap.size (.cells #[pv g] 28) :: Blk _ w2.heap.size (.cells #[.int .u32 (vu q)] 53) :: (Blk _ (w4.heap.size + 1) (.cells #[putF w4.heap.size W.heap.size w2.heap.size] 103) :: Blk _ (W.heap.size + 1 + 1) (.cells #[.slice a run.length cap] 22) :: Blk _ (W.heap.size + 1) (.cells #[.int .i64 l.first, .int .i64 l.size] 27) :: l1 ++ DevR _ g S :: l2))) := by rw [Int.add_zero]; exact Lib.hid h6
      clear h6 H5 y0 y1 v0 zv zv2
      obtain ⟨LP, hLP⟩ : ∃ LP, LP = logPuts l (q + 1#32) 1 run := ⟨_, rfl⟩
      rw [← hLP] at HR2
      have HLP := Lib.hid hLP
      clear hLP
      go_loopw [36] (fun i wr => ∃ (k : Nat), i = .int .i64 (k : Int) ∧ k ≤ run.length ∧ (S.putAll (LP.take k)).2 = 0 ∧ Has w wr (Blk _ w4.heap.size (.cells #[.int .i64 (l.first + (k : Int))] 3) :: Blk _ W.heap.size (.cells #[pv g] 28) :: Blk _ w2.heap.size (.cells #[.int .u32 (vu q)] 53) :: (Blk _ (w4.heap.size + 1) (.cells #[putF w4.heap.size W.heap.size w2.heap.size] 103) :: Blk _ (W.heap.size + 1 + 1) (.cells #[.slice a run.length cap] 22) :: Blk _ (W.heap.size + 1) (.cells #[.int .i64 l.first, .int .i64 l.size] 27) :: l1 ++ DevR _ g (S.putAll (LP.take k)).1 :: l2))) (fun i _ => run.length - (intOf i).toNat)
      case atStart => exact ⟨0, rfl, Nat.zero_le _, rfl, H6.out⟩
      case round =>
        obtain ⟨k, rfl, hk, hz, hH⟩ := hrel
        clear H6
        obtain ⟨D, hD⟩ : ∃ D, D = (S.putAll (LP.take k)).1 := ⟨_, rfl⟩
        rw [← hD] at hH
        by_cases hlt : k < run.length
        · obtain ⟨r, hr⟩ : ∃ r, run[k]? = some r := ⟨_, List.getElem?_eq_getElem hlt⟩
          have hre : run[k] = r := (List.getElem?_eq_some_iff.1 hr).2
          obtain ⟨ba, oa, cap2, hv2, rr⟩ := (hH.rd (.tail _ (.tail _ (.tail _ (.tail _ (.tail _ (.tail _ (HVM.out D))))))) ).elem recL_len k r hr
          injection hv2 with hv2 _ hcap
          subst hcap
          subst hv2
          have r0 : wr.cell? ⟨ba, oa + k * 3, none⟩ = some (.int .i64 r.at_) := rr 0 _ rfl
          have r1 : wr.cell? ⟨ba, oa + k * 3 + 1, none⟩ = some (.int .i64 r.kind) := rr 1 _ rfl
          have r2 : wr.cell? ⟨ba, oa + k * 3 + 2, none⟩ = some (.string r.data) := rr 2 _ rfl
          have hix := fun w => run_index_rec ba oa run.length cap k hlt w
          have hki : (k : Int) < (run.length : Int) := by omega
          have hpk : LP[k]? = some ⟨l.first + (k : Int) + 1, 2, q + 1#32, recBytes r⟩ := by
            rw [HLP.out, logP_get, dif_pos hlt, hre, show l.first + (1 + (k : Int)) = l.first + (k : Int) + 1 by omega]
          have hsp := putAll_split LP S k _ hpk (by rw [← hz])
          have hnx := putAll_next LP S k _ hpk hz
          rw [← hD] at hsp hnx
          have hd1 : (recBytes r).size ≤ 9223372036854775807 := by
            have h1 := HDL.out r (List.mem_of_getElem? hr)
            have h2 : (recBytes r).size = 3 + r.data.size := by
              unfold recBytes two
              simp [ByteArray.size_append]
              rfl
            omega
          have hd96 := HDL.out r (List.mem_of_getElem? hr)
          have t2 : (two r.at_).size = 2 := rfl
          have n1 : ¬ 9223372036854775807 < (two r.at_).size + 1 := by omega
          have n2 : ¬ 9223372036854775807 < (two r.at_).size + 1 + r.data.size := by omega
          obtain ⟨C, hC⟩ : ∃ C, C = UInt8.ofNat (r.kind % 256).toNat := ⟨_, rfl⟩
          have hcv0 : IntKind.u8.wrap r.kind = vb C := by rw [hC]; exact u8_kind r.kind
          have hrb : recBytes r = two r.at_ ++ ⟨#[C]⟩ ++ r.data := by rw [hC]; rfl
          rw [hrb] at hd1 hsp hnx
          have HSP := Lib.hid hsp
          have HNX := Lib.hid hnx
          have h2 := hH.alloc (.cells #[.int .i64 r.at_, .int .i64 r.kind, .string r.data] 67)
          have h3 : Has w (wr.alloc (.cells #[.int .i64 r.at_, .int .i64 r.kind, .string r.data] 67)) (Blk _ w4.heap.size (.cells #[.int .i64 (l.first + (k : Int))] 3) :: Blk _ W.heap.size (.cells #[pv g] 28) :: Blk _ w2.heap.size (.cells #[.int .u32 (vu q)] 53) :: (Blk _ wr.heap.size (.cells #[.int .i64 r.at_, .int .i64 r.kind, .string r.data] 67) :: Blk _ (w4.heap.size + 1) (.cells #[putF w4.heap.size W.heap.size w2.heap.size] 103) :: Blk _ (W.heap.size + 1 + 1) (.cells #[.slice (some ⟨ba, oa, none⟩) run.length cap] 22) :: Blk _ (W.heap.size + 1) (.cells #[.int .i64 l.first, .int .i64 l.size] 27) :: l1 ++ DevR _ g D :: l2)) := h2.perm (List.perm_middle (l₁ := [_, _, _])).symm
          have H3 := Lib.hid h3
          have HSZ : Hid (∀ W', Has w W' (Blk _ w4.heap.size (.cells #[.int .i64 (l.first + (k : Int))] 3) :: Blk _ W.heap.size (.cells #[pv g] 28) :: Blk _ w2.heap.size (.cells #[.int .u32 (vu q)] 53) :: (Blk _ wr.heap.size (.cells #[.int .i64 r.at_, .int .i64 r.kind, .string r.data] 67) :: Blk _ (w4.heap.size + 1) (.cells #[putF w4.heap.size W.heap.size w2.heap.size] 103) :: Blk _ (W.heap.size + 1 + 1) (.cells #[.slice (some ⟨ba, oa, none⟩) run.length cap] 22) :: Blk _ (W.heap.size + 1) (.cells #[.int .i64 l.first, .int .i64 l.size] 27) :: l1 ++ DevR _ g D :: l2)) → ((W'.cell? ⟨wr.heap.size, 0, none⟩ = some (.int .i64 r.at_) ∧ W'.cell? ⟨wr.heap.size, 1, none⟩ = some (.int .i64 r.kind)) ∧ (W'.cell? ⟨wr.heap.size, 2, none⟩ = some (.string r.data) ∧ W'.cell? ⟨w4.heap.size + 1, 0, none⟩ = some (putF w4.heap.size W.heap.size w2.heap.size)) ∧ True)) := fun W' h => ⟨⟨h.cell 3 _ _ _ rfl 0 _ rfl, h.cell 3 _ _ _ rfl 1 _ rfl⟩, ⟨h.cell 3 _ _ _ rfl 2 _ rfl, h.cell 4 _ _ _ rfl 0 _ rfl⟩, trivial⟩
          have HSN : Hid (∀ W' S', Has w W' (Blk _ w4.heap.size (.cells #[.int .i64 (l.first + (k : Int) + 1)] 3) :: Blk _ W.heap.size (.cells #[pv g] 28) :: Blk _ w2.heap.size (.cells #[.int .u32 (vu q)] 53) :: (Blk _ wr.heap.size (.cells #[.int .i64 r.at_, .int .i64 r.kind, .string r.data] 67) :: Blk _ (w4.heap.size + 1) (.cells #[putF w4.heap.size W.heap.size w2.heap.size] 103) :: Blk _ (W.heap.size + 1 + 1) (.cells #[.slice (some ⟨ba, oa, none⟩) run.length cap] 22) :: Blk _ (W.heap.size + 1) (.cells #[.int .i64 l.first, .int .i64 l.size] 27) :: l1 ++ DevR _ g S' :: l2)) → ((W'.cell? ⟨wr.heap.size, 0, none⟩ = some (.int .i64 r.at_) ∧ W'.cell? ⟨wr.heap.size, 1, none⟩ = some (.int .i64 r.kind)) ∧ (W'.cell? ⟨wr.heap.size, 2, none⟩ = some (.string r.data) ∧ W'.cell? ⟨w4.heap.size + 1, 0, none⟩ = some (putF w4.heap.size W.heap.size w2.heap.size)) ∧ True)) := fun W' S' h => ⟨⟨h.cell 3 _ _ _ rfl 0 _ rfl, h.cell 3 _ _ _ rfl 1 _ rfl⟩, ⟨h.cell 3 _ _ _ rfl 2 _ rfl, h.cell 4 _ _ _ rfl 0 _ rfl⟩, trivial⟩
          have HL : Hid (∀ W', Has w W' (Blk _ w4.heap.size (.cells #[.int .i64 (l.first + (k : Int))] 3) :: Blk _ W.heap.size (.cells #[pv g] 28) :: Blk _ w2.heap.size (.cells #[.int .u32 (vu q)] 53) :: (Blk _ wr.heap.size (.cells #[.int .i64 r.at_, .int .i64 r.kind, .string r.data] 67) :: Blk _ (w4.heap.size + 1) (.cells #[putF w4.heap.size W.heap.size w2.heap.size] 103) :: Blk _ (W.heap.size + 1 + 1) (.cells #[.slice (some ⟨ba, oa, none⟩) run.length cap] 22) :: Blk _ (W.heap.size + 1) (.cells #[.int .i64 l.first, .int .i64 l.size] 27) :: l1 ++ DevR _ g D :: l2)) → _) := fun W' h => log1_at (_ :: _ :: _ :: _ :: l1) h 2 (two r.at_ ++ ⟨#[C]⟩ ++ r.data) hd1 (by omega) (by omega) HHL.out
          have zb := block_lt_of_cell r0
          dsimp only at zb
          clear hr hre hpk hsp hnx hD hH h2 h3 rr hz hd1 hC hrb hd96 t2
          go_wp2_with fail
          refine wp_region_ordJ (fun W' => (W'.cell? ⟨wr.heap.size, 0, none⟩ = some (.int .i64 r.at_) ∧ W'.cell? ⟨wr.heap.size, 1, none⟩ = some (.int .i64 r.kind)) ∧ (W'.cell? ⟨wr.heap.size, 2, none⟩ = some (.string r.data) ∧ W'.cell? ⟨w4.heap.size + 1, 0, none⟩ = some (putF w4.heap.size W.heap.size w2.heap.size)) ∧ True) (OrdT.takes [0, 1, 2, 4, 5, 6, 10, 11] (.two 3 (.one 7 (.one 8 (OrdT.takes [9, 12] (.one 13 (OrdT.takes [14] .done))))) 7 (.two 3 (.one 8 (OrdT.takes [9, 12] (.one 13 (OrdT.takes [14] .done)))) 8 (.one 3 (OrdT.takes [9, 12] (.one 13 (OrdT.takes [14] .done))))))) (by kernel_rfl) (by kernel_rfl) (HSZ.out _ H3.out.drew) (fun wz hz => ?_)
          have h8 := H3.out.drew
          rw [← hz] at h8
          have H8 := Lib.hid h8
          clear hz h8 H3 r0 r1 r2 zb
          have HFIN : Hid (∀ W', Has w W' (Blk _ w4.heap.size (.cells #[.int .i64 (l.first + (k : Int) + 1)] 3) :: Blk _ W.heap.size (.cells #[pv g] 28) :: Blk _ w2.heap.size (.cells #[.int .u32 (vu q)] 53) :: (Blk _ (w4.heap.size + 1) (.cells #[putF w4.heap.size W.heap.size w2.heap.size] 103) :: Blk _ (W.heap.size + 1 + 1) (.cells #[.slice (some ⟨ba, oa, none⟩) run.length cap] 22) :: Blk _ (W.heap.size + 1) (.cells #[.int .i64 l.first, .int .i64 l.size] 27) :: l1 ++ DevR _ g (D.putA ⟨l.first + (k : Int) + 1, 2, q + 1#32, two r.at_ ++ ⟨#[C]⟩ ++ r.data⟩) :: l2)) → True) := fun _ _ => trivial
          clear HFIN
          unfold OrdT.takes
          --ordt yyyyyyyy
          iterate 8 (refine' t_yield _ rfl rfl rfl _ _; rotate_left; (intro w' hSw; obtain ⟨s0, s1, s2⟩ := hSw; go_simp; with_reducible rfl); simp only [Act.put, List.setIfInBounds_toArray, List.set_cons_zero, List.set_cons_succ])
          --end
          refine t_two rfl rfl rfl rfl (fun K hK => ?_) (fun K hK => ?_)
          · go_simp
            refine (short_any _ _).mono ?_
            rintro e w8 ⟨rfl, hB8⟩
            have h9 := H8.out.below hB8
            have H9 := Lib.hid h9
            dsimp only
            refine hK _ _ (HSZ.out _ H9.out) ?_
            clear hK
            clear h9 hB8 H8
            have ha := H9.out.alloc (.cells #[.int .u8 (vb C)] 5)
            have hcv := conv1 (w8.alloc (.cells #[.int .u8 (vb C)] 5)) w8.heap.size C (heap_alloc_new _ _)
            have H12 := Lib.hid ha.drop
            clear ha H9
            refine t_one rfl rfl (fun K hK => ?_)
            go_simp
            refine hK _ _ (HSZ.out _ H12.out) ?_
            clear hK
            refine t_one rfl rfl (fun K hK => ?_)
            go_simp
            refine hK _ _ (HSZ.out _ H12.out) ?_
            clear hK hcv
            unfold OrdT.takes
            --ordt yy
            iterate 2 (refine' t_yield _ rfl rfl rfl _ _; rotate_left; (intro w' hSw; obtain ⟨s0, s1, s2⟩ := hSw; go_simp; with_reducible rfl); simp only [Act.put, List.setIfInBounds_toArray, List.set_cons_zero, List.set_cons_succ])
            --end
            refine t_one rfl rfl (fun K hK => ?_)
            go_simp
            refine (HL.out _ H12.out).mono ?_
            rintro e w9 ⟨rfl, h10⟩
            have H10 := Lib.hid h10
            clear h10 H12
            dsimp only
            refine hK _ _ (HSN.out _ _ H10.out) ?_
            clear hK
            unfold OrdT.takes
            --ordt y
            (refine' t_yield _ rfl rfl rfl _ _; rotate_left; (intro w' hSw; obtain ⟨s0, s1, s2⟩ := hSw; go_simp; with_reducible rfl); simp only [Act.put, List.setIfInBounds_toArray, List.set_cons_zero, List.set_cons_succ])
            --end
            refine t_done ?_
            have H11 : Hid (Has w w9 (Blk _ w4.heap.size (.cells #[.int .i64 (l.first + (k : Int) + 1)] 3) :: Blk _ W.heap.size (.cells #[pv g] 28) :: Blk _ w2.heap.size (.cells #[.int .u32 (vu q)] 53) :: (Blk _ (w4.heap.size + 1) (.cells #[putF w4.heap.size W.heap.size w2.heap.size] 103) :: Blk _ (W.heap.size + 1 + 1) (.cells #[.slice (some ⟨ba, oa, none⟩) run.length cap] 22) :: Blk _ (W.heap.size + 1) (.cells #[.int .i64 l.first, .int .i64 l.size] 27) :: l1 ++ DevR _ g (D.putA ⟨l.first + (k : Int) + 1, 2, q + 1#32, two r.at_ ++ ⟨#[C]⟩ ++ r.data⟩) :: l2))) := (H10.out.perm (List.perm_middle (l₁ := [_, _, _]))).drop
            clear H10
            obtain ⟨E, hE⟩ : ∃ E, E = D.putAE ⟨l.first + (k : Int) + 1, 2, q + 1#32, two r.at_ ++ ⟨#[C]⟩ ++ r.data⟩ := ⟨_, rfl⟩
            rw [← hE] at HSP HNX ⊢
            clear hE
            by_cases he : E = 0
            · subst he
              have HN2 : Hid (S.putAll (LP.take (k + 1)) = (D.putA ⟨l.first + (k : Int) + 1, 2, q + 1#32, two r.at_ ++ ⟨#[C]⟩ ++ r.data⟩, 0)) := by rw [HNX.out, if_neg (by simp)]; exact Lib.hid rfl
              go_wp2_with fail
              go_roundw
              case rel => exact ⟨k + 1, by go_num, by omega, by rw [HN2.out], by rw [HN2.out, show l.first + ((k + 1 : Nat) : Int) = l.first + (k : Int) + 1 by omega]; exact H11.out⟩
              case measure => simp [intOf]; omega
            · have he2 : (E != 0) = true := by simpa using he
              have HN2 : Hid (R = (D.putA ⟨l.first + (k : Int) + 1, 2, q + 1#32, two r.at_ ++ ⟨#[C]⟩ ++ r.data⟩, E)) := by rw [HR2.out]; unfold Dv.done; rw [HSP.out, if_pos he]; exact Lib.hid (if_pos he)
              clear he
              go_wp2_with fail
              go_ret
              exact ⟨by rw [HN2.out]; rfl, by rw [HN2.out]; exact H11.out.drop.drop.drop.drop.drop.drop⟩
          · have ha := H8.out.alloc (.cells #[.int .u8 (vb C)] 5)
            have hb := (ha.blk 0 _ _ rfl).1
            have H12 := Lib.hid ha
            have hzb : wz.heap.size < (wz.alloc (.cells #[.int .u8 (vb C)] 5)).heap.size := by simp
            have HB := Lib.hid hb
            clear ha H8 hb
            go_simp
            refine hK _ _ (HSZ.out _ H12.out.drop) ?_
            clear hK
            refine t_two rfl rfl rfl rfl (fun K hK => ?_) (fun K hK => ?_)
            · go_simp
              refine (short_any _ _).mono ?_
              rintro e w8 ⟨rfl, hB8⟩
              have h9 := H12.out.below hB8
              have H9 := Lib.hid h9
              dsimp only
              refine hK _ _ (HSZ.out _ H9.out.drop) ?_
              clear hK
              have hcv := conv1 w8 wz.heap.size C (H9.out.blk 0 _ _ rfl).1
              have H13 := Lib.hid H9.out.drop
              clear h9 hB8 H12 H9
              refine t_one rfl rfl (fun K hK => ?_)
              go_simp
              refine hK _ _ (HSZ.out _ H13.out) ?_
              clear hK hcv
              unfold OrdT.takes
              --ordt yy
              iterate 2 (refine' t_yield _ rfl rfl rfl _ _; rotate_left; (intro w' hSw; obtain ⟨s0, s1, s2⟩ := hSw; go_simp; with_reducible rfl); simp only [Act.put, List.setIfInBounds_toArray, List.set_cons_zero, List.set_cons_succ])
              --end
              refine t_one rfl rfl (fun K hK => ?_)
              go_simp
              refine (HL.out _ H13.out).mono ?_
              rintro e w9 ⟨rfl, h10⟩
              have H10 := Lib.hid h10
              clear h10 H13
              dsimp only
              refine hK _ _ (HSN.out _ _ H10.out) ?_
              clear hK
              unfold OrdT.takes
              --ordt y
              (refine' t_yield _ rfl rfl rfl _ _; rotate_left; (intro w' hSw; obtain ⟨s0, s1, s2⟩ := hSw; go_simp; with_reducible rfl); simp only [Act.put, List.setIfInBounds_toArray, List.set_cons_zero, List.set_cons_succ])
              --end
              refine t_done ?_
              have H11 : Hid (Has w w9 (Blk _ w4.heap.size (.cells #[.int .i64 (l.first + (k : Int) + 1)] 3) :: Blk _ W.heap.size (.cells #[pv g] 28) :: Blk _ w2.heap.size (.cells #[.int .u32 (vu q)] 53) :: (Blk _ (w4.heap.size + 1) (.cells #[putF w4.heap.size W.heap.size w2.heap.size] 103) :: Blk _ (W.heap.size + 1 + 1) (.cells #[.slice (some ⟨ba, oa, none⟩) run.length cap] 22) :: Blk _ (W.heap.size + 1) (.cells #[.int .i64 l.first, .int .i64 l.size] 27) :: l1 ++ DevR _ g (D.putA ⟨l.first + (k : Int) + 1, 2, q + 1#32, two r.at_ ++ ⟨#[C]⟩ ++ r.data⟩) :: l2))) := (H10.out.perm (List.perm_middle (l₁ := [_, _, _]))).drop
              clear H10
              obtain ⟨E, hE⟩ : ∃ E, E = D.putAE ⟨l.first + (k : Int) + 1, 2, q + 1#32, two r.at_ ++ ⟨#[C]⟩ ++ r.data⟩ := ⟨_, rfl⟩
              rw [← hE] at HSP HNX ⊢
              clear hE
              by_cases he : E = 0
              · subst he
                have HN2 : Hid (S.putAll (LP.take (k + 1)) = (D.putA ⟨l.first + (k : Int) + 1, 2, q + 1#32, two r.at_ ++ ⟨#[C]⟩ ++ r.data⟩, 0)) := by rw [HNX.out, if_neg (by simp)]; exact Lib.hid rfl
                go_wp2_with fail
                go_roundw
                case rel => exact ⟨k + 1, by go_num, by omega, by rw [HN2.out], by rw [HN2.out, show l.first + ((k + 1 : Nat) : Int) = l.first + (k : Int) + 1 by omega]; exact H11.out⟩
                case measure => simp [intOf]; omega
              · have he2 : (E != 0) = true := by simpa using he
                have HN2 : Hid (R = (D.putA ⟨l.first + (k : Int) + 1, 2, q + 1#32, two r.at_ ++ ⟨#[C]⟩ ++ r.data⟩, E)) := by rw [HR2.out]; unfold Dv.done; rw [HSP.out, if_pos he]; exact Lib.hid (if_pos he)
                clear he
                go_wp2_with fail
                go_ret
                exact ⟨by rw [HN2.out]; rfl, by rw [HN2.out]; exact H11.out.drop.drop.drop.drop.drop.drop⟩
            · have hcv := conv1 (wz.alloc (.cells #[.int .u8 (vb C)] 5)) wz.heap.size C HB.out
              go_simp
              refine hK _ _ (HSZ.out _ H12.out.drop) ?_
              clear hK hcv
              have H14 := Lib.hid H12.out.drop
              clear H12
              refine t_one rfl rfl (fun K hK => ?_)
              go_simp
              refine (short_any _ _).mono ?_
              rintro e w8 ⟨rfl, hB8⟩
              have h9 := H14.out.below hB8
              have H9 := Lib.hid h9
              dsimp only
              refine hK _ _ (HSZ.out _ H9.out) ?_
              clear hK
              clear h9 hB8 H14
              unfold OrdT.takes
              --ordt yy
              iterate 2 (refine' t_yield _ rfl rfl rfl _ _; rotate_left; (intro w' hSw; obtain ⟨s0, s1, s2⟩ := hSw; go_simp; with_reducible rfl); simp only [Act.put, List.setIfInBounds_toArray, List.set_cons_zero, List.set_cons_succ])
              --end
              refine t_one rfl rfl (fun K hK => ?_)
              go_simp
              refine (HL.out _ H9.out).mono ?_
              rintro e w9 ⟨rfl, h10⟩
              have H10 := Lib.hid h10
              clear h10 H9
              dsimp only
              refine hK _ _ (HSN.out _ _ H10.out) ?_
              clear hK
              unfold OrdT.takes
              --ordt y
              (refine' t_yield _ rfl rfl rfl _ _; rotate_left; (intro w' hSw; obtain ⟨s0, s1, s2⟩ := hSw; go_simp; with_reducible rfl); simp only [Act.put, List.setIfInBounds_toArray, List.set_cons_zero, List.set_cons_succ])
              --end
              refine t_done ?_
              have H11 : Hid (Has w w9 (Blk _ w4.heap.size (.cells #[.int .i64 (l.first + (k : Int) + 1)] 3) :: Blk _ W.heap.size (.cells #[pv g] 28) :: Blk _ w2.heap.size (.cells #[.int .u32 (vu q)] 53) :: (Blk _ (w4.heap.size + 1) (.cells #[putF w4.heap.size W.heap.size w2.heap.size] 103) :: Blk _ (W.heap.size + 1 + 1) (.cells #[.slice (some ⟨ba, oa, none⟩) run.length cap] 22) :: Blk _ (W.heap.size + 1) (.cells #[.int .i64 l.first, .int .i64 l.size] 27) :: l1 ++ DevR _ g (D.putA ⟨l.first + (k : Int) + 1, 2, q + 1#32, two r.at_ ++ ⟨#[C]⟩ ++ r.data⟩) :: l2))) := (H10.out.perm (List.perm_middle (l₁ := [_, _, _]))).drop
              clear H10
              obtain ⟨E, hE⟩ : ∃ E, E = D.putAE ⟨l.first + (k : Int) + 1, 2, q + 1#32, two r.at_ ++ ⟨#[C]⟩ ++ r.data⟩ := ⟨_, rfl⟩
              rw [← hE] at HSP HNX ⊢
              clear hE
              by_cases he : E = 0
              · subst he
                have HN2 : Hid (S.putAll (LP.take (k + 1)) = (D.putA ⟨l.first + (k : Int) + 1, 2, q + 1#32, two r.at_ ++ ⟨#[C]⟩ ++ r.data⟩, 0)) := by rw [HNX.out, if_neg (by simp)]; exact Lib.hid rfl
                go_wp2_with fail
                go_roundw
                case rel => exact ⟨k + 1, by go_num, by omega, by rw [HN2.out], by rw [HN2.out, show l.first + ((k + 1 : Nat) : Int) = l.first + (k : Int) + 1 by omega]; exact H11.out⟩
                case measure => simp [intOf]; omega
              · have he2 : (E != 0) = true := by simpa using he
                have HN2 : Hid (R = (D.putA ⟨l.first + (k : Int) + 1, 2, q + 1#32, two r.at_ ++ ⟨#[C]⟩ ++ r.data⟩, E)) := by rw [HR2.out]; unfold Dv.done; rw [HSP.out, if_pos he]; exact Lib.hid (if_pos he)
                clear he
                go_wp2_with fail
                go_ret
                exact ⟨by rw [HN2.out]; rfl, by rw [HN2.out]; exact H11.out.drop.drop.drop.drop.drop.drop⟩
        · obtain rfl : k = run.length := by omega
          have hpk : LP[run.length]? = some ⟨l.first + (run.length : Int) + 1, 3, q + 1#32, two run.length⟩ := by
            rw [HLP.out, logP_get, dif_neg (by omega), if_pos rfl, show l.first + (1 + (run.length : Int)) = l.first + (run.length : Int) + 1 by omega, show 1 + (run.length : Int) - 1 = run.length by omega]
          have hsp := putAll_split LP S run.length _ hpk (by rw [← hz])
          have hdr : LP.drop (run.length + 1) = [] := List.drop_eq_nil_of_le (by rw [HLP.out, logP_len]; omega)
          rw [← hD, hdr] at hsp
          obtain ⟨E, hE⟩ : ∃ E, E = D.putAE ⟨l.first + (run.length : Int) + 1, 3, q + 1#32, two run.length⟩ := ⟨_, rfl⟩
          obtain ⟨D1, hD1⟩ : ∃ D1, D1 = D.putA ⟨l.first + (run.length : Int) + 1, 3, q + 1#32, two run.length⟩ := ⟨_, rfl⟩
          rw [← hE, ← hD1] at hsp
          have hRE : R = if E ≠ 0 then (D1, E) else (D1.flush, D1.flushE) := by
            rw [HR2.out, hsp]
            unfold Dv.done
            by_cases he : E ≠ 0
            · rw [if_pos he, if_pos he]
            · rw [if_neg he, if_neg he]; rfl
          have d0 := hH.cell 1 _ _ _ rfl 0 _ rfl
          have h2 := hH.alloc (.cells #[.func (.func 60) #[] #[.pointer (some ⟨w4.heap.size + 1, 0, none⟩), .pointer (some ⟨W.heap.size + 1 + 1, 0, none⟩)], .func (.func 41) #[pv g] #[]] 82)
          have h3 : Has w (wr.alloc (.cells #[.func (.func 60) #[] #[.pointer (some ⟨w4.heap.size + 1, 0, none⟩), .pointer (some ⟨W.heap.size + 1 + 1, 0, none⟩)], .func (.func 41) #[pv g] #[]] 82)) (Blk _ (w4.heap.size + 1) (.cells #[putF w4.heap.size W.heap.size w2.heap.size] 103) :: Blk _ (W.heap.size + 1 + 1) (.cells #[.slice a run.length cap] 22) :: Blk _ w4.heap.size (.cells #[.int .i64 (l.first + (run.length : Int))] 3) :: Blk _ W.heap.size (.cells #[pv g] 28) :: Blk _ w2.heap.size (.cells #[.int .u32 (vu q)] 53) :: (Blk _ wr.heap.size (.cells #[.func (.func 60) #[] #[.pointer (some ⟨w4.heap.size + 1, 0, none⟩), .pointer (some ⟨W.heap.size + 1 + 1, 0, none⟩)], .func (.func 41) #[pv g] #[]] 82) :: Blk _ (W.heap.size + 1) (.cells #[.int .i64 l.first, .int .i64 l.size] 27) :: l1 ++ DevR _ g D :: l2)) := h2.perm (perm7 _ _ _ _ _ _ _ _)
          have HT : Hid (Calls Tryd.prog 36 #[.slice (some ⟨wr.heap.size, 0, none⟩) 2 2] (wr.alloc (.cells #[.func (.func 60) #[] #[.pointer (some ⟨w4.heap.size + 1, 0, none⟩), .pointer (some ⟨W.heap.size + 1 + 1, 0, none⟩)], .func (.func 41) #[pv g] #[]] 82)) fun e w' => ∃ c, e = .returned (.int .i64 c) ∧ (c = R.2 ∧ Has w w' (l1 ++ DevR _ g R.1 :: l2))) := by
            refine then_any [⟨60, #[], #[.pointer (some ⟨w4.heap.size + 1, 0, none⟩), .pointer (some ⟨W.heap.size + 1 + 1, 0, none⟩)]⟩, ⟨41, #[pv g], #[]⟩] wr.heap.size 2 (fun k W' => (k = 0 → Has w W' (Blk _ (w4.heap.size + 1) (.cells #[putF w4.heap.size W.heap.size w2.heap.size] 103) :: Blk _ (W.heap.size + 1 + 1) (.cells #[.slice a run.length cap] 22) :: Blk _ w4.heap.size (.cells #[.int .i64 (l.first + (run.length : Int))] 3) :: Blk _ W.heap.size (.cells #[pv g] 28) :: Blk _ w2.heap.size (.cells #[.int .u32 (vu q)] 53) :: (Blk _ wr.heap.size (.cells #[.func (.func 60) #[] #[.pointer (some ⟨w4.heap.size + 1, 0, none⟩), .pointer (some ⟨W.heap.size + 1 + 1, 0, none⟩)], .func (.func 41) #[pv g] #[]] 82) :: Blk _ (W.heap.size + 1) (.cells #[.int .i64 l.first, .int .i64 l.size] 27) :: l1 ++ DevR _ g D :: l2))) ∧ (k = 1 → E = 0 ∧ Has w W' (Blk _ w4.heap.size (.cells #[.int .i64 (l.first + (run.length : Int) + 1)] 3) :: Blk _ W.heap.size (.cells #[pv g] 28) :: Blk _ w2.heap.size (.cells #[.int .u32 (vu q)] 53) :: (Blk _ (w4.heap.size + 1) (.cells #[putF w4.heap.size W.heap.size w2.heap.size] 103) :: Blk _ (W.heap.size + 1 + 1) (.cells #[.slice a run.length cap] 22) :: Blk _ wr.heap.size (.cells #[.func (.func 60) #[] #[.pointer (some ⟨w4.heap.size + 1, 0, none⟩), .pointer (some ⟨W.heap.size + 1 + 1, 0, none⟩)], .func (.func 41) #[pv g] #[]] 82) :: Blk _ (W.heap.size + 1) (.cells #[.int .i64 l.first, .int .i64 l.size] 27) :: l1 ++ DevR _ g D1 :: l2))) ∧ (k = 2 → E = 0 ∧ D1.flushE = 0 ∧ Has w W' (Blk _ w4.heap.size (.cells #[.int .i64 (l.first + (run.length : Int) + 1)] 3) :: Blk _ W.heap.size (.cells #[pv g] 28) :: Blk _ w2.heap.size (.cells #[.int .u32 (vu q)] 53) :: (Blk _ (w4.heap.size + 1) (.cells #[putF w4.heap.size W.heap.size w2.heap.size] 103) :: Blk _ (W.heap.size + 1 + 1) (.cells #[.slice a run.length cap] 22) :: Blk _ wr.heap.size (.cells #[.func (.func 60) #[] #[.pointer (some ⟨w4.heap.size + 1, 0, none⟩), .pointer (some ⟨W.heap.size + 1 + 1, 0, none⟩)], .func (.func 41) #[pv g] #[]] 82) :: Blk _ (W.heap.size + 1) (.cells #[.int .i64 l.first, .int .i64 l.size] 27) :: l1 ++ DevR _ g D1.flush :: l2)))) _ _ (by simp) ⟨fun _ => h3, fun h => absurd h (by decide), fun h => absurd h (by decide)⟩ ?_ ?_ ?_ ?_
            · intro k W' f hI hf
              match k, hf with
              | 0, hf => injection hf with hf; subst hf; exact (hI.1 rfl).cell 5 _ _ _ rfl 0 _ rfl
              | 1, hf => injection hf with hf; subst hf; exact (hI.2.1 rfl).2.cell 5 _ _ _ rfl 1 _ rfl
              | (n + 2), hf => simp at hf
            · intro k f hf W' hI
              match k, hf with
              | 0, hf =>
                injection hf with hf; subst hf
                refine (log2_at (Blk _ wr.heap.size (.cells #[.func (.func 60) #[] #[.pointer (some ⟨w4.heap.size + 1, 0, none⟩), .pointer (some ⟨W.heap.size + 1 + 1, 0, none⟩)], .func (.func 41) #[pv g] #[]] 82) :: Blk _ (W.heap.size + 1) (.cells #[.int .i64 l.first, .int .i64 l.size] 27) :: l1) (hI.1 rfl) (by omega) (by omega) HHL.out).mono ?_
                rintro e w' ⟨rfl, h'⟩
                rw [← hE]
                rw [← hD1] at h'
                refine ⟨E, rfl, fun h0 => ⟨fun h => absurd h (by decide), fun _ => ⟨h0, h'⟩, fun h => absurd h (by decide)⟩, fun h0 => ?_⟩
                rw [hRE, if_pos h0]
                exact ⟨rfl, h'.drop.drop.drop.drop.drop.drop.drop⟩
              | 1, hf =>
                injection hf with hf; subst hf
                obtain ⟨he0, h1⟩ := hI.2.1 rfl
                refine (flush_at (_ :: _ :: _ :: _ :: _ :: _ :: _ :: l1) h1).mono ?_
                rintro e w' ⟨rfl, h'⟩
                refine ⟨_, rfl, fun h0 => ⟨fun h => absurd h (by decide), fun h => absurd h (by decide), fun _ => ⟨he0, h0, h'⟩⟩, fun h0 => ?_⟩
                rw [hRE, if_neg (by rw [he0]; simp)]
                exact ⟨rfl, h'.drop.drop.drop.drop.drop.drop.drop⟩
              | (n + 2), hf => simp at hf
            · intro k f hf
              match k, hf with
              | 0, hf => injection hf with hf; subst hf; exact fun args w => enter_fn Tryd.func60 (by kernel_rfl) rfl args w
              | 1, hf => injection hf with hf; subst hf; exact fun args w => enter_fn Tryd.func41 (by kernel_rfl) rfl args w
              | (n + 2), hf => simp at hf
            · intro W' hI
              obtain ⟨he0, hf0, h'⟩ := hI.2.2 rfl
              rw [hRE, if_neg (by rw [he0]; simp)]
              exact ⟨hf0.symm, h'.drop.drop.drop.drop.drop.drop.drop⟩
          clear h2 h3 hH hz hpk hsp hdr hRE hE hD1 hD
          go_wp2_with fail
          refine HT.out.mono ?_
          clear HT
          rintro e w5 ⟨c, rfl, rfl, h5⟩
          have H5 := Lib.hid h5
          clear h5
          go_wp2_with fail
          go_ret
          exact ⟨rfl, H5.out⟩
    · have hv1 : (V != 0) = true := by simpa using hv0
      have HE : Hid (R = (S, V)) := by rw [HRD.out, if_neg (by simp), if_pos hv0]; exact Lib.hid rfl
      have H4 := Lib.hid h4.drop.drop.drop.drop
      clear hv0 h4 HRD
      go_wp2_with fail
      go_ret
      exact ⟨by rw [HE.out]; rfl, by rw [HE.out]; exact H4.out⟩
  · have hc2 : (c != 0) = true := by simpa using hc
    have HE : Hid (R = (S, c)) := by rw [HRD.out, if_pos hc]; exact Lib.hid rfl
    have H4 := Lib.hid H3.out.drop.drop.drop.drop
    clear hc HRD H3 d0 y0 y1 v0 HCK
    go_wp2_with fail
    go_ret
    exact ⟨by rw [HE.out]; rfl, by rw [HE.out]; exact H4.out⟩
end Go.Proofs.YtfbkfdoekgnldaaDoor
