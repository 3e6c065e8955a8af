/- The walks of a device's calls that only read it: ok, ready, at, reads, Read, Pending, Taken, On, Sectors. The walks of a device's calls Read, Pending, Taken, On, Sectors, Limit. -/
import Derived.Test.YtfbkfdoekgnldaaGreatDoorDevAt
import Derived.Deep.RegionHeld3
import Derived.Laws.Cover3
namespace Go.Proofs.YtfbkfdoekgnldaaGreatDoor
open Go.RowKit
attribute [local go_sem] Oper.semAt_some
theorem map_ne (w : World) (t : TypeId) (m : Option Nat) (h : Tryz.prog.underlying t = some (.map 3 3)) : (binOp .neq t (.map m) (.map none)).run Tryz.prog w = .ok (.bool m.isSome) w := by
  simp only [binOp]
  have := run_equal_map_nil (P := Tryz.prog) w t 3 3 m h
  rw [Op.equal] at this
  cases m <;> simp [Op.equal, this, Result.andThen]
/-- a pointer to a device -/
abbrev pv (g : Nat) : Value := .pointer (some ⟨g, 0, none⟩)
set_option maxRecDepth 100000 in
theorem dev_ok0 {W : World} {g mb : Nat} (c5 : W.cell? ⟨g, 5, none⟩ = some (.map (some mb))) :
    Calls Tryz.prog 40 #[pv g] W fun e w' => e = .returned (.bool true) ∧ w' = W := by
  have hne := map_ne W 88 (some mb) Tryz.underlying88
  go_enter Tryz.func40, Tryz.ntmps40
  go_wp2
  go_ret
  exact ⟨rfl, rfl⟩
theorem dev_ok {W : World} {g mb : Nat} {S : Dv} {vS vC : Value} (h : DevIn W g S vS vC mb) :
    Calls Tryz.prog 40 #[pv g] W fun e w' => e = .returned (.bool true) ∧ w' = W := dev_ok0 h.c5
set_option maxRecDepth 100000 in
theorem dev_ready {W : World} {g mb : Nat} {S : Dv} {vS vC : Value} (h : DevIn W g S vS vC mb) :
    Calls Tryz.prog 93 #[pv g] W fun e w' => e = .returned (.int .i64 (if S.off then 13 else 0)) ∧ w' = W := by
  have c4 := h.c4
  have H := Lib.hid (dev_ok h)
  cases hb : S.off
  all_goals
    rw [hb] at c4
    clear hb
    go_enter Tryz.func93, Tryz.ntmps93
    go_wp2_with (go_at_call 40; refine H.out.mono ?_; rintro e w' ⟨rfl, rfl⟩)
    go_ret
    exact ⟨rfl, rfl⟩
set_option maxRecDepth 100000 in
theorem dev_at {W : World} {g mb : Nat} {S : Dv} {vS vC : Value} (h : DevIn W g S vS vC mb) (n : Int) :
    Calls Tryz.prog 85 #[pv g, .int .i64 n] W fun e w' => e = .returned (.int .i64 (S.at n)) ∧ w' = W := by
  obtain ⟨a, cap, rfl, hc1, hc2⟩ := h.hS.shape
  have c0 := h.c0
  have H := Lib.hid (dev_ready h)
  unfold Dv.at
  cases hb : S.off
  · by_cases h1 : n < 0
    · have HV := Lib.hid (show (if n < 0 ∨ (S.st.length : Int) ≤ n then (7 : Int) else 0) = 7 from if_pos (.inl h1))
      rw [hb] at H
      clear hb
      go_enter Tryz.func85, Tryz.ntmps85
      go_wp2_with (go_at_call 93; refine H.out.mono ?_; rintro e w' ⟨rfl, rfl⟩)
      go_ret
      exact ⟨by simp, rfl⟩
    · by_cases h2 : (S.st.length : Int) ≤ n
      · have HV := Lib.hid (show (if n < 0 ∨ (S.st.length : Int) ≤ n then (7 : Int) else 0) = 7 from if_pos (.inr h2))
        rw [hb] at H
        clear hb
        go_enter Tryz.func85, Tryz.ntmps85
        go_wp2_with (go_at_call 93; refine H.out.mono ?_; rintro e w' ⟨rfl, rfl⟩)
        go_ret
        exact ⟨by simp, rfl⟩
      · have HV := Lib.hid (show (if n < 0 ∨ (S.st.length : Int) ≤ n then (7 : Int) else 0) = 0 from if_neg (by omega))
        rw [hb] at H
        clear hb
        go_enter Tryz.func85, Tryz.ntmps85
        go_wp2_with (go_at_call 93; refine H.out.mono ?_; rintro e w' ⟨rfl, rfl⟩)
        go_ret
        exact ⟨by simp, rfl⟩
  · rw [hb] at H
    clear hb
    go_enter Tryz.func85, Tryz.ntmps85
    go_wp2_with (go_at_call 93; refine H.out.mono ?_; rintro e w' ⟨rfl, rfl⟩)
    go_ret
    exact ⟨rfl, rfl⟩
theorem wf_small (k : Int) (h1 : -9223372036854775808 ≤ k) (h2 : k ≤ 9223372036854775807) : (Lit.int .i64 k).wf = true := by
  simp only [Lit.wf, Bool.and_eq_true, decide_eq_true_eq]
  have e1 : IntKind.i64.min = -9223372036854775808 := by decide
  have e2 : IntKind.i64.max = 9223372036854775807 := by decide
  omega
set_option maxRecDepth 100000 in
theorem dev_reads {W : World} {g mb : Nat} {S : Dv} {vS vC : Value} (h : DevIn W g S vS vC mb) (n : Nat) (hn : n < S.st.length) :
    Calls Tryz.prog 86 #[pv g, .int .i64 (n : Int)] W fun e w' => (∃ b o, e = .returned (.pointer (some ⟨b, o, none⟩)) ∧ W.rangeAt b o (secL (S.look n))) ∧ w' = W := by
  have s2 := h.ok.s2
  have hl := h.hM.look n (wf_small _ (by omega) (by omega))
  have c5 := h.c5
  cases hx : newest S.ca n with
  | some i =>
    obtain ⟨s, h1, h2⟩ := newest_some hx
    obtain ⟨b, cap, rfl, _, hr⟩ := h.hC.range wrL_len i _ h1
    have c1 := h.c1
    have hi : i < S.ca.length := (List.getElem?_eq_some_iff.1 h1).1
    have hix := fun w => run_index_wr b S.ca.length cap i hi w
    have hlk : (Instr.lookup 88 (.map (some mb)) (.int .i64 n) true).run Tryz.prog W = .ok (.tuple #[.int .i64 (i : Int), .bool true]) W := by rw [hl, newM, hx]; rfl
    have HL := Lib.hid (show S.look n = s by unfold Dv.look; rw [h2]; rfl)
    clear hl hx h1 h2
    go_enter Tryz.func86, Tryz.ntmps86
    go_wp2
    go_ret
    refine ⟨⟨_, _, rfl, ?_⟩, rfl⟩
    rw [HL.out]
    intro j v hv
    have := hr (j + 1) v (by simpa [wrL] using hv)
    rwa [show i * 129 + (j + 1) = i * 129 + 1 + j by omega] at this
  | none =>
    have h2 := newest_none hx
    obtain ⟨s, hs⟩ : ∃ s, S.st[n]? = some s := ⟨_, List.getElem?_eq_getElem hn⟩
    obtain ⟨b, cap, rfl, _, hr⟩ := h.hS.range secL_len n _ hs
    have c0 := h.c0
    have hix := fun w => run_index_sec b S.st.length cap n hn w
    have hlk : (Instr.lookup 88 (.map (some mb)) (.int .i64 n) true).run Tryz.prog W = .ok (.tuple #[.int .i64 0, .bool false]) W := by rw [hl, newM, hx]; rfl
    have HL := Lib.hid (show S.look n = s by unfold Dv.look; rw [h2]; simp [hs])
    clear hl hx h2
    go_enter Tryz.func86, Tryz.ntmps86
    go_wp2
    go_ret
    exact ⟨⟨_, _, rfl, by rw [HL.out]; exact hr⟩, rfl⟩
/-- what Read returns -/
def Dv.readV (S : Dv) (n : Int) : Value := .tuple #[.agg (sec (if S.at n = 0 then S.look n else zsec)), .int .i64 (S.at n)]
theorem there_row {W : World} {b : Nat} {C : Array Value} {t : TypeId} (h : W.heap[b]? = some (.cells C t (0, 0))) (n : Nat) (hn : n ≤ C.size) : W.there b 0 n := fun j hj => by
  rw [cell_of_row W b _ _ _ _ h]
  exact ⟨by simp; omega, frozen_of_row W b _ _ _ h⟩
end Go.Proofs.YtfbkfdoekgnldaaGreatDoor
namespace Go.Proofs.YtfbkfdoekgnldaaGreatDoor
open Go.RowKit
attribute [local go_sem] Oper.semAt_some
theorem DevIn.below {W W' : World} {g mb : Nat} {S : Dv} {vS vC : Value} (h : DevIn W g S vS vC mb) (hb : Below W.heap.size W W') : DevIn W' g S vS vC mb :=
  h.stay (fun k hk => hb.block k (h.lt k hk))
theorem DevIn.alloc {W : World} {g mb : Nat} {S : Dv} {vS vC : Value} (h : DevIn W g S vS vC mb) (o : Obj) : DevIn (W.alloc o) g S vS vC mb :=
  h.below ((Below.refl _ _).alloc (Nat.le_refl _) o)
theorem DevIn.drew {W : World} {g mb : Nat} {S : Dv} {vS vC : Value} (h : DevIn W g S vS vC mb) : DevIn W.drew g S vS vC mb := h.stay (fun _ _ => rfl)
theorem rangeAt_below {W W' : World} {b o : Nat} {cs : List Value} (h : W.rangeAt b o cs) (hb : Below W.heap.size W W') : W'.rangeAt b o cs := fun j v hv => by
  have hc := h j v hv
  exact (hb.cell (p := ⟨b, o + j, none⟩) (block_lt_of_cell hc)).trans hc
theorem secL_size (s : Sector) : (Tryz.prog.info? 53).map (·.size) = some (secL s).length := by rw [secL_len]; exact sector_size
theorem secL_arr (s : Sector) : (secL s).toArray = sec s := by simp [secL]
/-- a sector out of the midst of a block -/
theorem wpList_load_secmid {ops : Array Oper} {rest : List Oper} {o : Oper} {a : Act} {w : World} {Q : Exit → Act → World → Prop} (hgd : o.guard = none) (x : Operand) (ho : o.op = .load 53 x)
    (b i : Nat) (s : Sector) (hx : a.eval x = .pointer (some ⟨b, i, none⟩)) (hr : w.rangeAt b i (secL s))
    (h : wpList Tryz.prog ops Q rest (a.put o.dst (.agg (sec s))) w) : wpList Tryz.prog ops Q (o :: rest) a w :=
  wpList_load_mid hgd _ x ho b i hx (secL s) _ hr Tryz.underlying53 rfl (secL_size s) (by rw [secL_arr]; exact h)
set_option maxRecDepth 100000 in
set_option maxHeartbeats 1000000 in
theorem dev_read {W : World} {g mb : Nat} {S : Dv} {vS vC : Value} (h : DevIn W g S vS vC mb) (n : Int) :
    Calls Tryz.prog 52 #[pv g, .int .i64 n] W fun e w' => e = .returned (S.readV n) ∧ Below W.heap.size W w' := by
  have hB : Below W.heap.size W (W.alloc (.cells (sec zsec) 53)) := (Below.refl _ _).alloc (Nat.le_refl _) _
  have h' := h.alloc (.cells (sec zsec) 53)
  have HA := Lib.hid (dev_at h' n)
  by_cases hz : S.at n = 0
  · have hn : 0 ≤ n ∧ n < S.st.length := by
      unfold Dv.at at hz
      split at hz
      · simp at hz
      · split at hz
        · simp at hz
        · omega
    obtain ⟨m, rfl⟩ : ∃ m : Nat, n = m := ⟨n.toNat, by omega⟩
    have HR := Lib.hid (dev_reads h' m (by omega))
    have HV := Lib.hid (show S.readV m = .tuple #[.agg (sec (S.look m)), .int .i64 0] by unfold Dv.readV; rw [if_pos hz, hz])
    rw [hz] at HA
    clear h h'
    go_enter Tryz.func52, Tryz.ntmps52
    go_wp2_with (first | (with_reducible refine wpList_alloc_sector rfl rfl ?_) | (go_at_call 85; refine HA.out.mono ?_; rintro e w' ⟨rfl, rfl⟩))
    refine HR.out.mono ?_
    rintro e w' ⟨⟨b, o, rfl, hr⟩, rfl⟩
    go_wp2_with (first | ((with_reducible refine wpList_load_secmid rfl _ rfl b o (S.look m) ?_ hr ?_); rfl) | ((with_reducible refine wpList_store_sector rfl _ _ rfl W.heap.size (S.look m) zsec ?_ ?_ ?_ ?_); rfl; rfl; exact heap_alloc_new _ _))
    refine bodyPost_ret (results_sector2 rfl _ _ W.heap.size (S.look m) rfl (setRow_heap _ _ _ _ _ _ (heap_alloc_new _ _))) rfl ⟨by rw [HV.out]; rfl, ?_⟩
    exact hB.trans ⟨rfl, rfl, rfl, by simp, fun k hk => setRow_other _ _ _ _ (by omega)⟩
  · have HV := Lib.hid (show S.readV n = .tuple #[.agg (sec zsec), .int .i64 (S.at n)] by unfold Dv.readV; rw [if_neg hz])
    have hne : (S.at n == 0) = false := by simpa using hz
    clear h h' hz
    go_enter Tryz.func52, Tryz.ntmps52
    go_wp2_with (first | (with_reducible refine wpList_alloc_sector rfl rfl ?_) | (go_at_call 85; refine HA.out.mono ?_; rintro e w' ⟨rfl, rfl⟩) | (with_reducible refine wpList_build_sector rfl rfl ?_) | ((with_reducible refine wpList_store_sector rfl _ _ rfl W.heap.size zsec zsec ?_ ?_ ?_ ?_); rfl; rfl; exact heap_alloc_new _ _))
    refine bodyPost_ret (results_sector2 rfl _ _ W.heap.size zsec rfl (setRow_heap _ _ _ _ _ _ (heap_alloc_new _ _))) rfl ⟨by rw [HV.out]; rfl, ?_⟩
    exact hB.trans ⟨rfl, rfl, rfl, by simp, fun k hk => setRow_other _ _ _ _ (by omega)⟩
set_option maxRecDepth 100000 in
theorem dev_sectors {W : World} {g mb : Nat} {S : Dv} {vS vC : Value} (h : DevIn W g S vS vC mb) :
    Calls Tryz.prog 91 #[pv g] W fun e w' => e = .returned (.int .i64 S.st.length) ∧ w' = W := by
  have H := Lib.hid (dev_ok h)
  obtain ⟨a, cap, rfl, _, _⟩ := h.hS.shape
  have c0 := h.c0
  clear h
  go_enter Tryz.func91, Tryz.ntmps91
  go_wp2_with (go_at_call 40; refine H.out.mono ?_; rintro e w' ⟨rfl, rfl⟩)
  go_ret
  exact ⟨rfl, rfl⟩
/-- the head's cells, one of them written -/
theorem DevIn.setG {W : World} {g mb : Nat} {S T : Dv} {vS vC : Value} (h : DevIn W g S vS vC mb) (i : Nat) (v : Value) (hc : (devCells vS vC S mb).setIfInBounds i v = devCells vS vC T mb)
    (hst : T.st = S.st) (hca : T.ca = S.ca) (ok : T.Ok) : DevIn (W.setCell ⟨g, i, none⟩ v) g T vS vC mb := by
  have ap := h.apart
  have hs : ∀ k, k ≠ g → (W.setCell ⟨g, i, none⟩ v).heap[k]? = W.heap[k]? := fun k hk => Below.heap_setCell W ⟨g, i, none⟩ v k hk
  refine ⟨?_, ?_, ?_, ?_, ok⟩
  · rw [← hc]; exact heap_setCell_same W g i _ _ _ h.hg
  · rw [hst]; exact h.hS.stay (fun k hk => hs k (fun e => ap.2.1 (e ▸ hk)))
  · rw [hca]; exact h.hC.stay (fun k hk => hs k (fun e => ap.2.2.1 (e ▸ hk)))
  · rw [hca]; exact h.hM.stay (hs mb (fun e => ap.1 e.symm))
set_option maxRecDepth 100000 in
theorem dev_limit {W : World} {g mb : Nat} {S : Dv} {vS vC : Value} (h : DevIn W g S vS vC mb) (n : Int) :
    Calls Tryz.prog 36 #[pv g, .int .i64 n] W fun e w' => e = .returned (.int .i64 (limitE n)) ∧ DevIn w' g (S.limit n) vS vC mb ∧ Only [g] W w' := by
  have H := Lib.hid (dev_ok h)
  have HH := Lib.hid h
  have c3 := h.c3
  have f3 := h.frozen 3
  by_cases h1 : n < -1
  · have HV := Lib.hid (show limitE n = 7 ∧ S.limit n = S from ⟨if_pos (.inl h1), if_pos (.inl h1)⟩)
    clear h
    go_enter Tryz.func36, Tryz.ntmps36
    go_wp2_with (go_at_call 40; refine H.out.mono ?_; rintro e w' ⟨rfl, rfl⟩)
    go_ret
    exact ⟨by rw [HV.out.1]; rfl, by rw [HV.out.2]; exact HH.out, Only.refl _ _⟩
  · by_cases h2 : 1000000000000 < n
    · have HV := Lib.hid (show limitE n = 7 ∧ S.limit n = S from ⟨if_pos (.inr h2), if_pos (.inr h2)⟩)
      clear h
      go_enter Tryz.func36, Tryz.ntmps36
      go_wp2_with (go_at_call 40; refine H.out.mono ?_; rintro e w' ⟨rfl, rfl⟩)
      go_ret
      exact ⟨by rw [HV.out.1]; rfl, by rw [HV.out.2]; exact HH.out, Only.refl _ _⟩
    · have HV := Lib.hid (show limitE n = 0 ∧ S.limit n = { S with power := n } from ⟨if_neg (by omega), if_neg (by omega)⟩)
      have HO := Lib.hid (Dv.limit_ok h.ok n)
      clear h
      go_enter Tryz.func36, Tryz.ntmps36
      go_wp2_with (go_at_call 40; refine H.out.mono ?_; rintro e w' ⟨rfl, rfl⟩)
      go_ret
      refine ⟨by rw [HV.out.1]; rfl, ?_, (Only.refl _ _).setCell _ _ (.inl (by simp))⟩
      have hok := HO.out
      rw [HV.out.2] at hok ⊢
      exact HH.out.setG 3 _ rfl rfl rfl hok
end Go.Proofs.YtfbkfdoekgnldaaGreatDoor
