/- The journal of the reference: Check, Head; what its calls leave. The reference's small functions: Most, inside, two, device, has, record. The reference's Look. The journal of the reference: Clear, Commit. The reference's valid. The reference's Apply. The reference's Log. The reference's Commit. The reference's Replay. The reference's Format. -/
import Derived.Test.YtfbkfdoekgnldaaGreatDoorRefGP
import Derived.Test.YtfbkfdoekgnldaaGreatDoorJnBas
import Derived.Test.YtfbkfdoekgnldaaGreatDoorJnComB
namespace Go.Proofs.YtfbkfdoekgnldaaGreatDoor
open Go.RowKit
open Lime
attribute [local go_sem] Oper.semAt_some setRow_alloc_at setRow_alloc_past setRow_drew g_same32 g_eq32 g_ne32
set_option maxHeartbeats 1000000 in
theorem refcheck (l : Lay) (w : World) :
    Calls Tryz.prog 73 #[.agg #[.int .i64 l.first, .int .i64 l.size]] w fun e w' => e = .returned (.int .i64 l.check) ∧ Below w.heap.size w w' := by
  obtain ⟨f, s⟩ := l
  have HB := Lib.hid ((Below.refl _ w).alloc (Nat.le_refl _) (.cells #[.int .i64 f, .int .i64 s] 23))
  unfold Lay.check
  dsimp only
  by_cases h1 : s < 8
  · rw [if_pos (.inl h1)]
    go_enter Tryz.func73, Tryz.ntmps73
    go_wp2_with fail
    go_ret
    exact ⟨rfl, HB.out⟩
  by_cases h2 : 96 < s
  · rw [if_pos (.inr (.inl h2))]
    go_enter Tryz.func73, Tryz.ntmps73
    go_wp2_with fail
    go_ret
    exact ⟨rfl, HB.out⟩
  by_cases h3 : f < 0
  · rw [if_pos (.inr (.inr (.inl h3)))]
    go_enter Tryz.func73, Tryz.ntmps73
    go_wp2_with fail
    go_ret
    exact ⟨rfl, HB.out⟩
  have hw : wrap64 (256 - s) = 256 - s := by unfold wrap64; omega
  by_cases h4 : 256 - s < f
  · rw [if_pos (.inr (.inr (.inr h4)))]
    go_enter Tryz.func73, Tryz.ntmps73
    go_wp2_with fail
    go_ret
    exact ⟨rfl, HB.out⟩
  · rw [if_neg (by omega)]
    go_enter Tryz.func73, Tryz.ntmps73
    go_wp2_with fail
    go_ret
    exact ⟨rfl, HB.out⟩
/-- the blocks of a state are those of another, or new -/
def Sub (n : Nat) (S0 : Dv) (uS uC : Value) (S : Dv) (vS vC : Value) : Prop := ∀ k ∈ blksL vS S.st ++ blksL vC S.ca, k ∈ blksL uS S0.st ++ blksL uC S0.ca ∨ n ≤ k
theorem Sub.rfl' {n : Nat} {S0 : Dv} {uS uC : Value} : Sub n S0 uS uC S0 uS uC := fun _ h => .inl h
theorem Has.stStep {w W W' : World} (l1 : List (Res w.heap.size)) {l2 : List (Res w.heap.size)} {S0 S S' : Dv} {uS uC vS vC : Value} {code : Int} {e : Ending} (h : Has w W (l1 ++ StR _ vS vC S :: l2)) (hs : Sub w.heap.size S0 uS uC S vS vC) (hr : StRes W S vS vC S' code e W') :
    ∃ bS kS bC kC, e = .returned (.tuple #[.agg #[.slice bS S'.st.length kS, .slice bC S'.ca.length kC, .int .i64 S'.taken, .int .i64 S'.power, .bool S'.off], .int .i64 code]) ∧ Has w W' (l1 ++ StR _ (.slice bS S'.st.length kS) (.slice bC S'.ca.length kC) S' :: l2) ∧ Sub w.heap.size S0 uS uC S' (.slice bS S'.st.length kS) (.slice bC S'.ca.length kC) := by
  have hB := h.hB
  obtain ⟨xS, xC, rfl, hin, hk, hB2⟩ := hr
  have h2 := (h.perm List.perm_middle).stGo hin hk hB2
  obtain ⟨⟨bS, kS, rfl, _⟩, ⟨bC, kC, rfl, _⟩, _, _⟩ := hin
  exact ⟨bS, kS, bC, kC, rfl, h2.perm List.perm_middle.symm, fun k hk2 => by
    rcases hk k hk2 with h3 | h3
    · exact hs k h3
    · exact .inr (Nat.le_trans hB.size h3)⟩
theorem Has.stEnd {w W : World} {rs : List (Res w.heap.size)} {S0 S : Dv} {uS uC vS vC : Value} {code : Int} (h : Has w W rs) (hm : StR _ vS vC S ∈ rs) (hs : Sub w.heap.size S0 uS uC S vS vC) :
    StRes w S0 uS uC S code (.returned (.tuple #[.agg #[vS, vC, .int .i64 S.taken, .int .i64 S.power, .bool S.off], .int .i64 code])) W :=
  ⟨vS, vC, rfl, h.st hm, hs, h.hB⟩
/-- a state, a number and an error -/
def StRes3 (W : World) (S : Dv) (uS uC : Value) (S' : Dv) (m code : Int) (e : Ending) (W' : World) : Prop :=
  ∃ vS vC, e = .returned (.tuple #[.agg (stCells vS vC S'), .int .i64 m, .int .i64 code]) ∧ StIn W' S' vS vC ∧ Sub W.heap.size S uS uC S' vS vC ∧ Below W.heap.size W W'
theorem Has.stStep3 {w W W' : World} (l1 : List (Res w.heap.size)) {l2 : List (Res w.heap.size)} {S0 S S' : Dv} {uS uC vS vC : Value} {m code : Int} {e : Ending} (h : Has w W (l1 ++ StR _ vS vC S :: l2)) (hs : Sub w.heap.size S0 uS uC S vS vC) (hr : StRes3 W S vS vC S' m code e W') :
    ∃ bS kS bC kC, e = .returned (.tuple #[.agg #[.slice bS S'.st.length kS, .slice bC S'.ca.length kC, .int .i64 S'.taken, .int .i64 S'.power, .bool S'.off], .int .i64 m, .int .i64 code]) ∧ Has w W' (l1 ++ StR _ (.slice bS S'.st.length kS) (.slice bC S'.ca.length kC) S' :: l2) ∧ Sub w.heap.size S0 uS uC S' (.slice bS S'.st.length kS) (.slice bC S'.ca.length kC) := by
  have hB := h.hB
  obtain ⟨xS, xC, rfl, hin, hk, hB2⟩ := hr
  have h2 := (h.perm List.perm_middle).stGo hin hk hB2
  obtain ⟨⟨bS, kS, rfl, _⟩, ⟨bC, kC, rfl, _⟩, _, _⟩ := hin
  exact ⟨bS, kS, bC, kC, rfl, h2.perm List.perm_middle.symm, fun k hk2 => by
    rcases hk k hk2 with h3 | h3
    · exact hs k h3
    · exact .inr (Nat.le_trans hB.size h3)⟩
theorem Has.stEnd3 {w W : World} {rs : List (Res w.heap.size)} {S0 S : Dv} {uS uC vS vC : Value} {m code : Int} (h : Has w W rs) (hm : StR _ vS vC S ∈ rs) (hs : Sub w.heap.size S0 uS uC S vS vC) :
    StRes3 w S0 uS uC S m code (.returned (.tuple #[.agg #[vS, vC, .int .i64 S.taken, .int .i64 S.power, .bool S.off], .int .i64 m, .int .i64 code])) W :=
  ⟨vS, vC, rfl, h.st hm, hs, h.hB⟩
theorem results_st3 {fn : Func} {p q r : Tmp} (h : fn.results = #[.cell p 34, .tmp q, .tmp r]) (tmps : Array Value) (w : World) (g : Nat) (cs : Array Value)
    (hp : tmps.getD p undef = .pointer (some ⟨g, 0, none⟩)) (hg : w.heap[g]? = some (.cells cs 34 (0, 0))) (hc : cs.size = 5) :
    (results fn tmps).run Tryz.prog w = .ok (.tuple #[.agg cs, tmps.getD q undef, tmps.getD r undef]) w := by
  have hp' : tmps[p]?.getD undef = .pointer (some ⟨g, 0, none⟩) := by simpa using hp
  have hl := run_loadVar_row (P := Tryz.prog) w g _ _ _ _ _ hg Tryz.underlying34 rfl (by rw [hc]; exact st_size)
  simp [results, h, hp', asAddr, hl]
theorem refget_ret {w W : World} {rs : List (Res w.heap.size)} {S : Dv} {uS uC : Value} (h : Has w W rs) (hr : StR _ uS uC S ∈ rs) (p : Int) :
    Calls Tryz.prog 68 #[.agg #[uS, uC, .int .i64 S.taken, .int .i64 S.power, .bool S.off], .int .i64 p] W fun e w' => e = .returned (.tuple #[.agg #[.int .i64 (S.get p).1.k, .int .u32 (vu (S.get p).1.q), .string (S.get p).1.d], .int .i64 (S.get p).2]) ∧ Has w w' rs := by
  rw [← get_value]; exact refget_has h hr p
theorem Has.rdCell {w W : World} {rs : List (Res w.heap.size)} {α : Type} {c : α → List Value} {m : Nat} (h : Has w W rs) (hm : ∀ x, (c x).length = m) {b o n cap : Nat} {l : List α} (hr : RdR _ m c (.slice (some ⟨b, o, none⟩) n cap) l ∈ rs)
    (i : Nat) (x : α) (hx : l[i]? = some x) (j : Nat) (v : Value) (hv : (c x)[j]? = some v) : W.cell? ⟨b, o + i * m + j, none⟩ = some v := by
  obtain ⟨b', o', cap', e, r⟩ := (h.rd hr).elem hm i x hx
  injection e with e1 _ _
  injection e1 with e1
  injection e1 with e1 e2
  subst e1 e2
  exact r j v hv
theorem RdL.addr {α : Type} {c : α → List Value} {m : Nat} {W : World} {a : Option Addr} {n cap : Nat} {l : List α} (h : RdL W m c (.slice a n cap) l) (hm : ∀ x, (c x).length = m) (h0 : 0 < l.length) : ∃ b o, a = some ⟨b, o, none⟩ := by
  obtain ⟨b, o, cap', e, _⟩ := h.elem hm 0 l[0] (List.getElem?_eq_getElem h0)
  injection e with e
  exact ⟨b, o, e⟩
theorem Has.cells5 {w W : World} {rs : List (Res w.heap.size)} (h : Has w W rs) (n g : Nat) (x0 x1 x2 x3 x4 : Value) (t : TypeId) (hx : rs[n]? = some (Blk _ g (.cells #[x0, x1, x2, x3, x4] t (0, 0)))) :
    W.cell? ⟨g, 0, none⟩ = some x0 ∧ W.cell? ⟨g, 1, none⟩ = some x1 ∧ W.cell? ⟨g, 2, none⟩ = some x2 ∧ W.cell? ⟨g, 3, none⟩ = some x3 ∧ W.cell? ⟨g, 4, none⟩ = some x4 ∧
    W.frozen? ⟨g, 0, none⟩ = false ∧ W.frozen? ⟨g, 1, none⟩ = false ∧ W.frozen? ⟨g, 2, none⟩ = false ∧ W.frozen? ⟨g, 3, none⟩ = false ∧ W.frozen? ⟨g, 4, none⟩ = false ∧ g < W.heap.size :=
  ⟨h.cell n _ _ _ hx 0 _ rfl, h.cell n _ _ _ hx 1 _ rfl, h.cell n _ _ _ hx 2 _ rfl, h.cell n _ _ _ hx 3 _ rfl, h.cell n _ _ _ hx 4 _ rfl,
   h.frozen n _ _ _ hx 0, h.frozen n _ _ _ hx 1, h.frozen n _ _ _ hx 2, h.frozen n _ _ _ hx 3, h.frozen n _ _ _ hx 4, (block_lt_of_cell (h.cell n _ _ _ hx 0 _ rfl))⟩
def stA (S : Dv) (aS : Option Addr) (cS : Nat) (aC : Option Addr) (cC : Nat) : Obj := .cells #[.slice aS S.st.length cS, .slice aC S.ca.length cC, .int .i64 S.taken, .int .i64 S.power, .bool S.off] 34
theorem vu_succ (q : BitVec 32) : IntKind.u32.wrap (vu q + 1) = vu (q + 1#32) := by
  rw [IntKind.wrap_u32]; unfold vu; rw [BitVec.toNat_add]; simp
set_option maxHeartbeats 2000000 in
theorem refhead {w W : World} {rs : List (Res w.heap.size)} {S : Dv} {uS uC : Value} (h : Has w W rs) (hr : StR _ uS uC S ∈ rs) (l : Lay) :
    Calls Tryz.prog 31 #[.agg #[uS, uC, .int .i64 S.taken, .int .i64 S.power, .bool S.off], .agg #[.int .i64 l.first, .int .i64 l.size]] W fun e w' => e = .returned (.tuple #[.int .u32 (vu (headM S l).1), .int .i64 (headM S l).2]) ∧ Has w w' rs := by
  have hin := h.st hr
  obtain ⟨⟨aS, cS, rfl, -⟩, ⟨aC, cC, rfl, -⟩, -, -⟩ := hin
  have h1 := (h.alloc (.cells #[.slice aS S.st.length cS, .slice aC S.ca.length cC, .int .i64 S.taken, .int .i64 S.power, .bool S.off] 34)).allocAt (.cells #[.int .i64 l.first, .int .i64 l.size] 23) (W.heap.size + 1) (by simp)
  have HC := Lib.hid (refcheck l ((W.alloc (.cells #[.slice aS S.st.length cS, .slice aC S.ca.length cC, .int .i64 S.taken, .int .i64 S.power, .bool S.off] 34)).alloc (.cells #[.int .i64 l.first, .int .i64 l.size] 23)))
  have H1 := Lib.hid h1
  obtain ⟨c, hcE⟩ : ∃ c, c = l.check := ⟨_, rfl⟩
  obtain ⟨x, hx⟩ : ∃ x, x = S.get l.first := ⟨_, rfl⟩
  have HGET : Hid (∀ W' r1 r2, Has w W' (r1 :: r2 :: rs) → Calls Tryz.prog 68 #[.agg #[.slice aS S.st.length cS, .slice aC S.ca.length cC, .int .i64 S.taken, .int .i64 S.power, .bool S.off], .int .i64 l.first] W' fun e w' => e = .returned (.tuple #[.agg #[.int .i64 x.1.k, .int .u32 (vu x.1.q), .string x.1.d], .int .i64 x.2]) ∧ Has w w' (r1 :: r2 :: rs)) :=
    fun W' r1 r2 h' => by rw [hx]; exact refget_ret h' (.tail _ (.tail _ hr)) l.first
  unfold headM
  rw [← hcE] at HC ⊢
  rw [← hx]
  obtain ⟨⟨fk, fq, fd⟩, fe⟩ := x
  dsimp only at HGET ⊢
  obtain ⟨R, hR⟩ : ∃ R : BitVec 32 × Int, R = if c ≠ 0 then (0#32, c) else if fe ≠ 0 then (0#32, fe) else if fk ≠ 1 ∨ fd ≠ ⟨#[]⟩ then (0#32, 6) else (fq, 0) := ⟨_, rfl⟩
  rw [← hR]
  have HR := Lib.hid hR
  clear h h1 hr hcE hx hR
  by_cases hc : c = 0
  · subst hc
    go_enter Tryz.func31, Tryz.ntmps31
    go_wp2_with fail
    refine HC.out.mono ?_
    clear HC
    rintro e w2 ⟨rfl, hB2⟩
    have h2 := H1.out.below hB2
    have c0 := h2.cell 0 _ _ _ rfl 0 _ rfl
    have c1 := h2.cell 0 _ _ _ rfl 1 _ rfl
    have s0 := h2.cell 1 _ _ _ rfl 0 _ rfl
    have s1 := h2.cell 1 _ _ _ rfl 1 _ rfl
    have s2 := h2.cell 1 _ _ _ rfl 2 _ rfl
    have s3 := h2.cell 1 _ _ _ rfl 3 _ rfl
    have s4 := h2.cell 1 _ _ _ rfl 4 _ rfl
    have HG := Lib.hid (HGET.out _ _ _ h2)
    clear h2 hB2 H1 HGET
    go_wp2_with fail
    refine HG.out.mono ?_
    clear HG
    rintro e w3 ⟨rfl, h3⟩
    have h4 := h3.alloc (.cells #[.int .i64 fk, .int .u32 (vu fq), .string fd] 49)
    have H4 := Lib.hid h4.drop.drop.drop
    clear h3 h4 c0 c1 s0 s1 s2 s3 s4
    by_cases he : fe = 0
    · subst he
      by_cases hk : fk = 1
      · subst hk
        by_cases hd : fd = ⟨#[]⟩
        · subst hd
          go_wp2_with fail
          go_ret2
          exact ⟨by rw [HR.out]; rfl, H4.out⟩
        · have hd2 := bytes_none fd hd
          have HE : Hid (R = (0#32, 6)) := by rw [HR.out, if_neg (by simp), if_neg (by simp), if_pos (.inr hd)]; exact Lib.hid rfl
          clear hd
          go_wp2_with fail
          go_ret2
          exact ⟨by rw [HE.out]; rfl, H4.out⟩
      · have hk2 : (fk != 1) = true := by simpa using hk
        have HE : Hid (R = (0#32, 6)) := by rw [HR.out, if_neg (by simp), if_neg (by simp), if_pos (.inl hk)]; exact Lib.hid rfl
        go_wp2_with fail
        go_ret2
        exact ⟨by rw [HE.out]; rfl, H4.out⟩
    · have he2 : (fe != 0) = true := by simpa using he
      have he3 : (fe == 0) = false := by simpa using he
      have HE : Hid (R = (0#32, fe)) := by rw [HR.out, if_neg (by simp), if_pos he]; exact Lib.hid rfl
      go_wp2_with fail
      go_ret2
      exact ⟨by rw [HE.out]; rfl, H4.out⟩
  · have hc2 : (c != 0) = true := by simpa using hc
    have HE : Hid (R = (0#32, c)) := by rw [HR.out, if_pos hc]; exact Lib.hid rfl
    clear hc
    go_enter Tryz.func31, Tryz.ntmps31
    go_wp2_with fail
    refine HC.out.mono ?_
    clear HC
    rintro e w2 ⟨rfl, hB2⟩
    have H2 := Lib.hid (H1.out.below hB2).drop.drop
    clear hB2 H1
    go_wp2_with fail
    go_ret2
    exact ⟨by rw [HE.out]; rfl, H2.out⟩
end Go.Proofs.YtfbkfdoekgnldaaGreatDoor
namespace Go.Proofs.YtfbkfdoekgnldaaGreatDoor
open Go.RowKit
open Lime
attribute [local go_sem] Oper.semAt_some setRow_alloc_at setRow_alloc_past setRow_drew
set_option maxHeartbeats 1000000 in
theorem refinside (l : Lay) (p : Int) (w : World) (hc : l.check = 0) :
    Calls Tryz.prog 97 #[.agg #[.int .i64 l.first, .int .i64 l.size], .int .i64 p] w fun e w' => e = .returned (.bool (l.inside p)) ∧ Below w.heap.size w w' := by
  obtain ⟨c1, c2, c3, c4⟩ := Lay.check_ok hc
  obtain ⟨f, s⟩ := l
  have HB := Lib.hid ((Below.refl _ w).alloc (Nat.le_refl _) (.cells #[.int .i64 f, .int .i64 s] 23))
  unfold Lay.inside
  dsimp only at *
  have hw : wrap64 (f + s) = f + s := by unfold wrap64; omega
  by_cases h1 : f ≤ p
  · by_cases h2 : p < f + s
    · have e : (decide (f ≤ p) && decide (p < f + s)) = true := by simp [h1, h2]
      rw [e]
      clear e
      go_enter Tryz.func97, Tryz.ntmps97
      go_wp2_with fail
      go_ret
      exact ⟨rfl, HB.out⟩
    · have e : (decide (f ≤ p) && decide (p < f + s)) = false := by simp [h2]
      rw [e]
      clear e
      go_enter Tryz.func97, Tryz.ntmps97
      go_wp2_with fail
      go_ret
      exact ⟨rfl, HB.out⟩
  · have e : (decide (f ≤ p) && decide (p < f + s)) = false := by simp [h1]
    rw [e]
    clear e
    go_enter Tryz.func97, Tryz.ntmps97
    go_wp2_with fail
    go_ret
    exact ⟨rfl, HB.out⟩
set_option maxHeartbeats 1000000 in
theorem refmost (l : Lay) (w : World) (hc : l.check = 0) :
    Calls Tryz.prog 72 #[.agg #[.int .i64 l.first, .int .i64 l.size]] w fun e w' => e = .returned (.int .i64 l.most) ∧ Below w.heap.size w w' := by
  obtain ⟨c1, c2, c3, c4⟩ := Lay.check_ok hc
  obtain ⟨f, s⟩ := l
  have HB := Lib.hid ((Below.refl _ w).alloc (Nat.le_refl _) (.cells #[.int .i64 f, .int .i64 s] 23))
  unfold Lay.most
  dsimp only at *
  have hw : wrap64 (s - 2) = s - 2 := by unfold wrap64; omega
  by_cases h : s - 2 ≤ 80
  · rw [Int.min_eq_left (by omega)]
    go_enter Tryz.func72, Tryz.ntmps72
    go_wp2_with fail
    go_ret
    exact ⟨rfl, HB.out⟩
  · rw [Int.min_eq_right (by omega)]
    go_enter Tryz.func72, Tryz.ntmps72
    go_wp2_with fail
    go_ret
    exact ⟨rfl, HB.out⟩
set_option maxHeartbeats 1000000 in
theorem reftwo (n : Int) (h0 : 0 ≤ n) (h1 : n ≤ 1000000000) (w : World) :
    Calls Tryz.prog 65 #[.int .i64 n] w fun e w' => e = .returned (.string (two n)) ∧ Below w.heap.size w w' := by
  obtain ⟨c0, hc0⟩ : ∃ c, c = UInt8.ofNat (n % 256).toNat := ⟨_, rfl⟩
  obtain ⟨c1, hc1⟩ : ∃ c, c = UInt8.ofNat (n / 256 % 256).toNat := ⟨_, rfl⟩
  have e : two n = ⟨#[c0, c1]⟩ := by rw [hc0, hc1]; rfl
  obtain ⟨m0, hm0⟩ : ∃ m, m = n % 256 := ⟨_, rfl⟩
  obtain ⟨m1, hm1⟩ : ∃ m, m = n / 256 := ⟨_, rfl⟩
  have hr : n.tmod 256 = m0 := by rw [hm0]; exact Int.tmod_eq_emod_of_nonneg h0
  have hq : n.tdiv 256 = m1 := by rw [hm1]; exact Int.tdiv_eq_ediv_of_nonneg h0
  have hw0 : IntKind.u8.wrap m0 = vb c0 := by rw [hc0, hm0]; unfold IntKind.wrap vb; simp [IntKind.signed, IntKind.bits]; omega
  have hw1 : IntKind.u8.wrap m1 = vb c1 := by rw [hc1, hm1]; unfold IntKind.wrap vb; simp [IntKind.signed, IntKind.bits]; omega
  have hx0 : wrap64 m0 = m0 := by unfold wrap64; omega
  have hx1 : wrap64 m1 = m1 := by unfold wrap64; omega
  rw [e]
  have HB := Lib.hid ((Below.refl _ w).alloc (Nat.le_refl _) (.cells #[.int .u8 (vb c0), .int .u8 (vb c1)] 5))
  have hb : (w.alloc (.cells #[.int .u8 (vb c0), .int .u8 (vb c1)] 5)).heap[w.heap.size]? = some (.cells #[.int .u8 (vb c0), .int .u8 (vb c1)] 5 (0, 0)) := heap_alloc_new _ _
  have hcv : (convert 96 9 (.slice (some ⟨w.heap.size, 0, none⟩) 2 2)).run Tryz.prog (w.alloc (.cells #[.int .u8 (vb c0), .int .u8 (vb c1)] 5)) = .ok (.string ⟨#[c0, c1]⟩) (w.alloc (.cells #[.int .u8 (vb c0), .int .u8 (vb c1)] 5)) :=
    run_string_bytes _ ⟨w.heap.size, 0, none⟩ [c0, c1] 2 (fun i hi => by
      rw [Addr.add_lit, cell_of_row _ _ _ _ _ _ hb]
      match i, hi with
      | 0, _ => rfl
      | 1, _ => rfl)
  clear e hc0 hc1 hm0 hm1
  go_enter Tryz.func65, Tryz.ntmps65
  go_wp2_with fail
  go_ret
  exact ⟨rfl, HB.out⟩
set_option maxHeartbeats 1000000 in
theorem refdevice (e : Int) (w : World) : Calls Tryz.prog 69 #[.int .i64 e] w fun x w' => x = .returned (.bool (broken e)) ∧ Below w.heap.size w w' := by
  by_cases q1 : e = 13
  · subst q1
    go_enter Tryz.func69, Tryz.ntmps69
    go_wp2_with fail
    go_ret
    exact ⟨rfl, Below.refl _ _⟩
  by_cases q2 : e = 7
  · subst q2
    go_enter Tryz.func69, Tryz.ntmps69
    go_wp2_with fail
    go_ret
    exact ⟨rfl, Below.refl _ _⟩
  by_cases q3 : e = 1
  · subst q3
    go_enter Tryz.func69, Tryz.ntmps69
    go_wp2_with fail
    go_ret
    exact ⟨rfl, Below.refl _ _⟩
  · have e1 : (e == 13) = false := by simpa using q1
    have e2 : (e == 7) = false := by simpa using q2
    have e3 : (e == 1) = false := by simpa using q3
    have e4 : broken e = false := by unfold broken; rw [e1, e2, e3]; rfl
    rw [e4]
    go_enter Tryz.func69, Tryz.ntmps69
    go_wp2_with fail
    go_ret
    exact ⟨rfl, Below.refl _ _⟩
set_option maxHeartbeats 1000000 in
theorem refhas {W : World} {a : Option Addr} {c : Nat} {l : List Rec} (hl : RdL W 3 recL (.slice a l.length c) l) (p : Int) (hlen : l.length ≤ 1000000) :
    Calls Tryz.prog 71 #[.slice a l.length c, .int .i64 p] W fun x w' => x = .returned (.bool (hasAt l p)) ∧ Below W.heap.size W w' := by
  have HL := Lib.hid hl
  clear hl
  go_enter Tryz.func71, Tryz.ntmps71
  go_wp2_with fail
  go_loopw [5] (fun i wr => ∃ j : Nat, i = .int .i64 (j : Int) ∧ j ≤ l.length ∧ Hid (hasAt (l.take j) p = false) ∧ Below W.heap.size W wr) (fun i _ => l.length - (intOf i).toNat)
  case atStart => exact ⟨0, rfl, Nat.zero_le _, Lib.hid rfl, Below.refl _ _⟩
  case round =>
    obtain ⟨j, rfl, hj, ht, hB⟩ := hrel
    by_cases hlt : j < l.length
    · obtain ⟨x, hx⟩ : ∃ x, l[j]? = some x := ⟨_, List.getElem?_eq_getElem hlt⟩
      obtain ⟨b1, o1, c1, e1, r1⟩ := (HL.out.below hB).elem recL_len j x hx
      injection e1 with e1 _ e1c
      subst e1
      have q1 : wr.cell? ⟨b1, o1 + j * 3, none⟩ = some (.int .i64 x.at_) := r1 0 _ rfl
      have hi1 := fun w => run_index_rec b1 o1 l.length c j hlt w
      have hst : hasAt (l.take (j + 1)) p = (x.at_ == p) := by
        have := ht.out
        unfold hasAt at this ⊢
        rw [List.take_add_one, hx, List.any_append, this]
        simp
      have HST := Lib.hid hst
      have HB := Lib.hid hB
      have hjl : (j : Int) < (l.length : Int) := by omega
      by_cases hp : x.at_ = p
      · have hall : hasAt l p = true := by
          unfold hasAt
          rw [List.any_eq_true]
          exact ⟨x, List.mem_of_getElem? hx, by simpa using hp⟩
        have HALL := Lib.hid hall
        clear hst ht hB r1 hx e1c hall
        go_wp2_with fail
        go_ret
        exact ⟨by rw [HALL.out]; rfl, HB.out⟩
      · have hp2 : (x.at_ == p) = false := by simpa using hp
        have HN : Hid (hasAt (l.take (j + 1)) p = false) := by rw [HST.out]; exact Lib.hid hp2
        clear hst ht hB r1 hx e1c
        go_wp2_with fail
        go_roundw
        case rel => exact ⟨j + 1, by go_num, by omega, HN, HB.out⟩
        case measure => simp [intOf]; omega
    · obtain rfl : j = l.length := by omega
      have hall : hasAt l p = false := by have := ht.out; rwa [List.take_length] at this
      have HALL := Lib.hid hall
      have HB := Lib.hid hB
      clear ht hB hall
      go_wp2_with fail
      go_ret
      exact ⟨by rw [HALL.out]; rfl, HB.out⟩
/-- is it a record of a layout? -/
def recIs (l : Lay) (d : ByteArray) : Bool := decide ((recOf d).at_ < 256) && !l.inside (recOf d).at_ && decide (1 ≤ (recOf d).kind)
/-- what record returns -/
def RecRes (l : Lay) (fd : ByteArray) (W : World) (e : Ending) (w' : World) : Prop := ∃ (r : Rec) (is : Bool), e = .returned (.tuple #[.agg #[.int .i64 r.at_, .int .i64 r.kind, .string r.data], .bool is]) ∧
      (3 ≤ fd.size ∧ fd.size ≤ 99 → r = recOf fd ∧ is = recIs l fd) ∧ (¬ (3 ≤ fd.size ∧ fd.size ≤ 99) → is = false) ∧ Below W.heap.size W w'
set_option maxRecDepth 100000 in
set_option maxHeartbeats 4000000 in
theorem refrecord (l : Lay) (hc : l.check = 0) (fd : ByteArray) (hf : fd.size ≤ 120) (W : World) :
    Calls Tryz.prog 70 #[.agg #[.int .i64 l.first, .int .i64 l.size], .string fd] W (RecRes l fd W) := by
  have h2 := ((Has.start W).alloc (.cells #[.int .i64 l.first, .int .i64 l.size] 23)).allocAt (.cells #[.int .i64 0, .int .i64 0, .string ⟨#[]⟩] 60) (W.heap.size + 1) (by simp)
  have H2 := Lib.hid h2
  clear h2
  by_cases q : 3 ≤ fd.size ∧ fd.size ≤ 99
  · obtain ⟨q2, q3⟩ := q
    have i0 := byte_at fd 0 (by omega)
    have i1 := byte_at fd 1 (by omega)
    have i2 := byte_at fd 2 (by omega)
    obtain ⟨b0, hb0⟩ : ∃ b, b = byteAt fd 0 := ⟨_, rfl⟩
    obtain ⟨b1, hb1⟩ : ∃ b, b = byteAt fd 1 := ⟨_, rfl⟩
    obtain ⟨b2, hb2⟩ : ∃ b, b = byteAt fd 2 := ⟨_, rfl⟩
    rw [← hb0] at i0
    rw [← hb1] at i1
    rw [← hb2] at i2
    have z0 : 0 < fd.size := by omega
    have z1 : 1 < fd.size := by omega
    have z2 : 2 < fd.size := by omega
    have y1 : 1 < (fd.size : Int) := by omega
    have y2 : 2 < (fd.size : Int) := by omega
    have y3 : 3 ≤ (fd.size : Int) := by omega
    have y4 : (fd.size : Int) ≤ 99 := by omega
    have w0 := wrap_byte b0
    have w1 := wrap_byte b1
    have w2 := wrap_byte b2
    have w3 : IntKind.i64.wrap (256 * vb b1) = 256 * vb b1 := IntWalk.i64_in _ (by have := vb_nonneg b1; have := vb_lt b1; omega)
    obtain ⟨p, hp⟩ : ∃ p : Int, p = vb b0 + 256 * vb b1 := ⟨_, rfl⟩
    obtain ⟨k, hk⟩ : ∃ k : Int, k = vb b2 := ⟨_, rfl⟩
    have w4 : IntKind.i64.wrap (vb b0 + 256 * vb b1) = p := by rw [hp]; exact IntWalk.i64_in _ (by have := vb_nonneg b1; have := vb_lt b1; have := vb_nonneg b0; have := vb_lt b0; omega)
    rw [← hk] at i2 w2
    have HRC : Hid (recOf fd = ⟨p, k, fd.extract 3 fd.size⟩) := by unfold recOf; rw [hp, hk, hb0, hb1, hb2]; exact Lib.hid rfl
    clear hp hk hb0 hb1 hb2
    go_enter Tryz.func70, Tryz.ntmps70
    go_wp2_with fail
    refine wp_region_ordJ (fun _ => True ∧ True ∧ True) (OrdT.takes [0, 1, 2, 3, 4, 5, 6, 7, 8, 9, 10, 11, 12, 13] (.one 14 (.one 15 .done))) (by kernel_rfl) (by kernel_rfl) ⟨trivial, trivial, trivial⟩ (fun wz hz => ?_)
    have h3 := H2.out.drew
    rw [← hz] at h3
    have H4 := Lib.hid (h3.alloc (.cells #[.int .i64 p, .int .i64 k, .string (fd.extract 3 fd.size)] 60))
    clear hz h3 H2
    unfold OrdT.takes
    --ordt myymyyyymyymyy
    (refine' t_move _ _ rfl rfl rfl rfl _ _; rotate_left; (go_simp; with_reducible rfl); simp only [Act.put, List.setIfInBounds_toArray, List.set_cons_zero, List.set_cons_succ])
    iterate 2 (refine' t_yield _ rfl rfl rfl _ _; rotate_left; (intro w' hSw; obtain ⟨s0, s1, s2⟩ := hSw; go_simp; with_reducible rfl); simp only [Act.put, List.setIfInBounds_toArray, List.set_cons_zero, List.set_cons_succ])
    (refine' t_move _ _ rfl rfl rfl rfl _ _; rotate_left; (go_simp; with_reducible rfl); simp only [Act.put, List.setIfInBounds_toArray, List.set_cons_zero, List.set_cons_succ])
    iterate 4 (refine' t_yield _ rfl rfl rfl _ _; rotate_left; (intro w' hSw; obtain ⟨s0, s1, s2⟩ := hSw; go_simp; with_reducible rfl); simp only [Act.put, List.setIfInBounds_toArray, List.set_cons_zero, List.set_cons_succ])
    (refine' t_move _ _ rfl rfl rfl rfl _ _; rotate_left; (go_simp; with_reducible rfl); simp only [Act.put, List.setIfInBounds_toArray, List.set_cons_zero, List.set_cons_succ])
    iterate 2 (refine' t_yield _ rfl rfl rfl _ _; rotate_left; (intro w' hSw; obtain ⟨s0, s1, s2⟩ := hSw; go_simp; with_reducible rfl); simp only [Act.put, List.setIfInBounds_toArray, List.set_cons_zero, List.set_cons_succ])
    (refine' t_move _ _ rfl rfl rfl rfl _ _; rotate_left; (go_simp; with_reducible rfl); simp only [Act.put, List.setIfInBounds_toArray, List.set_cons_zero, List.set_cons_succ])
    iterate 2 (refine' t_yield _ rfl rfl rfl _ _; rotate_left; (intro w' hSw; obtain ⟨s0, s1, s2⟩ := hSw; go_simp; with_reducible rfl); simp only [Act.put, List.setIfInBounds_toArray, List.set_cons_zero, List.set_cons_succ])
    --end
    refine t_one rfl rfl (fun K hK => ?_)
    go_simp
    refine hK _ _ ⟨trivial, trivial, trivial⟩ ?_
    clear hK
    refine t_one rfl rfl (fun K hK => ?_)
    go_simp
    refine hK _ _ ⟨trivial, trivial, trivial⟩ ?_
    clear hK
    refine t_done ?_
    go_wp2_with fail
    have HIN := Lib.hid (fun W' => refinside l p W' hc)
    obtain ⟨ins, hins⟩ : ∃ b, b = l.inside p := ⟨_, rfl⟩
    have HIS : Hid (recIs l fd = (decide (p < 256) && !ins && decide (1 ≤ k))) := by unfold recIs; rw [HRC.out, hins]; exact Lib.hid rfl
    rw [← hins] at HIN
    have HSZ : Hid (∀ (W' : World) z, Has W W' (Blk _ wz.heap.size (.cells #[.int .i64 p, .int .i64 k, .string (fd.extract 3 fd.size)] 60) :: z :: Blk _ W.heap.size (.cells #[.int .i64 l.first, .int .i64 l.size] 23) :: []) → (W'.cell? ⟨W.heap.size, 0, none⟩ = some (.int .i64 l.first) ∧ W'.cell? ⟨W.heap.size, 1, none⟩ = some (.int .i64 l.size)) ∧ (W'.cell? ⟨wz.heap.size, 0, none⟩ = some (.int .i64 p) ∧ W'.cell? ⟨wz.heap.size, 1, none⟩ = some (.int .i64 k) ∧ W'.cell? ⟨wz.heap.size, 2, none⟩ = some (.string (fd.extract 3 fd.size))) ∧ True) :=
      fun W' z h => ⟨⟨h.cell 2 _ _ _ rfl 0 _ rfl, h.cell 2 _ _ _ rfl 1 _ rfl⟩, ⟨h.cell 0 _ _ _ rfl 0 _ rfl, h.cell 0 _ _ _ rfl 1 _ rfl, h.cell 0 _ _ _ rfl 2 _ rfl⟩, trivial⟩
    clear hins hc i0 i1 i2 z0 z1 z2 y1 y2 y3 y4 w0 w1 w2 w3 w4
    by_cases hlt : p < 256
    · cases ins
      · refine wp_region_ordJ (fun W' => (W'.cell? ⟨W.heap.size, 0, none⟩ = some (.int .i64 l.first) ∧ W'.cell? ⟨W.heap.size, 1, none⟩ = some (.int .i64 l.size)) ∧ (W'.cell? ⟨wz.heap.size, 0, none⟩ = some (.int .i64 p) ∧ W'.cell? ⟨wz.heap.size, 1, none⟩ = some (.int .i64 k) ∧ W'.cell? ⟨wz.heap.size, 2, none⟩ = some (.string (fd.extract 3 fd.size))) ∧ True) (OrdT.takes [0, 1, 2, 3, 4, 5, 6, 7] (.one 8 (OrdT.takes [9, 10, 11, 12, 13, 14, 15] (.one 16 (OrdT.takes [17] .done))))) (by kernel_rfl) (by kernel_rfl) (HSZ.out _ _ H4.out.drew) (fun wy hy => ?_)
        have h6 := H4.out.drew
        rw [← hy] at h6
        have H6 := Lib.hid h6
        clear hy h6 H4
        unfold OrdT.takes
        --ordt yyyymyyy
        iterate 4 (refine' t_yield _ rfl rfl rfl _ _; rotate_left; (intro w' hSw; obtain ⟨s0, s1, s2⟩ := hSw; go_simp; with_reducible rfl); simp only [Act.put, List.setIfInBounds_toArray, List.set_cons_zero, List.set_cons_succ])
        (refine' t_move _ _ rfl rfl rfl rfl _ _; rotate_left; (go_simp; with_reducible rfl); simp only [Act.put, List.setIfInBounds_toArray, List.set_cons_zero, List.set_cons_succ])
        iterate 3 (refine' t_yield _ rfl rfl rfl _ _; rotate_left; (intro w' hSw; obtain ⟨s0, s1, s2⟩ := hSw; go_simp; with_reducible rfl); simp only [Act.put, List.setIfInBounds_toArray, List.set_cons_zero, List.set_cons_succ])
        --end
        refine t_one rfl rfl (fun K hK => ?_)
        go_simp
        refine (HIN.out _).mono ?_
        rintro e w8 ⟨rfl, hB8⟩
        have H8 := Lib.hid (H6.out.below hB8)
        clear hB8 H6
        dsimp only
        refine hK _ _ (HSZ.out _ _ H8.out) ?_
        clear hK
        unfold OrdT.takes
        --ordt yymyyyy
        iterate 2 (refine' t_yield _ rfl rfl rfl _ _; rotate_left; (intro w' hSw; obtain ⟨s0, s1, s2⟩ := hSw; go_simp; with_reducible rfl); simp only [Act.put, List.setIfInBounds_toArray, List.set_cons_zero, List.set_cons_succ])
        (refine' t_move _ _ rfl rfl rfl rfl _ _; rotate_left; (go_simp; with_reducible rfl); simp only [Act.put, List.setIfInBounds_toArray, List.set_cons_zero, List.set_cons_succ])
        iterate 4 (refine' t_yield _ rfl rfl rfl _ _; rotate_left; (intro w' hSw; obtain ⟨s0, s1, s2⟩ := hSw; go_simp; with_reducible rfl); simp only [Act.put, List.setIfInBounds_toArray, List.set_cons_zero, List.set_cons_succ])
        --end
        have c0 := H8.out.cell 1 _ _ _ rfl 0 _ rfl
        have c1 := H8.out.cell 1 _ _ _ rfl 1 _ rfl
        have c2 := H8.out.cell 1 _ _ _ rfl 2 _ rfl
        have f0 := H8.out.frozen 1 _ _ _ rfl 0
        have f1 := H8.out.frozen 1 _ _ _ rfl 1
        have f2 := H8.out.frozen 1 _ _ _ rfl 2
        have H9 := Lib.hid (Has.store3 [_] H8.out (.int .i64 p) (.int .i64 k) (.string (fd.extract 3 fd.size)))
        refine t_one rfl rfl (fun K hK => ?_)
        go_simp
        refine hK _ _ (HSZ.out _ _ H9.out) ?_
        clear hK
        unfold OrdT.takes
        --ordt y
        (refine' t_yield _ rfl rfl rfl _ _; rotate_left; (intro w' hSw; obtain ⟨s0, s1, s2⟩ := hSw; go_simp; with_reducible rfl); simp only [Act.put, List.setIfInBounds_toArray, List.set_cons_zero, List.set_cons_succ])
        --end
        refine t_done ?_
        go_wp2_with fail
        refine bodyPost_ret (results_rec2 rfl _ _ (W.heap.size + 1) _ rfl (H9.out.blk 1 _ _ rfl).1 rfl) rfl ?_
        exact ⟨⟨p, k, fd.extract 3 fd.size⟩, _, rfl, fun _ => ⟨HRC.out.symm, by rw [HIS.out]; simp [hlt]⟩, fun h => absurd ⟨q2, q3⟩ h, H9.out.hB⟩
      · refine wp_region_ordJ (fun W' => (W'.cell? ⟨W.heap.size, 0, none⟩ = some (.int .i64 l.first) ∧ W'.cell? ⟨W.heap.size, 1, none⟩ = some (.int .i64 l.size)) ∧ (W'.cell? ⟨wz.heap.size, 0, none⟩ = some (.int .i64 p) ∧ W'.cell? ⟨wz.heap.size, 1, none⟩ = some (.int .i64 k) ∧ W'.cell? ⟨wz.heap.size, 2, none⟩ = some (.string (fd.extract 3 fd.size))) ∧ True) (OrdT.takes [0, 1, 2, 3, 4, 5, 6, 7] (.one 8 (OrdT.takes [9, 10, 11, 12, 13, 14, 15] (.one 16 (OrdT.takes [17] .done))))) (by kernel_rfl) (by kernel_rfl) (HSZ.out _ _ H4.out.drew) (fun wy hy => ?_)
        have h6 := H4.out.drew
        rw [← hy] at h6
        have H6 := Lib.hid h6
        clear hy h6 H4
        unfold OrdT.takes
        --ordt yyyymyyy
        iterate 4 (refine' t_yield _ rfl rfl rfl _ _; rotate_left; (intro w' hSw; obtain ⟨s0, s1, s2⟩ := hSw; go_simp; with_reducible rfl); simp only [Act.put, List.setIfInBounds_toArray, List.set_cons_zero, List.set_cons_succ])
        (refine' t_move _ _ rfl rfl rfl rfl _ _; rotate_left; (go_simp; with_reducible rfl); simp only [Act.put, List.setIfInBounds_toArray, List.set_cons_zero, List.set_cons_succ])
        iterate 3 (refine' t_yield _ rfl rfl rfl _ _; rotate_left; (intro w' hSw; obtain ⟨s0, s1, s2⟩ := hSw; go_simp; with_reducible rfl); simp only [Act.put, List.setIfInBounds_toArray, List.set_cons_zero, List.set_cons_succ])
        --end
        refine t_one rfl rfl (fun K hK => ?_)
        go_simp
        refine (HIN.out _).mono ?_
        rintro e w8 ⟨rfl, hB8⟩
        have H8 := Lib.hid (H6.out.below hB8)
        clear hB8 H6
        dsimp only
        refine hK _ _ (HSZ.out _ _ H8.out) ?_
        clear hK
        unfold OrdT.takes
        --ordt yymsssy
        iterate 2 (refine' t_yield _ rfl rfl rfl _ _; rotate_left; (intro w' hSw; obtain ⟨s0, s1, s2⟩ := hSw; go_simp; with_reducible rfl); simp only [Act.put, List.setIfInBounds_toArray, List.set_cons_zero, List.set_cons_succ])
        (refine' t_move _ _ rfl rfl rfl rfl _ _; rotate_left; (go_simp; with_reducible rfl); simp only [Act.put, List.setIfInBounds_toArray, List.set_cons_zero, List.set_cons_succ])
        iterate 3 (refine t_skip rfl rfl rfl ?_; simp only [Act.put, List.setIfInBounds_toArray, List.set_cons_zero, List.set_cons_succ])
        (refine' t_yield _ rfl rfl rfl _ _; rotate_left; (intro w' hSw; obtain ⟨s0, s1, s2⟩ := hSw; go_simp; with_reducible rfl); simp only [Act.put, List.setIfInBounds_toArray, List.set_cons_zero, List.set_cons_succ])
        --end
        have c0 := H8.out.cell 1 _ _ _ rfl 0 _ rfl
        have c1 := H8.out.cell 1 _ _ _ rfl 1 _ rfl
        have c2 := H8.out.cell 1 _ _ _ rfl 2 _ rfl
        have f0 := H8.out.frozen 1 _ _ _ rfl 0
        have f1 := H8.out.frozen 1 _ _ _ rfl 1
        have f2 := H8.out.frozen 1 _ _ _ rfl 2
        have H9 := Lib.hid (Has.store3 [_] H8.out (.int .i64 p) (.int .i64 k) (.string (fd.extract 3 fd.size)))
        refine t_one rfl rfl (fun K hK => ?_)
        go_simp
        refine hK _ _ (HSZ.out _ _ H9.out) ?_
        clear hK
        unfold OrdT.takes
        --ordt y
        (refine' t_yield _ rfl rfl rfl _ _; rotate_left; (intro w' hSw; obtain ⟨s0, s1, s2⟩ := hSw; go_simp; with_reducible rfl); simp only [Act.put, List.setIfInBounds_toArray, List.set_cons_zero, List.set_cons_succ])
        --end
        refine t_done ?_
        go_wp2_with fail
        refine bodyPost_ret (results_rec2 rfl _ _ (W.heap.size + 1) _ rfl (H9.out.blk 1 _ _ rfl).1 rfl) rfl ?_
        exact ⟨⟨p, k, fd.extract 3 fd.size⟩, _, rfl, fun _ => ⟨HRC.out.symm, by rw [HIS.out]; simp []⟩, fun h => absurd ⟨q2, q3⟩ h, H9.out.hB⟩
    · refine wp_region_ordJ (fun W' => (W'.cell? ⟨W.heap.size, 0, none⟩ = some (.int .i64 l.first) ∧ W'.cell? ⟨W.heap.size, 1, none⟩ = some (.int .i64 l.size)) ∧ (W'.cell? ⟨wz.heap.size, 0, none⟩ = some (.int .i64 p) ∧ W'.cell? ⟨wz.heap.size, 1, none⟩ = some (.int .i64 k) ∧ W'.cell? ⟨wz.heap.size, 2, none⟩ = some (.string (fd.extract 3 fd.size))) ∧ True) (OrdT.takes [0, 1, 2, 3, 4, 5, 6, 7, 8, 9, 10, 11, 12, 13, 14, 15] (.one 16 (OrdT.takes [17] .done))) (by kernel_rfl) (by kernel_rfl) (HSZ.out _ _ H4.out.drew) (fun wy hy => ?_)
      have h6 := H4.out.drew
      rw [← hy] at h6
      have H6 := Lib.hid h6
      clear hy h6 H4
      unfold OrdT.takes
      --ordt yyyymsssssymsssy
      iterate 4 (refine' t_yield _ rfl rfl rfl _ _; rotate_left; (intro w' hSw; obtain ⟨s0, s1, s2⟩ := hSw; go_simp; with_reducible rfl); simp only [Act.put, List.setIfInBounds_toArray, List.set_cons_zero, List.set_cons_succ])
      (refine' t_move _ _ rfl rfl rfl rfl _ _; rotate_left; (go_simp; with_reducible rfl); simp only [Act.put, List.setIfInBounds_toArray, List.set_cons_zero, List.set_cons_succ])
      iterate 5 (refine t_skip rfl rfl rfl ?_; simp only [Act.put, List.setIfInBounds_toArray, List.set_cons_zero, List.set_cons_succ])
      (refine' t_yield _ rfl rfl rfl _ _; rotate_left; (intro w' hSw; obtain ⟨s0, s1, s2⟩ := hSw; go_simp; with_reducible rfl); simp only [Act.put, List.setIfInBounds_toArray, List.set_cons_zero, List.set_cons_succ])
      (refine' t_move _ _ rfl rfl rfl rfl _ _; rotate_left; (go_simp; with_reducible rfl); simp only [Act.put, List.setIfInBounds_toArray, List.set_cons_zero, List.set_cons_succ])
      iterate 3 (refine t_skip rfl rfl rfl ?_; simp only [Act.put, List.setIfInBounds_toArray, List.set_cons_zero, List.set_cons_succ])
      (refine' t_yield _ rfl rfl rfl _ _; rotate_left; (intro w' hSw; obtain ⟨s0, s1, s2⟩ := hSw; go_simp; with_reducible rfl); simp only [Act.put, List.setIfInBounds_toArray, List.set_cons_zero, List.set_cons_succ])
      --end
      have c0 := H6.out.cell 1 _ _ _ rfl 0 _ rfl
      have c1 := H6.out.cell 1 _ _ _ rfl 1 _ rfl
      have c2 := H6.out.cell 1 _ _ _ rfl 2 _ rfl
      have f0 := H6.out.frozen 1 _ _ _ rfl 0
      have f1 := H6.out.frozen 1 _ _ _ rfl 1
      have f2 := H6.out.frozen 1 _ _ _ rfl 2
      have H9 := Lib.hid (Has.store3 [_] H6.out (.int .i64 p) (.int .i64 k) (.string (fd.extract 3 fd.size)))
      refine t_one rfl rfl (fun K hK => ?_)
      go_simp
      refine hK _ _ (HSZ.out _ _ H9.out) ?_
      clear hK
      unfold OrdT.takes
      --ordt y
      (refine' t_yield _ rfl rfl rfl _ _; rotate_left; (intro w' hSw; obtain ⟨s0, s1, s2⟩ := hSw; go_simp; with_reducible rfl); simp only [Act.put, List.setIfInBounds_toArray, List.set_cons_zero, List.set_cons_succ])
      --end
      refine t_done ?_
      go_wp2_with fail
      refine bodyPost_ret (results_rec2 rfl _ _ (W.heap.size + 1) _ rfl (H9.out.blk 1 _ _ rfl).1 rfl) rfl ?_
      exact ⟨⟨p, k, fd.extract 3 fd.size⟩, _, rfl, fun _ => ⟨HRC.out.symm, by rw [HIS.out, decide_eq_false (show ¬ p < 256 by omega)]; rfl⟩, fun h => absurd ⟨q2, q3⟩ h, H9.out.hB⟩
  · have hfs : fd.size < 3 ∨ 99 < fd.size := by omega
    have c0 := H2.out.cell 0 _ _ _ rfl 0 _ rfl
    have c1 := H2.out.cell 0 _ _ _ rfl 1 _ rfl
    have c2 := H2.out.cell 0 _ _ _ rfl 2 _ rfl
    have H3 := Lib.hid (Has.store3 [] H2.out (.int .i64 0) (.int .i64 0) (.string ⟨#[]⟩))
    rcases hfs with hs | hs
    · have hs2 : (fd.size : Int) < 3 := by omega
      go_enter Tryz.func70, Tryz.ntmps70
      go_wp2_with fail
      refine bodyPost_ret (results_rec2 rfl _ _ (W.heap.size + 1) _ rfl (H2.out.blk 0 _ _ rfl).1 rfl) rfl ?_
      exact ⟨⟨0, 0, ⟨#[]⟩⟩, _, rfl, fun h => absurd h q, fun _ => rfl, H2.out.hB⟩
    · have hs2 : 99 < (fd.size : Int) := by omega
      go_enter Tryz.func70, Tryz.ntmps70
      go_wp2_with fail
      refine bodyPost_ret (results_rec2 rfl _ _ (W.heap.size + 1) _ rfl (H2.out.blk 0 _ _ rfl).1 rfl) rfl ?_
      exact ⟨⟨0, 0, ⟨#[]⟩⟩, _, rfl, fun h => absurd h q, fun _ => rfl, H2.out.hB⟩
end Go.Proofs.YtfbkfdoekgnldaaGreatDoor
namespace Go.Proofs.YtfbkfdoekgnldaaGreatDoor
open Go.RowKit
open Lime
attribute [local go_sem] Oper.semAt_some setRow_alloc_at setRow_alloc_past setRow_drew g_same32 g_eq32 g_ne32
theorem takes_eq {S : Dv} {l : Lay} {x : Fr × Int} {q : BitVec 32} {out : List Rec} {r : Rec} {is : Bool} (hm : mine x q = true) (hn : S.st.length ≤ 256) (h1 : 3 ≤ x.1.d.size ∧ x.1.d.size ≤ 99 → r = recOf x.1.d ∧ is = recIs l x.1.d) (h2 : ¬ (3 ≤ x.1.d.size ∧ x.1.d.size ≤ 99) → is = false) :
    takes S l x q out = (x.1.k == 2 && is && decide (r.at_ < (S.st.length : Int)) && !hasAt out r.at_ && decide ((out.length : Int) < l.most)) := by
  unfold takes isRec
  rw [hm]
  by_cases hr : 3 ≤ x.1.d.size ∧ x.1.d.size ≤ 99
  · obtain ⟨e1, e2⟩ := h1 hr
    rw [e1, e2]
    unfold recIs
    rw [decide_eq_true hr.1, decide_eq_true hr.2]
    generalize recOf x.1.d = y
    have e : decide (0 < y.kind) = decide (1 ≤ y.kind) := decide_eq_decide.2 (by omega)
    rw [e]
    by_cases ha : y.at_ < (S.st.length : Int)
    · have hb : y.at_ < 256 := by omega
      rw [decide_eq_true ha, decide_eq_true hb]
      simp [Bool.and_assoc]
    · rw [decide_eq_false ha]
      simp
  · rw [h2 hr]
    have e : (decide (3 ≤ x.1.d.size) && decide (x.1.d.size ≤ 99)) = false := by
      by_cases h3 : 3 ≤ x.1.d.size
      · rw [decide_eq_false (show ¬ x.1.d.size ≤ 99 from fun h4 => hr ⟨h3, h4⟩)]; simp
      · rw [decide_eq_false h3]; simp
    have e2 : (x.1.k == 2 && decide (3 ≤ x.1.d.size) && decide (x.1.d.size ≤ 99)) = false := by rw [Bool.and_assoc, e]; simp
    rw [e2]; simp
theorem lookQ_hit {S : Dv} {l : Lay} {q : BitVec 32} {n : Nat} {i : Int} {out : List Rec} {x : Fr × Int} (hx : S.get (l.first + i) = x) :
    (broken x.2 = true → lookQ S l q (n + 1) i out = ([], false, x.2)) ∧
    (broken x.2 = false → mine x q = false → lookQ S l q (n + 1) i out = (out, false, 0)) ∧
    (broken x.2 = false → mine x q = true → x.1.k = 3 → lookQ S l q (n + 1) i out = (out, decide (x.1.d = two out.length), 0)) ∧
    (broken x.2 = false → x.1.k ≠ 3 → takes S l x q out = false → lookQ S l q (n + 1) i out = (out, false, 0)) ∧
    (broken x.2 = false → takes S l x q out = true → lookQ S l q (n + 1) i out = lookQ S l q n (i + 1) (out ++ [recOf x.1.d])) := by
  rw [lookQ_succ, hx]
  refine ⟨fun h => by rw [if_pos h], fun h hm => ?_, fun h hm hk => ?_, fun h hk ht => ?_, fun h ht => by rw [if_neg (by rw [h]; simp), if_pos ht]⟩
  · rw [if_neg (by rw [h]; simp), takes_no hm, if_neg (by simp)]
    unfold ends; rw [hm]; rfl
  · have ht : takes S l x q out = false := by unfold takes isRec; rw [hk]; simp
    rw [if_neg (by rw [h]; simp), ht, if_neg (by simp)]
    unfold ends; rw [hm, hk]; simp
  · rw [if_neg (by rw [h]; simp), ht, if_neg (by simp)]
    have : (x.1.k == 3) = false := by simpa using hk
    unfold ends; rw [this]; simp
set_option maxRecDepth 100000 in
set_option maxHeartbeats 8000000 in
theorem reflook {w W : World} {rs : List (Res w.heap.size)} {S : Dv} {uS uC : Value} (h : Has w W rs) (hr : StR _ uS uC S ∈ rs) (hn256 : S.st.length ≤ 256) (l : Lay) :
    Calls Tryz.prog 30 #[.agg #[uS, uC, .int .i64 S.taken, .int .i64 S.power, .bool S.off], .agg #[.int .i64 l.first, .int .i64 l.size]] W fun e w' => ∃ (a : Option Addr) (cap : Nat), e = .returned (.tuple #[.slice a (lookM S l).1.length cap, .bool (lookM S l).2.1, .int .i64 (lookM S l).2.2]) ∧ Has w w' (RecsR _ (.slice a (lookM S l).1.length cap) (lookM S l).1 :: rs) := by
  have hin := h.st hr
  obtain ⟨⟨aS, cS, rfl, -⟩, ⟨aC, cC, rfl, -⟩, -, -⟩ := hin
  have h1 := (h.alloc (.cells #[.slice aS S.st.length cS, .slice aC S.ca.length cC, .int .i64 S.taken, .int .i64 S.power, .bool S.off] 34)).allocAt (.cells #[.int .i64 l.first, .int .i64 l.size] 23) (W.heap.size + 1) (by simp)
  have HHD := Lib.hid (refhead h1 (.tail _ (.tail _ hr)) l)
  have HR := Lib.hid hr
  obtain ⟨R, hR⟩ : ∃ R, R = lookM S l := ⟨_, rfl⟩
  rw [← hR]
  have hRd : R = if (headM S l).2 ≠ 0 then ([], false, (headM S l).2) else lookQ S l ((headM S l).1 + 1#32) (l.size - 1).toNat 1 [] := hR
  have hchk : (headM S l).2 = 0 → l.check = 0 := fun h0 => by
    by_cases hz : l.check = 0
    · exact hz
    · unfold headM at h0; rw [if_pos hz] at h0; exact absurd h0 hz
  obtain ⟨⟨q, c⟩, hq⟩ : ∃ x, x = headM S l := ⟨_, rfl⟩
  rw [← hq] at HHD hRd hchk
  dsimp only at HHD hRd hchk
  have HRD := Lib.hid hRd
  have HN256 := Lib.hid hn256
  clear h h1 hR hRd hq hr hn256
  by_cases hc : c = 0
  · subst hc
    have hlc := hchk rfl
    have hch := Lay.check_ok hlc
    have HLC := Lib.hid hlc
    go_enter Tryz.func30, Tryz.ntmps30
    go_wp2_with fail
    refine HHD.out.mono ?_
    clear HHD
    rintro e w2 ⟨rfl, h2⟩
    obtain ⟨Q, hQ⟩ : ∃ Q, Q = q + 1#32 := ⟨_, rfl⟩
    have hvs : IntKind.u32.wrap (vu q + 1) = vu Q := by rw [hQ]; exact vu_succ q
    have HRQ : Hid (R = lookQ S l Q (l.size - 1).toNat 1 []) := by rw [HRD.out, hQ, if_neg (by simp)]; exact Lib.hid rfl
    have H2 := Lib.hid (OwnR.nil h2 60 3 recL)
    clear h2 hchk hlc HRD hQ
    go_wp2_with fail
    go_loopw [9, 10] (fun v i wr => ∃ (k n : Nat) (out : List Rec) (a : Option Addr) (cap : Nat), i = .int .i64 (k : Int) ∧ 1 ≤ k ∧ (k : Int) + n = l.size ∧ v = .slice a out.length cap ∧ out.length ≤ k ∧ Hid (R = lookQ S l Q n (k : Int) out) ∧ Has w wr (RecsR _ (.slice a out.length cap) out :: Blk _ (W.heap.size + 1) (.cells #[.int .i64 l.first, .int .i64 l.size] 23) :: Blk _ W.heap.size (.cells #[.slice aS S.st.length cS, .slice aC S.ca.length cC, .int .i64 S.taken, .int .i64 S.power, .bool S.off] 34) :: rs)) (fun _ i _ => l.size.toNat - (intOf i).toNat)
    case atStart => exact ⟨1, (l.size - 1).toNat, [], none, 0, rfl, Nat.le_refl _, by omega, rfl, by simp, HRQ, H2.out⟩
    case round =>
      obtain ⟨k, n, out, a, cap, rfl, hk, hkn, rfl, hol, hRQ, hH⟩ := hrel
      clear H2 HRQ hvs
      have d0 := hH.cell 1 _ _ _ rfl 0 _ rfl
      have d1 := hH.cell 1 _ _ _ rfl 1 _ rfl
      cases n with
      | zero =>
        have hke : (k : Int) = l.size := by omega
        have hke2 : l.size ≤ (k : Int) := by omega
        have hr0 : R = (out, false, 0) := by rw [hRQ.out]; rfl
        have HR0 := Lib.hid hr0
        have HH := Lib.hid ((hH.perm (show List.Perm (_ :: _ :: _ :: rs) (_ :: _ :: _ :: rs) from (List.perm_middle (l₁ := [_, _])).symm)).drop.drop)
        clear hH hRQ hr0 hke
        go_wp2_with fail
        exact bodyPost_ret (results_tmp3 rfl _ _ _) rfl ⟨a, cap, by rw [HR0.out]; rfl, by rw [HR0.out]; exact HH.out⟩
      | succ n =>
        have hkl : (k : Int) < l.size := by omega
        obtain ⟨s0, s1, s2, s3, s4, -, -, -, -, -, -⟩ := hH.cells5 2 _ _ _ _ _ _ _ rfl
        have hwr : wrap64 (l.first + (k : Int)) = l.first + (k : Int) := by unfold wrap64; omega
        obtain ⟨X, hX⟩ : ∃ X, X = S.get (l.first + (k : Int)) := ⟨_, rfl⟩
        have hg := refget_ret hH (.tail _ (.tail _ (.tail _ HR.out))) (l.first + (k : Int))
        have hfs := S.get_size (l.first + (k : Int))
        have hhit := lookQ_hit (l := l) (q := Q) (n := n) (out := out) hX.symm
        rw [← hRQ.out] at hhit
        rw [← hX] at hg hfs
        obtain ⟨⟨fk, fq, fd⟩, fe⟩ := X
        dsimp only at hg hfs hhit
        have HG := Lib.hid hg
        have HHIT := Lib.hid hhit
        clear hg hX hhit hRQ hH
        go_wp2_with fail
        refine HG.out.mono ?_
        clear HG d0 d1 s0 s1 s2 s3 s4 hwr
        rintro e w4 ⟨rfl, h4⟩
        have H4 := Lib.hid (h4.alloc (.cells #[.int .i64 fk, .int .u32 (vu fq), .string fd] 49))
        clear h4
        go_wp2_with fail
        refine (refdevice fe _).mono ?_
        rintro e w5 ⟨rfl, hB5⟩
        have H5 := Lib.hid (H4.out.below hB5)
        clear hB5 H4
        have e0 := H5.out.cell 0 _ _ _ rfl 0 _ rfl
        have e1 := H5.out.cell 0 _ _ _ rfl 1 _ rfl
        have e2 := H5.out.cell 0 _ _ _ rfl 2 _ rfl
        have HH5 := Lib.hid ((H5.out.drop.perm (show List.Perm (_ :: _ :: _ :: rs) (_ :: _ :: _ :: rs) from (List.perm_middle (l₁ := [_, _])).symm)).drop.drop)
        cases hbk : broken fe
        · by_cases hm : mine (⟨fk, fq, fd⟩, fe) Q = true
          · have hfe : fe = 0 ∧ fq = Q := by simpa [mine] using hm
            obtain ⟨rfl, rfl⟩ := hfe
            by_cases hk3 : fk = 3
            · subst hk3
              have HRE := Lib.hid (HHIT.out.2.2.1 hbk hm rfl)
              clear hm hbk HHIT
              go_wp2_with fail
              refine wp_region_ordJ (fun W' => W'.cell? ⟨w4.heap.size, 2, none⟩ = some (.string fd) ∧ True ∧ True) (OrdT.takes [0, 1, 2, 3, 4] (.one 5 (OrdT.takes [6, 7, 8, 9] .done))) (by kernel_rfl) (by kernel_rfl) ⟨H5.out.drew.cell 0 _ _ _ rfl 2 _ rfl, trivial, trivial⟩ (fun wz hz => ?_)
              have h6 := H5.out.drew
              rw [← hz] at h6
              have H6 := Lib.hid h6
              clear hz h6 H5 HH5
              unfold OrdT.takes
              --ordt myymy
              (refine' t_move _ _ rfl rfl rfl rfl _ _; rotate_left; (go_simp; with_reducible rfl); simp only [Act.put, List.setIfInBounds_toArray, List.set_cons_zero, List.set_cons_succ])
              iterate 2 (refine' t_yield _ rfl rfl rfl _ _; rotate_left; (intro w' hSw; obtain ⟨s0, s1, s2⟩ := hSw; go_simp; with_reducible rfl); simp only [Act.put, List.setIfInBounds_toArray, List.set_cons_zero, List.set_cons_succ])
              (refine' t_move _ _ rfl rfl rfl rfl _ _; rotate_left; (go_simp; with_reducible rfl); simp only [Act.put, List.setIfInBounds_toArray, List.set_cons_zero, List.set_cons_succ])
              (refine' t_yield _ rfl rfl rfl _ _; rotate_left; (intro w' hSw; obtain ⟨s0, s1, s2⟩ := hSw; go_simp; with_reducible rfl); simp only [Act.put, List.setIfInBounds_toArray, List.set_cons_zero, List.set_cons_succ])
              --end
              refine t_one rfl rfl (fun K hK => ?_)
              go_simp
              refine (reftwo (out.length : Int) (by omega) (by omega) _).mono ?_
              rintro e w7 ⟨rfl, hB7⟩
              have H7 := Lib.hid (H6.out.below hB7)
              clear hB7 H6
              dsimp only
              refine hK _ _ ⟨H7.out.cell 0 _ _ _ rfl 2 _ rfl, trivial, trivial⟩ ?_
              clear hK
              unfold OrdT.takes
              --ordt yyyy
              iterate 4 (refine' t_yield _ rfl rfl rfl _ _; rotate_left; (intro w' hSw; obtain ⟨s0, s1, s2⟩ := hSw; go_simp; with_reducible rfl); simp only [Act.put, List.setIfInBounds_toArray, List.set_cons_zero, List.set_cons_succ])
              --end
              refine t_done ?_
              have HH7 := Lib.hid ((H7.out.drop.perm (show List.Perm (_ :: _ :: _ :: rs) (_ :: _ :: _ :: rs) from (List.perm_middle (l₁ := [_, _])).symm)).drop.drop)
              have hbs := bytes_same fd (two (out.length : Int))
              go_wp2_with fail
              exact bodyPost_ret (results_tmp3 rfl _ _ _) rfl ⟨a, cap, by rw [HRE.out, ← hbs]; rfl, by rw [HRE.out]; exact HH7.out⟩
            · have hk3b : (fk == 3) = false := by simpa using hk3
              have HHN := Lib.hid (And.intro (HHIT.out.2.2.2.1 hbk hk3) (HHIT.out.2.2.2.2 hbk))
              have HM := Lib.hid hm
              clear hm hbk HHIT
              obtain ⟨d0, d1⟩ : w5.cell? ⟨W.heap.size + 1, 0, none⟩ = some (.int .i64 l.first) ∧ w5.cell? ⟨W.heap.size + 1, 1, none⟩ = some (.int .i64 l.size) := ⟨H5.out.cell 2 _ _ _ rfl 0 _ rfl, H5.out.cell 2 _ _ _ rfl 1 _ rfl⟩
              have HRC := Lib.hid (refrecord l HLC.out fd hfs w5)
              clear HH5
              go_wp2_with fail
              refine HRC.out.mono ?_
              clear HRC e0 e1 e2 d0 d1
              rintro e w6 ⟨r, is, rfl, hA, hB, hBw⟩
              have htk := takes_eq HM.out HN256.out hA hB (l := l) (out := out)
              have hrr : takes S l (⟨fk, fq, fd⟩, 0) fq out = true → r = recOf fd := fun ht => by
                by_cases hz : 3 ≤ fd.size ∧ fd.size ≤ 99
                · exact (hA hz).1
                · rw [ht, hB hz] at htk; simp at htk
              have H6 := Lib.hid ((H5.out.below hBw).alloc (.cells #[.int .i64 r.at_, .int .i64 r.kind, .string r.data] 60))
              obtain ⟨tk, htke⟩ : ∃ tk, tk = takes S l (⟨fk, fq, fd⟩, 0) fq out := ⟨_, rfl⟩
              rw [← htke] at htk hrr HHN
              have HTK := Lib.hid htk
              have HRR := Lib.hid hrr
              clear hA hB hBw htk hrr htke H5
              go_upto_region 17 with fail
              obtain ⟨w7, hw7⟩ : ∃ w7, w7 = w6.alloc (.cells #[.int .i64 r.at_, .int .i64 r.kind, .string r.data] 60) := ⟨_, rfl⟩
              rw [← hw7] at H6
              rw [← hw7]
              clear hw7
              go_cut [97] (fun z wx => z = .bool (!tk) ∧ Has w wx (Blk _ w6.heap.size (.cells #[.int .i64 r.at_, .int .i64 r.kind, .string r.data] 60) :: Blk _ w4.heap.size (.cells #[.int .i64 fk, .int .u32 (vu fq), .string fd] 49) :: RecsR _ (.slice a out.length cap) out :: Blk _ (W.heap.size + 1) (.cells #[.int .i64 l.first, .int .i64 l.size] 23) :: Blk _ W.heap.size (.cells #[.slice aS S.st.length cS, .slice aC S.ca.length cC, .int .i64 S.taken, .int .i64 S.power, .bool S.off] 34) :: rs))
              case first =>
                as_aux_lemma =>
                have r0 := H6.out.cell 0 _ _ _ rfl 0 _ rfl
                have f0 := H6.out.cell 1 _ _ _ rfl 0 _ rfl
                have l0 := H6.out.cell 3 _ _ _ rfl 0 _ rfl
                have l1 := H6.out.cell 3 _ _ _ rfl 1 _ rfl
                have s0 := H6.out.cell 4 _ _ _ rfl 0 _ rfl
                by_cases k2 : fk = 2
                · subst k2
                  cases is
                  · have ht : tk = false := by rw [HTK.out]; simp
                    have HT := Lib.hid ht
                    clear ht
                    go_wp2_with fail
                    go_meet
                    exact ⟨by rw [HT.out]; rfl, H6.out⟩
                  · by_cases ha : r.at_ < (S.st.length : Int)
                    · have hh := refhas (H6.out.ownRd (.tail _ (.tail _ (.head _)))).rd r.at_ (by omega)
                      have htk := HTK.out
                      rw [decide_eq_true ha] at htk
                      cases hz : hasAt out r.at_
                      · rw [hz] at hh htk
                        have HHS := Lib.hid hh
                        have HT2 : Hid (tk = decide ((out.length : Int) < l.most)) := by rw [htk]; exact Lib.hid (by simp)
                        clear hh htk hz
                        go_wp2_with fail
                        refine HHS.out.mono ?_
                        clear HHS r0 f0 l0 l1 s0
                        rintro e w8 ⟨rfl, hB8⟩
                        have H8 := Lib.hid (H6.out.below hB8)
                        clear hB8
                        have l0 := H8.out.cell 3 _ _ _ rfl 0 _ rfl
                        have l1 := H8.out.cell 3 _ _ _ rfl 1 _ rfl
                        have HMO := Lib.hid (refmost l w8 HLC.out)
                        go_wp2_with fail
                        refine HMO.out.mono ?_
                        clear HMO l0 l1
                        rintro e w9 ⟨rfl, hB9⟩
                        have H9 := Lib.hid (H8.out.below hB9)
                        clear hB9
                        go_wp2_with fail
                        go_meet
                        refine ⟨?_, H9.out⟩
                        rw [HT2.out]
                        by_cases hmo : (out.length : Int) < l.most
                        · rw [decide_eq_true hmo]; exact congrArg Value.bool (by simp; omega)
                        · rw [decide_eq_false hmo]; exact congrArg Value.bool (by simp; omega)
                      · rw [hz] at hh htk
                        have HHS := Lib.hid hh
                        have HT : Hid (tk = false) := by rw [htk]; exact Lib.hid (by simp)
                        clear hh htk hz
                        go_wp2_with fail
                        refine HHS.out.mono ?_
                        clear HHS r0 f0 l0 l1 s0
                        rintro e w8 ⟨rfl, hB8⟩
                        have H8 := Lib.hid (H6.out.below hB8)
                        clear hB8
                        go_wp2_with fail
                        go_meet
                        exact ⟨by rw [HT.out]; rfl, H8.out⟩
                    · have ha2 : (S.st.length : Int) ≤ r.at_ := by omega
                      have HT : Hid (tk = false) := by rw [HTK.out, decide_eq_false ha]; exact Lib.hid (by simp)
                      clear ha
                      go_wp2_with fail
                      go_meet
                      exact ⟨by rw [HT.out]; rfl, H6.out⟩
                · have k2b : (fk != 2) = true := by simpa using k2
                  have k2c : (fk == 2) = false := by simpa using k2
                  have HT : Hid (tk = false) := by rw [HTK.out, k2c]; exact Lib.hid (by simp)
                  go_wp2_with fail
                  go_meet
                  exact ⟨by rw [HT.out]; rfl, H6.out⟩
              case rest =>
              obtain ⟨rfl, h8⟩ := hcut
              clear H6
              cases tk
              · have HRE := Lib.hid (HHN.out.1 rfl)
                have HH8 := Lib.hid ((h8.drop.drop.perm (show List.Perm (_ :: _ :: _ :: rs) (_ :: _ :: _ :: rs) from (List.perm_middle (l₁ := [_, _])).symm)).drop.drop)
                clear h8
                go_wp2_with fail
                exact bodyPost_ret (results_tmp3 rfl _ _ _) rfl ⟨a, cap, by rw [HRE.out]; rfl, by rw [HRE.out]; exact HH8.out⟩
              · have hrn := HHN.out.2 rfl
                rw [← HRR.out rfl] at hrn
                have hrn2 : R = lookQ S l fq n ((k + 1 : Nat) : Int) (out ++ [r]) := hrn
                have HRN := Lib.hid hrn2
                have r0 := h8.cell 0 _ _ _ rfl 0 _ rfl
                have r1 := h8.cell 0 _ _ _ rfl 1 _ rfl
                have r2 := h8.cell 0 _ _ _ rfl 2 _ rfl
                obtain ⟨a2, cap2, w9, hrun2, h9⟩ := Has.pushRec [_, _] h8 r (by omega)
                have H9 := Lib.hid h9.drop.drop
                clear h8 h9 hrn hrn2
                go_wp2_with (at_builtin; (with_reducible refine wpList_append_eq rfl _ _ _ rfl _ _ _ _ ?_ ?_ hrun2 ?_); rfl; rfl)
                go_roundw
                case rel => exact ⟨k + 1, n, out ++ [r], a2, cap2, by go_num, by omega, by omega, by rw [List.length_append]; rfl, by rw [List.length_append]; show out.length + 1 ≤ k + 1; omega, HRN, by rw [List.length_append]; exact H9.out⟩
                case measure => simp [intOf]; omega
          · have hm2 : mine (⟨fk, fq, fd⟩, fe) Q = false := by simpa using hm
            have HRE := Lib.hid (HHIT.out.2.1 hbk hm2)
            by_cases he : fe = 0
            · subst he
              have hqn : ¬ fq = Q := fun e => hm (by rw [e]; simp [mine])
              have hqn2 : (fq == Q) = false := by simpa using hqn
              have hqn3 : (vu fq != vu Q) = true := by simpa using fun e => hqn (vu_inj.1 e)
              clear hm hm2 hbk HHIT
              go_wp2_with fail
              exact bodyPost_ret (results_tmp3 rfl _ _ _) rfl ⟨a, cap, by rw [HRE.out]; rfl, by rw [HRE.out]; exact HH5.out⟩
            · have he2 : (fe != 0) = true := by simpa using he
              clear hm hm2 hbk HHIT
              go_wp2_with fail
              exact bodyPost_ret (results_tmp3 rfl _ _ _) rfl ⟨a, cap, by rw [HRE.out]; rfl, by rw [HRE.out]; exact HH5.out⟩
        · have HRE := Lib.hid (HHIT.out.1 hbk)
          have HH := Lib.hid (OwnR.nil HH5.out.drop 60 3 recL)
          clear hbk HHIT
          go_wp2_with fail
          exact bodyPost_ret (results_tmp3 rfl _ _ _) rfl ⟨none, 0, by rw [HRE.out]; rfl, by rw [HRE.out]; exact HH.out⟩
  · have hc2 : (c != 0) = true := by simpa using hc
    have hr0 : R = ([], false, c) := by rw [HRD.out, if_pos hc]
    have HR0 := Lib.hid hr0
    go_enter Tryz.func30, Tryz.ntmps30
    go_wp2_with fail
    refine HHD.out.mono ?_
    clear HHD
    rintro e w2 ⟨rfl, h2⟩
    have H2 := Lib.hid (OwnR.nil h2.drop.drop 60 3 recL)
    clear h2 hr0
    go_wp2_with fail
    exact bodyPost_ret (results_tmp3 rfl _ _ _) rfl ⟨none, 0, by rw [HR0.out]; rfl, by rw [HR0.out]; exact H2.out⟩
end Go.Proofs.YtfbkfdoekgnldaaGreatDoor
namespace Go.Proofs.YtfbkfdoekgnldaaGreatDoor
open Go.RowKit
open Lime
attribute [local go_sem] Oper.semAt_some setRow_alloc_at setRow_alloc_past setRow_drew g_same32 g_eq32 g_ne32 g_add32
set_option maxRecDepth 100000 in
set_option maxHeartbeats 4000000 in
theorem refclear {W : World} {S : Dv} {uS uC : Value} (h : StIn W S uS uC) (ok : S.Ok) (l : Lay) :
    Calls Tryz.prog 27 #[.agg #[uS, uC, .int .i64 S.taken, .int .i64 S.power, .bool S.off], .agg #[.int .i64 l.first, .int .i64 l.size]] W (StRes W S uS uC (clearM S l).1 (clearM S l).2) := by
  have h0 := (Has.start W).addSt h
  obtain ⟨⟨aS, cS, rfl, -⟩, ⟨aC, cC, rfl, -⟩, -, -⟩ := h
  have h1 := ((h0.alloc (.cells #[.slice aS S.st.length cS, .slice aC S.ca.length cC, .int .i64 S.taken, .int .i64 S.power, .bool S.off] 34)).allocAt (.cells #[.int .i64 l.first, .int .i64 l.size] 23) (W.heap.size + 1) (by simp)).allocAt (.cells #[.slice none 0 0, .slice none 0 0, .int .i64 0, .int .i64 0, .bool false] 34) (W.heap.size + 1 + 1) (by simp)
  have HHD := Lib.hid (refhead h1 (.tail _ (.tail _ (.tail _ (.head _)))) l)
  obtain ⟨R, hR⟩ : ∃ R, R = clearM S l := ⟨_, rfl⟩
  rw [← hR]
  have hRd : R = if (headM S l).2 ≠ 0 then (S, (headM S l).2) else Dv.done (S.putAll [⟨l.first, 1, (headM S l).1 + 1#32, ⟨#[]⟩⟩]) := hR
  obtain ⟨⟨q, c⟩, hq⟩ : ∃ x, x = headM S l := ⟨_, rfl⟩
  rw [← hq] at HHD hRd
  dsimp only at HHD hRd
  have HRD := Lib.hid hRd
  have HOK := Lib.hid ok
  clear h0 h1 hR hRd hq ok
  go_enter Tryz.func27, Tryz.ntmps27
  go_wp2_with fail
  refine HHD.out.mono ?_
  clear HHD
  rintro e w2 ⟨rfl, h2⟩
  obtain ⟨c0, c1, c2, c3, c4, -, -, -, -, -, -⟩ := h2.cells5 2 _ _ _ _ _ _ _ rfl
  by_cases hc : c = 0
  · subst hc
    have b0 := h2.cell 1 _ _ _ rfl 0 _ rfl
    have hvs := vu_succ q
    obtain ⟨E, hE⟩ : ∃ E, E = S.putE l.first 1 (q + 1#32) ⟨#[]⟩ := ⟨_, rfl⟩
    obtain ⟨D1, hD1⟩ : ∃ D1, D1 = S.put l.first 1 (q + 1#32) ⟨#[]⟩ := ⟨_, rfl⟩
    have hRE : R = if E ≠ 0 then (D1, E) else (D1.flush, D1.flushE) := by
      rw [HRD.out, if_neg (by simp)]
      unfold Dv.putAll Dv.putAll Dv.done Dv.putAE Dv.putA
      dsimp only
      rw [← hE, ← hD1]
      by_cases he : E ≠ 0
      · rw [if_pos he, if_pos he]
      · rw [if_neg he, if_neg he]; rfl
    have hok1 : D1.Ok := by rw [hD1]; exact Dv.putA_ok HOK.out ⟨l.first, 1, q + 1#32, ⟨#[]⟩⟩
    have hp := refput (h2.st (.tail _ (.tail _ (.tail _ (.head _))))) HOK.out l.first 1 (q + 1#32) ⟨#[]⟩ (by decide)
    rw [← hE, ← hD1] at hp
    have HP := Lib.hid hp
    have H2 := Lib.hid h2
    have HRE := Lib.hid hRE
    have HOK1 := Lib.hid hok1
    clear hp h2 hRE hok1 hE hD1 HRD HOK
    go_wp2_with fail
    refine HP.out.mono ?_
    clear HP c0 c1 c2 c3 c4 b0 hvs
    rintro e w3 hr
    obtain ⟨bS, kS, bC, kC, rfl, h3, hs3⟩ := H2.out.stStep [_, _, _] Sub.rfl' hr
    obtain ⟨c0, c1, c2, c3, c4, f0, f1, f2, f3, f4, z⟩ := h3.cells5 2 _ _ _ _ _ _ _ rfl
    have h4 := h3.store5 [_, _] (.slice bS D1.st.length kS) (.slice bC D1.ca.length kC) (.int .i64 D1.taken) (.int .i64 D1.power) (.bool D1.off)
    obtain ⟨d0, d1, d2, d3, d4, g0, g1, g2, g3, g4, y⟩ := h4.cells5 0 _ _ _ _ _ _ _ rfl
    have HS := Lib.hid hs3
    by_cases he : E = 0
    · subst he
      have hf := ref_flush (h4.st (.tail _ (.tail _ (.tail _ (.head _))))) HOK1.out.c2
      have hRF : R = (D1.flush, D1.flushE) := by rw [HRE.out, if_neg (by simp)]
      unfold stCells at hf
      have HF := Lib.hid hf
      have HRF := Lib.hid hRF
      have H4 := Lib.hid h4
      clear hr h3 hs3 h4 hf hRF HRE H2
      go_wp2_with fail
      refine HF.out.mono ?_
      clear HF c0 c1 c2 c3 c4 f0 f1 f2 f3 f4 z d0 d1 d2 d3 d4 g0 g1 g2 g3 g4 y
      rintro e w5 hr
      obtain ⟨dS, jS, dC, jC, rfl, h5, hs5⟩ := H4.out.stStep [_, _, _] HS.out hr
      obtain ⟨d0, d1, d2, d3, d4, g0, g1, g2, g3, g4, y⟩ := h5.cells5 0 _ _ _ _ _ _ _ rfl
      have H6 := Lib.hid (h5.store5 [] (.slice dS D1.flush.st.length jS) (.slice dC D1.flush.ca.length jC) (.int .i64 D1.flush.taken) (.int .i64 D1.flush.power) (.bool D1.flush.off))
      have HS5 := Lib.hid hs5
      clear hr h5 hs5 H4 HS
      go_wp2_with fail
      rw [HRF.out]
      refine bodyPost_ret (results_st2 rfl _ _ (W.heap.size + 1 + 1) _ rfl (H6.out.blk 0 _ _ rfl).1 rfl) rfl ?_
      exact H6.out.stEnd (.tail _ (.tail _ (.tail _ (.head _)))) HS5.out
    · have he2 : (E != 0) = true := by simpa using he
      have hRF : R = (D1, E) := by rw [HRE.out, if_pos he]
      have HRF := Lib.hid hRF
      have H5 := Lib.hid (h4.store5 [] (.slice bS D1.st.length kS) (.slice bC D1.ca.length kC) (.int .i64 D1.taken) (.int .i64 D1.power) (.bool D1.off))
      clear hr h3 hs3 h4 hRF HRE H2
      go_wp2_with fail
      rw [HRF.out]
      refine bodyPost_ret (results_st2 rfl _ _ (W.heap.size + 1 + 1) _ rfl (H5.out.blk 0 _ _ rfl).1 rfl) rfl ?_
      exact H5.out.stEnd (.tail _ (.tail _ (.tail _ (.head _)))) HS.out
  · have hc2 : (c != 0) = true := by simpa using hc
    have hRF : R = (S, c) := by rw [HRD.out, if_pos hc]
    obtain ⟨d0, d1, d2, d3, d4, g0, g1, g2, g3, g4, y⟩ := h2.cells5 0 _ _ _ _ _ _ _ rfl
    have HRF := Lib.hid hRF
    have H5 := Lib.hid (h2.store5 [] (.slice aS S.st.length cS) (.slice aC S.ca.length cC) (.int .i64 S.taken) (.int .i64 S.power) (.bool S.off))
    clear h2 hRF HRD
    go_wp2_with fail
    rw [HRF.out]
    refine bodyPost_ret (results_st2 rfl _ _ (W.heap.size + 1 + 1) _ rfl (H5.out.blk 0 _ _ rfl).1 rfl) rfl ?_
    exact H5.out.stEnd (.tail _ (.tail _ (.tail _ (.head _)))) Sub.rfl'
end Go.Proofs.YtfbkfdoekgnldaaGreatDoor
namespace Go.Proofs.YtfbkfdoekgnldaaGreatDoor
open Go.RowKit
open Lime
attribute [local go_sem] Oper.semAt_some setRow_alloc_at setRow_alloc_past setRow_drew g_same32 g_eq32 g_ne32
theorem run_bound2 (i y : Nat) (c : BoundsCode) (h : i ≤ y) (w : World) : (Instr.sliceBound (.int .i64 (i : Int)) y c).run Tryz.prog w = .ok i w := by
  have h' : (0 : Int) ≤ i ∧ (i : Int) ≤ y := by omega
  simp [Instr.sliceBound, asIntOf, h']
def upR (a : Option Addr) (cap : Nat) : Option Addr := if cap = 0 then a else a.map (·.add (0 * 3))
theorem run_slice_recs (a : Option Addr) (len cap i : Nat) (h : i ≤ cap) (w : World) :
    (Instr.sliceAt 40 (.slice a len cap) none (some (.int .i64 (i : Int))) none).run Tryz.prog w = .ok (.slice (upR a cap) i cap) w := by
  simp only [Instr.sliceAt, Instr.slice, Sem.run_bind, run_underlying Tryz.underlying40, Result.andThen_ok, Instr.sliceBounds, run_bound2 i cap _ h, Sem.run_pure, rec_sz, Nat.sub_zero]
  rfl
theorem rdl_upto {W : World} {a : Option Addr} {cap : Nat} {l : List Rec} (h : RdL W 3 recL (.slice a l.length cap) l) (k : Nat) (hk : k ≤ l.length) (hc : l.length ≤ cap) : RdL W 3 recL (.slice (upR a cap) (l.take k).length cap) (l.take k) := by
  obtain ⟨a', cap', hv, h2⟩ := h
  injection hv with e1 _ e2
  subst e1 e2
  refine ⟨_, _, rfl, ?_⟩
  rcases h2 with rfl | ⟨b, o, rfl, hr⟩
  · left; simp
  · by_cases h0 : l.take k = []
    · exact .inl h0
    · right
      have hc0 : ¬ cap = 0 := by
        intro e
        have : l.length = 0 := by omega
        have : l = [] := List.eq_nil_of_length_eq_zero this
        rw [this] at h0; simp at h0
      refine ⟨b, o, by unfold upR; rw [if_neg hc0]; rfl, fun j u hu => hr j u ?_⟩
      have hs : flat recL l = flat recL (l.take k) ++ flat recL (l.drop k) := by rw [← flat_append, List.take_append_drop]
      rw [hs, List.getElem?_append_left (List.getElem?_eq_some_iff.1 hu).1]
      exact hu
theorem validK_at (n : Nat) (l : Lay) (run : List Rec) (k : Nat) (r : Rec) (hr : run[k]? = some r) :
    validK n l (run.take k) (run.drop k) = if recE n l (run.take k) r ≠ 0 then recE n l (run.take k) r else validK n l (run.take (k + 1)) (run.drop (k + 1)) := by
  have hk := (List.getElem?_eq_some_iff.1 hr).1
  have he := (List.getElem?_eq_some_iff.1 hr).2
  have hd : run.drop k = r :: run.drop (k + 1) := by rw [← he]; exact List.drop_eq_getElem_cons hk
  rw [hd, validK, List.take_add_one, hr]
  rfl
set_option maxRecDepth 100000 in
set_option maxHeartbeats 8000000 in
theorem refvalid {w W : World} {rs : List (Res w.heap.size)} {S : Dv} {uS uC : Value} (h : Has w W rs) (hr : StR _ uS uC S ∈ rs) (_hn256 : S.st.length ≤ 256) (l : Lay) (hc : l.check = 0) {a : Option Addr} {cap : Nat} {run : List Rec} (hv : RunR _ (.slice a run.length cap) run ∈ rs) (hd : ∀ r ∈ run, r.data.size ≤ 9223372036854775807) (hlen : run.length ≤ 9223372036854775807) (hcap : run.length ≤ cap) :
    Calls Tryz.prog 63 #[.agg #[uS, uC, .int .i64 S.taken, .int .i64 S.power, .bool S.off], .agg #[.int .i64 l.first, .int .i64 l.size], .slice a run.length cap] W fun e w' => e = .returned (.int .i64 (validM S.st.length l run)) ∧ Has w w' rs := by
  have hin := h.st hr
  obtain ⟨⟨aS, cS, rfl, -⟩, ⟨aC, cC, rfl, -⟩, -, -⟩ := hin
  have h1 := (h.alloc (.cells #[.slice aS S.st.length cS, .slice aC S.ca.length cC, .int .i64 S.taken, .int .i64 S.power, .bool S.off] 34)).allocAt (.cells #[.int .i64 l.first, .int .i64 l.size] 23) (W.heap.size + 1) (by simp)
  have HMO := Lib.hid (refmost l ((W.alloc (.cells #[.slice aS S.st.length cS, .slice aC S.ca.length cC, .int .i64 S.taken, .int .i64 S.power, .bool S.off] 34)).alloc (.cells #[.int .i64 l.first, .int .i64 l.size] 23)) hc)
  have H1 := Lib.hid h1
  have HVM := Lib.hid hv
  have HLC := Lib.hid hc
  have HDD := Lib.hid hd
  obtain ⟨V, hV⟩ : ∃ V, V = validM S.st.length l run := ⟨_, rfl⟩
  rw [← hV]
  have hml := (most_le l).2
  unfold validM at hV
  obtain ⟨n, hn⟩ : ∃ n, n = S.st.length := ⟨_, rfl⟩
  rw [← hn] at hV
  have hVH := Lib.hid hV
  have HNN := Lib.hid hn
  clear h h1 hr hv hc hd hV
  go_enter Tryz.func63, Tryz.ntmps63
  go_wp2_with fail
  refine HMO.out.mono ?_
  clear HMO
  rintro e w2 ⟨rfl, hB2⟩
  have H2 := Lib.hid (H1.out.below hB2)
  clear hB2 H1
  by_cases hm : l.most < (run.length : Int)
  · have HV : Hid (V = 12) := by rw [hVH.out, if_pos hm]; exact Lib.hid rfl
    go_wp2_with fail
    go_ret
    exact ⟨by rw [HV.out]; rfl, H2.out.drop.drop⟩
  have HV0 : Hid (V = validK n l (run.take 0) (run.drop 0)) := by rw [hVH.out, if_neg hm]; exact Lib.hid rfl
  have hm2 : (run.length : Int) ≤ l.most := by omega
  have hrl : run.length ≤ 80 := by omega
  clear hVH
  go_wp2_with fail
  go_loopw [7] (fun i wr => ∃ k : Nat, i = .int .i64 (k : Int) ∧ k ≤ run.length ∧ Hid (V = validK n l (run.take k) (run.drop k)) ∧ Has w wr (Blk _ (W.heap.size + 1) (.cells #[.int .i64 l.first, .int .i64 l.size] 23) :: Blk _ W.heap.size (.cells #[.slice aS S.st.length cS, .slice aC S.ca.length cC, .int .i64 S.taken, .int .i64 S.power, .bool S.off] 34) :: rs)) (fun i _ => run.length - (intOf i).toNat)
  case atStart => exact ⟨0, rfl, Nat.zero_le _, HV0, H2.out⟩
  case round =>
    obtain ⟨k, rfl, hk, hVK, hH⟩ := hrel
    clear H2 HV0
    by_cases hlt : k < run.length
    · obtain ⟨r, hrr⟩ : ∃ r, run[k]? = some r := ⟨_, List.getElem?_eq_getElem hlt⟩
      obtain ⟨br, or_, rfl⟩ := (hH.rd (.tail _ (.tail _ HVM.out))).addr recL_len (by omega)
      have q0 : wr.cell? ⟨br, or_ + k * 3, none⟩ = some (.int .i64 r.at_) := hH.rdCell recL_len (.tail _ (.tail _ HVM.out)) k _ hrr 0 _ rfl
      have q1 : wr.cell? ⟨br, or_ + k * 3 + 1, none⟩ = some (.int .i64 r.kind) := hH.rdCell recL_len (.tail _ (.tail _ HVM.out)) k _ hrr 1 _ rfl
      have q2 : wr.cell? ⟨br, or_ + k * 3 + 2, none⟩ = some (.string r.data) := hH.rdCell recL_len (.tail _ (.tail _ HVM.out)) k _ hrr 2 _ rfl
      have l0 := hH.cell 0 _ _ _ rfl 0 _ rfl
      have l1 := hH.cell 0 _ _ _ rfl 1 _ rfl
      have zl := block_lt_of_cell l0
      dsimp only at zl
      have hi1 := fun w => run_index_rec br or_ run.length cap k hlt w
      have hsl := fun w => run_slice_recs (some ⟨br, or_, none⟩) run.length cap k (by omega) w
      have hst := validK_at n l run k r hrr
      rw [← hVK.out] at hst
      have hdr := HDD.out r (List.mem_of_getElem? hrr)
      have HST := Lib.hid hst
      have H3 := Lib.hid (hH.alloc (.cells #[.int .i64 r.at_, .int .i64 r.kind, .string r.data] 60))
      have HIN := Lib.hid (refinside l r.at_ (wr.alloc (.cells #[.int .i64 r.at_, .int .i64 r.kind, .string r.data] 60)) HLC.out)
      have hkl : (k : Int) < (run.length : Int) := by omega
      clear hrr hst hVK hH
      go_wp2_with fail
      refine HIN.out.mono ?_
      clear HIN q0 q1 q2 l0 l1 zl
      rintro e w4 ⟨rfl, hB4⟩
      have H4 := Lib.hid (H3.out.below hB4)
      clear hB4
      have c0 := H4.out.cell 0 _ _ _ rfl 0 _ rfl
      have c1 := H4.out.cell 0 _ _ _ rfl 1 _ rfl
      have c2 := H4.out.cell 0 _ _ _ rfl 2 _ rfl
      have s0 := H4.out.cell 2 _ _ _ rfl 0 _ rfl
      cases hins : l.inside r.at_
      · by_cases hrg : r.at_ < 0 ∨ (n : Int) ≤ r.at_ ∨ r.kind < 1 ∨ 255 < r.kind
        · have HV : Hid (V = 7) := by
            have e7 : recE n l (run.take k) r = 7 := by unfold recE; rw [hins, if_neg (by simp), if_pos hrg]
            rw [HST.out, e7]; exact Lib.hid rfl
          rw [HNN.out] at hrg
          clear hins HST
          by_cases g1 : r.at_ < 0
          · go_wp2_with fail
            go_ret
            exact ⟨by rw [HV.out]; rfl, H4.out.drop.drop.drop⟩
          by_cases g2 : (S.st.length : Int) ≤ r.at_
          · go_wp2_with fail
            go_ret
            exact ⟨by rw [HV.out]; rfl, H4.out.drop.drop.drop⟩
          by_cases g3 : r.kind < 1
          · go_wp2_with fail
            go_ret
            exact ⟨by rw [HV.out]; rfl, H4.out.drop.drop.drop⟩
          · have g4 : 255 < r.kind := by omega
            go_wp2_with fail
            go_ret
            exact ⟨by rw [HV.out]; rfl, H4.out.drop.drop.drop⟩
        · have g1 : ¬ r.at_ < 0 := by omega
          have g2 : ¬ (S.st.length : Int) ≤ r.at_ := by have := HNN.out; omega
          have g3 : ¬ r.kind < 1 := by omega
          have g4 : ¬ 255 < r.kind := by omega
          by_cases hsz : 96 < r.data.size
          · have HV : Hid (V = 3) := by
              have e7 : recE n l (run.take k) r = 3 := by unfold recE; rw [hins, if_neg (by simp), if_neg hrg, if_pos hsz]
              rw [HST.out, e7]; exact Lib.hid rfl
            have hsz2 : 96 < (r.data.size : Int) := by omega
            clear hins HST hrg
            go_wp2_with fail
            go_ret
            exact ⟨by rw [HV.out]; rfl, H4.out.drop.drop.drop⟩
          · have hsz2 : ¬ 96 < (r.data.size : Int) := by omega
            have hre : recE n l (run.take k) r = if hasAt (run.take k) r.at_ then 8 else 0 := by unfold recE; rw [hins, if_neg (by simp), if_neg hrg, if_neg hsz]
            have HRE := Lib.hid hre
            have hlt2 : (run.take k).length = k := by simp; omega
            clear hins hrg hre
            go_upto_region 13 with fail
            go_cut [58] (fun z wx => z = .bool (hasAt (run.take k) r.at_) ∧ Has w wx (Blk _ (W.heap.size + 1) (.cells #[.int .i64 l.first, .int .i64 l.size] 23) :: Blk _ W.heap.size (.cells #[.slice aS S.st.length cS, .slice aC S.ca.length cC, .int .i64 S.taken, .int .i64 S.power, .bool S.off] 34) :: rs))
            case first =>
              as_aux_lemma =>
              go_wp2_with fail
              refine wp_region_ordJ (fun W' => W'.cell? ⟨wr.heap.size, 0, none⟩ = some (.int .i64 r.at_) ∧ True ∧ True) (OrdT.takes [0, 1, 2, 3, 4] (.one 5 .done)) (by kernel_rfl) (by kernel_rfl) ⟨H4.out.drew.cell 0 _ _ _ rfl 0 _ rfl, trivial, trivial⟩ (fun wz hz => ?_)
              have h6 := H4.out.drew
              rw [← hz] at h6
              have H6 := Lib.hid h6
              have htk := rdl_upto (h6.rd (.tail _ (.tail _ (.tail _ HVM.out)))) k hk hcap
              have hhs := refhas htk r.at_ (by omega)
              rw [hlt2] at hhs
              have HHS := Lib.hid hhs
              clear hz h6 H4 htk hhs
              unfold OrdT.takes
              --ordt mmyyy
              iterate 2 (refine' t_move _ _ rfl rfl rfl rfl _ _; rotate_left; (go_simp; with_reducible rfl); simp only [Act.put, List.setIfInBounds_toArray, List.set_cons_zero, List.set_cons_succ])
              iterate 3 (refine' t_yield _ rfl rfl rfl _ _; rotate_left; (intro w' hSw; obtain ⟨s0, s1, s2⟩ := hSw; go_simp; with_reducible rfl); simp only [Act.put, List.setIfInBounds_toArray, List.set_cons_zero, List.set_cons_succ])
              --end
              refine t_one rfl rfl (fun K hK => ?_)
              go_simp
              refine HHS.out.mono ?_
              clear HHS
              rintro e w7 ⟨rfl, hB7⟩
              have H7 := Lib.hid (H6.out.below hB7)
              clear hB7 H6
              dsimp only
              refine hK _ _ ⟨H7.out.cell 0 _ _ _ rfl 0 _ rfl, trivial, trivial⟩ ?_
              clear hK
              refine t_done ?_
              go_wp2_with fail
              go_meet
              exact ⟨rfl, H7.out.drop⟩
            case rest =>
            obtain ⟨rfl, h5⟩ := hcut
            cases hha : hasAt (run.take k) r.at_
            · have HN : Hid (V = validK n l (run.take (k + 1)) (run.drop (k + 1))) := by rw [HST.out, HRE.out, hha, if_neg (by simp)]; exact Lib.hid rfl
              have H5 := Lib.hid h5
              clear h5 hha HST HRE H4 c0 c1 c2 s0
              go_wp2_with fail
              go_roundw
              case rel => exact ⟨k + 1, by go_num, by omega, HN, H5.out⟩
              case measure => simp [intOf]; omega
            · have HV : Hid (V = 8) := by rw [HST.out, HRE.out, hha, if_pos rfl, if_pos (by simp)]; exact Lib.hid rfl
              have H5 := Lib.hid h5
              clear h5 hha HST HRE H4 c0 c1 c2 s0
              go_wp2_with fail
              go_ret
              exact ⟨by rw [HV.out]; rfl, H5.out.drop.drop⟩
      · have HV : Hid (V = 2) := by
          have e7 : recE n l (run.take k) r = 2 := by unfold recE; rw [hins, if_pos rfl]
          rw [HST.out, e7]; exact Lib.hid rfl
        clear hins HST
        go_wp2_with fail
        go_ret
        exact ⟨by rw [HV.out]; rfl, H4.out.drop.drop.drop⟩
    · obtain rfl : k = run.length := by omega
      have HV : Hid (V = 0) := by
        have := hVK.out
        rw [List.drop_length] at this
        rw [this]; exact Lib.hid rfl
      have HH := Lib.hid hH
      clear hVK hH
      go_wp2_with fail
      go_ret
      exact ⟨by rw [HV.out]; rfl, HH.out.drop.drop⟩
end Go.Proofs.YtfbkfdoekgnldaaGreatDoor
namespace Go.Proofs.YtfbkfdoekgnldaaGreatDoor
open Go.RowKit
open Lime
attribute [local go_sem] Oper.semAt_some setRow_alloc_at setRow_alloc_past setRow_drew g_same32 g_eq32 g_ne32
theorem puts_step {ps : List PutA} {S D : Dv} {k : Nat} {a : PutA} (ha : ps[k]? = some a) (hz : S.putAll (ps.take k) = (D, 0)) :
    (D.putAE a = 0 → S.putAll (ps.take (k + 1)) = (D.putA a, 0)) ∧ (D.putAE a ≠ 0 → S.putAll ps = (D.putA a, D.putAE a)) := by
  have h1 := putAll_next ps S k a ha (by rw [hz])
  have h2 := putAll_split ps S k a ha (by rw [hz])
  rw [hz] at h1 h2
  dsimp only at h1 h2
  exact ⟨fun h => by rw [h1, if_neg (by simp [h])], fun h => by rw [h2, if_pos h]⟩
set_option maxRecDepth 100000 in
set_option maxHeartbeats 8000000 in
theorem refapply {W : World} {S : Dv} {uS uC : Value} (h : StIn W S uS uC) (ok : S.Ok) (l : Lay) :
    Calls Tryz.prog 26 #[.agg #[uS, uC, .int .i64 S.taken, .int .i64 S.power, .bool S.off], .agg #[.int .i64 l.first, .int .i64 l.size]] W (StRes3 W S uS uC (applyM S l).1 (applyM S l).2.1 (applyM S l).2.2) := by
  have h0 := (Has.start W).addSt h
  obtain ⟨⟨aS, akS, rfl, -⟩, ⟨aC, akC, rfl, -⟩, -, -⟩ := h
  have h1 := ((h0.alloc (.cells #[.slice aS S.st.length akS, .slice aC S.ca.length akC, .int .i64 S.taken, .int .i64 S.power, .bool S.off] 34)).allocAt (.cells #[.int .i64 l.first, .int .i64 l.size] 23) (W.heap.size + 1) (by simp)).allocAt (.cells #[.slice none 0 0, .slice none 0 0, .int .i64 0, .int .i64 0, .bool false] 34) (W.heap.size + 1 + 1) (by simp)
  have HL := Lib.hid (reflook h1 (.tail _ (.tail _ (.tail _ (.head _)))) ok.s2 l)
  obtain ⟨R, hR⟩ : ∃ R, R = applyM S l := ⟨_, rfl⟩
  rw [← hR]
  have hRd : R = if (lookM S l).2.2 ≠ 0 then (S, 0, (lookM S l).2.2) else if (lookM S l).2.1 = false then (S, 0, 9) else many (appM S ((headM S l).1 + 1#32) (lookM S l).1) (lookM S l).1.length := hR
  have hsm := look_small S l
  obtain ⟨⟨out, wh, c⟩, hq⟩ : ∃ x, x = lookM S l := ⟨_, rfl⟩
  rw [← hq] at HL hRd hsm
  dsimp only at HL hRd hsm
  have HRD := Lib.hid hRd
  have HSM := Lib.hid hsm
  have hob : out.length ≤ 96 := hsm.2
  have HOK := Lib.hid ok
  clear h0 h1 hR hRd hq hsm ok
  go_enter Tryz.func26, Tryz.ntmps26
  go_wp2_with fail
  refine HL.out.mono ?_
  clear HL
  rintro e w2 ⟨a, cap, rfl, h2⟩
  have H2 := Lib.hid h2.asRd
  clear h2
  obtain ⟨s0, s1, s2, s3, s4, sf0, sf1, sf2, sf3, sf4, sz⟩ := H2.out.cells5 3 _ _ _ _ _ _ _ rfl
  obtain ⟨z0, z1, z2, z3, z4, zf0, zf1, zf2, zf3, zf4, zz⟩ := H2.out.cells5 1 _ _ _ _ _ _ _ rfl
  have b0 := H2.out.cell 2 _ _ _ rfl 0 _ rfl
  have b1 := H2.out.cell 2 _ _ _ rfl 1 _ rfl
  by_cases hc : c = 0
  · subst hc
    cases wh with
    | false =>
      have hRF : R = (S, 0, 9) := by rw [HRD.out, if_neg (by simp), if_pos rfl]
      have HRF := Lib.hid hRF
      have H3 := Lib.hid (Has.store5 [_] H2.out (.slice aS S.st.length akS) (.slice aC S.ca.length akC) (.int .i64 S.taken) (.int .i64 S.power) (.bool S.off))
      clear hRF HRD H2
      go_wp2_with fail
      refine bodyPost_ret (results_st3 rfl _ _ (W.heap.size + 1 + 1) _ rfl (H3.out.blk 1 _ _ rfl).1 rfl) rfl ?_
      rw [HRF.out]
      exact H3.out.stEnd3 (.tail _ (.tail _ (.tail _ (.tail _ (.head _))))) Sub.rfl'
    | true =>
      have hHD := refhead H2.out (.tail _ (.tail _ (.tail _ (.tail _ (.head _))))) l
      obtain ⟨⟨q, c2⟩, hq2⟩ : ∃ x, x = headM S l := ⟨_, rfl⟩
      have hRF : R = many (appM S ((headM S l).1 + 1#32) out) out.length := by rw [HRD.out, if_neg (by simp), if_neg (by simp)]
      rw [← hq2] at hHD hRF
      dsimp only at hHD hRF
      obtain ⟨Q, hQ⟩ : ∃ Q, Q = q + 1#32 := ⟨_, rfl⟩
      have hvs : IntKind.u32.wrap (vu q + 1) = vu Q := by rw [hQ]; exact vu_succ q
      obtain ⟨ps, hps⟩ : ∃ ps, ps = appPuts Q out := ⟨_, rfl⟩
      have HPS := Lib.hid hps
      have HRM : Hid (R = many (Dv.done (S.putAll ps)) out.length) := by rw [hRF, hps, hQ]; exact Lib.hid rfl
      have HHD := Lib.hid hHD
      clear hHD hRF HRD hq2 hQ hps
      go_wp2_with fail
      refine HHD.out.mono ?_
      clear HHD b0 b1 s0 s1 s2 s3 s4 sf0 sf1 sf2 sf3 sf4 sz z0 z1 z2 z3 z4 zf0 zf1 zf2 zf3 zf4 zz
      rintro e w3 ⟨rfl, h3⟩
      have H3 := Lib.hid h3
      clear h3 H2
      go_wp2_with fail
      go_loopw [9, 12] (fun ev iv wr => ∃ (k : Nat) (D : Dv) (e : Int) (bS : Option Addr) (bkS : Nat) (bC : Option Addr) (bkC : Nat), ev = .int .i64 e ∧ iv = .int .i64 (k : Int) ∧ k ≤ out.length ∧ Hid D.Ok ∧ Hid ((e = 0 ∧ S.putAll (ps.take k) = (D, 0)) ∨ (e ≠ 0 ∧ S.putAll ps = (D, e))) ∧ Hid (Sub W.heap.size S (.slice aS S.st.length akS) (.slice aC S.ca.length akC) D (.slice bS D.st.length bkS) (.slice bC D.ca.length bkC)) ∧ Has W wr (RunR _ (.slice a out.length cap) out :: Blk _ (W.heap.size + 1 + 1) (.cells #[.slice none 0 0, .slice none 0 0, .int .i64 0, .int .i64 0, .bool false] 34) :: Blk _ (W.heap.size + 1) (.cells #[.int .i64 l.first, .int .i64 l.size] 23) :: Blk _ W.heap.size (.cells #[.slice bS D.st.length bkS, .slice bC D.ca.length bkC, .int .i64 D.taken, .int .i64 D.power, .bool D.off] 34) :: StR _ (.slice bS D.st.length bkS) (.slice bC D.ca.length bkC) D :: [])) (fun _ i _ => out.length - (intOf i).toNat)
      case atStart => exact ⟨0, S, 0, aS, akS, aC, akC, rfl, rfl, Nat.zero_le _, HOK, Lib.hid (.inl ⟨rfl, rfl⟩), Lib.hid Sub.rfl', H3.out⟩
      case round =>
        obtain ⟨k, D, e, bS, bkS, bC, bkC, rfl, rfl, hk, HDO, HIV, HSUB, hH⟩ := hrel
        clear H3
        by_cases he : e = 0
        · subst he
          have hpk : S.putAll (ps.take k) = (D, 0) := by
            rcases HIV.out with ⟨_, h⟩ | ⟨h, _⟩
            · exact h
            · exact absurd rfl h
          by_cases hlt : k < out.length
          · as_aux_lemma =>
            obtain ⟨r, hr⟩ : ∃ r, out[k]? = some r := ⟨_, List.getElem?_eq_getElem hlt⟩
            obtain ⟨br, or_, rfl⟩ := (hH.rd (.head _)).addr recL_len (by omega)
            have hi1 := fun w => run_index_rec br or_ out.length cap k hlt w
            have hpa : ps[k]? = some ⟨r.at_, r.kind, Q, r.data⟩ := by rw [HPS.out]; unfold appPuts; rw [List.getElem?_map, hr]; rfl
            obtain ⟨hp0, hp1⟩ := puts_step hpa hpk
            have hdr := HSM.out.1 r (List.mem_of_getElem? hr)
            obtain ⟨E, hE⟩ : ∃ E, E = D.putAE ⟨r.at_, r.kind, Q, r.data⟩ := ⟨_, rfl⟩
            obtain ⟨D1, hD1⟩ : ∃ D1, D1 = D.putA ⟨r.at_, r.kind, Q, r.data⟩ := ⟨_, rfl⟩
            have hok1 : D1.Ok := by rw [hD1]; exact Dv.putA_ok HDO.out _
            rw [← hE, ← hD1] at hp0 hp1
            have HNX : Hid ((E = 0 ∧ S.putAll (ps.take (k + 1)) = (D1, 0)) ∨ (E ≠ 0 ∧ S.putAll ps = (D1, E))) := by
              by_cases h : E = 0
              · exact Lib.hid (.inl ⟨h, hp0 h⟩)
              · exact Lib.hid (.inr ⟨h, hp1 h⟩)
            have HPUT : Hid (∀ W' rs', Has W W' rs' → StR _ (.slice bS D.st.length bkS) (.slice bC D.ca.length bkC) D ∈ rs' → Calls Tryz.prog 64 #[.agg #[.slice bS D.st.length bkS, .slice bC D.ca.length bkC, .int .i64 D.taken, .int .i64 D.power, .bool D.off], .int .i64 r.at_, .int .i64 r.kind, .int .u32 (vu Q), .string r.data] W' (StRes W' D (.slice bS D.st.length bkS) (.slice bC D.ca.length bkC) D1 E)) := fun W' rs' h hm => by
              rw [hD1, hE]
              exact refput (h.st hm) HDO.out r.at_ r.kind Q r.data (by omega)
            have HSZ : Hid (∀ W' rs', Has W W' rs' → RunR _ (.slice (some ⟨br, or_, none⟩) out.length cap) out ∈ rs' → Blk _ W.heap.size (.cells #[.slice bS D.st.length bkS, .slice bC D.ca.length bkC, .int .i64 D.taken, .int .i64 D.power, .bool D.off] 34) ∈ rs' → W'.rangeAt W.heap.size 0 (stL (.slice bS D.st.length bkS) (.slice bC D.ca.length bkC) D) ∧ (W'.cell? ⟨br, or_ + k * 3, none⟩ = some (.int .i64 r.at_) ∧ W'.cell? ⟨br, or_ + k * 3 + 1, none⟩ = some (.int .i64 r.kind) ∧ W'.cell? ⟨br, or_ + k * 3 + 2, none⟩ = some (.string r.data)) ∧ True) := fun W' rs' h h1 h2 => by
              obtain ⟨n, hn⟩ := List.getElem?_of_mem h2
              exact ⟨st_row (h.blk n _ _ hn).1, ⟨h.rdCell recL_len h1 k _ hr 0 _ rfl, h.rdCell recL_len h1 k _ hr 1 _ rfl, h.rdCell recL_len h1 k _ hr 2 _ rfl⟩, trivial⟩
            have HOK1 := Lib.hid hok1
            have H4 := Lib.hid hH
            have hkl : (k : Int) < (out.length : Int) := by omega
            clear hH hp0 hp1 hpa hpk hE hD1 hr hdr HIV hok1
            go_wp2_with fail
            refine wp_region_ordJ (fun W' => W'.rangeAt W.heap.size 0 (stL (.slice bS D.st.length bkS) (.slice bC D.ca.length bkC) D) ∧ (W'.cell? ⟨br, or_ + k * 3, none⟩ = some (.int .i64 r.at_) ∧ W'.cell? ⟨br, or_ + k * 3 + 1, none⟩ = some (.int .i64 r.kind) ∧ W'.cell? ⟨br, or_ + k * 3 + 2, none⟩ = some (.string r.data)) ∧ True) (OrdT.takes [0, 1, 2, 3, 4, 5, 6, 7, 8, 9, 10, 11, 12, 13, 14, 15, 16, 17] (.one 18 (OrdT.takes [19, 20] (.pure 21 (.late 22 23))))) (by kernel_rfl) (by kernel_rfl) (HSZ.out _ _ H4.out.drew (.head _) (.tail _ (.tail _ (.tail _ (.head _))))) (fun wz hz => ?_)
            have h5 := H4.out.drew
            rw [← hz] at h5
            have H5 := Lib.hid h5
            clear hz h5 H4
            unfold OrdT.takes
            refine t_load W.heap.size 0 (stL (.slice bS D.st.length bkS) (.slice bC D.ca.length bkC) D) _ _ _ rfl rfl rfl rfl rfl (fun w' hSw => hSw.1) Tryz.underlying34 rfl (stL_size _ _ _) ?_
            simp only [Act.put, List.setIfInBounds_toArray, List.set_cons_zero, List.set_cons_succ, stL_arr]
            --ordt mmyyymmyyymymmyyy
            iterate 2 (refine' t_move _ _ rfl rfl rfl rfl _ _; rotate_left; (go_simp; with_reducible rfl); simp only [Act.put, List.setIfInBounds_toArray, List.set_cons_zero, List.set_cons_succ])
            iterate 3 (refine' t_yield _ rfl rfl rfl _ _; rotate_left; (intro w' hSw; obtain ⟨s0, s1, s2⟩ := hSw; go_simp; with_reducible rfl); simp only [Act.put, List.setIfInBounds_toArray, List.set_cons_zero, List.set_cons_succ])
            iterate 2 (refine' t_move _ _ rfl rfl rfl rfl _ _; rotate_left; (go_simp; with_reducible rfl); simp only [Act.put, List.setIfInBounds_toArray, List.set_cons_zero, List.set_cons_succ])
            iterate 3 (refine' t_yield _ rfl rfl rfl _ _; rotate_left; (intro w' hSw; obtain ⟨s0, s1, s2⟩ := hSw; go_simp; with_reducible rfl); simp only [Act.put, List.setIfInBounds_toArray, List.set_cons_zero, List.set_cons_succ])
            (refine' t_move _ _ rfl rfl rfl rfl _ _; rotate_left; (go_simp; with_reducible rfl); simp only [Act.put, List.setIfInBounds_toArray, List.set_cons_zero, List.set_cons_succ])
            (refine' t_yield _ rfl rfl rfl _ _; rotate_left; (intro w' hSw; obtain ⟨s0, s1, s2⟩ := hSw; go_simp; with_reducible rfl); simp only [Act.put, List.setIfInBounds_toArray, List.set_cons_zero, List.set_cons_succ])
            iterate 2 (refine' t_move _ _ rfl rfl rfl rfl _ _; rotate_left; (go_simp; with_reducible rfl); simp only [Act.put, List.setIfInBounds_toArray, List.set_cons_zero, List.set_cons_succ])
            iterate 3 (refine' t_yield _ rfl rfl rfl _ _; rotate_left; (intro w' hSw; obtain ⟨s0, s1, s2⟩ := hSw; go_simp; with_reducible rfl); simp only [Act.put, List.setIfInBounds_toArray, List.set_cons_zero, List.set_cons_succ])
            --end
            refine t_one rfl rfl (fun K hK => ?_)
            go_simp
            refine (HPUT.out _ _ H5.out (.tail _ (.tail _ (.tail _ (.tail _ (.head _)))))).mono ?_
            rintro e w6 hr
            obtain ⟨dS, dkS, dC, dkC, rfl, h6, hs6⟩ := H5.out.stStep [_, _, _, _] HSUB.out hr
            have H6 := Lib.hid h6
            have HS6 := Lib.hid hs6
            clear hr h6 hs6 H5
            dsimp only
            refine hK _ _ (HSZ.out _ _ H6.out (.head _) (.tail _ (.tail _ (.tail _ (.head _))))) ?_
            clear hK
            unfold OrdT.takes
            --ordt my
            (refine' t_move _ _ rfl rfl rfl rfl _ _; rotate_left; (go_simp; with_reducible rfl); simp only [Act.put, List.setIfInBounds_toArray, List.set_cons_zero, List.set_cons_succ])
            (refine' t_yield _ rfl rfl rfl _ _; rotate_left; (intro w' hSw; obtain ⟨s0, s1, s2⟩ := hSw; go_simp; with_reducible rfl); simp only [Act.put, List.setIfInBounds_toArray, List.set_cons_zero, List.set_cons_succ])
            --end
            (refine' t_pure _ rfl rfl rfl _ _; rotate_left; (intro w'; go_simp; with_reducible rfl); simp only [Act.put, List.setIfInBounds_toArray, List.set_cons_zero, List.set_cons_succ])
            obtain ⟨t0, t1, t2, t3, t4, tf0, tf1, tf2, tf3, tf4, tz⟩ := H6.out.cells5 3 _ _ _ _ _ _ _ rfl
            have H7 := Lib.hid (Has.store5 [_, _, _] H6.out (.slice dS D1.st.length dkS) (.slice dC D1.ca.length dkC) (.int .i64 D1.taken) (.int .i64 D1.power) (.bool D1.off))
            refine t_late rfl rfl rfl (fun K hK => ?_)
            go_simp
            refine hK _ _ rfl (fun K2 hK2 => ?_)
            go_simp
            refine hK2 _ _ (NoPanic.normal ?_)
            clear hK hK2
            go_wp2_with fail
            go_roundw
            case rel => exact ⟨k + 1, D1, E, dS, dkS, dC, dkC, rfl, by go_num, by omega, HOK1, HNX, HS6, H7.out⟩
            case measure => simp [intOf]; omega
          · as_aux_lemma =>
            obtain rfl : k = out.length := by omega
            have hpl : ps.length ≤ out.length := by rw [HPS.out]; simp [appPuts]
            have hall : S.putAll ps = (D, 0) := by rw [← hpk, List.take_of_length_le hpl]
            obtain ⟨D2, hD2⟩ : ∃ D2, D2 = D.flush := ⟨_, rfl⟩
            obtain ⟨f, hf⟩ : ∃ f, f = D.flushE := ⟨_, rfl⟩
            have hRF : R = many (D2, f) out.length := by rw [HRM.out, hall, hD2, hf]; unfold Dv.done; rw [if_neg (by simp)]
            have hF := ref_flush (hH.st (.tail _ (.tail _ (.tail _ (.tail _ (.head _)))))) HDO.out.c2
            unfold stCells at hF
            rw [← hD2, ← hf] at hF
            obtain ⟨s0, s1, s2, s3, s4, sf0, sf1, sf2, sf3, sf4, sz⟩ := hH.cells5 3 _ _ _ _ _ _ _ rfl
            have HF := Lib.hid hF
            have H4 := Lib.hid hH
            have HR2 := Lib.hid hRF
            have hlt2 : ¬ ((out.length : Int) < (out.length : Int)) := by omega
            clear hF hH hRF hall hpk hD2 hf hlt
            go_wp2_with fail
            refine HF.out.mono ?_
            clear HF s0 s1 s2 s3 s4 sf0 sf1 sf2 sf3 sf4 sz
            rintro e w5 hr
            obtain ⟨dS, dkS, dC, dkC, rfl, h5, hs5⟩ := H4.out.stStep [_, _, _, _] HSUB.out hr
            obtain ⟨t0, t1, t2, t3, t4, tf0, tf1, tf2, tf3, tf4, tz⟩ := h5.cells5 3 _ _ _ _ _ _ _ rfl
            have h6 := Has.store5 [_, _, _] h5 (.slice dS D2.st.length dkS) (.slice dC D2.ca.length dkC) (.int .i64 D2.taken) (.int .i64 D2.power) (.bool D2.off)
            have HS5 := Lib.hid hs5
            have H6 := Lib.hid h6
            clear hr h5 hs5 h6
            by_cases hf0 : f = 0
            · subst hf0
              have HRF : Hid (R = (D2, (out.length : Int), 0)) := by rw [HR2.out]; unfold many; rw [if_neg (by simp)]; exact Lib.hid rfl
              go_upto_region 13 with fail
              go_cut [76] (fun z wx => z = .bool false ∧ Has W wx (RunR _ (.slice a out.length cap) out :: Blk _ (W.heap.size + 1 + 1) (.cells #[.slice none 0 0, .slice none 0 0, .int .i64 0, .int .i64 0, .bool false] 34) :: Blk _ (W.heap.size + 1) (.cells #[.int .i64 l.first, .int .i64 l.size] 23) :: Blk _ W.heap.size (.cells #[.slice dS D2.st.length dkS, .slice dC D2.ca.length dkC, .int .i64 D2.taken, .int .i64 D2.power, .bool D2.off] 34) :: StR _ (.slice dS D2.st.length dkS) (.slice dC D2.ca.length dkC) D2 :: []))
              case first =>
                go_wp2_with fail
                go_meet
                exact ⟨rfl, H6.out⟩
              case rest =>
              obtain ⟨rfl, h7⟩ := hcut
              obtain ⟨y0, y1, y2, y3, y4, yf0, yf1, yf2, yf3, yf4, yz⟩ := h7.cells5 3 _ _ _ _ _ _ _ rfl
              obtain ⟨x0, x1, x2, x3, x4, xf0, xf1, xf2, xf3, xf4, xz⟩ := h7.cells5 1 _ _ _ _ _ _ _ rfl
              have H7 := Lib.hid (Has.store5 [_] h7 (.slice dS D2.st.length dkS) (.slice dC D2.ca.length dkC) (.int .i64 D2.taken) (.int .i64 D2.power) (.bool D2.off))
              clear h7 H6 t0 t1 t2 t3 t4 tf0 tf1 tf2 tf3 tf4 tz
              go_wp2_with fail
              refine bodyPost_ret (results_st3 rfl _ _ (W.heap.size + 1 + 1) _ rfl (H7.out.blk 1 _ _ rfl).1 rfl) rfl ?_
              rw [HRF.out]
              exact H7.out.stEnd3 (.tail _ (.tail _ (.tail _ (.tail _ (.head _))))) HS5.out
            · have hfb : (f != 0) = true := by simpa using hf0
              have HRF : Hid (R = (D2, 0, f)) := by rw [HR2.out]; unfold many; rw [if_pos hf0]; exact Lib.hid rfl
              go_upto_region 13 with fail
              go_cut [76] (fun z wx => z = .bool true ∧ Has W wx (RunR _ (.slice a out.length cap) out :: Blk _ (W.heap.size + 1 + 1) (.cells #[.slice none 0 0, .slice none 0 0, .int .i64 0, .int .i64 0, .bool false] 34) :: Blk _ (W.heap.size + 1) (.cells #[.int .i64 l.first, .int .i64 l.size] 23) :: Blk _ W.heap.size (.cells #[.slice dS D2.st.length dkS, .slice dC D2.ca.length dkC, .int .i64 D2.taken, .int .i64 D2.power, .bool D2.off] 34) :: StR _ (.slice dS D2.st.length dkS) (.slice dC D2.ca.length dkC) D2 :: []))
              case first =>
                go_wp2_with fail
                go_meet
                exact ⟨rfl, H6.out⟩
              case rest =>
              obtain ⟨rfl, h7⟩ := hcut
              obtain ⟨y0, y1, y2, y3, y4, yf0, yf1, yf2, yf3, yf4, yz⟩ := h7.cells5 3 _ _ _ _ _ _ _ rfl
              obtain ⟨x0, x1, x2, x3, x4, xf0, xf1, xf2, xf3, xf4, xz⟩ := h7.cells5 1 _ _ _ _ _ _ _ rfl
              have H7 := Lib.hid (Has.store5 [_] h7 (.slice dS D2.st.length dkS) (.slice dC D2.ca.length dkC) (.int .i64 D2.taken) (.int .i64 D2.power) (.bool D2.off))
              clear h7 H6 t0 t1 t2 t3 t4 tf0 tf1 tf2 tf3 tf4 tz
              go_wp2_with fail
              refine bodyPost_ret (results_st3 rfl _ _ (W.heap.size + 1 + 1) _ rfl (H7.out.blk 1 _ _ rfl).1 rfl) rfl ?_
              rw [HRF.out]
              exact H7.out.stEnd3 (.tail _ (.tail _ (.tail _ (.tail _ (.head _))))) HS5.out
        · as_aux_lemma =>
          have hall : S.putAll ps = (D, e) := by
            rcases HIV.out with ⟨h, _⟩ | ⟨_, h⟩
            · exact absurd h he
            · exact h
          have HRF : Hid (R = (D, 0, e)) := by rw [HRM.out, hall]; unfold Dv.done many; rw [if_pos he, if_pos he]; exact Lib.hid rfl
          have heb : (e != 0) = true := by simpa using he
          have heb2 : (e == 0) = false := by simpa using he
          obtain ⟨s0, s1, s2, s3, s4, sf0, sf1, sf2, sf3, sf4, sz⟩ := hH.cells5 3 _ _ _ _ _ _ _ rfl
          obtain ⟨x0, x1, x2, x3, x4, xf0, xf1, xf2, xf3, xf4, xz⟩ := hH.cells5 1 _ _ _ _ _ _ _ rfl
          have H7 := Lib.hid (Has.store5 [_] hH (.slice bS D.st.length bkS) (.slice bC D.ca.length bkC) (.int .i64 D.taken) (.int .i64 D.power) (.bool D.off))
          clear hH hall HIV
          by_cases hlt : (k : Int) < (out.length : Int)
          · skip
            go_wp2_with fail
            refine bodyPost_ret (results_st3 rfl _ _ (W.heap.size + 1 + 1) _ rfl (H7.out.blk 1 _ _ rfl).1 rfl) rfl ?_
            rw [HRF.out]
            exact H7.out.stEnd3 (.tail _ (.tail _ (.tail _ (.tail _ (.head _))))) HSUB.out
          · skip
            go_wp2_with fail
            refine bodyPost_ret (results_st3 rfl _ _ (W.heap.size + 1 + 1) _ rfl (H7.out.blk 1 _ _ rfl).1 rfl) rfl ?_
            rw [HRF.out]
            exact H7.out.stEnd3 (.tail _ (.tail _ (.tail _ (.tail _ (.head _))))) HSUB.out
  · have hcb : (c != 0) = true := by simpa using hc
    have hcb2 : (c == 0) = false := by simpa using hc
    have hRF : R = (S, 0, c) := by rw [HRD.out, if_pos hc]
    have HRF := Lib.hid hRF
    have H3 := Lib.hid (Has.store5 [_] H2.out (.slice aS S.st.length akS) (.slice aC S.ca.length akC) (.int .i64 S.taken) (.int .i64 S.power) (.bool S.off))
    clear hRF HRD H2
    go_wp2_with fail
    refine bodyPost_ret (results_st3 rfl _ _ (W.heap.size + 1 + 1) _ rfl (H3.out.blk 1 _ _ rfl).1 rfl) rfl ?_
    rw [HRF.out]
    exact H3.out.stEnd3 (.tail _ (.tail _ (.tail _ (.tail _ (.head _))))) Sub.rfl'
end Go.Proofs.YtfbkfdoekgnldaaGreatDoor
namespace Go.Proofs.YtfbkfdoekgnldaaGreatDoor
open Go.RowKit
open Lime
attribute [local go_sem] Oper.semAt_some setRow_alloc_at setRow_alloc_past setRow_drew g_same32 g_eq32 g_ne32
set_option maxRecDepth 100000 in
set_option maxHeartbeats 16000000 in
theorem reflog {W : World} {S : Dv} {uS uC : Value} (h : StIn W S uS uC) (ok : S.Ok) (l : Lay) {a : Option Addr} {cap : Nat} {run : List Rec} (hv : RdL W 3 recL (.slice a run.length cap) run) (hd : ∀ r ∈ run, r.data.size ≤ 9223372036854775807) (hlen : run.length ≤ 9223372036854775807) (hcap : run.length ≤ cap) :
    Calls Tryz.prog 24 #[.agg #[uS, uC, .int .i64 S.taken, .int .i64 S.power, .bool S.off], .agg #[.int .i64 l.first, .int .i64 l.size], .slice a run.length cap] W (StRes W S uS uC (logM S l run).1 (logM S l run).2) := by
  have h0 := ((Has.start W).addRd hv recL_len (by decide)).addSt h
  obtain ⟨⟨aS, akS, rfl, -⟩, ⟨aC, akC, rfl, -⟩, -, -⟩ := h
  have h1 := ((h0.alloc (.cells #[.slice aS S.st.length akS, .slice aC S.ca.length akC, .int .i64 S.taken, .int .i64 S.power, .bool S.off] 34)).allocAt (.cells #[.int .i64 l.first, .int .i64 l.size] 23) (W.heap.size + 1) (by simp)).allocAt (.cells #[.slice none 0 0, .slice none 0 0, .int .i64 0, .int .i64 0, .bool false] 34) (W.heap.size + 1 + 1) (by simp)
  have HHD := Lib.hid (refhead h1 (.tail _ (.tail _ (.tail _ (.head _)))) l)
  obtain ⟨R, hR⟩ : ∃ R, R = logM S l run := ⟨_, rfl⟩
  rw [← hR]
  unfold logM at hR
  have hchk : (headM S l).2 = 0 → l.check = 0 := fun h0 => by
    by_cases hz : l.check = 0
    · exact hz
    · unfold headM at h0; rw [if_pos hz] at h0; exact absurd h0 hz
  obtain ⟨⟨q, c⟩, hq⟩ : ∃ x, x = headM S l := ⟨_, rfl⟩
  rw [← hq] at HHD hR hchk
  dsimp only at HHD hR hchk
  have HRD := Lib.hid hR
  have H1 := Lib.hid h1
  have HOK := Lib.hid ok
  have HDD := Lib.hid hd
  clear h0 h1 hR hq ok hv hd
  go_enter Tryz.func24, Tryz.ntmps24
  go_wp2_with fail
  refine HHD.out.mono ?_
  clear HHD
  rintro e w2 ⟨rfl, h2⟩
  obtain ⟨s0, s1, s2, s3, s4, sf0, sf1, sf2, sf3, sf4, sz⟩ := h2.cells5 2 _ _ _ _ _ _ _ rfl
  obtain ⟨z0, z1, z2, z3, z4, zf0, zf1, zf2, zf3, zf4, zz⟩ := h2.cells5 0 _ _ _ _ _ _ _ rfl
  have b0 := h2.cell 1 _ _ _ rfl 0 _ rfl
  have b1 := h2.cell 1 _ _ _ rfl 1 _ rfl
  have H2 := Lib.hid h2
  by_cases hc : c = 0
  · subst hc
    have hlc := hchk rfl
    have hch := Lay.check_ok hlc
    have hV := refvalid h2 (.tail _ (.tail _ (.tail _ (.head _)))) HOK.out.s2 l hlc (.tail _ (.tail _ (.tail _ (.tail _ (.head _))))) HDD.out hlen hcap
    have hval : validM S.st.length l run = 0 → RunOk S.st.length l run := valid_ok
    have hvk := fun h => valid_kind (n := S.st.length) (l := l) run [] h
    have hn256 := HOK.out.s2
    obtain ⟨v, hve⟩ : ∃ v, v = validM S.st.length l run := ⟨_, rfl⟩
    rw [← hve] at hV HRD hval
    have HV := Lib.hid hV
    clear hV hve hvk h2 hchk hlc
    go_wp2_with fail
    refine HV.out.mono ?_
    clear HV b0 b1 s0 s1 s2 s3 s4 sf0 sf1 sf2 sf3 sf4 sz z0 z1 z2 z3 z4 zf0 zf1 zf2 zf3 zf4 zz
    rintro e w3 ⟨rfl, h3⟩
    have H3 := Lib.hid h3
    obtain ⟨s0, s1, s2, s3, s4, sf0, sf1, sf2, sf3, sf4, sz⟩ := h3.cells5 2 _ _ _ _ _ _ _ rfl
    obtain ⟨z0, z1, z2, z3, z4, zf0, zf1, zf2, zf3, zf4, zz⟩ := h3.cells5 0 _ _ _ _ _ _ _ rfl
    clear h3 H1 H2
    by_cases hv0 : v = 0
    · subst hv0
      have HVAL := Lib.hid (hval rfl)
      obtain ⟨Q, hQ⟩ : ∃ Q, Q = q + 1#32 := ⟨_, rfl⟩
      have hvs : IntKind.u32.wrap (vu q + 1) = vu Q := by rw [hQ]; exact vu_succ q
      obtain ⟨ps, hps⟩ : ∃ ps, ps = logPuts l Q 1 run := ⟨_, rfl⟩
      have HPS := Lib.hid hps
      have HRM : Hid (R = Dv.done (S.putAll ps)) := by rw [HRD.out, if_neg (by simp), if_neg (by simp), hps, hQ]; exact Lib.hid rfl
      have hrl : run.length ≤ 80 := by have := (hval rfl).len; have := (most_le l).2; omega
      clear HRD hQ hps hval s0 s1 s2 s3 s4 sf0 sf1 sf2 sf3 sf4 sz z0 z1 z2 z3 z4 zf0 zf1 zf2 zf3 zf4 zz
      go_wp2_with fail
      go_loopw [9, 10] (fun ev iv wr => ∃ (k : Nat) (D : Dv) (e : Int) (bS : Option Addr) (bkS : Nat) (bC : Option Addr) (bkC : Nat), ev = .int .i64 e ∧ iv = .int .i64 (k : Int) ∧ k ≤ run.length ∧ Hid D.Ok ∧ Hid ((e = 0 ∧ S.putAll (ps.take k) = (D, 0)) ∨ (e ≠ 0 ∧ S.putAll ps = (D, e))) ∧ Hid (Sub W.heap.size S (.slice aS S.st.length akS) (.slice aC S.ca.length akC) D (.slice bS D.st.length bkS) (.slice bC D.ca.length bkC)) ∧ Has W wr (Blk _ (W.heap.size + 1 + 1) (.cells #[.slice none 0 0, .slice none 0 0, .int .i64 0, .int .i64 0, .bool false] 34) :: Blk _ (W.heap.size + 1) (.cells #[.int .i64 l.first, .int .i64 l.size] 23) :: Blk _ W.heap.size (.cells #[.slice bS D.st.length bkS, .slice bC D.ca.length bkC, .int .i64 D.taken, .int .i64 D.power, .bool D.off] 34) :: StR _ (.slice bS D.st.length bkS) (.slice bC D.ca.length bkC) D :: RunR _ (.slice a run.length cap) run :: [])) (fun _ i _ => run.length - (intOf i).toNat)
      case atStart => exact ⟨0, S, 0, aS, akS, aC, akC, rfl, rfl, Nat.zero_le _, HOK, Lib.hid (.inl ⟨rfl, rfl⟩), Lib.hid Sub.rfl', H3.out⟩
      case round =>
        obtain ⟨k, D, e, bS, bkS, bC, bkC, rfl, rfl, hk, HDO, HIV, HSUB, hH⟩ := hrel
        clear H3 hvs
        by_cases he : e = 0
        · subst he
          have hpk : S.putAll (ps.take k) = (D, 0) := by
            rcases HIV.out with ⟨_, h⟩ | ⟨h, _⟩
            · exact h
            · exact absurd rfl h
          by_cases hlt : k < run.length
          · as_aux_lemma =>
            obtain ⟨r, hr⟩ : ∃ r, run[k]? = some r := ⟨_, List.getElem?_eq_getElem hlt⟩
            obtain ⟨br, or_, rfl⟩ := (hH.rd (.tail _ (.tail _ (.tail _ (.tail _ (.head _)))))).addr recL_len (by omega)
            have q0 : wr.cell? ⟨br, or_ + k * 3, none⟩ = some (.int .i64 r.at_) := hH.rdCell recL_len (.tail _ (.tail _ (.tail _ (.tail _ (.head _))))) k _ hr 0 _ rfl
            have q1 : wr.cell? ⟨br, or_ + k * 3 + 1, none⟩ = some (.int .i64 r.kind) := hH.rdCell recL_len (.tail _ (.tail _ (.tail _ (.tail _ (.head _))))) k _ hr 1 _ rfl
            have q2 : wr.cell? ⟨br, or_ + k * 3 + 2, none⟩ = some (.string r.data) := hH.rdCell recL_len (.tail _ (.tail _ (.tail _ (.tail _ (.head _))))) k _ hr 2 _ rfl
            have hi1 := fun w => run_index_rec br or_ run.length cap k hlt w
            have hre := (List.getElem?_eq_some_iff.1 hr).2
            have hro := hasAt_take HVAL.out k hlt
            rw [hre] at hro
            have hpa : ps[k]? = some ⟨l.first + 1 + (k : Int), 2, Q, recBytes r⟩ := by rw [HPS.out, logP_get, dif_pos hlt, hre, Int.add_assoc]
            obtain ⟨hp0, hp1⟩ := puts_step hpa hpk
            have hra0 := hro.a0
            have hra1 : r.at_ ≤ 1000000000 := by have := hro.a1; omega
            have hdr := hro.d1
            obtain ⟨cb, hcb⟩ : ∃ cb, cb = UInt8.ofNat (r.kind % 256).toNat := ⟨_, rfl⟩
            have hk8 : IntKind.u8.wrap r.kind = vb cb := by rw [hcb]; exact u8_kind r.kind
            have hrb : recBytes r = two r.at_ ++ ⟨#[cb]⟩ ++ r.data := by rw [hcb]; rfl
            have hrbs : (recBytes r).size ≤ 9223372036854775807 := by rw [recBytes_size]; omega
            obtain ⟨E, hE⟩ : ∃ E, E = D.putAE ⟨l.first + 1 + (k : Int), 2, Q, recBytes r⟩ := ⟨_, rfl⟩
            obtain ⟨D1, hD1⟩ : ∃ D1, D1 = D.putA ⟨l.first + 1 + (k : Int), 2, Q, recBytes r⟩ := ⟨_, rfl⟩
            have hok1 : D1.Ok := by rw [hD1]; exact Dv.putA_ok HDO.out _
            rw [← hE, ← hD1] at hp0 hp1
            have HNX : Hid ((E = 0 ∧ S.putAll (ps.take (k + 1)) = (D1, 0)) ∨ (E ≠ 0 ∧ S.putAll ps = (D1, E))) := by
              by_cases h : E = 0
              · exact Lib.hid (.inl ⟨h, hp0 h⟩)
              · exact Lib.hid (.inr ⟨h, hp1 h⟩)
            have HPUT : Hid (∀ W' rs', Has W W' rs' → StR _ (.slice bS D.st.length bkS) (.slice bC D.ca.length bkC) D ∈ rs' → Calls Tryz.prog 64 #[.agg #[.slice bS D.st.length bkS, .slice bC D.ca.length bkC, .int .i64 D.taken, .int .i64 D.power, .bool D.off], .int .i64 (l.first + 1 + (k : Int)), .int .i64 2, .int .u32 (vu Q), .string (two r.at_ ++ ⟨#[cb]⟩ ++ r.data)] W' (StRes W' D (.slice bS D.st.length bkS) (.slice bC D.ca.length bkC) D1 E)) := fun W' rs' h hm => by
              rw [hD1, hE, ← hrb]
              exact refput (h.st hm) HDO.out (l.first + 1 + (k : Int)) 2 Q (recBytes r) hrbs
            have HSZ : Hid (∀ W' rs', Has W W' rs' → Blk _ wr.heap.size (.cells #[.int .i64 r.at_, .int .i64 r.kind, .string r.data] 60) ∈ rs' → Blk _ (W.heap.size + 1) (.cells #[.int .i64 l.first, .int .i64 l.size] 23) ∈ rs' → Blk _ W.heap.size (.cells #[.slice bS D.st.length bkS, .slice bC D.ca.length bkC, .int .i64 D.taken, .int .i64 D.power, .bool D.off] 34) ∈ rs' → (W'.rangeAt W.heap.size 0 (stL (.slice bS D.st.length bkS) (.slice bC D.ca.length bkC) D) ∧ W'.cell? ⟨W.heap.size + 1, 0, none⟩ = some (.int .i64 l.first) ∧ (W'.cell? ⟨wr.heap.size, 0, none⟩ = some (.int .i64 r.at_) ∧ W'.cell? ⟨wr.heap.size, 1, none⟩ = some (.int .i64 r.kind) ∧ W'.cell? ⟨wr.heap.size, 2, none⟩ = some (.string r.data)))) := fun W' rs' h h0 h1 h2 => by
              obtain ⟨n0, hn0⟩ := List.getElem?_of_mem h0
              obtain ⟨n1, hn1⟩ := List.getElem?_of_mem h1
              obtain ⟨n2, hn2⟩ := List.getElem?_of_mem h2
              exact ⟨st_row (h.blk n2 _ _ hn2).1, h.cell n1 _ _ _ hn1 0 _ rfl, h.cell n0 _ _ _ hn0 0 _ rfl, h.cell n0 _ _ _ hn0 1 _ rfl, h.cell n0 _ _ _ hn0 2 _ rfl⟩
            have hw1 : IntKind.i64.wrap (l.first + 1) = l.first + 1 := by rw [IntKind.wrap_i64]; omega
            have hw2 : IntKind.i64.wrap (l.first + 1 + (k : Int)) = l.first + 1 + (k : Int) := by rw [IntKind.wrap_i64]; omega
            have hcs1 : ¬ 9223372036854775807 < (two r.at_).size + 1 := by rw [two_size]; omega
            have hcs2 : ¬ 9223372036854775807 < (two r.at_).size + 1 + r.data.size := by rw [two_size]; omega
            have HOK1 := Lib.hid hok1
            have H4 := Lib.hid (hH.alloc (.cells #[.int .i64 r.at_, .int .i64 r.kind, .string r.data] 60))
            have hkl : (k : Int) < (run.length : Int) := by omega
            clear hH hp0 hp1 hpa hpk hE hD1 hr hdr HIV hok1 hcb hrb hrbs hro hre
            go_wp2_with fail
            refine wp_region_ordJ (fun W' => (W'.rangeAt W.heap.size 0 (stL (.slice bS D.st.length bkS) (.slice bC D.ca.length bkC) D) ∧ W'.cell? ⟨W.heap.size + 1, 0, none⟩ = some (.int .i64 l.first) ∧ (W'.cell? ⟨wr.heap.size, 0, none⟩ = some (.int .i64 r.at_) ∧ W'.cell? ⟨wr.heap.size, 1, none⟩ = some (.int .i64 r.kind) ∧ W'.cell? ⟨wr.heap.size, 2, none⟩ = some (.string r.data)))) (OrdT.takes [0, 1, 2, 3, 4, 5, 6, 7, 8, 10, 11, 12, 16, 17] (.two 9 (.one 13 (.one 14 (OrdT.takes [15, 18] (.one 19 (OrdT.takes [20, 21] (.pure 22 (.late 23 24))))))) 13 (.two 9 (.one 14 (OrdT.takes [15, 18] (.one 19 (OrdT.takes [20, 21] (.pure 22 (.late 23 24)))))) 14 (.one 9 (OrdT.takes [15, 18] (.one 19 (OrdT.takes [20, 21] (.pure 22 (.late 23 24))))))))) (by kernel_rfl) (by kernel_rfl) (HSZ.out _ _ H4.out.drew (.head _) (.tail _ (.tail _ (.head _))) (.tail _ (.tail _ (.tail _ (.head _))))) (fun wz hz => ?_)
            have h5 := H4.out.drew
            rw [← hz] at h5
            have H5 := Lib.hid h5
            clear hz h5 H4 q0 q1 q2
            unfold OrdT.takes
            refine t_load W.heap.size 0 (stL (.slice bS D.st.length bkS) (.slice bC D.ca.length bkC) D) _ _ _ rfl rfl rfl rfl rfl (fun w' hSw => hSw.1) Tryz.underlying34 rfl (stL_size _ _ _) ?_
            simp only [Act.put, List.setIfInBounds_toArray, List.set_cons_zero, List.set_cons_succ, stL_arr]
            --ordt yyymymyyyyyyy
            iterate 3 (refine' t_yield _ rfl rfl rfl _ _; rotate_left; (intro w' hSw; obtain ⟨s0, s1, s2⟩ := hSw; go_simp; with_reducible rfl); simp only [Act.put, List.setIfInBounds_toArray, List.set_cons_zero, List.set_cons_succ])
            (refine' t_move _ _ rfl rfl rfl rfl _ _; rotate_left; (go_simp; with_reducible rfl); simp only [Act.put, List.setIfInBounds_toArray, List.set_cons_zero, List.set_cons_succ])
            (refine' t_yield _ rfl rfl rfl _ _; rotate_left; (intro w' hSw; obtain ⟨s0, s1, s2⟩ := hSw; go_simp; with_reducible rfl); simp only [Act.put, List.setIfInBounds_toArray, List.set_cons_zero, List.set_cons_succ])
            (refine' t_move _ _ rfl rfl rfl rfl _ _; rotate_left; (go_simp; with_reducible rfl); simp only [Act.put, List.setIfInBounds_toArray, List.set_cons_zero, List.set_cons_succ])
            iterate 7 (refine' t_yield _ rfl rfl rfl _ _; rotate_left; (intro w' hSw; obtain ⟨s0, s1, s2⟩ := hSw; go_simp; with_reducible rfl); simp only [Act.put, List.setIfInBounds_toArray, List.set_cons_zero, List.set_cons_succ])
            --end
            refine t_two rfl rfl rfl rfl (fun K hK => ?_) (fun K hK => ?_)
            · skip
              go_simp
              refine (reftwo r.at_ hra0 hra1 _).mono ?_
              rintro e w6 ⟨rfl, hB⟩
              have H6 := Lib.hid (H5.out.below hB)
              clear hB H5
              dsimp only
              refine hK _ _ (HSZ.out _ _ H6.out (.head _) (.tail _ (.tail _ (.head _))) (.tail _ (.tail _ (.tail _ (.head _))))) ?_
              clear hK
              refine t_one rfl rfl (fun K hK => ?_)
              have H7 := Lib.hid (H6.out.alloc (.cells #[.int .u8 (vb cb)] 5))
              clear H6
              go_simp
              refine hK _ _ (HSZ.out _ _ H7.out (.tail _ (.head _)) (.tail _ (.tail _ (.tail _ (.head _)))) (.tail _ (.tail _ (.tail _ (.tail _ (.head _)))))) ?_
              clear hK
              refine t_one rfl rfl (fun K hK => ?_)
              have hcv := conv1 _ _ cb (H7.out.blk 0 _ _ rfl).1
              go_simp
              refine hK _ _ (HSZ.out _ _ H7.out (.tail _ (.head _)) (.tail _ (.tail _ (.tail _ (.head _)))) (.tail _ (.tail _ (.tail _ (.tail _ (.head _)))))) ?_
              clear hK hcv
              unfold OrdT.takes
              --ordt yy
              iterate 2 (refine' t_yield _ rfl rfl rfl _ _; rotate_left; (intro w' hSw; obtain ⟨s0, s1, s2⟩ := hSw; go_simp; with_reducible rfl); simp only [Act.put, List.setIfInBounds_toArray, List.set_cons_zero, List.set_cons_succ])
              --end
              refine t_one rfl rfl (fun K hK => ?_)
              go_simp
              refine (HPUT.out _ _ H7.out (.tail _ (.tail _ (.tail _ (.tail _ (.tail _ (.head _))))))).mono ?_
              rintro e w9 hr
              obtain ⟨dS, dkS, dC, dkC, rfl, h9, hs9⟩ := H7.out.stStep [_, _, _, _, _] HSUB.out hr
              have H9 := Lib.hid h9
              have HS9 := Lib.hid hs9
              clear hr h9 hs9 H7
              dsimp only
              refine hK _ _ (HSZ.out _ _ H9.out (.tail _ (.head _)) (.tail _ (.tail _ (.tail _ (.head _)))) (.tail _ (.tail _ (.tail _ (.tail _ (.head _)))))) ?_
              clear hK
              unfold OrdT.takes
              --ordt my
              (refine' t_move _ _ rfl rfl rfl rfl _ _; rotate_left; (go_simp; with_reducible rfl); simp only [Act.put, List.setIfInBounds_toArray, List.set_cons_zero, List.set_cons_succ])
              (refine' t_yield _ rfl rfl rfl _ _; rotate_left; (intro w' hSw; obtain ⟨s0, s1, s2⟩ := hSw; go_simp; with_reducible rfl); simp only [Act.put, List.setIfInBounds_toArray, List.set_cons_zero, List.set_cons_succ])
              --end
              (refine' t_pure _ rfl rfl rfl _ _; rotate_left; (intro w'; go_simp; with_reducible rfl); simp only [Act.put, List.setIfInBounds_toArray, List.set_cons_zero, List.set_cons_succ])
              obtain ⟨t0, t1, t2, t3, t4, tf0, tf1, tf2, tf3, tf4, tz⟩ := H9.out.cells5 4 _ _ _ _ _ _ _ rfl
              have H10 := Lib.hid (Has.store5 [_, _, _, _] H9.out (.slice dS D1.st.length dkS) (.slice dC D1.ca.length dkC) (.int .i64 D1.taken) (.int .i64 D1.power) (.bool D1.off))
              refine t_late rfl rfl rfl (fun K hK => ?_)
              go_simp
              refine hK _ _ rfl (fun K2 hK2 => ?_)
              go_simp
              refine hK2 _ _ (NoPanic.normal ?_)
              clear hK hK2
              go_wp2_with fail
              go_roundw
              case rel => exact ⟨k + 1, D1, E, dS, dkS, dC, dkC, rfl, by go_num, by omega, HOK1, HNX, HS9, H10.out.drop.drop⟩
              case measure => simp [intOf]; omega
            · skip
              have H6 := Lib.hid (H5.out.alloc (.cells #[.int .u8 (vb cb)] 5))
              clear H5
              go_simp
              refine hK _ _ (HSZ.out _ _ H6.out (.tail _ (.head _)) (.tail _ (.tail _ (.tail _ (.head _)))) (.tail _ (.tail _ (.tail _ (.tail _ (.head _)))))) ?_
              clear hK
              refine t_two rfl rfl rfl rfl (fun K hK => ?_) (fun K hK => ?_)
              · skip
                go_simp
                refine (reftwo r.at_ hra0 hra1 _).mono ?_
                rintro e w7 ⟨rfl, hB⟩
                have H7 := Lib.hid (H6.out.below hB)
                clear hB H6
                dsimp only
                refine hK _ _ (HSZ.out _ _ H7.out (.tail _ (.head _)) (.tail _ (.tail _ (.tail _ (.head _)))) (.tail _ (.tail _ (.tail _ (.tail _ (.head _)))))) ?_
                clear hK
                refine t_one rfl rfl (fun K hK => ?_)
                have hcv := conv1 _ _ cb (H7.out.blk 0 _ _ rfl).1
                go_simp
                refine hK _ _ (HSZ.out _ _ H7.out (.tail _ (.head _)) (.tail _ (.tail _ (.tail _ (.head _)))) (.tail _ (.tail _ (.tail _ (.tail _ (.head _)))))) ?_
                clear hK hcv
                unfold OrdT.takes
                --ordt yy
                iterate 2 (refine' t_yield _ rfl rfl rfl _ _; rotate_left; (intro w' hSw; obtain ⟨s0, s1, s2⟩ := hSw; go_simp; with_reducible rfl); simp only [Act.put, List.setIfInBounds_toArray, List.set_cons_zero, List.set_cons_succ])
                --end
                refine t_one rfl rfl (fun K hK => ?_)
                go_simp
                refine (HPUT.out _ _ H7.out (.tail _ (.tail _ (.tail _ (.tail _ (.tail _ (.head _))))))).mono ?_
                rintro e w9 hr
                obtain ⟨dS, dkS, dC, dkC, rfl, h9, hs9⟩ := H7.out.stStep [_, _, _, _, _] HSUB.out hr
                have H9 := Lib.hid h9
                have HS9 := Lib.hid hs9
                clear hr h9 hs9 H7
                dsimp only
                refine hK _ _ (HSZ.out _ _ H9.out (.tail _ (.head _)) (.tail _ (.tail _ (.tail _ (.head _)))) (.tail _ (.tail _ (.tail _ (.tail _ (.head _)))))) ?_
                clear hK
                unfold OrdT.takes
                --ordt my
                (refine' t_move _ _ rfl rfl rfl rfl _ _; rotate_left; (go_simp; with_reducible rfl); simp only [Act.put, List.setIfInBounds_toArray, List.set_cons_zero, List.set_cons_succ])
                (refine' t_yield _ rfl rfl rfl _ _; rotate_left; (intro w' hSw; obtain ⟨s0, s1, s2⟩ := hSw; go_simp; with_reducible rfl); simp only [Act.put, List.setIfInBounds_toArray, List.set_cons_zero, List.set_cons_succ])
                --end
                (refine' t_pure _ rfl rfl rfl _ _; rotate_left; (intro w'; go_simp; with_reducible rfl); simp only [Act.put, List.setIfInBounds_toArray, List.set_cons_zero, List.set_cons_succ])
                obtain ⟨t0, t1, t2, t3, t4, tf0, tf1, tf2, tf3, tf4, tz⟩ := H9.out.cells5 4 _ _ _ _ _ _ _ rfl
                have H10 := Lib.hid (Has.store5 [_, _, _, _] H9.out (.slice dS D1.st.length dkS) (.slice dC D1.ca.length dkC) (.int .i64 D1.taken) (.int .i64 D1.power) (.bool D1.off))
                refine t_late rfl rfl rfl (fun K hK => ?_)
                go_simp
                refine hK _ _ rfl (fun K2 hK2 => ?_)
                go_simp
                refine hK2 _ _ (NoPanic.normal ?_)
                clear hK hK2
                go_wp2_with fail
                go_roundw
                case rel => exact ⟨k + 1, D1, E, dS, dkS, dC, dkC, rfl, by go_num, by omega, HOK1, HNX, HS9, H10.out.drop.drop⟩
                case measure => simp [intOf]; omega
              · skip
                have hcv := conv1 _ _ cb (H6.out.blk 0 _ _ rfl).1
                go_simp
                refine hK _ _ (HSZ.out _ _ H6.out (.tail _ (.head _)) (.tail _ (.tail _ (.tail _ (.head _)))) (.tail _ (.tail _ (.tail _ (.tail _ (.head _)))))) ?_
                clear hK hcv
                refine t_one rfl rfl (fun K hK => ?_)
                go_simp
                refine (reftwo r.at_ hra0 hra1 _).mono ?_
                rintro e w7 ⟨rfl, hB⟩
                have H7 := Lib.hid (H6.out.below hB)
                clear hB H6
                dsimp only
                refine hK _ _ (HSZ.out _ _ H7.out (.tail _ (.head _)) (.tail _ (.tail _ (.tail _ (.head _)))) (.tail _ (.tail _ (.tail _ (.tail _ (.head _)))))) ?_
                clear hK
                unfold OrdT.takes
                --ordt yy
                iterate 2 (refine' t_yield _ rfl rfl rfl _ _; rotate_left; (intro w' hSw; obtain ⟨s0, s1, s2⟩ := hSw; go_simp; with_reducible rfl); simp only [Act.put, List.setIfInBounds_toArray, List.set_cons_zero, List.set_cons_succ])
                --end
                refine t_one rfl rfl (fun K hK => ?_)
                go_simp
                refine (HPUT.out _ _ H7.out (.tail _ (.tail _ (.tail _ (.tail _ (.tail _ (.head _))))))).mono ?_
                rintro e w9 hr
                obtain ⟨dS, dkS, dC, dkC, rfl, h9, hs9⟩ := H7.out.stStep [_, _, _, _, _] HSUB.out hr
                have H9 := Lib.hid h9
                have HS9 := Lib.hid hs9
                clear hr h9 hs9 H7
                dsimp only
                refine hK _ _ (HSZ.out _ _ H9.out (.tail _ (.head _)) (.tail _ (.tail _ (.tail _ (.head _)))) (.tail _ (.tail _ (.tail _ (.tail _ (.head _)))))) ?_
                clear hK
                unfold OrdT.takes
                --ordt my
                (refine' t_move _ _ rfl rfl rfl rfl _ _; rotate_left; (go_simp; with_reducible rfl); simp only [Act.put, List.setIfInBounds_toArray, List.set_cons_zero, List.set_cons_succ])
                (refine' t_yield _ rfl rfl rfl _ _; rotate_left; (intro w' hSw; obtain ⟨s0, s1, s2⟩ := hSw; go_simp; with_reducible rfl); simp only [Act.put, List.setIfInBounds_toArray, List.set_cons_zero, List.set_cons_succ])
                --end
                (refine' t_pure _ rfl rfl rfl _ _; rotate_left; (intro w'; go_simp; with_reducible rfl); simp only [Act.put, List.setIfInBounds_toArray, List.set_cons_zero, List.set_cons_succ])
                obtain ⟨t0, t1, t2, t3, t4, tf0, tf1, tf2, tf3, tf4, tz⟩ := H9.out.cells5 4 _ _ _ _ _ _ _ rfl
                have H10 := Lib.hid (Has.store5 [_, _, _, _] H9.out (.slice dS D1.st.length dkS) (.slice dC D1.ca.length dkC) (.int .i64 D1.taken) (.int .i64 D1.power) (.bool D1.off))
                refine t_late rfl rfl rfl (fun K hK => ?_)
                go_simp
                refine hK _ _ rfl (fun K2 hK2 => ?_)
                go_simp
                refine hK2 _ _ (NoPanic.normal ?_)
                clear hK hK2
                go_wp2_with fail
                go_roundw
                case rel => exact ⟨k + 1, D1, E, dS, dkS, dC, dkC, rfl, by go_num, by omega, HOK1, HNX, HS9, H10.out.drop.drop⟩
                case measure => simp [intOf]; omega
          · as_aux_lemma =>
            obtain rfl : k = run.length := by omega
            have hpa : ps[run.length]? = some ⟨l.first + 1 + (run.length : Int), 3, Q, two (run.length : Int)⟩ := by
              rw [HPS.out, logP_get, dif_neg (by omega), if_pos rfl, Int.add_assoc, show (1 : Int) + (run.length : Int) - 1 = (run.length : Int) by omega]
            obtain ⟨hp0, hp1⟩ := puts_step hpa hpk
            have hpl : ps.length ≤ run.length + 1 := by rw [HPS.out, logP_len]; exact Nat.le_refl _
            obtain ⟨E, hE⟩ : ∃ E, E = D.putAE ⟨l.first + 1 + (run.length : Int), 3, Q, two (run.length : Int)⟩ := ⟨_, rfl⟩
            obtain ⟨D1, hD1⟩ : ∃ D1, D1 = D.putA ⟨l.first + 1 + (run.length : Int), 3, Q, two (run.length : Int)⟩ := ⟨_, rfl⟩
            have hok1 : D1.Ok := by rw [hD1]; exact Dv.putA_ok HDO.out _
            rw [← hE, ← hD1] at hp0 hp1
            have hall : S.putAll ps = (D1, E) := by
              by_cases h : E = 0
              · have := hp0 h
                rw [List.take_of_length_le hpl] at this
                rw [this, h]
              · exact hp1 h
            have HRM2 : Hid (R = Dv.done (D1, E)) := by rw [HRM.out, hall]; exact Lib.hid rfl
            have HPUT : Hid (∀ W' rs', Has W W' rs' → StR _ (.slice bS D.st.length bkS) (.slice bC D.ca.length bkC) D ∈ rs' → Calls Tryz.prog 64 #[.agg #[.slice bS D.st.length bkS, .slice bC D.ca.length bkC, .int .i64 D.taken, .int .i64 D.power, .bool D.off], .int .i64 (l.first + 1 + (run.length : Int)), .int .i64 3, .int .u32 (vu Q), .string (two (run.length : Int))] W' (StRes W' D (.slice bS D.st.length bkS) (.slice bC D.ca.length bkC) D1 E)) := fun W' rs' h hm => by
              rw [hD1, hE]
              exact refput (h.st hm) HDO.out (l.first + 1 + (run.length : Int)) 3 Q (two (run.length : Int)) (by rw [two_size]; decide)
            have HSZ : Hid (∀ W' rs', Has W W' rs' → Blk _ (W.heap.size + 1) (.cells #[.int .i64 l.first, .int .i64 l.size] 23) ∈ rs' → Blk _ W.heap.size (.cells #[.slice bS D.st.length bkS, .slice bC D.ca.length bkC, .int .i64 D.taken, .int .i64 D.power, .bool D.off] 34) ∈ rs' → W'.rangeAt W.heap.size 0 (stL (.slice bS D.st.length bkS) (.slice bC D.ca.length bkC) D) ∧ W'.cell? ⟨W.heap.size + 1, 0, none⟩ = some (.int .i64 l.first) ∧ True) := fun W' rs' h h1 h2 => by
              obtain ⟨n1, hn1⟩ := List.getElem?_of_mem h1
              obtain ⟨n2, hn2⟩ := List.getElem?_of_mem h2
              exact ⟨st_row (h.blk n2 _ _ hn2).1, h.cell n1 _ _ _ hn1 0 _ rfl, trivial⟩
            have hw1 : IntKind.i64.wrap (l.first + 1) = l.first + 1 := by rw [IntKind.wrap_i64]; omega
            have hw2 : IntKind.i64.wrap (l.first + 1 + (run.length : Int)) = l.first + 1 + (run.length : Int) := by rw [IntKind.wrap_i64]; omega
            have hlt2 : ¬ ((run.length : Int) < (run.length : Int)) := by omega
            have HOK1 := Lib.hid hok1
            have H4 := Lib.hid hH
            clear hH hp0 hp1 hpa hpk hE hD1 HIV hok1 hall hlt
            go_wp2_with fail
            refine wp_region_ordJ (fun W' => W'.rangeAt W.heap.size 0 (stL (.slice bS D.st.length bkS) (.slice bC D.ca.length bkC) D) ∧ W'.cell? ⟨W.heap.size + 1, 0, none⟩ = some (.int .i64 l.first) ∧ True) (OrdT.takes [0, 1, 2, 3, 4, 5, 6, 7, 8, 9] (.one 10 (.one 11 (OrdT.takes [12, 13] (.pure 14 (.late 15 16)))))) (by kernel_rfl) (by kernel_rfl) (HSZ.out _ _ H4.out.drew (.tail _ (.head _)) (.tail _ (.tail _ (.head _)))) (fun wz hz => ?_)
            have h5 := H4.out.drew
            rw [← hz] at h5
            have H5 := Lib.hid h5
            clear hz h5 H4
            unfold OrdT.takes
            refine t_load W.heap.size 0 (stL (.slice bS D.st.length bkS) (.slice bC D.ca.length bkC) D) _ _ _ rfl rfl rfl rfl rfl (fun w' hSw => hSw.1) Tryz.underlying34 rfl (stL_size _ _ _) ?_
            simp only [Act.put, List.setIfInBounds_toArray, List.set_cons_zero, List.set_cons_succ, stL_arr]
            --ordt yyymyymmy
            iterate 3 (refine' t_yield _ rfl rfl rfl _ _; rotate_left; (intro w' hSw; obtain ⟨s0, s1, s2⟩ := hSw; go_simp; with_reducible rfl); simp only [Act.put, List.setIfInBounds_toArray, List.set_cons_zero, List.set_cons_succ])
            (refine' t_move _ _ rfl rfl rfl rfl _ _; rotate_left; (go_simp; with_reducible rfl); simp only [Act.put, List.setIfInBounds_toArray, List.set_cons_zero, List.set_cons_succ])
            iterate 2 (refine' t_yield _ rfl rfl rfl _ _; rotate_left; (intro w' hSw; obtain ⟨s0, s1, s2⟩ := hSw; go_simp; with_reducible rfl); simp only [Act.put, List.setIfInBounds_toArray, List.set_cons_zero, List.set_cons_succ])
            iterate 2 (refine' t_move _ _ rfl rfl rfl rfl _ _; rotate_left; (go_simp; with_reducible rfl); simp only [Act.put, List.setIfInBounds_toArray, List.set_cons_zero, List.set_cons_succ])
            (refine' t_yield _ rfl rfl rfl _ _; rotate_left; (intro w' hSw; obtain ⟨s0, s1, s2⟩ := hSw; go_simp; with_reducible rfl); simp only [Act.put, List.setIfInBounds_toArray, List.set_cons_zero, List.set_cons_succ])
            --end
            refine t_one rfl rfl (fun K hK => ?_)
            go_simp
            refine (reftwo (run.length : Int) (by omega) (by omega) _).mono ?_
            rintro e w6 ⟨rfl, hB⟩
            have H6 := Lib.hid (H5.out.below hB)
            clear hB H5
            dsimp only
            refine hK _ _ (HSZ.out _ _ H6.out (.tail _ (.head _)) (.tail _ (.tail _ (.head _)))) ?_
            clear hK
            refine t_one rfl rfl (fun K hK => ?_)
            go_simp
            refine (HPUT.out _ _ H6.out (.tail _ (.tail _ (.tail _ (.head _))))).mono ?_
            rintro e w9 hr
            obtain ⟨dS, dkS, dC, dkC, rfl, h9, hs9⟩ := H6.out.stStep [_, _, _] HSUB.out hr
            have H9 := Lib.hid h9
            have HS9 := Lib.hid hs9
            clear hr h9 hs9 H6
            dsimp only
            refine hK _ _ (HSZ.out _ _ H9.out (.tail _ (.head _)) (.tail _ (.tail _ (.head _)))) ?_
            clear hK
            unfold OrdT.takes
            --ordt my
            (refine' t_move _ _ rfl rfl rfl rfl _ _; rotate_left; (go_simp; with_reducible rfl); simp only [Act.put, List.setIfInBounds_toArray, List.set_cons_zero, List.set_cons_succ])
            (refine' t_yield _ rfl rfl rfl _ _; rotate_left; (intro w' hSw; obtain ⟨s0, s1, s2⟩ := hSw; go_simp; with_reducible rfl); simp only [Act.put, List.setIfInBounds_toArray, List.set_cons_zero, List.set_cons_succ])
            --end
            (refine' t_pure _ rfl rfl rfl _ _; rotate_left; (intro w'; go_simp; with_reducible rfl); simp only [Act.put, List.setIfInBounds_toArray, List.set_cons_zero, List.set_cons_succ])
            obtain ⟨t0, t1, t2, t3, t4, tf0, tf1, tf2, tf3, tf4, tz⟩ := H9.out.cells5 2 _ _ _ _ _ _ _ rfl
            have h10 := Has.store5 [_, _] H9.out (.slice dS D1.st.length dkS) (.slice dC D1.ca.length dkC) (.int .i64 D1.taken) (.int .i64 D1.power) (.bool D1.off)
            refine t_late rfl rfl rfl (fun K hK => ?_)
            go_simp
            refine hK _ _ rfl (fun K2 hK2 => ?_)
            go_simp
            refine hK2 _ _ (NoPanic.normal ?_)
            clear hK hK2 t0 t1 t2 t3 t4 tf0 tf1 tf2 tf3 tf4 tz
            have H10 := Lib.hid h10
            clear h10 H9
            by_cases hE0 : E = 0
            · subst hE0
              obtain ⟨D2, hD2⟩ : ∃ D2, D2 = D1.flush := ⟨_, rfl⟩
              obtain ⟨f, hf⟩ : ∃ f, f = D1.flushE := ⟨_, rfl⟩
              have HRF : Hid (R = (D2, f)) := by rw [HRM2.out, hD2, hf]; unfold Dv.done; rw [if_neg (by simp)]; exact Lib.hid rfl
              have HDF : Hid (D2 = D1.flush ∧ f = D1.flushE) := Lib.hid ⟨hD2, hf⟩
              clear hD2 hf HRM2
              go_upto_region 14 with fail
              go_cut [85] (fun z wx => z = .bool false ∧ Has W wx (Blk _ (W.heap.size + 1 + 1) (.cells #[.slice none 0 0, .slice none 0 0, .int .i64 0, .int .i64 0, .bool false] 34) :: Blk _ (W.heap.size + 1) (.cells #[.int .i64 l.first, .int .i64 l.size] 23) :: Blk _ W.heap.size (.cells #[.slice dS D1.st.length dkS, .slice dC D1.ca.length dkC, .int .i64 D1.taken, .int .i64 D1.power, .bool D1.off] 34) :: StR _ (.slice dS D1.st.length dkS) (.slice dC D1.ca.length dkC) D1 :: RunR _ (.slice a run.length cap) run :: []))
              case first =>
                go_wp2_with fail
                go_meet
                exact ⟨rfl, H10.out⟩
              case rest =>
              obtain ⟨rfl, h10⟩ := hcut
              obtain ⟨y0, y1, y2, y3, y4, yf0, yf1, yf2, yf3, yf4, yz⟩ := h10.cells5 2 _ _ _ _ _ _ _ rfl
              obtain ⟨x0, x1, x2, x3, x4, xf0, xf1, xf2, xf3, xf4, xz⟩ := h10.cells5 0 _ _ _ _ _ _ _ rfl
              have hF := ref_flush (h10.st (.tail _ (.tail _ (.tail _ (.head _))))) HOK1.out.c2
              unfold stCells at hF
              rw [← HDF.out.1, ← HDF.out.2] at hF
              have HF := Lib.hid hF
              clear H10
              have H10 := Lib.hid h10
              clear hF h10 HDF
              go_wp2_with fail
              refine HF.out.mono ?_
              clear HF x0 x1 x2 x3 x4 xf0 xf1 xf2 xf3 xf4 xz y0 y1 y2 y3 y4 yf0 yf1 yf2 yf3 yf4 yz
              rintro e w11 hr
              obtain ⟨fS, fkS, fC, fkC, rfl, h11, hs11⟩ := H10.out.stStep [_, _, _] HS9.out hr
              obtain ⟨g0, g1, g2, g3, g4, gf0, gf1, gf2, gf3, gf4, gz⟩ := h11.cells5 0 _ _ _ _ _ _ _ rfl
              have HS11 := Lib.hid hs11
              have H12 := Lib.hid (Has.store5 [] h11 (.slice fS D2.st.length fkS) (.slice fC D2.ca.length fkC) (.int .i64 D2.taken) (.int .i64 D2.power) (.bool D2.off))
              clear hr h11 hs11 H10
              go_wp2_with fail
              refine bodyPost_ret (results_st2 rfl _ _ (W.heap.size + 1 + 1) _ rfl (H12.out.blk 0 _ _ rfl).1 rfl) rfl ?_
              rw [HRF.out]
              exact H12.out.stEnd (.tail _ (.tail _ (.tail _ (.head _)))) HS11.out
            · have hEb : (E != 0) = true := by simpa using hE0
              have HRF : Hid (R = (D1, E)) := by rw [HRM2.out]; unfold Dv.done; rw [if_pos hE0]; exact Lib.hid rfl
              go_upto_region 14 with fail
              go_cut [85] (fun z wx => z = .bool true ∧ Has W wx (Blk _ (W.heap.size + 1 + 1) (.cells #[.slice none 0 0, .slice none 0 0, .int .i64 0, .int .i64 0, .bool false] 34) :: Blk _ (W.heap.size + 1) (.cells #[.int .i64 l.first, .int .i64 l.size] 23) :: Blk _ W.heap.size (.cells #[.slice dS D1.st.length dkS, .slice dC D1.ca.length dkC, .int .i64 D1.taken, .int .i64 D1.power, .bool D1.off] 34) :: StR _ (.slice dS D1.st.length dkS) (.slice dC D1.ca.length dkC) D1 :: RunR _ (.slice a run.length cap) run :: []))
              case first =>
                go_wp2_with fail
                go_meet
                exact ⟨rfl, H10.out⟩
              case rest =>
              obtain ⟨rfl, h10⟩ := hcut
              obtain ⟨y0, y1, y2, y3, y4, yf0, yf1, yf2, yf3, yf4, yz⟩ := h10.cells5 2 _ _ _ _ _ _ _ rfl
              obtain ⟨x0, x1, x2, x3, x4, xf0, xf1, xf2, xf3, xf4, xz⟩ := h10.cells5 0 _ _ _ _ _ _ _ rfl
              have H12 := Lib.hid (Has.store5 [] h10 (.slice dS D1.st.length dkS) (.slice dC D1.ca.length dkC) (.int .i64 D1.taken) (.int .i64 D1.power) (.bool D1.off))
              clear h10 HRM2 H10
              go_wp2_with fail
              refine bodyPost_ret (results_st2 rfl _ _ (W.heap.size + 1 + 1) _ rfl (H12.out.blk 0 _ _ rfl).1 rfl) rfl ?_
              rw [HRF.out]
              exact H12.out.stEnd (.tail _ (.tail _ (.tail _ (.head _)))) HS9.out
        · as_aux_lemma =>
          have hall : S.putAll ps = (D, e) := by
            rcases HIV.out with ⟨h, _⟩ | ⟨_, h⟩
            · exact absurd h he
            · exact h
          have HRF : Hid (R = (D, e)) := by rw [HRM.out, hall]; unfold Dv.done; rw [if_pos he]; exact Lib.hid rfl
          have heb : (e != 0) = true := by simpa using he
          have heb2 : (e == 0) = false := by simpa using he
          obtain ⟨s0, s1, s2, s3, s4, sf0, sf1, sf2, sf3, sf4, sz⟩ := hH.cells5 2 _ _ _ _ _ _ _ rfl
          obtain ⟨x0, x1, x2, x3, x4, xf0, xf1, xf2, xf3, xf4, xz⟩ := hH.cells5 0 _ _ _ _ _ _ _ rfl
          have H12 := Lib.hid (Has.store5 [] hH (.slice bS D.st.length bkS) (.slice bC D.ca.length bkC) (.int .i64 D.taken) (.int .i64 D.power) (.bool D.off))
          clear hH hall HIV
          by_cases hlt : (k : Int) < (run.length : Int)
          · skip
            go_wp2_with fail
            refine bodyPost_ret (results_st2 rfl _ _ (W.heap.size + 1 + 1) _ rfl (H12.out.blk 0 _ _ rfl).1 rfl) rfl ?_
            rw [HRF.out]
            exact H12.out.stEnd (.tail _ (.tail _ (.tail _ (.head _)))) HSUB.out
          · skip
            go_wp2_with fail
            refine bodyPost_ret (results_st2 rfl _ _ (W.heap.size + 1 + 1) _ rfl (H12.out.blk 0 _ _ rfl).1 rfl) rfl ?_
            rw [HRF.out]
            exact H12.out.stEnd (.tail _ (.tail _ (.tail _ (.head _)))) HSUB.out
    · have hvb : (v != 0) = true := by simpa using hv0
      have HRF : Hid (R = (S, v)) := by rw [HRD.out, if_neg (by simp), if_pos hv0]; exact Lib.hid rfl
      have H12 := Lib.hid (Has.store5 [] H3.out (.slice aS S.st.length akS) (.slice aC S.ca.length akC) (.int .i64 S.taken) (.int .i64 S.power) (.bool S.off))
      clear H3 HRD
      go_wp2_with fail
      refine bodyPost_ret (results_st2 rfl _ _ (W.heap.size + 1 + 1) _ rfl (H12.out.blk 0 _ _ rfl).1 rfl) rfl ?_
      rw [HRF.out]
      exact H12.out.stEnd (.tail _ (.tail _ (.tail _ (.head _)))) Sub.rfl'
  · have hcb : (c != 0) = true := by simpa using hc
    have hcb2 : (c == 0) = false := by simpa using hc
    have HRF : Hid (R = (S, c)) := by rw [HRD.out, if_pos hc]; exact Lib.hid rfl
    have H12 := Lib.hid (Has.store5 [] H2.out (.slice aS S.st.length akS) (.slice aC S.ca.length akC) (.int .i64 S.taken) (.int .i64 S.power) (.bool S.off))
    clear H2 HRD h2 H1
    go_wp2_with fail
    refine bodyPost_ret (results_st2 rfl _ _ (W.heap.size + 1 + 1) _ rfl (H12.out.blk 0 _ _ rfl).1 rfl) rfl ?_
    rw [HRF.out]
    exact H12.out.stEnd (.tail _ (.tail _ (.tail _ (.head _)))) Sub.rfl'
end Go.Proofs.YtfbkfdoekgnldaaGreatDoor
namespace Go.Proofs.YtfbkfdoekgnldaaGreatDoor
open Go.RowKit
open Lime
attribute [local go_sem] Oper.semAt_some setRow_alloc_at setRow_alloc_past setRow_drew g_same32 g_eq32 g_ne32
theorem Dv.done_ok {x : Dv × Int} (h : x.1.Ok) : (Dv.done x).1.Ok := by
  unfold Dv.done
  split
  · exact h
  · exact Dv.flush_ok h
theorem logM_ok {S : Dv} (h : S.Ok) (l : Lay) (run : List Rec) : (logM S l run).1.Ok := by
  unfold logM
  split
  · exact h
  · split
    · exact h
    · exact Dv.done_ok (Dv.putAll_ok _ h)
theorem many_ok {x : Dv × Int} (n : Int) (h : x.1.Ok) : (many x n).1.Ok := by
  unfold many
  split
  · exact h
  · exact h
theorem applyM_ok {S : Dv} (h : S.Ok) (l : Lay) : (applyM S l).1.Ok := by
  unfold applyM
  split
  · exact h
  · split
    · exact h
    · exact many_ok _ (Dv.done_ok (Dv.putAll_ok _ h))
theorem clearM_ok {S : Dv} (h : S.Ok) (l : Lay) : (clearM S l).1.Ok := by
  unfold clearM
  split
  · exact h
  · exact Dv.done_ok (Dv.putAll_ok _ h)
set_option maxRecDepth 100000 in
set_option maxHeartbeats 8000000 in
theorem refcommit {W : World} {S : Dv} {uS uC : Value} (h : StIn W S uS uC) (ok : S.Ok) (l : Lay) {a : Option Addr} {cap : Nat} {run : List Rec} (hv : RdL W 3 recL (.slice a run.length cap) run) (hd : ∀ r ∈ run, r.data.size ≤ 9223372036854775807) (hlen : run.length ≤ 9223372036854775807) (hcap : run.length ≤ cap) :
    Calls Tryz.prog 23 #[.agg #[uS, uC, .int .i64 S.taken, .int .i64 S.power, .bool S.off], .agg #[.int .i64 l.first, .int .i64 l.size], .slice a run.length cap] W (StRes W S uS uC (commitM S l run).1 (commitM S l run).2) := by
  have h0 := ((Has.start W).addRd hv recL_len (by decide)).addSt h
  obtain ⟨⟨aS, akS, rfl, -⟩, ⟨aC, akC, rfl, -⟩, -, -⟩ := h
  have h1 := ((h0.alloc (.cells #[.slice aS S.st.length akS, .slice aC S.ca.length akC, .int .i64 S.taken, .int .i64 S.power, .bool S.off] 34)).allocAt (.cells #[.int .i64 l.first, .int .i64 l.size] 23) (W.heap.size + 1) (by simp)).allocAt (.cells #[.slice none 0 0, .slice none 0 0, .int .i64 0, .int .i64 0, .bool false] 34) (W.heap.size + 1 + 1) (by simp)
  have HL := Lib.hid (reflog (h1.st (.tail _ (.tail _ (.tail _ (.head _))))) ok l (h1.rd (.tail _ (.tail _ (.tail _ (.tail _ (.head _)))))) hd hlen hcap)
  have hok1 := logM_ok ok l run
  obtain ⟨R, hR⟩ : ∃ R, R = commitM S l run := ⟨_, rfl⟩
  rw [← hR]
  unfold commitM at hR
  obtain ⟨⟨D1, c1⟩, hX1⟩ : ∃ x, x = logM S l run := ⟨_, rfl⟩
  rw [← hX1] at hR HL hok1
  dsimp only at hR HL hok1
  have HRD := Lib.hid hR
  have H1 := Lib.hid h1
  have HOK1 := Lib.hid hok1
  clear h0 h1 hR hX1 hok1 ok hv hd
  go_enter Tryz.func23, Tryz.ntmps23
  go_wp2_with fail
  refine HL.out.mono ?_
  clear HL
  rintro e w2 hr
  obtain ⟨bS, bkS, bC, bkC, rfl, h2, hs2⟩ := H1.out.stStep [_, _, _] Sub.rfl' hr
  obtain ⟨s0, s1, s2, s3, s4, sf0, sf1, sf2, sf3, sf4, sz⟩ := h2.cells5 2 _ _ _ _ _ _ _ rfl
  have H3 := Lib.hid (Has.store5 [_, _] h2 (.slice bS D1.st.length bkS) (.slice bC D1.ca.length bkC) (.int .i64 D1.taken) (.int .i64 D1.power) (.bool D1.off))
  have HS2 := Lib.hid hs2
  clear hr h2 hs2 H1
  by_cases hc1 : c1 = 0
  · subst hc1
    go_upto_region 2 with fail
    go_cut [17] (fun z wx => z = .bool false ∧ Has W wx (Blk _ (W.heap.size + 1 + 1) (.cells #[.slice none 0 0, .slice none 0 0, .int .i64 0, .int .i64 0, .bool false] 34) :: Blk _ (W.heap.size + 1) (.cells #[.int .i64 l.first, .int .i64 l.size] 23) :: Blk _ W.heap.size (.cells #[.slice bS D1.st.length bkS, .slice bC D1.ca.length bkC, .int .i64 D1.taken, .int .i64 D1.power, .bool D1.off] 34) :: StR _ (.slice bS D1.st.length bkS) (.slice bC D1.ca.length bkC) D1 :: RunR _ (.slice a run.length cap) run :: []))
    case first =>
      go_wp2_with fail
      go_meet
      exact ⟨rfl, H3.out⟩
    case rest =>
    obtain ⟨rfl, h3⟩ := hcut
    obtain ⟨t0, t1, t2, t3, t4, tf0, tf1, tf2, tf3, tf4, tz⟩ := h3.cells5 2 _ _ _ _ _ _ _ rfl
    have b0 := h3.cell 1 _ _ _ rfl 0 _ rfl
    have b1 := h3.cell 1 _ _ _ rfl 1 _ rfl
    have hA := refapply (h3.st (.tail _ (.tail _ (.tail _ (.head _))))) HOK1.out l
    have hok2 := applyM_ok HOK1.out l
    obtain ⟨⟨D2, m2, c2⟩, hX2⟩ : ∃ x, x = applyM D1 l := ⟨_, rfl⟩
    have hR2 : R = if c2 ≠ 0 then (D2, c2) else clearM D2 l := by rw [HRD.out, if_neg (by simp), ← hX2]
    rw [← hX2] at hA hok2
    dsimp only at hA hok2
    have HA := Lib.hid hA
    have HR2 := Lib.hid hR2
    have HOK2 := Lib.hid hok2
    clear H3
    have H3 := Lib.hid h3
    clear h3 hA hR2 hok2 hX2 HRD
    go_wp2_with fail
    refine HA.out.mono ?_
    clear HA b0 b1 s0 s1 s2 s3 s4 sf0 sf1 sf2 sf3 sf4 sz t0 t1 t2 t3 t4 tf0 tf1 tf2 tf3 tf4 tz
    rintro e w4 hr
    obtain ⟨dS, dkS, dC, dkC, rfl, h4, hs4⟩ := H3.out.stStep3 [_, _, _] HS2.out hr
    obtain ⟨p0, p1, p2, p3, p4, pf0, pf1, pf2, pf3, pf4, pz⟩ := h4.cells5 2 _ _ _ _ _ _ _ rfl
    have H5 := Lib.hid (Has.store5 [_, _] h4 (.slice dS D2.st.length dkS) (.slice dC D2.ca.length dkC) (.int .i64 D2.taken) (.int .i64 D2.power) (.bool D2.off))
    have HS4 := Lib.hid hs4
    clear hr h4 hs4 H3
    by_cases hc2 : c2 = 0
    · subst hc2
      go_upto_region 5 with fail
      go_cut [28] (fun z wx => z = .bool false ∧ Has W wx (Blk _ (W.heap.size + 1 + 1) (.cells #[.slice none 0 0, .slice none 0 0, .int .i64 0, .int .i64 0, .bool false] 34) :: Blk _ (W.heap.size + 1) (.cells #[.int .i64 l.first, .int .i64 l.size] 23) :: Blk _ W.heap.size (.cells #[.slice dS D2.st.length dkS, .slice dC D2.ca.length dkC, .int .i64 D2.taken, .int .i64 D2.power, .bool D2.off] 34) :: StR _ (.slice dS D2.st.length dkS) (.slice dC D2.ca.length dkC) D2 :: RunR _ (.slice a run.length cap) run :: []))
      case first =>
        go_wp2_with fail
        go_meet
        exact ⟨rfl, H5.out⟩
      case rest =>
      obtain ⟨rfl, h5⟩ := hcut
      obtain ⟨y0, y1, y2, y3, y4, yf0, yf1, yf2, yf3, yf4, yz⟩ := h5.cells5 2 _ _ _ _ _ _ _ rfl
      have b0 := h5.cell 1 _ _ _ rfl 0 _ rfl
      have b1 := h5.cell 1 _ _ _ rfl 1 _ rfl
      have hC := refclear (h5.st (.tail _ (.tail _ (.tail _ (.head _))))) HOK2.out l
      obtain ⟨⟨D3, c3⟩, hX3⟩ : ∃ x, x = clearM D2 l := ⟨_, rfl⟩
      have hRF : R = (D3, c3) := by rw [HR2.out, if_neg (by simp), ← hX3]
      rw [← hX3] at hC
      dsimp only at hC
      have HC := Lib.hid hC
      have HRF := Lib.hid hRF
      clear H5
      have H5 := Lib.hid h5
      clear h5 hC hRF hX3 HR2
      go_wp2_with fail
      refine HC.out.mono ?_
      clear HC b0 b1 p0 p1 p2 p3 p4 pf0 pf1 pf2 pf3 pf4 pz y0 y1 y2 y3 y4 yf0 yf1 yf2 yf3 yf4 yz
      rintro e w6 hr
      obtain ⟨fS, fkS, fC, fkC, rfl, h6, hs6⟩ := H5.out.stStep [_, _, _] HS4.out hr
      obtain ⟨q0, q1, q2, q3, q4, qf0, qf1, qf2, qf3, qf4, qz⟩ := h6.cells5 0 _ _ _ _ _ _ _ rfl
      have H7 := Lib.hid (Has.store5 [] h6 (.slice fS D3.st.length fkS) (.slice fC D3.ca.length fkC) (.int .i64 D3.taken) (.int .i64 D3.power) (.bool D3.off))
      have HS6 := Lib.hid hs6
      clear hr h6 hs6 H5
      go_wp2_with fail
      refine bodyPost_ret (results_st2 rfl _ _ (W.heap.size + 1 + 1) _ rfl (H7.out.blk 0 _ _ rfl).1 rfl) rfl ?_
      rw [HRF.out]
      exact H7.out.stEnd (.tail _ (.tail _ (.tail _ (.head _)))) HS6.out
    · have hcb : (c2 != 0) = true := by simpa using hc2
      have hRF : R = (D2, c2) := by rw [HR2.out, if_pos hc2]
      have HRF := Lib.hid hRF
      go_upto_region 5 with fail
      go_cut [28] (fun z wx => z = .bool true ∧ Has W wx (Blk _ (W.heap.size + 1 + 1) (.cells #[.slice none 0 0, .slice none 0 0, .int .i64 0, .int .i64 0, .bool false] 34) :: Blk _ (W.heap.size + 1) (.cells #[.int .i64 l.first, .int .i64 l.size] 23) :: Blk _ W.heap.size (.cells #[.slice dS D2.st.length dkS, .slice dC D2.ca.length dkC, .int .i64 D2.taken, .int .i64 D2.power, .bool D2.off] 34) :: StR _ (.slice dS D2.st.length dkS) (.slice dC D2.ca.length dkC) D2 :: RunR _ (.slice a run.length cap) run :: []))
      case first =>
        go_wp2_with fail
        go_meet
        exact ⟨rfl, H5.out⟩
      case rest =>
      obtain ⟨rfl, h5⟩ := hcut
      obtain ⟨y0, y1, y2, y3, y4, yf0, yf1, yf2, yf3, yf4, yz⟩ := h5.cells5 2 _ _ _ _ _ _ _ rfl
      obtain ⟨x0, x1, x2, x3, x4, xf0, xf1, xf2, xf3, xf4, xz⟩ := h5.cells5 0 _ _ _ _ _ _ _ rfl
      have H7 := Lib.hid (Has.store5 [] h5 (.slice dS D2.st.length dkS) (.slice dC D2.ca.length dkC) (.int .i64 D2.taken) (.int .i64 D2.power) (.bool D2.off))
      clear h5 hRF HR2 H5
      go_wp2_with fail
      refine bodyPost_ret (results_st2 rfl _ _ (W.heap.size + 1 + 1) _ rfl (H7.out.blk 0 _ _ rfl).1 rfl) rfl ?_
      rw [HRF.out]
      exact H7.out.stEnd (.tail _ (.tail _ (.tail _ (.head _)))) HS4.out
  · have hcb : (c1 != 0) = true := by simpa using hc1
    have hRF : R = (D1, c1) := by rw [HRD.out, if_pos hc1]
    have HRF := Lib.hid hRF
    go_upto_region 2 with fail
    go_cut [17] (fun z wx => z = .bool true ∧ Has W wx (Blk _ (W.heap.size + 1 + 1) (.cells #[.slice none 0 0, .slice none 0 0, .int .i64 0, .int .i64 0, .bool false] 34) :: Blk _ (W.heap.size + 1) (.cells #[.int .i64 l.first, .int .i64 l.size] 23) :: Blk _ W.heap.size (.cells #[.slice bS D1.st.length bkS, .slice bC D1.ca.length bkC, .int .i64 D1.taken, .int .i64 D1.power, .bool D1.off] 34) :: StR _ (.slice bS D1.st.length bkS) (.slice bC D1.ca.length bkC) D1 :: RunR _ (.slice a run.length cap) run :: []))
    case first =>
      go_wp2_with fail
      go_meet
      exact ⟨rfl, H3.out⟩
    case rest =>
    obtain ⟨rfl, h3⟩ := hcut
    obtain ⟨t0, t1, t2, t3, t4, tf0, tf1, tf2, tf3, tf4, tz⟩ := h3.cells5 2 _ _ _ _ _ _ _ rfl
    obtain ⟨z0, z1, z2, z3, z4, zf0, zf1, zf2, zf3, zf4, zz⟩ := h3.cells5 0 _ _ _ _ _ _ _ rfl
    have H7 := Lib.hid (Has.store5 [] h3 (.slice bS D1.st.length bkS) (.slice bC D1.ca.length bkC) (.int .i64 D1.taken) (.int .i64 D1.power) (.bool D1.off))
    clear h3 hRF HRD H3
    go_wp2_with fail
    refine bodyPost_ret (results_st2 rfl _ _ (W.heap.size + 1 + 1) _ rfl (H7.out.blk 0 _ _ rfl).1 rfl) rfl ?_
    rw [HRF.out]
    exact H7.out.stEnd (.tail _ (.tail _ (.tail _ (.head _)))) HS2.out
end Go.Proofs.YtfbkfdoekgnldaaGreatDoor
namespace Go.Proofs.YtfbkfdoekgnldaaGreatDoor
open Go.RowKit
open Lime
attribute [local go_sem] Oper.semAt_some setRow_alloc_at setRow_alloc_past setRow_drew g_same32 g_eq32 g_ne32
theorem appM_ok {S : Dv} (h : S.Ok) (q : BitVec 32) (run : List Rec) : (appM S q run).1.Ok := Dv.done_ok (Dv.putAll_ok _ h)
set_option maxRecDepth 100000 in
set_option maxHeartbeats 16000000 in
theorem refreplay {W : World} {S : Dv} {uS uC : Value} (h : StIn W S uS uC) (ok : S.Ok) (l : Lay) :
    Calls Tryz.prog 29 #[.agg #[uS, uC, .int .i64 S.taken, .int .i64 S.power, .bool S.off], .agg #[.int .i64 l.first, .int .i64 l.size]] W (StRes3 W S uS uC (replayM S l).1 (replayM S l).2.1 (replayM S l).2.2) := by
  have h0 := (Has.start W).addSt h
  obtain ⟨⟨aS, akS, rfl, -⟩, ⟨aC, akC, rfl, -⟩, -, -⟩ := h
  have h1 := ((h0.alloc (.cells #[.slice aS S.st.length akS, .slice aC S.ca.length akC, .int .i64 S.taken, .int .i64 S.power, .bool S.off] 34)).allocAt (.cells #[.int .i64 l.first, .int .i64 l.size] 23) (W.heap.size + 1) (by simp)).allocAt (.cells #[.slice none 0 0, .slice none 0 0, .int .i64 0, .int .i64 0, .bool false] 34) (W.heap.size + 1 + 1) (by simp)
  have HL := Lib.hid (reflook h1 (.tail _ (.tail _ (.tail _ (.head _)))) ok.s2 l)
  obtain ⟨R, hR⟩ : ∃ R, R = replayM S l := ⟨_, rfl⟩
  rw [← hR]
  unfold replayM at hR
  have hap : (lookM S l).2.2 = 0 → (lookM S l).2.1 = true → applyM S l = many (appM S ((headM S l).1 + 1#32) (lookM S l).1) (lookM S l).1.length := fun h1 h2 => by unfold applyM; rw [if_neg (by simp [h1]), if_neg (by simp [h2])]
  have hchk : (lookM S l).2.2 = 0 → l.check = 0 := look_check
  obtain ⟨⟨out, wh, c⟩, hq⟩ : ∃ x, x = lookM S l := ⟨_, rfl⟩
  rw [← hq] at HL hR hap hchk
  dsimp only at HL hR hap hchk
  have HRD := Lib.hid hR
  have HAP := Lib.hid hap
  have HOK := Lib.hid ok
  clear h0 h1 hR hq hap ok
  go_enter Tryz.func29, Tryz.ntmps29
  go_wp2_with fail
  refine HL.out.mono ?_
  clear HL
  rintro e w2 ⟨a, cap, rfl, h2⟩
  have H2 := Lib.hid h2.drop
  clear h2
  obtain ⟨s0, s1, s2, s3, s4, sf0, sf1, sf2, sf3, sf4, sz⟩ := H2.out.cells5 2 _ _ _ _ _ _ _ rfl
  obtain ⟨z0, z1, z2, z3, z4, zf0, zf1, zf2, zf3, zf4, zz⟩ := H2.out.cells5 0 _ _ _ _ _ _ _ rfl
  have b0 := H2.out.cell 1 _ _ _ rfl 0 _ rfl
  have b1 := H2.out.cell 1 _ _ _ rfl 1 _ rfl
  by_cases hc : c = 0
  · subst hc
    have hlc := hchk rfl
    have hch := Lay.check_ok hlc
    cases wh with
    | true =>
      as_aux_lemma =>
      have hA := refapply (H2.out.st (.tail _ (.tail _ (.tail _ (.head _))))) HOK.out l
      rw [HAP.out rfl rfl] at hA
      obtain ⟨⟨D1, c1⟩, hX1⟩ : ∃ x, x = appM S ((headM S l).1 + 1#32) out := ⟨_, rfl⟩
      have hok1 : D1.Ok := by have := appM_ok HOK.out ((headM S l).1 + 1#32) out; rw [← hX1] at this; exact this
      have hR1 : R = if c1 ≠ 0 then (D1, 0, c1) else many (clearM D1 l) out.length := by rw [HRD.out, if_neg (by simp), if_pos rfl, ← hX1]
      rw [← hX1] at hA
      have HA := Lib.hid hA
      have HR1 := Lib.hid hR1
      have HOK1 := Lib.hid hok1
      clear hA hR1 hok1 hX1 HRD HAP hchk hlc
      by_cases hc1 : c1 = 0
      · subst hc1
        have hA2 := HA.out
        unfold many at hA2
        rw [if_neg (by simp)] at hA2
        dsimp only at hA2
        have HA2 := Lib.hid hA2
        have HRM : Hid (R = many (clearM D1 l) out.length) := by rw [HR1.out, if_neg (by simp)]; exact Lib.hid rfl
        clear hA2 HA HR1
        go_wp2_with fail
        refine HA2.out.mono ?_
        clear HA2 b0 b1 s0 s1 s2 s3 s4 sf0 sf1 sf2 sf3 sf4 sz z0 z1 z2 z3 z4 zf0 zf1 zf2 zf3 zf4 zz
        rintro e w4 hr
        obtain ⟨dS, dkS, dC, dkC, rfl, h4, hs4⟩ := H2.out.stStep3 [_, _, _] Sub.rfl' hr
        obtain ⟨p0, p1, p2, p3, p4, pf0, pf1, pf2, pf3, pf4, pz⟩ := h4.cells5 2 _ _ _ _ _ _ _ rfl
        have H5 := Lib.hid (Has.store5 [_, _] h4 (.slice dS D1.st.length dkS) (.slice dC D1.ca.length dkC) (.int .i64 D1.taken) (.int .i64 D1.power) (.bool D1.off))
        have HS4 := Lib.hid hs4
        clear hr h4 hs4
        go_upto_region 8 with fail
        go_cut [38] (fun z wx => z = .bool false ∧ Has W wx (Blk _ (W.heap.size + 1 + 1) (.cells #[.slice none 0 0, .slice none 0 0, .int .i64 0, .int .i64 0, .bool false] 34) :: Blk _ (W.heap.size + 1) (.cells #[.int .i64 l.first, .int .i64 l.size] 23) :: Blk _ W.heap.size (.cells #[.slice dS D1.st.length dkS, .slice dC D1.ca.length dkC, .int .i64 D1.taken, .int .i64 D1.power, .bool D1.off] 34) :: StR _ (.slice dS D1.st.length dkS) (.slice dC D1.ca.length dkC) D1 :: []))
        case first =>
          go_wp2_with fail
          go_meet
          exact ⟨rfl, H5.out⟩
        case rest =>
        obtain ⟨rfl, h5⟩ := hcut
        clear H5 p0 p1 p2 p3 p4 pf0 pf1 pf2 pf3 pf4 pz
        have H5 := Lib.hid h5
        clear h5
        have hC := refclear (H5.out.st (.tail _ (.tail _ (.tail _ (.head _))))) HOK1.out l
        obtain ⟨⟨D3, c3⟩, hX3⟩ : ∃ x, x = clearM D1 l := ⟨_, rfl⟩
        have hR3 := HRM.out
        rw [← hX3] at hC hR3
        dsimp only at hC
        obtain ⟨u0, u1, u2, u3, u4, uf0, uf1, uf2, uf3, uf4, uz⟩ := H5.out.cells5 2 _ _ _ _ _ _ _ rfl
        have b0 := H5.out.cell 1 _ _ _ rfl 0 _ rfl
        have b1 := H5.out.cell 1 _ _ _ rfl 1 _ rfl
        have HC := Lib.hid hC
        have HR3 := Lib.hid hR3
        clear hC hR3 hX3
        go_wp2_with fail
        refine HC.out.mono ?_
        clear HC b0 b1 u0 u1 u2 u3 u4 uf0 uf1 uf2 uf3 uf4 uz
        rintro e w16 hr
        obtain ⟨fS, fkS, fC, fkC, rfl, h16, hs16⟩ := H5.out.stStep [_, _, _] HS4.out hr
        obtain ⟨v0, v1, v2, v3, v4, vf0, vf1, vf2, vf3, vf4, vz⟩ := h16.cells5 2 _ _ _ _ _ _ _ rfl
        have H17 := Lib.hid (Has.store5 [_, _] h16 (.slice fS D3.st.length fkS) (.slice fC D3.ca.length fkC) (.int .i64 D3.taken) (.int .i64 D3.power) (.bool D3.off))
        have HS16 := Lib.hid hs16
        clear hr h16 hs16
        by_cases hz3 : c3 = 0
        · subst hz3
          have HRF : Hid (R = (D3, (out.length : Int), 0)) := by rw [HR3.out]; unfold many; rw [if_neg (by simp)]; exact Lib.hid rfl
          go_upto_region 20 with fail
          go_cut [96] (fun z wx => z = .bool false ∧ Has W wx (Blk _ (W.heap.size + 1 + 1) (.cells #[.slice none 0 0, .slice none 0 0, .int .i64 0, .int .i64 0, .bool false] 34) :: Blk _ (W.heap.size + 1) (.cells #[.int .i64 l.first, .int .i64 l.size] 23) :: Blk _ W.heap.size (.cells #[.slice fS D3.st.length fkS, .slice fC D3.ca.length fkC, .int .i64 D3.taken, .int .i64 D3.power, .bool D3.off] 34) :: StR _ (.slice fS D3.st.length fkS) (.slice fC D3.ca.length fkC) D3 :: []))
          case first =>
            go_wp2_with fail
            go_meet
            exact ⟨rfl, H17.out⟩
          case rest =>
          obtain ⟨rfl, h18⟩ := hcut
          obtain ⟨y0, y1, y2, y3, y4, yf0, yf1, yf2, yf3, yf4, yz⟩ := h18.cells5 2 _ _ _ _ _ _ _ rfl
          obtain ⟨x0, x1, x2, x3, x4, xf0, xf1, xf2, xf3, xf4, xz⟩ := h18.cells5 0 _ _ _ _ _ _ _ rfl
          have H18 := Lib.hid (Has.store5 [] h18 (.slice fS D3.st.length fkS) (.slice fC D3.ca.length fkC) (.int .i64 D3.taken) (.int .i64 D3.power) (.bool D3.off))
          clear h18 H17
          go_wp2_with fail
          refine bodyPost_ret (results_st3 rfl _ _ (W.heap.size + 1 + 1) _ rfl (H18.out.blk 0 _ _ rfl).1 rfl) rfl ?_
          rw [HRF.out]
          exact H18.out.stEnd3 (.tail _ (.tail _ (.tail _ (.head _)))) HS16.out
        · have hz3b : (c3 != 0) = true := by simpa using hz3
          have HRF : Hid (R = (D3, 0, c3)) := by rw [HR3.out]; unfold many; rw [if_pos hz3]; exact Lib.hid rfl
          go_upto_region 20 with fail
          go_cut [96] (fun z wx => z = .bool true ∧ Has W wx (Blk _ (W.heap.size + 1 + 1) (.cells #[.slice none 0 0, .slice none 0 0, .int .i64 0, .int .i64 0, .bool false] 34) :: Blk _ (W.heap.size + 1) (.cells #[.int .i64 l.first, .int .i64 l.size] 23) :: Blk _ W.heap.size (.cells #[.slice fS D3.st.length fkS, .slice fC D3.ca.length fkC, .int .i64 D3.taken, .int .i64 D3.power, .bool D3.off] 34) :: StR _ (.slice fS D3.st.length fkS) (.slice fC D3.ca.length fkC) D3 :: []))
          case first =>
            go_wp2_with fail
            go_meet
            exact ⟨rfl, H17.out⟩
          case rest =>
          obtain ⟨rfl, h18⟩ := hcut
          obtain ⟨y0, y1, y2, y3, y4, yf0, yf1, yf2, yf3, yf4, yz⟩ := h18.cells5 2 _ _ _ _ _ _ _ rfl
          obtain ⟨x0, x1, x2, x3, x4, xf0, xf1, xf2, xf3, xf4, xz⟩ := h18.cells5 0 _ _ _ _ _ _ _ rfl
          have H18 := Lib.hid (Has.store5 [] h18 (.slice fS D3.st.length fkS) (.slice fC D3.ca.length fkC) (.int .i64 D3.taken) (.int .i64 D3.power) (.bool D3.off))
          clear h18 H17
          go_wp2_with fail
          refine bodyPost_ret (results_st3 rfl _ _ (W.heap.size + 1 + 1) _ rfl (H18.out.blk 0 _ _ rfl).1 rfl) rfl ?_
          rw [HRF.out]
          exact H18.out.stEnd3 (.tail _ (.tail _ (.tail _ (.head _)))) HS16.out
      · have hc1b : (c1 != 0) = true := by simpa using hc1
        have hA2 := HA.out
        unfold many at hA2
        rw [if_pos hc1] at hA2
        dsimp only at hA2
        have HA2 := Lib.hid hA2
        have HRF : Hid (R = (D1, 0, c1)) := by rw [HR1.out, if_pos hc1]; exact Lib.hid rfl
        clear hA2 HA HR1
        go_wp2_with fail
        refine HA2.out.mono ?_
        clear HA2 b0 b1 s0 s1 s2 s3 s4 sf0 sf1 sf2 sf3 sf4 sz z0 z1 z2 z3 z4 zf0 zf1 zf2 zf3 zf4 zz
        rintro e w4 hr
        obtain ⟨dS, dkS, dC, dkC, rfl, h4, hs4⟩ := H2.out.stStep3 [_, _, _] Sub.rfl' hr
        obtain ⟨p0, p1, p2, p3, p4, pf0, pf1, pf2, pf3, pf4, pz⟩ := h4.cells5 2 _ _ _ _ _ _ _ rfl
        have H5 := Lib.hid (Has.store5 [_, _] h4 (.slice dS D1.st.length dkS) (.slice dC D1.ca.length dkC) (.int .i64 D1.taken) (.int .i64 D1.power) (.bool D1.off))
        have HS4 := Lib.hid hs4
        clear hr h4 hs4 H2
        go_upto_region 8 with fail
        go_cut [38] (fun z wx => z = .bool true ∧ Has W wx (Blk _ (W.heap.size + 1 + 1) (.cells #[.slice none 0 0, .slice none 0 0, .int .i64 0, .int .i64 0, .bool false] 34) :: Blk _ (W.heap.size + 1) (.cells #[.int .i64 l.first, .int .i64 l.size] 23) :: Blk _ W.heap.size (.cells #[.slice dS D1.st.length dkS, .slice dC D1.ca.length dkC, .int .i64 D1.taken, .int .i64 D1.power, .bool D1.off] 34) :: StR _ (.slice dS D1.st.length dkS) (.slice dC D1.ca.length dkC) D1 :: []))
        case first =>
          go_wp2_with fail
          go_meet
          exact ⟨rfl, H5.out⟩
        case rest =>
        obtain ⟨rfl, h5⟩ := hcut
        clear p0 p1 p2 p3 p4 pf0 pf1 pf2 pf3 pf4 pz
        obtain ⟨x0, x1, x2, x3, x4, xf0, xf1, xf2, xf3, xf4, xz⟩ := h5.cells5 0 _ _ _ _ _ _ _ rfl
        obtain ⟨y0, y1, y2, y3, y4, yf0, yf1, yf2, yf3, yf4, yz⟩ := h5.cells5 2 _ _ _ _ _ _ _ rfl
        have H6 := Lib.hid (Has.store5 [] h5 (.slice dS D1.st.length dkS) (.slice dC D1.ca.length dkC) (.int .i64 D1.taken) (.int .i64 D1.power) (.bool D1.off))
        clear h5 H5
        go_wp2_with fail
        refine bodyPost_ret (results_st3 rfl _ _ (W.heap.size + 1 + 1) _ rfl (H6.out.blk 0 _ _ rfl).1 rfl) rfl ?_
        rw [HRF.out]
        exact H6.out.stEnd3 (.tail _ (.tail _ (.tail _ (.head _)))) HS4.out
    | false =>
      have hHD := refhead H2.out (.tail _ (.tail _ (.tail _ (.head _)))) l
      obtain ⟨⟨q, c2⟩, hq2⟩ : ∃ x, x = headM S l := ⟨_, rfl⟩
      have hR1 : R = if (staleM S l q).2 ≠ 0 then (S, 0, (staleM S l q).2) else if (staleM S l q).1 then many (clearM S l) 0 else (S, 0, 0) := by rw [HRD.out, if_neg (by simp), if_neg (by simp), ← hq2]
      rw [← hq2] at hHD
      dsimp only at hHD
      obtain ⟨Q, hQ⟩ : ∃ Q, Q = q + 1#32 := ⟨_, rfl⟩
      have hvs : IntKind.u32.wrap (vu q + 1) = vu Q := by rw [hQ]; exact vu_succ q
      obtain ⟨X, hX⟩ : ∃ X, X = staleM S l q := ⟨_, rfl⟩
      rw [← hX] at hR1
      have HX0 : Hid (X = staleK S l Q (l.size - 1).toNat ((1 : Nat) : Int) false) := by rw [hX, hQ]; exact Lib.hid rfl
      have HR1 := Lib.hid hR1
      have HHD := Lib.hid hHD
      clear hHD hR1 hX hQ hq2 HRD HAP hchk
      go_wp2_with fail
      refine HHD.out.mono ?_
      clear HHD b0 b1 s0 s1 s2 s3 s4 sf0 sf1 sf2 sf3 sf4 sz z0 z1 z2 z3 z4 zf0 zf1 zf2 zf3 zf4 zz
      rintro e w3 ⟨rfl, h3⟩
      have H3 := Lib.hid h3
      clear h3 H2
      go_wp2_with fail
      go_loopw [11, 14] (fun bv iv wr => ∃ (k n : Nat) (is : Bool), bv = .bool is ∧ iv = .int .i64 (k : Int) ∧ 1 ≤ k ∧ (k : Int) + n = l.size ∧ Hid (X = staleK S l Q n (k : Int) is) ∧ Has W wr (Blk _ (W.heap.size + 1 + 1) (.cells #[.slice none 0 0, .slice none 0 0, .int .i64 0, .int .i64 0, .bool false] 34) :: Blk _ (W.heap.size + 1) (.cells #[.int .i64 l.first, .int .i64 l.size] 23) :: Blk _ W.heap.size (.cells #[.slice aS S.st.length akS, .slice aC S.ca.length akC, .int .i64 S.taken, .int .i64 S.power, .bool S.off] 34) :: StR _ (.slice aS S.st.length akS) (.slice aC S.ca.length akC) S :: [])) (fun _ i _ => l.size.toNat - (intOf i).toNat)
      case atStart => exact ⟨1, (l.size - 1).toNat, false, rfl, rfl, Nat.le_refl _, by omega, HX0, H3.out⟩
      case round =>
        obtain ⟨k, n, is, rfl, rfl, hk, hkn, hXK, hH⟩ := hrel
        clear H3 HX0
        have d0 := hH.cell 1 _ _ _ rfl 0 _ rfl
        have d1 := hH.cell 1 _ _ _ rfl 1 _ rfl
        cases n with
        | zero =>
          have hke : l.size ≤ (k : Int) := by omega
          have hX2 : X = (is, 0) := by rw [hXK.out]; rfl
          have HX2 := Lib.hid hX2
          have H4 := Lib.hid hH
          clear hH hXK hX2
          cases is
          · as_aux_lemma =>
            have HRF : Hid (R = (S, 0, 0)) := by rw [HR1.out, HX2.out, if_neg (by simp), if_neg (by simp)]; exact Lib.hid rfl
            obtain ⟨x0, x1, x2, x3, x4, xf0, xf1, xf2, xf3, xf4, xz⟩ := H4.out.cells5 0 _ _ _ _ _ _ _ rfl
            obtain ⟨y0, y1, y2, y3, y4, yf0, yf1, yf2, yf3, yf4, yz⟩ := H4.out.cells5 2 _ _ _ _ _ _ _ rfl
            have H18 := Lib.hid (Has.store5 [] H4.out (.slice aS S.st.length akS) (.slice aC S.ca.length akC) (.int .i64 S.taken) (.int .i64 S.power) (.bool S.off))
            clear H4 HR1 HX2
            go_wp2_with fail
            refine bodyPost_ret (results_st3 rfl _ _ (W.heap.size + 1 + 1) _ rfl (H18.out.blk 0 _ _ rfl).1 rfl) rfl ?_
            rw [HRF.out]
            exact H18.out.stEnd3 (.tail _ (.tail _ (.tail _ (.head _)))) Sub.rfl'
          · as_aux_lemma =>
            have HRM : Hid (R = many (clearM S l) 0) := by rw [HR1.out, HX2.out, if_neg (by simp), if_pos rfl]; exact Lib.hid rfl
            clear HR1 HX2
            have hC := refclear (H4.out.st (.tail _ (.tail _ (.tail _ (.head _))))) HOK.out l
            obtain ⟨⟨D3, c3⟩, hX3⟩ : ∃ x, x = clearM S l := ⟨_, rfl⟩
            have hR3 := HRM.out
            rw [← hX3] at hC hR3
            dsimp only at hC
            obtain ⟨u0, u1, u2, u3, u4, uf0, uf1, uf2, uf3, uf4, uz⟩ := H4.out.cells5 2 _ _ _ _ _ _ _ rfl
            have b0 := H4.out.cell 1 _ _ _ rfl 0 _ rfl
            have b1 := H4.out.cell 1 _ _ _ rfl 1 _ rfl
            have HC := Lib.hid hC
            have HR3 := Lib.hid hR3
            clear hC hR3 hX3
            go_wp2_with fail
            refine HC.out.mono ?_
            clear HC b0 b1 u0 u1 u2 u3 u4 uf0 uf1 uf2 uf3 uf4 uz
            rintro e w16 hr
            obtain ⟨fS, fkS, fC, fkC, rfl, h16, hs16⟩ := H4.out.stStep [_, _, _] Sub.rfl' hr
            obtain ⟨v0, v1, v2, v3, v4, vf0, vf1, vf2, vf3, vf4, vz⟩ := h16.cells5 2 _ _ _ _ _ _ _ rfl
            have H17 := Lib.hid (Has.store5 [_, _] h16 (.slice fS D3.st.length fkS) (.slice fC D3.ca.length fkC) (.int .i64 D3.taken) (.int .i64 D3.power) (.bool D3.off))
            have HS16 := Lib.hid hs16
            clear hr h16 hs16
            by_cases hz3 : c3 = 0
            · subst hz3
              have HRF : Hid (R = (D3, 0, 0)) := by rw [HR3.out]; unfold many; rw [if_neg (by simp)]; exact Lib.hid rfl
              go_upto_region 20 with fail
              go_cut [96] (fun z wx => z = .bool false ∧ Has W wx (Blk _ (W.heap.size + 1 + 1) (.cells #[.slice none 0 0, .slice none 0 0, .int .i64 0, .int .i64 0, .bool false] 34) :: Blk _ (W.heap.size + 1) (.cells #[.int .i64 l.first, .int .i64 l.size] 23) :: Blk _ W.heap.size (.cells #[.slice fS D3.st.length fkS, .slice fC D3.ca.length fkC, .int .i64 D3.taken, .int .i64 D3.power, .bool D3.off] 34) :: StR _ (.slice fS D3.st.length fkS) (.slice fC D3.ca.length fkC) D3 :: []))
              case first =>
                go_wp2_with fail
                go_meet
                exact ⟨rfl, H17.out⟩
              case rest =>
              obtain ⟨rfl, h18⟩ := hcut
              obtain ⟨y0, y1, y2, y3, y4, yf0, yf1, yf2, yf3, yf4, yz⟩ := h18.cells5 2 _ _ _ _ _ _ _ rfl
              obtain ⟨x0, x1, x2, x3, x4, xf0, xf1, xf2, xf3, xf4, xz⟩ := h18.cells5 0 _ _ _ _ _ _ _ rfl
              have H18 := Lib.hid (Has.store5 [] h18 (.slice fS D3.st.length fkS) (.slice fC D3.ca.length fkC) (.int .i64 D3.taken) (.int .i64 D3.power) (.bool D3.off))
              clear h18 H17
              go_wp2_with fail
              refine bodyPost_ret (results_st3 rfl _ _ (W.heap.size + 1 + 1) _ rfl (H18.out.blk 0 _ _ rfl).1 rfl) rfl ?_
              rw [HRF.out]
              exact H18.out.stEnd3 (.tail _ (.tail _ (.tail _ (.head _)))) HS16.out
            · have hz3b : (c3 != 0) = true := by simpa using hz3
              have HRF : Hid (R = (D3, 0, c3)) := by rw [HR3.out]; unfold many; rw [if_pos hz3]; exact Lib.hid rfl
              go_upto_region 20 with fail
              go_cut [96] (fun z wx => z = .bool true ∧ Has W wx (Blk _ (W.heap.size + 1 + 1) (.cells #[.slice none 0 0, .slice none 0 0, .int .i64 0, .int .i64 0, .bool false] 34) :: Blk _ (W.heap.size + 1) (.cells #[.int .i64 l.first, .int .i64 l.size] 23) :: Blk _ W.heap.size (.cells #[.slice fS D3.st.length fkS, .slice fC D3.ca.length fkC, .int .i64 D3.taken, .int .i64 D3.power, .bool D3.off] 34) :: StR _ (.slice fS D3.st.length fkS) (.slice fC D3.ca.length fkC) D3 :: []))
              case first =>
                go_wp2_with fail
                go_meet
                exact ⟨rfl, H17.out⟩
              case rest =>
              obtain ⟨rfl, h18⟩ := hcut
              obtain ⟨y0, y1, y2, y3, y4, yf0, yf1, yf2, yf3, yf4, yz⟩ := h18.cells5 2 _ _ _ _ _ _ _ rfl
              obtain ⟨x0, x1, x2, x3, x4, xf0, xf1, xf2, xf3, xf4, xz⟩ := h18.cells5 0 _ _ _ _ _ _ _ rfl
              have H18 := Lib.hid (Has.store5 [] h18 (.slice fS D3.st.length fkS) (.slice fC D3.ca.length fkC) (.int .i64 D3.taken) (.int .i64 D3.power) (.bool D3.off))
              clear h18 H17
              go_wp2_with fail
              refine bodyPost_ret (results_st3 rfl _ _ (W.heap.size + 1 + 1) _ rfl (H18.out.blk 0 _ _ rfl).1 rfl) rfl ?_
              rw [HRF.out]
              exact H18.out.stEnd3 (.tail _ (.tail _ (.tail _ (.head _)))) HS16.out
        | succ n =>
          have hkl : (k : Int) < l.size := by omega
          obtain ⟨g0, g1, g2, g3, g4, gf0, gf1, gf2, gf3, gf4, gz⟩ := hH.cells5 2 _ _ _ _ _ _ _ rfl
          have hwr : wrap64 (l.first + (k : Int)) = l.first + (k : Int) := by unfold wrap64; omega
          obtain ⟨Y, hY⟩ : ∃ Y, Y = S.get (l.first + (k : Int)) := ⟨_, rfl⟩
          have hg := refget_ret hH (.tail _ (.tail _ (.tail _ (.head _)))) (l.first + (k : Int))
          have hst : X = if broken Y.2 then (false, Y.2) else staleK S l Q n ((k : Int) + 1) (is || isStale Y Q) := by rw [hXK.out, hY]; rfl
          rw [← hY] at hg
          obtain ⟨⟨fk, fq, fd⟩, fe⟩ := Y
          dsimp only at hg hst
          have HG := Lib.hid hg
          have HST := Lib.hid hst
          clear hg hY hst hXK hH
          go_wp2_with fail
          refine HG.out.mono ?_
          clear HG d0 d1 hwr g0 g1 g2 g3 g4 gf0 gf1 gf2 gf3 gf4 gz
          rintro e w4 ⟨rfl, h4⟩
          have H4 := Lib.hid (h4.alloc (.cells #[.int .i64 fk, .int .u32 (vu fq), .string fd] 49))
          clear h4
          go_wp2_with fail
          refine (refdevice fe _).mono ?_
          rintro e w5 ⟨rfl, hB5⟩
          have H5 := Lib.hid (H4.out.below hB5)
          clear hB5 H4
          cases hbk : broken fe
          · have HN : Hid (X = staleK S l Q n ((k : Int) + 1) (is || isStale (⟨fk, fq, fd⟩, fe) Q)) := by rw [HST.out, hbk, if_neg (by simp)]; exact Lib.hid rfl
            obtain ⟨st, hst⟩ : ∃ st, st = isStale (⟨fk, fq, fd⟩, fe) Q := ⟨_, rfl⟩
            rw [← hst] at HN
            have HS := Lib.hid hst
            clear hbk HST hst
            as_aux_lemma =>
            have f0 := H5.out.cell 0 _ _ _ rfl 0 _ rfl
            have f1 := H5.out.cell 0 _ _ _ rfl 1 _ rfl
            have H6 := Lib.hid H5.out.drop
            clear H5
            cases is
            · by_cases he : fe = 0
              · subst he
                by_cases hqq : fq = Q
                · subst hqq
                  by_cases k2 : fk = 2
                  · subst k2
                    have HT : Hid (st = true) := by rw [HS.out]; unfold isStale mine; exact Lib.hid (by simp)
                    have HN2 : Hid (X = staleK S l fq n ((k : Int) + 1) true) := by have h := HN.out; rw [HT.out] at h; exact Lib.hid h
                    clear HN HS HT
                    go_wp2_with fail
                    go_roundw
                    case rel => exact ⟨k + 1, n, true, rfl, by go_num, by omega, by omega, HN2, H6.out⟩
                    case measure => simp [intOf]; omega
                  · have k2b : (fk == 2) = false := by simpa using k2
                    by_cases k3 : fk = 3
                    · subst k3
                      have HT : Hid (st = true) := by rw [HS.out]; unfold isStale mine; exact Lib.hid (by simp)
                      have HN2 : Hid (X = staleK S l fq n ((k : Int) + 1) true) := by have h := HN.out; rw [HT.out] at h; exact Lib.hid h
                      clear HN HS HT
                      go_wp2_with fail
                      go_roundw
                      case rel => exact ⟨k + 1, n, true, rfl, by go_num, by omega, by omega, HN2, H6.out⟩
                      case measure => simp [intOf]; omega
                    · have k3b : (fk == 3) = false := by simpa using k3
                      have HT : Hid (st = false) := by rw [HS.out]; unfold isStale mine; rw [k2b, k3b]; exact Lib.hid (by simp)
                      have HN2 : Hid (X = staleK S l fq n ((k : Int) + 1) false) := by have h := HN.out; rw [HT.out] at h; exact Lib.hid h
                      clear HN HS HT
                      go_wp2_with fail
                      go_roundw
                      case rel => exact ⟨k + 1, n, false, rfl, by go_num, by omega, by omega, HN2, H6.out⟩
                      case measure => simp [intOf]; omega
                · have hq2 : (vu fq == vu Q) = false := by simpa using fun e => hqq (vu_inj.1 e)
                  have hq3 : (fq == Q) = false := by simpa using hqq
                  have HT : Hid (st = false) := by rw [HS.out]; unfold isStale mine; rw [hq3]; exact Lib.hid (by simp)
                  have HN2 : Hid (X = staleK S l Q n ((k : Int) + 1) false) := by have h := HN.out; rw [HT.out] at h; exact Lib.hid h
                  clear HN HS HT
                  go_wp2_with fail
                  go_roundw
                  case rel => exact ⟨k + 1, n, false, rfl, by go_num, by omega, by omega, HN2, H6.out⟩
                  case measure => simp [intOf]; omega
              · have he2 : (fe == 0) = false := by simpa using he
                have HT : Hid (st = false) := by rw [HS.out]; unfold isStale mine; dsimp only; rw [he2]; exact Lib.hid (by simp)
                have HN2 : Hid (X = staleK S l Q n ((k : Int) + 1) false) := by have h := HN.out; rw [HT.out] at h; exact Lib.hid h
                clear HN HS HT
                go_wp2_with fail
                go_roundw
                case rel => exact ⟨k + 1, n, false, rfl, by go_num, by omega, by omega, HN2, H6.out⟩
                case measure => simp [intOf]; omega
            · have HN2 : Hid (X = staleK S l Q n ((k : Int) + 1) true) := HN
              clear HN HS
              go_wp2_with fail
              go_roundw
              case rel => exact ⟨k + 1, n, true, rfl, by go_num, by omega, by omega, HN2, H6.out⟩
              case measure => simp [intOf]; omega
          · as_aux_lemma =>
            have hfe : ¬ fe = 0 := by rintro rfl; revert hbk; decide
            have HRF : Hid (R = (S, 0, fe)) := by rw [HR1.out, HST.out, hbk, if_pos rfl, if_pos hfe]; exact Lib.hid rfl
            have H6 := Lib.hid H5.out.drop
            obtain ⟨x0, x1, x2, x3, x4, xf0, xf1, xf2, xf3, xf4, xz⟩ := H6.out.cells5 0 _ _ _ _ _ _ _ rfl
            obtain ⟨y0, y1, y2, y3, y4, yf0, yf1, yf2, yf3, yf4, yz⟩ := H6.out.cells5 2 _ _ _ _ _ _ _ rfl
            have H18 := Lib.hid (Has.store5 [] H6.out (.slice aS S.st.length akS) (.slice aC S.ca.length akC) (.int .i64 S.taken) (.int .i64 S.power) (.bool S.off))
            clear hbk HST H6 H5
            go_wp2_with fail
            refine bodyPost_ret (results_st3 rfl _ _ (W.heap.size + 1 + 1) _ rfl (H18.out.blk 0 _ _ rfl).1 rfl) rfl ?_
            rw [HRF.out]
            exact H18.out.stEnd3 (.tail _ (.tail _ (.tail _ (.head _)))) Sub.rfl'
  · have hcb : (c != 0) = true := by simpa using hc
    have HRF : Hid (R = (S, 0, c)) := by rw [HRD.out, if_pos hc]; exact Lib.hid rfl
    have H18 := Lib.hid (Has.store5 [] H2.out (.slice aS S.st.length akS) (.slice aC S.ca.length akC) (.int .i64 S.taken) (.int .i64 S.power) (.bool S.off))
    clear H2 HRD
    go_wp2_with fail
    refine bodyPost_ret (results_st3 rfl _ _ (W.heap.size + 1 + 1) _ rfl (H18.out.blk 0 _ _ rfl).1 rfl) rfl ?_
    rw [HRF.out]
    exact H18.out.stEnd3 (.tail _ (.tail _ (.tail _ (.head _)))) Sub.rfl'
end Go.Proofs.YtfbkfdoekgnldaaGreatDoor
namespace Go.Proofs.YtfbkfdoekgnldaaGreatDoor
open Go.RowKit
open Lime
attribute [local go_sem] Oper.semAt_some setRow_alloc_at setRow_alloc_past setRow_drew g_same32 g_eq32 g_ne32
set_option maxRecDepth 100000 in
set_option maxHeartbeats 8000000 in
theorem refformat {W : World} {S : Dv} {uS uC : Value} (h : StIn W S uS uC) (ok : S.Ok) (l : Lay) :
    Calls Tryz.prog 33 #[.agg #[uS, uC, .int .i64 S.taken, .int .i64 S.power, .bool S.off], .agg #[.int .i64 l.first, .int .i64 l.size]] W (StRes W S uS uC (formatM S l).1 (formatM S l).2) := by
  have h0 := (Has.start W).addSt h
  obtain ⟨⟨aS, akS, rfl, -⟩, ⟨aC, akC, rfl, -⟩, -, -⟩ := h
  have h1 := ((h0.alloc (.cells #[.slice aS S.st.length akS, .slice aC S.ca.length akC, .int .i64 S.taken, .int .i64 S.power, .bool S.off] 34)).allocAt (.cells #[.int .i64 l.first, .int .i64 l.size] 23) (W.heap.size + 1) (by simp)).allocAt (.cells #[.slice none 0 0, .slice none 0 0, .int .i64 0, .int .i64 0, .bool false] 34) (W.heap.size + 1 + 1) (by simp)
  have HC := Lib.hid (refcheck l (((W.alloc (.cells #[.slice aS S.st.length akS, .slice aC S.ca.length akC, .int .i64 S.taken, .int .i64 S.power, .bool S.off] 34)).alloc (.cells #[.int .i64 l.first, .int .i64 l.size] 23)).alloc (.cells #[.slice none 0 0, .slice none 0 0, .int .i64 0, .int .i64 0, .bool false] 34)))
  obtain ⟨R, hR⟩ : ∃ R, R = formatM S l := ⟨_, rfl⟩
  rw [← hR]
  unfold formatM at hR
  have hck := @Lay.check_ok l
  obtain ⟨c, hc⟩ : ∃ c, c = l.check := ⟨_, rfl⟩
  rw [← hc] at hR HC hck
  obtain ⟨E, hE⟩ : ∃ E, E = S.putE l.first 1 0#32 ⟨#[]⟩ := ⟨_, rfl⟩
  obtain ⟨D0, hD0⟩ : ∃ D, D = S.put l.first 1 0#32 ⟨#[]⟩ := ⟨_, rfl⟩
  have hok0 : D0.Ok := by rw [hD0]; exact Dv.putA_ok ok ⟨l.first, 1, 0#32, ⟨#[]⟩⟩
  rw [← hE, ← hD0] at hR
  have HPUT : Hid (∀ W', StIn W' S (.slice aS S.st.length akS) (.slice aC S.ca.length akC) → Calls Tryz.prog 64 #[.agg #[.slice aS S.st.length akS, .slice aC S.ca.length akC, .int .i64 S.taken, .int .i64 S.power, .bool S.off], .int .i64 l.first, .int .i64 1, .int .u32 0, .string ⟨#[]⟩] W' (StRes W' S (.slice aS S.st.length akS) (.slice aC S.ca.length akC) D0 E)) := fun W' h => by
    rw [hD0, hE]
    exact refput h ok l.first 1 0#32 ⟨#[]⟩ (by decide)
  have HRD := Lib.hid hR
  have H1 := Lib.hid h1
  have HOK0 := Lib.hid hok0
  clear h0 h1 hR hc hE hD0 hok0 ok
  go_enter Tryz.func33, Tryz.ntmps33
  go_wp2_with fail
  refine HC.out.mono ?_
  clear HC
  rintro e w2 ⟨rfl, hB2⟩
  have h2 := H1.out.below hB2
  obtain ⟨s0, s1, s2, s3, s4, sf0, sf1, sf2, sf3, sf4, sz⟩ := h2.cells5 2 _ _ _ _ _ _ _ rfl
  obtain ⟨z0, z1, z2, z3, z4, zf0, zf1, zf2, zf3, zf4, zz⟩ := h2.cells5 0 _ _ _ _ _ _ _ rfl
  by_cases hc : c = 0
  · subst hc
    obtain ⟨k1, k2, k3, k4⟩ := hck rfl
    have b0 := h2.cell 1 _ _ _ rfl 0 _ rfl
    have HP := Lib.hid (HPUT.out _ (h2.st (.tail _ (.tail _ (.tail _ (.head _))))))
    have H2 := Lib.hid h2
    clear h2 hB2 H1 HPUT hck
    go_wp2_with fail
    refine HP.out.mono ?_
    clear HP b0 s0 s1 s2 s3 s4 sf0 sf1 sf2 sf3 sf4 sz z0 z1 z2 z3 z4 zf0 zf1 zf2 zf3 zf4 zz
    rintro e w3 hr
    obtain ⟨fS, fkS, fC, fkC, rfl, h3, hs3⟩ := H2.out.stStep [_, _, _] Sub.rfl' hr
    obtain ⟨t0, t1, t2, t3, t4, tf0, tf1, tf2, tf3, tf4, tz⟩ := h3.cells5 2 _ _ _ _ _ _ _ rfl
    have H4 := Lib.hid (Has.store5 [_, _] h3 (.slice fS D0.st.length fkS) (.slice fC D0.ca.length fkC) (.int .i64 D0.taken) (.int .i64 D0.power) (.bool D0.off))
    have HS3 := Lib.hid hs3
    have HST : Hid ((E = 0 ∧ R = Dv.done (zerosK l D0 (l.size.toNat - 1) ((1 : Nat) : Int))) ∨ (E ≠ 0 ∧ R = (D0, E))) := by
      by_cases h : E = 0
      · exact Lib.hid (.inl ⟨h, by rw [HRD.out, if_neg (by simp), if_neg (by simp [h]), show (l.size - 1).toNat = l.size.toNat - 1 by omega]; rfl⟩)
      · exact Lib.hid (.inr ⟨h, by rw [HRD.out, if_neg (by simp), if_pos h]⟩)
    clear hr h3 hs3 H2 HRD
    go_wp2_with fail
    go_loopw [6, 7] (fun ev iv wr => ∃ (k : Nat) (D : Dv) (e : Int) (bS : Option Addr) (bkS : Nat) (bC : Option Addr) (bkC : Nat), ev = .int .i64 e ∧ iv = .int .i64 (k : Int) ∧ (k : Int) ≤ l.size ∧ 1 ≤ k ∧ Hid D.Ok ∧ Hid ((e = 0 ∧ R = Dv.done (zerosK l D (l.size.toNat - k) (k : Int))) ∨ (e ≠ 0 ∧ R = (D, e))) ∧ Hid (Sub W.heap.size S (.slice aS S.st.length akS) (.slice aC S.ca.length akC) D (.slice bS D.st.length bkS) (.slice bC D.ca.length bkC)) ∧ Has W wr (Blk _ (W.heap.size + 1 + 1) (.cells #[.slice none 0 0, .slice none 0 0, .int .i64 0, .int .i64 0, .bool false] 34) :: Blk _ (W.heap.size + 1) (.cells #[.int .i64 l.first, .int .i64 l.size] 23) :: Blk _ W.heap.size (.cells #[.slice bS D.st.length bkS, .slice bC D.ca.length bkC, .int .i64 D.taken, .int .i64 D.power, .bool D.off] 34) :: StR _ (.slice bS D.st.length bkS) (.slice bC D.ca.length bkC) D :: [])) (fun _ i _ => l.size.toNat - (intOf i).toNat)
    case atStart => exact ⟨1, D0, E, fS, fkS, fC, fkC, rfl, rfl, by omega, Nat.le_refl _, HOK0, HST, HS3, H4.out⟩
    case round =>
      clear HS3 H4 HST
      obtain ⟨k, D, e, bS, bkS, bC, bkC, rfl, rfl, hk, hk1, HDO, HIV, HSUB, hH⟩ := hrel
      obtain ⟨p0, p1, p2, p3, p4, pf0, pf1, pf2, pf3, pf4, pz⟩ := hH.cells5 2 _ _ _ _ _ _ _ rfl
      obtain ⟨x0, x1, x2, x3, x4, xf0, xf1, xf2, xf3, xf4, xz⟩ := hH.cells5 0 _ _ _ _ _ _ _ rfl
      have d0 := hH.cell 1 _ _ _ rfl 0 _ rfl
      have d1 := hH.cell 1 _ _ _ rfl 1 _ rfl
      by_cases he : e = 0
      · subst he
        have hpk : R = Dv.done (zerosK l D (l.size.toNat - k) (k : Int)) := by
          rcases HIV.out with ⟨_, h⟩ | ⟨h, _⟩
          · exact h
          · exact absurd rfl h
        by_cases hlt : (k : Int) < l.size
        · as_aux_lemma =>
          have hw : wrap64 (l.first + (k : Int)) = l.first + (k : Int) := by unfold wrap64; omega
          have e1 : l.size.toNat - k = (l.size.toNat - (k + 1)) + 1 := by omega
          rw [e1] at hpk
          unfold zerosK at hpk
          have hW := ref_write_any (hH.st (.tail _ (.tail _ (.tail _ (.head _))))) HDO.out (l.first + (k : Int)) zsec
          unfold stCells at hW
          obtain ⟨F, hF⟩ : ∃ F, F = D.writeE (l.first + (k : Int)) := ⟨_, rfl⟩
          obtain ⟨D1, hD1⟩ : ∃ D1, D1 = D.write (l.first + (k : Int)) zsec := ⟨_, rfl⟩
          have hok1 : D1.Ok := by rw [hD1]; exact Dv.write_ok HDO.out _ _
          rw [← hF, ← hD1] at hW hpk
          have HNX : Hid ((F = 0 ∧ R = Dv.done (zerosK l D1 (l.size.toNat - (k + 1)) ((k + 1 : Nat) : Int))) ∨ (F ≠ 0 ∧ R = (D1, F))) := by
            by_cases h : F = 0
            · exact Lib.hid (.inl ⟨h, by rw [hpk, if_neg (by simp [h]), show ((k + 1 : Nat) : Int) = (k : Int) + 1 by omega]⟩)
            · exact Lib.hid (.inr ⟨h, by rw [hpk, if_pos h]; unfold Dv.done; rw [if_pos h]⟩)
          have HW := Lib.hid hW
          have H3 := Lib.hid hH
          have HOK1 := Lib.hid hok1
          clear hH hpk hF hD1 e1 hW hok1 HIV
          go_wp2_with (with_reducible refine wpList_build_sector rfl rfl ?_)
          refine HW.out.mono ?_
          clear HW d0 d1 hw p0 p1 p2 p3 p4 pf0 pf1 pf2 pf3 pf4 pz x0 x1 x2 x3 x4 xf0 xf1 xf2 xf3 xf4 xz
          rintro e w3 hr
          obtain ⟨dS, dkS, dC, dkC, rfl, h3, hs3⟩ := H3.out.stStep [_, _, _] HSUB.out hr
          obtain ⟨t0, t1, t2, t3, t4, tf0, tf1, tf2, tf3, tf4, tz⟩ := h3.cells5 2 _ _ _ _ _ _ _ rfl
          have H4 := Lib.hid (Has.store5 [_, _] h3 (.slice dS D1.st.length dkS) (.slice dC D1.ca.length dkC) (.int .i64 D1.taken) (.int .i64 D1.power) (.bool D1.off))
          have HS3 := Lib.hid hs3
          clear hr h3 hs3 H3
          go_wp2_with fail
          go_roundw
          case rel => exact ⟨k + 1, D1, F, dS, dkS, dC, dkC, rfl, by go_num, by omega, by omega, HOK1, HNX, HS3, H4.out⟩
          case measure => simp [intOf]; omega
        · as_aux_lemma =>
          have e1 : l.size.toNat - k = 0 := by omega
          rw [e1] at hpk
          have hRF : R = (D.flush, D.flushE) := by rw [hpk]; unfold zerosK Dv.done; rw [if_neg (by simp)]
          obtain ⟨D2, hD2⟩ : ∃ D2, D2 = D.flush := ⟨_, rfl⟩
          obtain ⟨f, hf⟩ : ∃ f, f = D.flushE := ⟨_, rfl⟩
          have hF := ref_flush (hH.st (.tail _ (.tail _ (.tail _ (.head _))))) HDO.out.c2
          unfold stCells at hF
          rw [← hD2, ← hf] at hF hRF
          have HRF := Lib.hid hRF
          have HF := Lib.hid hF
          have H3 := Lib.hid hH
          clear hH hpk e1 hF hD2 hf hRF HIV
          go_wp2_with fail
          refine HF.out.mono ?_
          clear HF d0 d1 p0 p1 p2 p3 p4 pf0 pf1 pf2 pf3 pf4 pz x0 x1 x2 x3 x4 xf0 xf1 xf2 xf3 xf4 xz
          rintro e w3 hr
          obtain ⟨dS, dkS, dC, dkC, rfl, h3, hs3⟩ := H3.out.stStep [_, _, _] HSUB.out hr
          obtain ⟨t0, t1, t2, t3, t4, tf0, tf1, tf2, tf3, tf4, tz⟩ := h3.cells5 0 _ _ _ _ _ _ _ rfl
          have H4 := Lib.hid (Has.store5 [] h3 (.slice dS D2.st.length dkS) (.slice dC D2.ca.length dkC) (.int .i64 D2.taken) (.int .i64 D2.power) (.bool D2.off))
          have HS3 := Lib.hid hs3
          clear hr h3 hs3 H3
          go_wp2_with fail
          refine bodyPost_ret (results_st2 rfl _ _ (W.heap.size + 1 + 1) _ rfl (H4.out.blk 0 _ _ rfl).1 rfl) rfl ?_
          rw [HRF.out]
          exact H4.out.stEnd (.tail _ (.tail _ (.tail _ (.head _)))) HS3.out
      · as_aux_lemma =>
        have hRF : R = (D, e) := by
          rcases HIV.out with ⟨h, _⟩ | ⟨_, h⟩
          · exact absurd h he
          · exact h
        have HRF := Lib.hid hRF
        have heb : (e != 0) = true := by simpa using he
        have heb2 : (e == 0) = false := by simpa using he
        have H4 := Lib.hid (Has.store5 [] hH (.slice bS D.st.length bkS) (.slice bC D.ca.length bkC) (.int .i64 D.taken) (.int .i64 D.power) (.bool D.off))
        clear hH hRF HIV
        by_cases hlt : (k : Int) < l.size
        · skip
          go_wp2_with fail
          refine bodyPost_ret (results_st2 rfl _ _ (W.heap.size + 1 + 1) _ rfl (H4.out.blk 0 _ _ rfl).1 rfl) rfl ?_
          rw [HRF.out]
          exact H4.out.stEnd (.tail _ (.tail _ (.tail _ (.head _)))) HSUB.out
        · skip
          go_wp2_with fail
          refine bodyPost_ret (results_st2 rfl _ _ (W.heap.size + 1 + 1) _ rfl (H4.out.blk 0 _ _ rfl).1 rfl) rfl ?_
          rw [HRF.out]
          exact H4.out.stEnd (.tail _ (.tail _ (.tail _ (.head _)))) HSUB.out
  · have hcb : (c != 0) = true := by simpa using hc
    have HRF : Hid (R = (S, c)) := by rw [HRD.out, if_pos hc]; exact Lib.hid rfl
    have H4 := Lib.hid (Has.store5 [] h2 (.slice aS S.st.length akS) (.slice aC S.ca.length akC) (.int .i64 S.taken) (.int .i64 S.power) (.bool S.off))
    clear h2 HRD hB2 H1
    go_wp2_with fail
    refine bodyPost_ret (results_st2 rfl _ _ (W.heap.size + 1 + 1) _ rfl (H4.out.blk 0 _ _ rfl).1 rfl) rfl ?_
    rw [HRF.out]
    exact H4.out.stEnd (.tail _ (.tail _ (.tail _ (.head _)))) Sub.rfl'
end Go.Proofs.YtfbkfdoekgnldaaGreatDoor
