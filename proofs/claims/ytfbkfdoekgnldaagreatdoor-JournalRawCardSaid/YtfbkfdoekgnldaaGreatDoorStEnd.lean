/- The state of the reference as one of the things of a walk; its calls. A region that draws its order, whose operations only read and whose calls only make new blocks: walked once, in the order of the text. The reference's device: New; Same of equal states. -/
import Derived.Test.YtfbkfdoekgnldaaGreatDoorRefLim
import Derived.Test.YtfbkfdoekgnldaaGreatDoorDevHas
import Derived.Test.YtfbkfdoekgnldaaGreatDoorKeep
import Derived.BigQuiet
import Derived.Deep.MidRow
import Derived.Test.YtfbkfdoekgnldaaGreatDoorDevNew
import Derived.Test.YtfbkfdoekgnldaaGreatDoorOrdT
namespace Go.Proofs.YtfbkfdoekgnldaaGreatDoor
open Go.RowKit
/-- a state that can be read, as one of the things of a walk -/
def StR (B : Nat) (uS uC : Value) (S : Dv) : Res B where
  P W F := StIn W S uS uC ∧ (∀ k ∈ blksL uS S.st ++ blksL uC S.ca, k < B ∨ k ∈ F) ∧ ∀ k ∈ F, k < W.heap.size
  lt W F h := h.2.2
  stay W W' F h h0 h1 := by
    obtain ⟨h, hb, hl⟩ := h
    have hs : ∀ k ∈ blksL uS S.st ++ blksL uC S.ca, W'.heap[k]? = W.heap[k]? := fun k hk => by rcases hb k hk with hk | hk; exact h0 k hk; exact h1 k hk
    refine ⟨⟨?_, ?_, h.l1, h.l2⟩, hb, fun k hk => ?_⟩
    · have h3 := h.hS
      cases hq : S.st with
      | nil => rw [hq] at h3; obtain ⟨a, cap, hv, _⟩ := h3; exact ⟨a, cap, hv, .inl rfl⟩
      | cons x l => rw [hq] at h3 hs; exact h3.stay (fun k hk => hs k (List.mem_append_left _ hk))
    · have h3 := h.hC
      cases hq : S.ca with
      | nil => rw [hq] at h3; obtain ⟨a, cap, hv, _⟩ := h3; exact ⟨a, cap, hv, .inl rfl⟩
      | cons x l => rw [hq] at h3 hs; exact h3.stay (fun k hk => hs k (List.mem_append_right _ hk))
    · have := h1 k hk
      rw [Array.getElem?_eq_getElem (hl k hk)] at this
      exact (Array.getElem?_eq_some_iff.1 this).1
theorem StIn.blt {W : World} {S : Dv} {uS uC : Value} (h : StIn W S uS uC) : ∀ k ∈ blksL uS S.st ++ blksL uC S.ca, k < W.heap.size := fun k hk => by
  rcases List.mem_append.1 hk with hk | hk
  · exact h.hS.lt secL_len (by decide) k hk
  · exact h.hC.lt wrL_len (by decide) k hk
theorem Has.addSt {w W : World} {rs : List (Res w.heap.size)} {S : Dv} {uS uC : Value} (h : Has w W rs) (hr : StIn w S uS uC) : Has w W (StR _ uS uC S :: rs) :=
  h.more (Below.refl _ _) _ [] ⟨hr.below h.hB, fun k hk => .inl (hr.blt k hk), by simp⟩ (by simp)
theorem Has.st {w W : World} {rs : List (Res w.heap.size)} {S : Dv} {uS uC : Value} (h : Has w W rs) (hr : StR _ uS uC S ∈ rs) : StIn W S uS uC := by
  obtain ⟨F, ⟨hO, _⟩, _⟩ := h.mem hr
  exact hO
/-- what a call of the reference leaves -/
theorem Has.stRes {w W W' : World} {rs : List (Res w.heap.size)} {S S' : Dv} {uS uC : Value} {code : Int} {e : Ending} (h : Has w W (StR _ uS uC S :: rs)) (hr : StRes W S uS uC S' code e W') :
    ∃ vS vC, e = .returned (.tuple #[.agg (stCells vS vC S'), .int .i64 code]) ∧ Has w W' (StR _ vS vC S' :: rs) := by
  obtain ⟨vS, vC, rfl, hin, hk, hB⟩ := hr
  obtain ⟨F, ⟨h0, hb, hl⟩, hF, _, hT⟩ := h.focus
  refine ⟨vS, vC, rfl, hT W' (StR _ vS vC S') ((blksL vS S'.st ++ blksL vC S'.ca).filter fun k => decide (w.heap.size ≤ k)) (Only.of_below hB) ⟨hin, fun k hk2 => ?_, fun k hk2 => hin.blt k (List.mem_filter.1 hk2).1⟩ (fun k hk2 => ?_)⟩
  · by_cases hlt : k < w.heap.size
    · exact .inl hlt
    · exact .inr (List.mem_filter.2 ⟨hk2, by simpa using hlt⟩)
  · obtain ⟨h1, h2⟩ := List.mem_filter.1 hk2
    simp only [decide_eq_true_eq] at h2
    rcases hk k h1 with h3 | h3
    · rcases hb k h3 with h4 | h4
      · omega
      · exact .inl h4
    · exact .inr h3
end Go.Proofs.YtfbkfdoekgnldaaGreatDoor
namespace Go.Proofs.YtfbkfdoekgnldaaGreatDoor
open Go.RowKit
/-- a world in which nothing that was there has turned -/
structure Near (W0 : World) where
  w : World
  h : Below W0.heap.size W0 w
instance near_some (W0 : World) : Nonempty (Near W0) := ⟨⟨W0, Below.refl _ _⟩⟩
theorem Near.step {W0 : World} (n : Near W0) {w' : World} (h : Below n.w.heap.size n.w w') : ∃ m : Near W0, w' = m.w := ⟨⟨w', n.h.trans (h.mono n.h.size)⟩, rfl⟩
theorem Near.same {W0 : World} (n : Near W0) : ∃ m : Near W0, n.w = m.w := ⟨n, rfl⟩
theorem wp_region_near {id : Nat} {Q : Exit → Act → World → Prop} {a : Act} {w : World} {l : List Oper} (hm : Tryz.prog.follows .mixedOrders = true) (hB : Region.lexB .any l.toArray = true)
    (h : wpQuiet Tryz.prog l.toArray (fun w' => ∃ n : Near w, w' = n.w) (fun a' => ∀ w', (∃ n : Near w, w' = n.w) → Q .normal a' w') l a) : (Code.region id l.toArray true).wp Tryz.prog Q a w :=
  wp_region_quiet (C := fun w' => ∃ n : Near w, w' = n.w) hm hB ⟨⟨w.drew, (Below.refl _ _).drew⟩, rfl⟩ (by simpa using h)
/-- a call in such a region -/
theorem near_call {W0 : World} {f : FuncId} {args : Array Value} {v : Value} (n : Near W0) (h : Calls Tryz.prog f args n.w fun e w' => e = .returned v ∧ Below n.w.heap.size n.w w') :
    Calls Tryz.prog f args n.w fun e w'' => e = .returned v ∧ ∃ m : Near W0, w'' = m.w := h.mono fun _ _ ⟨he, hb⟩ => ⟨he, n.step hb⟩
theorem near_call_same {W0 : World} {f : FuncId} {args : Array Value} {v : Value} (n : Near W0) (h : Calls Tryz.prog f args n.w fun e w' => e = .returned v ∧ w' = n.w) :
    Calls Tryz.prog f args n.w fun e w'' => e = .returned v ∧ ∃ m : Near W0, w'' = m.w := h.mono fun _ _ ⟨he, hb⟩ => ⟨he, n, hb⟩
theorem Near.range {W0 : World} {b o : Nat} {cs : List Value} (h : ∀ j v, cs[j]? = some v → W0.cell? ⟨b, o + j, none⟩ = some v) (n : Near W0) : n.w.rangeAt b o cs := fun j v hv =>
  (n.h.cell (p := ⟨b, o + j, none⟩) (block_lt_of_cell (h j v hv))).trans (h j v hv)
/-- a load of a long row in such a region -/
theorem near_load {W0 : World} {o : Oper} {a : Act} {K : Act → Prop} (ty : TypeId) (x : Operand) (ho : o.op = .load ty x) (b i : Nat) (cs : List Value) (d : TypeDesc) (hx : a.eval x = .pointer (some ⟨b, i, none⟩)) (hr : ∀ n : Near W0, n.w.rangeAt b i cs)
    (hu : Tryz.prog.underlying ty = some d) (hd : d.isRow = true) (hi : (Tryz.prog.info? ty).map (·.size) = some cs.length) (hk : K (a.put o.dst (.agg cs.toArray))) : o.quiet Tryz.prog a (fun w' => ∃ n : Near W0, w' = n.w) K := by
  refine ⟨_, fun w' hw' => ?_, hk⟩
  obtain ⟨n, rfl⟩ := hw'
  unfold Oper.quietAt execOp
  simp only [ho, hx, Instr.loadAt, Instr.sureAddr, Sem.run_bind, Sem.run_pure, Result.andThen_ok, run_loadVar_mid n.w b i ty cs d (hr n) hu hd hi]
  exact ⟨rfl, rfl⟩
end Go.Proofs.YtfbkfdoekgnldaaGreatDoor
namespace Go.Proofs.YtfbkfdoekgnldaaGreatDoor
open Go.RowKit
attribute [local go_sem] Oper.semAt_some
/-- the state that New returns beside an error -/
def Dv.nil : Dv := { st := [], ca := [], taken := 0, power := 0, off := false }
/-- what New returns -/
def RefNewV (W : World) (n : Int) (e : Ending) (w' : World) : Prop :=
  ∃ vS vC, e = .returned (.tuple #[.agg (stCells vS vC (if n < 64 ∨ 256 < n then Dv.nil else Dv.new n.toNat)), .int .i64 (if n < 64 ∨ 256 < n then 7 else 0)]) ∧ Has W w' [OwnR _ 87 129 wrL vC (if n < 64 ∨ 256 < n then Dv.nil else Dv.new n.toNat).ca, OwnR _ 53 128 secL vS (if n < 64 ∨ 256 < n then Dv.nil else Dv.new n.toNat).st]
theorem run_build_st (u : Value) (hu : ∃ a n c, u = .slice a n c) (w : World) : (Instr.build 34 #[(0, u), (3, .int .i64 (-1))]).run Tryz.prog w = .ok (.agg #[u, .slice none 0 0, .int .i64 0, .int .i64 (-1), .bool false]) w := by
  obtain ⟨a, n, c, rfl⟩ := hu
  kernel_rfl
set_option maxRecDepth 100000 in
set_option maxHeartbeats 1000000 in
theorem ref_new (W : World) (n : Int) : Calls Tryz.prog 8 #[.int .i64 n] W (RefNewV W n) := by
  by_cases h : n < 64 ∨ 256 < n
  · have hb := (Has.start W).alloc (.cells #[.slice none 0 0, .slice none 0 0, .int .i64 0, .int .i64 0, .bool false] 34)
    have hR : ∀ e w', (∃ vS vC, e = .returned (.tuple #[.agg (stCells vS vC Dv.nil), .int .i64 7]) ∧ Has W w' [OwnR _ 87 129 wrL vC [], OwnR _ 53 128 secL vS []]) → RefNewV W n e w' := fun e w' hq => by
      unfold RefNewV; rw [if_pos h, if_pos h]; exact hq
    have HR := Lib.hid hR
    have HB := Lib.hid hb
    clear hR hb
    by_cases h1 : n < 64
    · clear h
      go_enter Tryz.func8, Tryz.ntmps8
      go_wp2
      refine bodyPost_ret (results_st2 rfl _ _ W.heap.size _ rfl (heap_alloc_new _ _) rfl) rfl ?_
      exact HR.out _ _ ⟨.slice none 0 0, .slice none 0 0, rfl, OwnR.nil (OwnR.nil HB.out.drop _ _ _) _ _ _⟩
    · have h2 : 256 < n := by omega
      clear h
      go_enter Tryz.func8, Tryz.ntmps8
      go_wp2
      refine bodyPost_ret (results_st2 rfl _ _ W.heap.size _ rfl (heap_alloc_new _ _) rfl) rfl ?_
      exact HR.out _ _ ⟨.slice none 0 0, .slice none 0 0, rfl, OwnR.nil (OwnR.nil HB.out.drop _ _ _) _ _ _⟩
  · obtain ⟨m, rfl⟩ : ∃ m : Nat, n = m := ⟨n.toNat, by omega⟩
    have hb := (Has.start W).alloc (.cells #[.slice none 0 0, .slice none 0 0, .int .i64 0, .int .i64 0, .bool false] 34)
    have hR : ∀ e w', (∃ vS vC, e = .returned (.tuple #[.agg (stCells vS vC (Dv.new m)), .int .i64 0]) ∧ Has W w' [OwnR _ 87 129 wrL vC (Dv.new m).ca, OwnR _ 53 128 secL vS (Dv.new m).st]) → RefNewV W m e w' := fun e w' hq => by
      unfold RefNewV; rw [if_neg h, if_neg h, Int.toNat_natCast]; exact hq
    have HR := Lib.hid hR
    obtain ⟨W2, hmk, hO, hB2⟩ := make_secs (W.alloc (.cells #[.slice none 0 0, .slice none 0 0, .int .i64 0, .int .i64 0, .bool false] 34)) m (by omega)
    have e1 : (W.alloc (.cells #[.slice none 0 0, .slice none 0 0, .int .i64 0, .int .i64 0, .bool false] 34)).heap.size = W.heap.size + 1 := by simp
    rw [e1] at hmk hO
    have h2 := hb.more hB2 (OwnR _ 53 128 secL (.slice (some ⟨W.heap.size + 1, 0, none⟩) m m) (List.replicate m zsec)) _ ⟨hO, rfl⟩ (by intro k hk; rw [e1]; simp [blks, Value.ownBlock] at hk; omega)
    have z0 := h2.cell 1 _ _ _ rfl 0 _ rfl
    have z1 := h2.cell 1 _ _ _ rfl 1 _ rfl
    have z2 := h2.cell 1 _ _ _ rfl 2 _ rfl
    have z3 := h2.cell 1 _ _ _ rfl 3 _ rfl
    have z4 := h2.cell 1 _ _ _ rfl 4 _ rfl
    have r0 := h2.frozen 1 _ _ _ rfl 0
    have r1 := h2.frozen 1 _ _ _ rfl 1
    have r2 := h2.frozen 1 _ _ _ rfl 2
    have r3 := h2.frozen 1 _ _ _ rfl 3
    have r4 := h2.frozen 1 _ _ _ rfl 4
    have h3 := h2.store5 [_] (.slice (some ⟨W.heap.size + 1, 0, none⟩) m m) (.slice none 0 0) (.int .i64 0) (.int .i64 (-1)) (.bool false)
    have H3 := Lib.hid h3
    have hn1 : (64 : Int) ≤ (m : Int) := by omega
    have hn2 : (m : Int) ≤ 256 := by omega
    clear hb hR hO hB2 e1 h2 h3 h
    go_enter Tryz.func8, Tryz.ntmps8
    go_wp2
    refine bodyPost_ret (results_st2 rfl _ _ W.heap.size _ rfl (H3.out.blk 1 _ _ rfl).1 rfl) rfl ?_
    exact HR.out _ _ ⟨.slice (some ⟨W.heap.size + 1, 0, none⟩) m m, .slice none 0 0, rfl, OwnR.nil (H3.out.perm (List.Perm.swap _ _ _)).drop _ _ _⟩
end Go.Proofs.YtfbkfdoekgnldaaGreatDoor
namespace Go.Proofs.YtfbkfdoekgnldaaGreatDoor
open Go.RowKit
attribute [local go_sem] Oper.semAt_some
theorem wr_under : Tryz.prog.underlying 87 = some (.struct (Tryz.prog.fieldsOf 87)) := by kernel_rfl
theorem wr_stood : Tryz.prog.stoodInHeld 87 = false := by kernel_rfl
theorem wr_fields : ((Tryz.prog.fieldsOf 87).toList.map fun f => (f.name == "_", f.type, f.offset)) = [(false, 3, 0), (false, 53, 1)] := by kernel_rfl
theorem run_equalIn_sec (d : Nat) (s : Sector) (w : World) : (Op.equalIn (d + 2) 53 (.agg (sec s)) (.agg (sec s))).run Tryz.prog w = .ok true w := by
  rw [sec_cells, run_equalIn_bytes w d _ _ 128 Tryz.underlying53 Tryz.underlying5 byte_size _ _ (by simp) (by simp)]
  simp
theorem part_at (x : Wr) (w : World) : (part 3 (wrV x) 0).run Tryz.prog w = .ok (.int .i64 x.1) w := by
  simp [part, isAgg, run_underlying Tryz.underlying3, wrV, wrL]
theorem part_sec (x : Wr) (w : World) : (part 53 (wrV x) 1).run Tryz.prog w = .ok (.agg (sec x.2)) w := by
  simp [part, isAgg, run_underlying Tryz.underlying53, wrV, wrL, secL]
  rw [List.take_of_length_le (by simp [sec_size])]
theorem run_neq_wr (x : Wr) (w : World) : (binOp .neq 87 (.agg (wrV x)) (.agg (wrV x))).run Tryz.prog w = .ok (.bool false) w := by
  rw [run_neq_struct, run_equalIn_struct w 9999 _ _ _ wr_under wr_stood]
  have h := wr_fields
  generalize (Tryz.prog.fieldsOf 87).toList = fs at h
  have hl := congrArg List.length h
  simp only [List.length_map, List.length_cons, List.length_nil] at hl
  obtain ⟨f, g, rfl⟩ : ∃ f g, fs = [f, g] := by
    rcases fs with _ | ⟨f, _ | ⟨g, _ | ⟨_, _⟩⟩⟩
    · simp at hl
    · simp at hl
    · exact ⟨f, g, rfl⟩
    · simp at hl
  simp only [List.map_cons, List.map_nil, List.cons.injEq, Prod.mk.injEq, beq_eq_false_iff_ne, and_true] at h
  obtain ⟨⟨n1, t1, o1⟩, n2, t2, o2⟩ := h
  simp only [Op.eqFields, if_pos n1, if_pos n2, t1, t2, o1, o2, Sem.run_bind, part_at, Result.andThen_ok, run_equalIn_int w 9998 _ .i64 .i64 _ _ Tryz.underlying3]
  simp [part_sec, run_equalIn_sec 9997]
theorem run_neq_sec0 (s : Sector) (w : World) : (binOp .neq 53 (.agg (sec s)) (.agg (sec s))).run Tryz.prog w = .ok (.bool false) w := by
  rw [run_neq_sector]; simp [seqB]
theorem wrL_arr (x : Wr) : (wrL x).toArray = wrV x := rfl
attribute [local go_sem high] run_neq_sec0 run_neq_wr
set_option maxRecDepth 100000 in
set_option maxHeartbeats 2000000 in
theorem ref_same {W : World} {S : Dv} {uS uC vS vC : Value} (h : StIn W S uS uC) (h2 : StIn W S vS vC) :
    Calls Tryz.prog 10 #[.agg (stCells uS uC S), .agg (stCells vS vC S)] W fun e w' => e = .returned (.bool true) ∧ Below W.heap.size W w' := by
  have HH := Lib.hid h
  have HH2 := Lib.hid h2
  have l1 := h.l1
  have l2 := h.l2
  obtain ⟨⟨aS, cS, rfl, _⟩, ⟨aC, cC, rfl, _⟩, _, _⟩ := h
  obtain ⟨⟨bS, dS, rfl, _⟩, ⟨bC, dC, rfl, _⟩, _, _⟩ := h2
  have hb : Has W ((W.alloc (.cells #[.slice aS S.st.length cS, .slice aC S.ca.length cC, .int .i64 S.taken, .int .i64 S.power, .bool S.off] 34)).alloc (.cells #[.slice bS S.st.length dS, .slice bC S.ca.length dC, .int .i64 S.taken, .int .i64 S.power, .bool S.off] 34)) [Blk _ (W.heap.size + 1) (.cells #[.slice bS S.st.length dS, .slice bC S.ca.length dC, .int .i64 S.taken, .int .i64 S.power, .bool S.off] 34), Blk _ W.heap.size (.cells #[.slice aS S.st.length cS, .slice aC S.ca.length cC, .int .i64 S.taken, .int .i64 S.power, .bool S.off] 34)] := ((Has.start W).alloc _).allocAt _ (W.heap.size + 1) (by simp)
  have HB := Lib.hid hb
  clear hb
  unfold stCells
  go_enter Tryz.func10, Tryz.ntmps10
  go_wp2_with fail
  go_loopw [5] (fun i wr => ∃ k : Nat, k ≤ S.st.length ∧ i = .int .i64 (k : Int) ∧ Has W wr [Blk _ (W.heap.size + 1) (.cells #[.slice bS S.st.length dS, .slice bC S.ca.length dC, .int .i64 S.taken, .int .i64 S.power, .bool S.off] 34), Blk _ W.heap.size (.cells #[.slice aS S.st.length cS, .slice aC S.ca.length cC, .int .i64 S.taken, .int .i64 S.power, .bool S.off] 34)]) (fun i _ => S.st.length - (intOf i).toNat)
  case atStart => exact ⟨0, Nat.zero_le _, rfl, HB.out⟩
  case round =>
    obtain ⟨k, hk, rfl, hH⟩ := hrel
    clear HB
    have c0 := hH.cell 1 _ _ _ rfl 0 _ rfl
    have c0' := hH.cell 0 _ _ _ rfl 0 _ rfl
    by_cases hlt : k < S.st.length
    · have hki : (k : Int) < (S.st.length : Int) := by omega
      obtain ⟨x, hx⟩ : ∃ x, S.st[k]? = some x := ⟨_, List.getElem?_eq_getElem hlt⟩
      obtain ⟨g1, o1, cap1, hv1, r1⟩ := (HH.out.hS.below hH.hB).elem secL_len k x hx
      obtain ⟨g2, o2, cap2, hv2, r2⟩ := (HH2.out.hS.below hH.hB).elem secL_len k x hx
      injection hv1 with hv1 _ hcap
      subst hcap
      subst hv1
      injection hv2 with hv2 _ hcap
      subst hcap
      subst hv2
      have hix1 := fun w => run_index_sec' g1 o1 S.st.length cS k hlt w
      have hix2 := fun w => run_index_sec' g2 o2 S.st.length dS k hlt w
      have k0 : ∀ n : Near wr, n.w.cell? ⟨W.heap.size, 0, none⟩ = some (.slice (some ⟨g1, o1, none⟩) S.st.length cS) := fun n => (n.h.cell (p := ⟨W.heap.size, 0, none⟩) (block_lt_of_cell c0)).trans c0
      have k1 : ∀ n : Near wr, n.w.cell? ⟨W.heap.size + 1, 0, none⟩ = some (.slice (some ⟨g2, o2, none⟩) S.st.length dS) := fun n => (n.h.cell (p := ⟨W.heap.size + 1, 0, none⟩) (block_lt_of_cell c0')).trans c0'
      have R1 : Hid (∀ n : Near wr, n.w.rangeAt g1 (o1 + k * 128) (secL x)) := fun n => n.range r1
      have R2 : Hid (∀ n : Near wr, n.w.rangeAt g2 (o2 + k * 128) (secL x)) := fun n => n.range r2
      have Hh := Lib.hid hH
      have hsz : (Tryz.prog.info? 53).map (·.size) = some (secL x).length := by rw [secL_len]; kernel_rfl
      have HS1 := Lib.hid hsz
      clear hx hH r1 r2 hsz
      go_wp2_with fail
      refine wp_region_near (by kernel_rfl) (by kernel_rfl) ?_
      repeat (first | go_big_quiet_skip | (go_big_quiet_want; first
        | ((with_reducible refine near_load _ _ rfl g1 (o1 + k * 128) (secL x) _ ?_ R1.out Tryz.underlying53 rfl HS1.out ?_); rfl; simp only [secL_arr, Act.put, List.setIfInBounds_toArray, List.set_cons_zero, List.set_cons_succ]; go_big_quiet_on)
        | ((with_reducible refine near_load _ _ rfl g2 (o2 + k * 128) (secL x) _ ?_ R2.out Tryz.underlying53 rfl HS1.out ?_); rfl; simp only [secL_arr, Act.put, List.setIfInBounds_toArray, List.set_cons_zero, List.set_cons_succ]; go_big_quiet_on)
        | (go_big_quiet_op; go_big_quiet_on)))
      refine wpQuiet_nil ?_
      rintro _ ⟨nq, rfl⟩
      have H5 := Lib.hid (Hh.out.below nq.h)
      clear c0 c0' k0 k1
      go_wp2
      go_roundw
      case rel => exact ⟨k + 1, by omega, by go_num, H5.out⟩
      case measure => simp [intOf]; omega
    · have hkk : k = S.st.length := by omega
      subst hkk
      have HB := Lib.hid hH
      clear hH
      go_wp2_with fail
      go_loopw [6] (fun i wr => ∃ k : Nat, k ≤ S.ca.length ∧ i = .int .i64 (k : Int) ∧ Has W wr [Blk _ (W.heap.size + 1) (.cells #[.slice bS S.st.length dS, .slice bC S.ca.length dC, .int .i64 S.taken, .int .i64 S.power, .bool S.off] 34), Blk _ W.heap.size (.cells #[.slice aS S.st.length cS, .slice aC S.ca.length cC, .int .i64 S.taken, .int .i64 S.power, .bool S.off] 34)]) (fun i _ => S.ca.length - (intOf i).toNat)
      case atStart => exact ⟨0, Nat.zero_le _, rfl, HB.out⟩
      case round =>
        obtain ⟨k, hk, rfl, hH⟩ := hrel
        clear HB c0 c0'
        have c0 := hH.cell 1 _ _ _ rfl 1 _ rfl
        have c0' := hH.cell 0 _ _ _ rfl 1 _ rfl
        by_cases hlt : k < S.ca.length
        · have hki : (k : Int) < (S.ca.length : Int) := by omega
          obtain ⟨x, hx⟩ : ∃ x, S.ca[k]? = some x := ⟨_, List.getElem?_eq_getElem hlt⟩
          obtain ⟨g1, o1, cap1, hv1, r1⟩ := (HH.out.hC.below hH.hB).elem wrL_len k x hx
          obtain ⟨g2, o2, cap2, hv2, r2⟩ := (HH2.out.hC.below hH.hB).elem wrL_len k x hx
          injection hv1 with hv1 _ hcap
          subst hcap
          subst hv1
          injection hv2 with hv2 _ hcap
          subst hcap
          subst hv2
          have hix1 := fun w => run_index_wr' g1 o1 S.ca.length cC k hlt w
          have hix2 := fun w => run_index_wr' g2 o2 S.ca.length dC k hlt w
          have k0 : ∀ n : Near wr, n.w.cell? ⟨W.heap.size, 1, none⟩ = some (.slice (some ⟨g1, o1, none⟩) S.ca.length cC) := fun n => (n.h.cell (p := ⟨W.heap.size, 1, none⟩) (block_lt_of_cell c0)).trans c0
          have k1 : ∀ n : Near wr, n.w.cell? ⟨W.heap.size + 1, 1, none⟩ = some (.slice (some ⟨g2, o2, none⟩) S.ca.length dC) := fun n => (n.h.cell (p := ⟨W.heap.size + 1, 1, none⟩) (block_lt_of_cell c0')).trans c0'
          have R1 : Hid (∀ n : Near wr, n.w.rangeAt g1 (o1 + k * 129) (wrL x)) := fun n => n.range r1
          have R2 : Hid (∀ n : Near wr, n.w.rangeAt g2 (o2 + k * 129) (wrL x)) := fun n => n.range r2
          have Hh := Lib.hid hH
          have hsz : (Tryz.prog.info? 87).map (·.size) = some (wrL x).length := by rw [wrL_len]; kernel_rfl
          have HS1 := Lib.hid hsz
          clear hx hH r1 r2 hsz
          go_wp2_with fail
          refine wp_region_near (by kernel_rfl) (by kernel_rfl) ?_
          repeat (first | go_big_quiet_skip | (go_big_quiet_want; first
            | ((with_reducible refine near_load _ _ rfl g1 (o1 + k * 129) (wrL x) _ ?_ R1.out Tryz.underlying87 rfl HS1.out ?_); rfl; simp only [wrL_arr, Act.put, List.setIfInBounds_toArray, List.set_cons_zero, List.set_cons_succ]; go_big_quiet_on)
            | ((with_reducible refine near_load _ _ rfl g2 (o2 + k * 129) (wrL x) _ ?_ R2.out Tryz.underlying87 rfl HS1.out ?_); rfl; simp only [wrL_arr, Act.put, List.setIfInBounds_toArray, List.set_cons_zero, List.set_cons_succ]; go_big_quiet_on)
            | (go_big_quiet_op; go_big_quiet_on)))
          refine wpQuiet_nil ?_
          rintro _ ⟨nq, rfl⟩
          have H5 := Lib.hid (Hh.out.below nq.h)
          clear c0 c0' k0 k1
          go_wp2
          go_roundw
          case rel => exact ⟨k + 1, by omega, by go_num, H5.out⟩
          case measure => simp [intOf]; omega
        · have hkk : k = S.ca.length := by omega
          subst hkk
          have HB := Lib.hid hH
          clear hH
          go_wp2
          go_ret
          exact ⟨rfl, HB.out.hB⟩
end Go.Proofs.YtfbkfdoekgnldaaGreatDoor
