/- The walk of the statement FramesDevices. -/
import Derived.Test.YtghaaonghlfepaaDoorGetPut
import Derived.Test.YtghaaonghlfepaaDoorAwake7
import Derived.Deep.DeepCutAuto
namespace Go.Proofs.YtghaaonghlfepaaDoor
open Go.RowKit
open Lime
attribute [local go_sem] Oper.semAt_some
attribute [local go_sem high] q_shr32 q_shl32 q_shr32k q_shl32k q_shr32n q_shl32n g_com32 run_eql_sector run_neq_sector
attribute [local go_sem] g_xor32 g_or32 g_add32 g_wrap8 vu_nonneg g_same32 g_lo8 setRow_alloc_at setRow_alloc_past setRow_drew sec_set sec_set76 g_same8 sec_get g_ne32 g_eq32
/-- a step -/
structure StepD where
  what : UInt8
  at_ : Int
  kind : Int
  seq : BitVec 32
  data : ByteArray
  off : Bool
def stepL (x : StepD) : List Value := [.int .u8 (vb x.what), .int .i64 x.at_, .int .i64 x.kind, .int .u32 (vu x.seq), .string x.data, .bool x.off]
theorem stepL_len (x : StepD) : (stepL x).length = 6 := rfl
structure StepsIn (W : World) (v : Value) (l : List StepD) : Prop where
  hL : RdL W 6 stepL v l
  len : l.length ≤ 9223372036854775807
  dlen : ∀ x ∈ l, x.data.size ≤ 9223372036854775807
theorem step_sz (w : World) : (sizeOf 57).run Tryd.prog w = .ok 6 w := by kernel_rfl
theorem run_index_step (sb o n cap i : Nat) (h : i < n) (w : World) : (Instr.indexAt 49 (.slice (some ⟨sb, o, none⟩) n cap) (.int .i64 (i : Int))).run Tryd.prog w = .ok (.pointer (some ⟨sb, o + i * 6, none⟩)) w := by
  have h1 : (0 : Int) ≤ i ∧ (i : Int) < n := by omega
  simp only [Instr.indexAt, asIntOf, Sem.run_bind, Sem.run_pure, Result.andThen_ok, run_underlying Tryd.underlying49, if_pos h1, step_sz, Addr.add_lit, Int.toNat_natCast]
theorem stepL_size (x : StepD) : (Tryd.prog.info? 57).map (·.size) = some (stepL x).length := by rw [stepL_len]; kernel_rfl
theorem wpList_load_step {ops : Array Oper} {rest : List Oper} {o : Oper} {a : Act} {w : World} {Q : Exit → Act → World → Prop} (hgd : o.guard = none) (x : Operand) (ho : o.op = .load 57 x)
    (b i : Nat) (y : StepD) (hx : a.eval x = .pointer (some ⟨b, i, none⟩)) (hr : w.rangeAt b i (stepL y))
    (h : wpList Tryd.prog ops Q rest (a.put o.dst (.agg #[.int .u8 (vb y.what), .int .i64 y.at_, .int .i64 y.kind, .int .u32 (vu y.seq), .string y.data, .bool y.off])) w) : wpList Tryd.prog ops Q (o :: rest) a w :=
  wpList_load_mid hgd _ x ho b i hx (stepL y) _ hr Tryd.underlying57 rfl (stepL_size y) h
theorem limit_at {w W : World} (l1 : List (Res w.heap.size)) {l2 : List (Res w.heap.size)} {g : Nat} {S : Dv} (h : Has w W (l1 ++ DevR _ g S :: l2)) (n : Int) :
    Calls Tryd.prog 20 #[pv g, .int .i64 n] W fun e w' => e = .returned (.int .i64 (limitE n)) ∧ Has w w' (l1 ++ DevR _ g (S.limit n) :: l2) :=
  (limit_has (h.perm List.perm_middle) n).mono fun _ _ ⟨he, h'⟩ => ⟨he, h'.perm List.perm_middle.symm⟩
theorem put_none0 {W : World} (hh : HalfLaid W) : Calls Tryd.prog 23 #[.pointer none, .int .i64 0, .int .i64 1, .int .u32 0, .string ⟨#[]⟩] W fun e w' => e = .returned (.int .i64 1) ∧ Below W.heap.size W w' :=
  put_none 0 1 0#32 ⟨#[]⟩ (by decide) hh (by unfold sealS; rw [if_neg (by decide), if_neg (by decide)])
/-- the device behind a step -/
def StepD.lim (x : StepD) (S : Dv) : Dv := if x.off then S.limit 0 else S
def StepD.next (x : StepD) (S : Dv) : Dv := if (vb x.what).tmod 2 = 1 then x.lim S else (x.lim S).put x.at_ x.kind x.seq x.data
set_option maxRecDepth 100000 in
set_option maxHeartbeats 8000000 in
theorem devs_law (v : Value) (l : List StepD) (w : World) (hl : StepsIn w v l) (hh : HalfLaid w) :
    Calls Tryd.prog 9 #[v] w fun e w' => e = .returned (.bool true) ∧ Below w.heap.size w w' := by
  have HAW : Hid (∀ w', Below w.heap.size w w' → Calls Tryd.prog 10 #[] w' fun e w'' => e = .returned (.bool true) ∧ Below w'.heap.size w' w'') := fun w' hB => awake_any w' (hh.below hB)
  have HL := Lib.hid hl
  have HHL := Lib.hid hh
  have hlen := hl.len
  obtain ⟨a, cap, rfl, -⟩ := hl.hL
  clear hl hh
  by_cases q0 : 60 < (l.length : Int)
  · go_enter Tryd.func9, Tryd.ntmps9
    go_wp2_with fail
    refine (HAW.out _ (Below.refl _ _)).mono ?_
    rintro e w9 ⟨rfl, hB9⟩
    go_wp2_with fail
    go_ret
    exact ⟨rfl, hB9⟩
  go_enter Tryd.func9, Tryd.ntmps9
  go_wp2_with fail
  refine (new_has (Has.start w) 64 (by decide) (by decide)).mono ?_
  rintro e w2 ⟨g, rfl, h2⟩
  go_wp2_with fail
  refine (ref_new w2 (64 : Nat)).mono ?_
  rintro e w3 hr
  obtain ⟨aS, kaS, aC, kaC, rfl, h3⟩ := RefNewV.has h2 (by decide) (by decide) hr
  obtain ⟨S0, hS⟩ : ∃ S, S = Dv.new 64 := ⟨_, rfl⟩
  rw [← hS] at h3 ⊢
  have h4 := (h3.perm (List.Perm.swap _ _ _)).alloc (.cells #[.slice aS S0.st.length kaS, .slice aC S0.ca.length kaC, .int .i64 S0.taken, .int .i64 S0.power, .bool S0.off] 53)
  have H4 := Lib.hid h4
  clear h2 h3 h4 hr hS
  go_wp2_with fail
  go_loopw [7] (fun i wr => ∃ k : Nat, k ≤ l.length ∧ i = .int .i64 (k : Int) ∧ ∃ (R : Dv) (bS : Option Addr) (kbS : Nat) (bC : Option Addr) (kbC : Nat), Has w wr [Blk _ w3.heap.size (.cells #[.slice bS R.st.length kbS, .slice bC R.ca.length kbC, .int .i64 R.taken, .int .i64 R.power, .bool R.off] 53), DevR _ g R, StR _ (.slice bS R.st.length kbS) (.slice bC R.ca.length kbC) R]) (fun i _ => l.length - (intOf i).toNat)
  case atStart => exact ⟨0, Nat.zero_le _, rfl, S0, aS, kaS, aC, kaC, H4.out⟩
  case round =>
    obtain ⟨k, hk, rfl, R, bS, kbS, bC, kbC, hH⟩ := hrel
    clear H4
    by_cases hlt : k < l.length
    · obtain ⟨x, hx⟩ : ∃ x, l[k]? = some x := ⟨_, List.getElem?_eq_getElem hlt⟩
      obtain ⟨ba, oa, cap2, hv, r⟩ := (HL.out.hL.below (show Below w.heap.size w wr from hH.hB)).elem stepL_len k x hx
      injection hv with hv _ hcap
      subst hcap
      subst hv
      have HRG := Lib.hid r
      have hd := HL.out.dlen x (List.mem_of_getElem? hx)
      have hix := fun w => run_index_step ba oa l.length cap k hlt w
      have hki : (k : Int) < (l.length : Int) := by omega
      have h1 := hH.alloc (.cells #[.int .u8 (vb x.what), .int .i64 x.at_, .int .i64 x.kind, .int .u32 (vu x.seq), .string x.data, .bool x.off] 57)
      have H1 := Lib.hid h1
      obtain ⟨L, hL1⟩ : ∃ L, L = x.lim R := ⟨_, rfl⟩
      have HLM := Lib.hid hL1
      clear hx r hL1
      by_cases q3 : 300 < (x.data.size : Int)
      · clear hH
        go_wp2_with ((with_reducible refine wpList_load_step rfl _ rfl ba (oa + k * 6) x ?_ HRG.out ?_); rfl)
        refine (HAW.out _ H1.out.hB).mono ?_
        rintro e w9 ⟨rfl, hB9⟩
        go_wp2_with fail
        go_ret
        exact ⟨rfl, H1.out.hB.trans (hB9.mono H1.out.hB.size)⟩
      have c0 := hH.cell 0 _ _ _ rfl 0 _ rfl
      have c1 := hH.cell 0 _ _ _ rfl 1 _ rfl
      have c2 := hH.cell 0 _ _ _ rfl 2 _ rfl
      have c3 := hH.cell 0 _ _ _ rfl 3 _ rfl
      have c4 := hH.cell 0 _ _ _ rfl 4 _ rfl
      have f0 := hH.frozen 0 _ _ _ rfl 0
      have f1 := hH.frozen 0 _ _ _ rfl 1
      have f2 := hH.frozen 0 _ _ _ rfl 2
      have f3 := hH.frozen 0 _ _ _ rfl 3
      have f4 := hH.frozen 0 _ _ _ rfl 4
      have z0 := block_lt_of_cell c0
      dsimp only at z0
      clear hH
      go_upto_if 49 with ((with_reducible refine wpList_load_step rfl _ rfl ba (oa + k * 6) x ?_ HRG.out ?_); rfl)
      go_cut [] (fun wx => ∃ (eS : Option Addr) (keS : Nat) (eC : Option Addr) (keC : Nat), Has w wx [Blk _ wr.heap.size (.cells #[.int .u8 (vb x.what), .int .i64 x.at_, .int .i64 x.kind, .int .u32 (vu x.seq), .string x.data, .bool x.off] 57), Blk _ w3.heap.size (.cells #[.slice eS L.st.length keS, .slice eC L.ca.length keC, .int .i64 L.taken, .int .i64 L.power, .bool L.off] 53), DevR _ g L, StR _ (.slice eS L.st.length keS) (.slice eC L.ca.length keC) L])
      case first =>
        cases hoff : x.off
        · have hLR : L = R := by rw [HLM.out]; unfold StepD.lim; rw [hoff]; rfl
          have HLR := Lib.hid hLR
          have HOF := Lib.hid hoff
          clear hoff hLR
          go_wp2_with fail
          go_meet
          have e := HLR.out
          subst e
          have h2 := H1.out
          rw [HOF.out] at h2
          rw [HOF.out]
          exact ⟨_, _, _, _, h2⟩
        · have hLR : L = R.limit 0 := by rw [HLM.out]; unfold StepD.lim; rw [hoff]; rfl
          have HLR := Lib.hid hLR
          have HOF := Lib.hid hoff
          have h1' := H1.out
          rw [hoff] at h1'
          have H1' := Lib.hid h1'
          have hlim := ref_limit (h1'.st (.tail _ (.tail _ (.tail _ (.head _))))) 0
          rw [show limitE 0 = 0 from rfl, ← hLR] at hlim
          unfold stCells at hlim
          have HLIM := Lib.hid hlim
          clear hoff hLR hlim h1'
          go_wp2_with fail
          refine HLIM.out.mono ?_
          clear HLIM
          rintro e w5 hr
          obtain ⟨eS, keS, eC, keC, rfl, h5⟩ := H1'.out.stMid [_, _, _] hr
          clear hr z0 c0 c1 c2 c3 c4 f0 f1 f2 f3 f4
          have c0 := h5.cell 1 _ _ _ rfl 0 _ rfl
          have c1 := h5.cell 1 _ _ _ rfl 1 _ rfl
          have c2 := h5.cell 1 _ _ _ rfl 2 _ rfl
          have c3 := h5.cell 1 _ _ _ rfl 3 _ rfl
          have c4 := h5.cell 1 _ _ _ rfl 4 _ rfl
          have f0 := h5.frozen 1 _ _ _ rfl 0
          have f1 := h5.frozen 1 _ _ _ rfl 1
          have f2 := h5.frozen 1 _ _ _ rfl 2
          have f3 := h5.frozen 1 _ _ _ rfl 3
          have f4 := h5.frozen 1 _ _ _ rfl 4
          have h6 := h5.store5 [_] (.slice eS L.st.length keS) (.slice eC L.ca.length keC) (.int .i64 L.taken) (.int .i64 L.power) (.bool L.off)
          have hlm := limit_at [_, _] h6 0
          rw [show limitE 0 = 0 from rfl, ← HLR.out] at hlm
          have HLM2 := Lib.hid hlm
          clear h5 h6 hlm
          go_wp2_with fail
          refine HLM2.out.mono ?_
          clear HLM2
          rintro e w6 ⟨rfl, h7⟩
          have H7 := Lib.hid h7
          clear h7 c0 c1 c2 c3 c4 f0 f1 f2 f3 f4
          go_wp2_with fail
          go_meet
          rw [HOF.out]
          exact ⟨_, _, _, _, H7.out⟩
      case rest =>
        obtain ⟨eS, keS, eC, keC, h5⟩ := hcut
        clear z0 c0 c1 c2 c3 c4 f0 f1 f2 f3 f4 H1
        have d0 := h5.cell 0 _ _ _ rfl 0 _ rfl
        have d1 := h5.cell 0 _ _ _ rfl 1 _ rfl
        have d2 := h5.cell 0 _ _ _ rfl 2 _ rfl
        have d3 := h5.cell 0 _ _ _ rfl 3 _ rfl
        have d4 := h5.cell 0 _ _ _ rfl 4 _ rfl
        have d5 := h5.cell 0 _ _ _ rfl 5 _ rfl
        have c0 := h5.cell 1 _ _ _ rfl 0 _ rfl
        have c1 := h5.cell 1 _ _ _ rfl 1 _ rfl
        have c2 := h5.cell 1 _ _ _ rfl 2 _ rfl
        have c3 := h5.cell 1 _ _ _ rfl 3 _ rfl
        have c4 := h5.cell 1 _ _ _ rfl 4 _ rfl
        have H5 := Lib.hid h5
        have ok := ok_has h5 (.tail _ (.tail _ (.head _)))
        have HOK := Lib.hid ok
        clear ok
        by_cases hm : (vb x.what).tmod 2 = 1
        · clear h5
          go_wp2_with fail
          refine (get_has H5.out (.tail _ (.tail _ (.head _))) x.at_ HHL.out).mono ?_
          rintro e w6 ⟨rfl, h6⟩
          obtain ⟨fk, fq, fd, fc, hV⟩ := getV_shape (L.at x.at_) x.at_ (if L.at x.at_ = 0 then L.look x.at_ else zsec)
          have HV := Lib.hid hV
          rw [hV]
          clear hV H5 d0 d1 d2 d3 d4 d5 c0 c1 c2 c3 c4
          have d0 := h6.cell 0 _ _ _ rfl 0 _ rfl
          have d1 := h6.cell 0 _ _ _ rfl 1 _ rfl
          have d2 := h6.cell 0 _ _ _ rfl 2 _ rfl
          have d3 := h6.cell 0 _ _ _ rfl 3 _ rfl
          have d4 := h6.cell 0 _ _ _ rfl 4 _ rfl
          have d5 := h6.cell 0 _ _ _ rfl 5 _ rfl
          have c0 := h6.cell 1 _ _ _ rfl 0 _ rfl
          have c1 := h6.cell 1 _ _ _ rfl 1 _ rfl
          have c2 := h6.cell 1 _ _ _ rfl 2 _ rfl
          have c3 := h6.cell 1 _ _ _ rfl 3 _ rfl
          have c4 := h6.cell 1 _ _ _ rfl 4 _ rfl
          have z1 := block_lt_of_cell d0
          have z2 := block_lt_of_cell c0
          dsimp only at z1 z2
          have h7 := h6.alloc (.cells #[.int .i64 fk, .int .u32 (vu fq), .string fd] 24)
          have H7 := Lib.hid h7
          clear h6 h7
          go_wp2_with fail
          refine (refget_has H7.out (.tail _ (.tail _ (.tail _ (.tail _ (.head _))))) x.at_).mono ?_
          rintro e w7 ⟨rfl, h8⟩
          rw [HV.out]
          clear H7 z1 z2 d0 d1 d2 d3 d4 d5 c0 c1 c2 c3 c4
          have a0 := h8.cell 0 _ _ _ rfl 0 _ rfl
          have a1 := h8.cell 0 _ _ _ rfl 1 _ rfl
          have a2 := h8.cell 0 _ _ _ rfl 2 _ rfl
          have z1 := block_lt_of_cell a0
          dsimp only at z1
          have h9 := (h8.alloc (.cells #[.int .i64 fk, .int .u32 (vu fq), .string fd] 24)).drop.drop.drop
          have H9 := Lib.hid h9
          clear h8 h9
          go_wp2
          go_roundw
          case rel => exact ⟨k + 1, by omega, by go_num, L, _, _, _, _, H9.out⟩
          case measure => simp [intOf]; omega
        · have m1 : ((vb x.what).tmod 2 == 1) = false := by simpa using hm
          have hput := refput (h5.st (.tail _ (.tail _ (.tail _ (.head _))))) HOK.out x.at_ x.kind x.seq x.data hd
          have HPUT := Lib.hid hput
          clear hput hm h5
          go_wp2_with fail
          refine HPUT.out.mono ?_
          clear HPUT
          rintro e w6 hr
          obtain ⟨fS, kfS, fC, kfC, rfl, h6⟩ := H5.out.stMid [_, _, _] hr
          obtain ⟨N, hN⟩ : ∃ N, N = L.put x.at_ x.kind x.seq x.data := ⟨_, rfl⟩
          obtain ⟨E, hE⟩ : ∃ E, E = L.putE x.at_ x.kind x.seq x.data := ⟨_, rfl⟩
          rw [← hN] at h6 ⊢
          rw [← hE]
          have HN := Lib.hid (And.intro hN hE)
          clear hr H5 hN hE d0 d1 d2 d3 d4 d5 c0 c1 c2 c3 c4
          have d0 := h6.cell 0 _ _ _ rfl 0 _ rfl
          have d1 := h6.cell 0 _ _ _ rfl 1 _ rfl
          have d2 := h6.cell 0 _ _ _ rfl 2 _ rfl
          have d3 := h6.cell 0 _ _ _ rfl 3 _ rfl
          have d4 := h6.cell 0 _ _ _ rfl 4 _ rfl
          have d5 := h6.cell 0 _ _ _ rfl 5 _ rfl
          have z1 := block_lt_of_cell d0
          dsimp only at z1
          have h7 := h6.alloc (.cells #[.slice fS N.st.length kfS, .slice fC N.ca.length kfC, .int .i64 N.taken, .int .i64 N.power, .bool N.off] 53)
          have H7 := Lib.hid h7
          clear h6 h7
          go_wp2_with fail
          have hp := put_has [_, _, _] H7.out x.at_ x.kind x.seq x.data hd HHL.out
          rw [← HN.out.1, ← HN.out.2] at hp
          refine hp.mono ?_
          rintro e w8 ⟨rfl, h8⟩
          clear hp H7 z1 d0 d1 d2 d3 d4 d5
          have g0 := h8.cell 0 _ _ _ rfl 0 _ rfl
          have g1 := h8.cell 0 _ _ _ rfl 1 _ rfl
          have g2 := h8.cell 0 _ _ _ rfl 2 _ rfl
          have g3 := h8.cell 0 _ _ _ rfl 3 _ rfl
          have g4 := h8.cell 0 _ _ _ rfl 4 _ rfl
          have c0 := h8.cell 2 _ _ _ rfl 0 _ rfl
          have c1 := h8.cell 2 _ _ _ rfl 1 _ rfl
          have c2 := h8.cell 2 _ _ _ rfl 2 _ rfl
          have c3 := h8.cell 2 _ _ _ rfl 3 _ rfl
          have c4 := h8.cell 2 _ _ _ rfl 4 _ rfl
          have f0 := h8.frozen 2 _ _ _ rfl 0
          have f1 := h8.frozen 2 _ _ _ rfl 1
          have f2 := h8.frozen 2 _ _ _ rfl 2
          have f3 := h8.frozen 2 _ _ _ rfl 3
          have f4 := h8.frozen 2 _ _ _ rfl 4
          have h9 := (h8.store5 [_, _] (.slice fS N.st.length kfS) (.slice fC N.ca.length kfC) (.int .i64 N.taken) (.int .i64 N.power) (.bool N.off)).drop.drop
          have H9 := Lib.hid h9
          clear h8 h9
          go_wp2
          go_roundw
          case rel => exact ⟨k + 1, by omega, by go_num, N, _, _, _, _, H9.out⟩
          case measure => simp [intOf]; omega
    · have HH := Lib.hid hH
      clear hH
      go_wp2_with fail
      refine (get_none 0 (HHL.out.below HH.out.hB)).mono ?_
      rintro e w6 ⟨rfl, hB6⟩
      have h6 := ((HH.out.below hB6).alloc (.cells #[.int .i64 0, .int .u32 0, .string ⟨#[]⟩] 24)).drop
      have H6 := Lib.hid h6
      clear h6 HH hB6
      go_wp2_with fail
      have hu := Tryd.underlying53
      have HSK : Hid (∀ W' : World, W'.heap[w3.heap.size]? = some (.cells #[.slice bS R.st.length kbS, .slice bC R.ca.length kbC, .int .i64 R.taken, .int .i64 R.power, .bool R.off] 53 (0, 0)) → W'.rangeAt w3.heap.size 0 (stL (.slice bS R.st.length kbS) (.slice bC R.ca.length kbC) R) ∧ True ∧ True) := fun W' h => ⟨st_row h, trivial, trivial⟩
      refine wp_region_ordZ (fun w' => w'.rangeAt w3.heap.size 0 (stL (.slice bS R.st.length kbS) (.slice bC R.ca.length kbC) R) ∧ True ∧ True) (OrdT.takes [0, 2] (.one 1 (.one 3 (OrdT.takes [4, 5, 6, 7, 8, 9] (.one 10 (OrdT.takes [11, 12, 13] (.one 14 (OrdT.takes [15, 16] .done)))))))) (by kernel_rfl) (by kernel_rfl) (HSK.out _ (H6.out.drew.blk 0 _ _ rfl).1) (fun wz hz => ?_)
      have h7 := H6.out.drew
      rw [← hz] at h7
      have H7 := Lib.hid h7
      clear hz h7 H6
      unfold OrdT.takes
      --ordt m
      (refine' t_move _ _ rfl rfl rfl rfl _ _; rotate_left; (go_simp; with_reducible rfl); simp only [Act.put, List.setIfInBounds_toArray, List.set_cons_zero, List.set_cons_succ])
      --end
      refine t_load w3.heap.size 0 (stL (.slice bS R.st.length kbS) (.slice bC R.ca.length kbC) R) _ _ _ rfl rfl rfl rfl rfl (fun w' hSw => hSw.1) hu rfl (stL_size _ _ _) ?_
      simp only [Act.put, List.setIfInBounds_toArray, List.set_cons_zero, List.set_cons_succ, stL_arr]
      refine t_one rfl rfl (fun K hK => ?_)
      go_simp
      refine (save_has H7.out (.tail _ (.head _))).mono ?_
      rintro e w7 ⟨tS, ktS, tC, ktC, rfl, h8⟩
      dsimp only
      refine hK _ _ (HSK.out _ (h8.blk 1 _ _ rfl).1) ?_
      clear hK
      refine t_one rfl rfl (fun K hK => ?_)
      go_simp
      refine (same_has h8 (.head _) (.tail _ (.tail _ (.tail _ (.head _))))).mono ?_
      rintro e w8 ⟨rfl, h9⟩
      dsimp only
      refine hK _ _ (HSK.out _ (h9.blk 1 _ _ rfl).1) ?_
      clear hK
      unfold OrdT.takes
      --ordt mmyymm
      iterate 2 (refine' t_move _ _ rfl rfl rfl rfl _ _; rotate_left; (go_simp; with_reducible rfl); simp only [Act.put, List.setIfInBounds_toArray, List.set_cons_zero, List.set_cons_succ])
      iterate 2 (refine' t_yield _ rfl rfl rfl _ _; rotate_left; (intro w' hSw; obtain ⟨s0, s1, s2⟩ := hSw; go_simp; with_reducible rfl); simp only [Act.put, List.setIfInBounds_toArray, List.set_cons_zero, List.set_cons_succ])
      iterate 2 (refine' t_move _ _ rfl rfl rfl rfl _ _; rotate_left; (go_simp; with_reducible rfl); simp only [Act.put, List.setIfInBounds_toArray, List.set_cons_zero, List.set_cons_succ])
      --end
      refine t_one rfl rfl (fun K hK => ?_)
      go_simp
      refine (put_none0 (HHL.out.below h9.hB)).mono ?_
      rintro e w9 ⟨rfl, hB9⟩
      have h10 := h9.below hB9
      dsimp only
      refine hK _ _ (HSK.out _ (h10.blk 1 _ _ rfl).1) ?_
      clear hK
      unfold OrdT.takes
      --ordt yym
      iterate 2 (refine' t_yield _ rfl rfl rfl _ _; rotate_left; (intro w' hSw; obtain ⟨s0, s1, s2⟩ := hSw; go_simp; with_reducible rfl); simp only [Act.put, List.setIfInBounds_toArray, List.set_cons_zero, List.set_cons_succ])
      (refine' t_move _ _ rfl rfl rfl rfl _ _; rotate_left; (go_simp; with_reducible rfl); simp only [Act.put, List.setIfInBounds_toArray, List.set_cons_zero, List.set_cons_succ])
      --end
      refine t_one rfl rfl (fun K hK => ?_)
      go_simp
      refine (HAW.out _ h10.hB).mono ?_
      rintro e w10 ⟨rfl, hB10⟩
      have h11 := h10.below hB10
      dsimp only
      refine hK _ _ (HSK.out _ (h11.blk 1 _ _ rfl).1) ?_
      clear hK
      unfold OrdT.takes
      --ordt yy
      iterate 2 (refine' t_yield _ rfl rfl rfl _ _; rotate_left; (intro w' hSw; obtain ⟨s0, s1, s2⟩ := hSw; go_simp; with_reducible rfl); simp only [Act.put, List.setIfInBounds_toArray, List.set_cons_zero, List.set_cons_succ])
      --end
      refine t_done ?_
      go_wp2_with fail
      go_ret
      exact ⟨rfl, h11.hB⟩
end Go.Proofs.YtghaaonghlfepaaDoor
