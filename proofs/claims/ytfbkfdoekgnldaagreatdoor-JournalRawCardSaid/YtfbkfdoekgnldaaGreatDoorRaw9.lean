/- What the walk of JournalRaw needs. The walk of the statement JournalRaw. -/
import Derived.Test.YtfbkfdoekgnldaaGreatDoorDo9All
import Derived.Test.YtfbkfdoekgnldaaGreatDoorRef7
import Derived.Test.YtfbkfdoekgnldaaGreatDoorFilled
namespace Go.Proofs.YtfbkfdoekgnldaaGreatDoor
open Go.RowKit
open Lime
theorem raw_sz (w : World) : (sizeOf 51).run Tryz.prog w = .ok 5 w := by kernel_rfl
theorem run_index_raw (sb o n cap i : Nat) (h : i < n) (w : World) : (Instr.indexAt 46 (.slice (some ⟨sb, o, none⟩) n cap) (.int .i64 (i : Int))).run Tryz.prog w = .ok (.pointer (some ⟨sb, o + i * 5, none⟩)) w := by
  have h1 : (0 : Int) ≤ i ∧ (i : Int) < n := by omega
  simp only [Instr.indexAt, asIntOf, Sem.run_bind, Sem.run_pure, Result.andThen_ok, run_underlying Tryz.underlying46, if_pos h1, raw_sz, Addr.add_lit, Int.toNat_natCast]
/-- Load of a state of the walk -/
theorem load_has9 {w W : World} {rs : List (Res w.heap.size)} {S : Dv} {uS uC : Value} (h : Has w W rs) (hr : StR _ uS uC S ∈ rs) (l1 : S.st.length ≤ 1000) (l2 : S.ca.length ≤ 1000) (h0 : S.checkE = 0) :
    Calls Tryz.prog 14 #[.agg #[uS, uC, .int .i64 S.taken, .int .i64 S.power, .bool S.off]] W fun e W' => ∃ g, e = .returned (.tuple #[pv g, .int .i64 0]) ∧ Has w W' (DevR _ g S :: rs) := by
  have hin := h.st hr
  refine (load_any hin.hS hin.hC l1 l2).mono ?_
  rintro e W' ⟨⟨h0', rfl⟩ | ⟨h0', g, F, rfl, hD, hF⟩, hB⟩
  · exact absurd h0 h0'
  · exact ⟨g, rfl, h.more hB (DevR _ g S) F hD hF⟩
/-- the slices that a walk owns are those of a state -/
theorem Has.ownSt {w W : World} {rs : List (Res w.heap.size)} {S : Dv} {uS uC : Value} (h : Has w W (OwnR _ 53 128 secL uS S.st :: OwnR _ 87 129 wrL uC S.ca :: rs)) (l1 : S.st.length ≤ 100000) (l2 : S.ca.length ≤ 100000) : Has w W (StR _ uS uC S :: rs) := by
  obtain ⟨hB, F, hF⟩ := h
  cases hF with
  | cons p1 g1 d1 hF =>
    cases hF with
    | cons p2 g2 d2 hF =>
      obtain ⟨o1, rfl⟩ := p1
      obtain ⟨o2, rfl⟩ := p2
      refine ⟨hB, _, .cons (f := blks uS ++ blks uC) ⟨⟨o1.rd, o2.rd, l1, l2⟩, fun k hk => .inr ?_, fun k hk => ?_⟩ (fun k hk => ?_) (fun k hk hm => ?_) hF⟩
      · rcases List.mem_append.1 hk with hk | hk
        · exact List.mem_append_left _ (blksL_sub _ _ k hk)
        · exact List.mem_append_right _ (blksL_sub _ _ k hk)
      · rcases List.mem_append.1 hk with hk | hk
        · exact o1.lt k hk
        · exact o2.lt k hk
      · rcases List.mem_append.1 hk with hk | hk
        · exact g1 k hk
        · exact g2 k hk
      · rcases List.mem_append.1 hk with hk | hk
        · exact d1 k hk (List.mem_append_right _ hm)
        · exact d2 k hk hm
/-- the state with these sectors -/
def rawS (st : List Sector) : Dv := { st := st, ca := [], taken := 0, power := -1, off := false }
theorem rawS_check (st : List Sector) (h : st.length = 64) : (rawS st).checkE = 0 := by
  have hr : (rawS st).rangeB = false := by unfold Dv.rangeB rawS; simp [h]
  unfold Dv.checkE
  rw [hr]
  rfl
def RefNew64 (w : World) (rs : List (Res w.heap.size)) (e : Ending) (W' : World) : Prop := ∃ aS cS aC cC, e = .returned (.tuple #[.agg #[.slice aS 64 cS, .slice aC 0 cC, .int .i64 0, .int .i64 (-1), .bool false], .int .i64 0]) ∧
  Has w W' (OwnR _ 53 128 secL (.slice aS 64 cS) (List.replicate 64 zsec) :: OwnR _ 87 129 wrL (.slice aC 0 cC) [] :: rs)
theorem ref_new64 {w W : World} {rs : List (Res w.heap.size)} (h : Has w W rs) : Calls Tryz.prog 8 #[.int .i64 64] W (RefNew64 w rs) := by
  refine (ref_new W 64).mono ?_
  intro e W' hr
  unfold RefNewV at hr
  rw [if_neg (by decide), if_neg (by decide)] at hr
  obtain ⟨vS, vC, rfl, h3⟩ := hr
  have hn := h3.newSt (S := Dv.new (64 : Int).toNat) (.tail _ (.head _)) (.head _) rfl
  obtain ⟨aS, cS, aC, cC, he, h4⟩ := hn.has h
  injection he with he
  injection he with he
  have e1 : vS = .slice aS 64 cS ∧ vC = .slice aC 0 cC := by
    simp only [stCells, Array.mk.injEq, List.cons.injEq] at he
    exact ⟨he.1, he.2.1⟩
  obtain ⟨rfl, rfl⟩ := e1
  exact ⟨aS, cS, aC, cC, rfl, h4⟩
section
variable {ops : Array Oper} {rest : List Oper} {o : Oper} {a : Act} {w : World} {Q : Exit → Act → World → Prop}
theorem wpList_store_sec_mid (hgd : o.guard = none) (x y : Operand) (hd : o.dst = none) (ho : o.op = .store 53 x y) (g off : Nat) (s : Sector) (hx : a.eval x = .pointer (some ⟨g, off, none⟩)) (hy : a.eval y = .agg (sec s)) (hth : w.there g off 128)
    (h : wpList Tryz.prog ops Q rest a (w.setCells g off (secL s))) : wpList Tryz.prog ops Q (o :: rest) a w :=
  wpList_plain hgd fun _ hK => wp_store_mid _ x y ho g off (sec s) hx hy (by rw [sec_size]; exact hth) (by rw [sec_size]; exact sector_size) (Array.all_eq_true_iff_forall_mem.2 (sec_one s)) (by rw [hd]; exact hK _ _ h)
end
end Go.Proofs.YtfbkfdoekgnldaaGreatDoor
namespace Go.Proofs.YtfbkfdoekgnldaaGreatDoor
open Go.RowKit
open Lime
theorem g_w64_u8 (c : UInt8) : wrap64 (vb c) = vb c := by have := vb_nonneg c; have := vb_lt c; unfold wrap64; omega
attribute [local go_sem] Oper.semAt_some setRow_alloc_at setRow_alloc_past setRow_drew g_w64_u8
set_option maxRecDepth 100000 in
set_option maxHeartbeats 16000000 in
theorem raw9_law (v : Value) (raws : List RawD) (sz : UInt8) (vs : Value) (xs : List StepD) (w : World) (hv : RawsIn w v raws) (hl : StepsIn w vs xs) (hh : HalfLaid w) :
    Calls Tryz.prog 4 #[v, .int .u8 (vb sz), vs] w fun e w' => e = .returned (.bool true) ∧ Below w.heap.size w w' := by
  have HAW := Lib.hid (fun w' (hB : Below w.heap.size w w') => awake9 w' (hh.below hB))
  have HHL := Lib.hid hh
  have HV := Lib.hid hv
  have HL := Lib.hid hl
  have hrl := hv.len
  have hlen := hl.len
  have hlg := fun W' (hB : Below w.heap.size w W') => long_any (hl.below hB)
  obtain ⟨ar, capr, rfl, _⟩ := hv.hL
  obtain ⟨a, cap, rfl, _⟩ := hl.hL
  have HLG := Lib.hid hlg
  have hm0 := Int.tmod_nonneg 13 (vb_nonneg sz)
  have hm1 := Int.tmod_lt_of_pos (vb sz) (show (0 : Int) < 13 by decide)
  obtain ⟨q, hq⟩ : ∃ q : Int, q = 8 + (vb sz).tmod 13 := ⟨_, rfl⟩
  have hwq : wrap64 (8 + (vb sz).tmod 13) = q := by rw [hq]; unfold wrap64; omega
  clear hv hl hh hlg hm0 hm1 hq
  by_cases hA : (60 : Int) < (raws.length : Int)
  · as_aux_lemma =>
    go_enter Tryz.func4, Tryz.ntmps4
    go_wp2_with fail
    refine (HAW.out _ (Below.refl w.heap.size w)).mono ?_
    rintro e w9 ⟨rfl, hB9⟩
    have HB := Lib.hid (Below.trans (Below.refl w.heap.size w) (hB9.mono (Below.size (Below.refl w.heap.size w))))
    clear hB9
    go_wp2_with fail
    go_ret
    exact ⟨rfl, HB.out⟩
  · go_enter Tryz.func4, Tryz.ntmps4
    go_wp2_with fail
    refine (HLG.out _ (Below.refl _ _)).mono ?_
    clear HLG
    rintro e w1 ⟨b, rfl, hB1⟩
    have HB1 := Lib.hid hB1
    clear hB1
    cases b
    · by_cases hC : (10 : Int) < (xs.length : Int)
      · as_aux_lemma =>
        go_wp2_with fail
        refine (HAW.out _ HB1.out).mono ?_
        rintro e w9 ⟨rfl, hB9⟩
        have HB := Lib.hid (Below.trans HB1.out (hB9.mono (Below.size HB1.out)))
        clear hB9
        go_wp2_with fail
        go_ret
        exact ⟨rfl, HB.out⟩
      · go_wp2_with fail
        refine (ref_new64 ((Has.start w).below HB1.out)).mono ?_
        rintro e w3 ⟨aS, cS, aC, cC, rfl, h3⟩
        have H4 := Lib.hid (h3.alloc (.cells #[.slice aS 64 cS, .slice aC 0 cC, .int .i64 0, .int .i64 (-1), .bool false] 34))
        clear h3
        go_wp2_with fail
        go_loopw [9] (fun i wr => ∃ (k : Nat) (st : List Sector), i = .int .i64 (k : Int) ∧ k ≤ raws.length ∧ st.length = 64 ∧ Has w wr (Blk _ w3.heap.size (.cells #[.slice aS 64 cS, .slice aC 0 cC, .int .i64 0, .int .i64 (-1), .bool false] 34) :: OwnR _ 53 128 secL (.slice aS 64 cS) st :: OwnR _ 87 129 wrL (.slice aC 0 cC) [] :: [])) (fun i _ => raws.length - (intOf i).toNat)
        case atStart => exact ⟨0, List.replicate 64 zsec, rfl, Nat.zero_le _, by simp, H4.out⟩
        case round =>
          clear H4
          obtain ⟨k, st, rfl, hk, hst, hH⟩ := hrel
          by_cases hlt : k < raws.length
          · as_aux_lemma =>
            obtain ⟨x, hx⟩ : ∃ x, raws[k]? = some x := ⟨_, List.getElem?_eq_getElem hlt⟩
            obtain ⟨ba, oa, cap2, hvx, _⟩ := HV.out.hL.elem rawL_len k x hx
            injection hvx with hvx _ hcap
            subst hcap
            subst hvx
            have hdd : x.d.size ≤ 9223372036854775807 := HV.out.dlen _ (List.mem_of_getElem? hx)
            have HR5 : Hid (∀ W', Below w.heap.size w W' → W'.rangeAt ba (oa + k * 5) (rawL x)) := fun W' hB => by
              obtain ⟨b', o', cap', hvb, r⟩ := (HV.out.hL.below hB).elem rawL_len k x hx
              injection hvb with hvb _ _
              injection hvb with hvb
              injection hvb with e1 e2
              subst e1 e2
              exact r
            obtain ⟨rat, rother, rk, rq, rd⟩ := x
            dsimp only at hdd
            have HC : Hid (∀ w', Below w.heap.size w w' → w'.cell? ⟨ba, oa + k * 5 + 2, none⟩ = some (.int .i64 rk) ∧ w'.cell? ⟨ba, oa + k * 5 + 3, none⟩ = some (.int .u32 (vu rq)) ∧ w'.cell? ⟨ba, oa + k * 5 + 4, none⟩ = some (.string rd)) := fun w' hB => ⟨HR5.out _ hB 2 _ rfl, HR5.out _ hB 3 _ rfl, HR5.out _ hB 4 _ rfl⟩
            have hix := fun w => run_index_raw ba oa raws.length capr k hlt w
            have hki : (k : Int) < (raws.length : Int) := by omega
            have hb0 := Int.tmod_nonneg 64 (vb_nonneg rat)
            have hb1 := Int.tmod_lt_of_pos (vb rat) (show (0 : Int) < 64 by decide)
            obtain ⟨m, hm⟩ : ∃ m : Nat, (vb rat).tmod 64 = m := ⟨((vb rat).tmod 64).toNat, by omega⟩
            have hm64 : m < 64 := by omega
            have hwm : wrap64 ((vb rat).tmod 64) = (m : Int) := by rw [hm]; unfold wrap64; omega
            have q0 : wr.cell? ⟨ba, oa + k * 5, none⟩ = some (.int .u8 (vb rat)) := HR5.out _ hH.hB 0 _ rfl
            have HH := Lib.hid hH
            clear hx hH hb0 hb1 hm
            go_upto_region 8 with fail
            simp only [hwm]
            go_cut [11] (fun p wx => ∃ b1, p = .pointer (some ⟨b1, 0, none⟩) ∧ Has w wx (Blk _ b1 (.cells (Go.Proofs.YtfbkfdoekgnldaaGreatDoor.sec (fillS (lo8 rq) (lo8 rq))) 53) :: Blk _ w3.heap.size (.cells #[.slice aS 64 cS, .slice aC 0 cC, .int .i64 0, .int .i64 (-1), .bool false] 34) :: OwnR _ 53 128 secL (.slice aS 64 cS) st :: OwnR _ 87 129 wrL (.slice aC 0 cC) [] :: []))
            case first =>
              as_aux_lemma =>
              refine wp_region_ordZ (fun w' => w'.cell? ⟨ba, oa + k * 5 + 2, none⟩ = some (.int .i64 rk) ∧ w'.cell? ⟨ba, oa + k * 5 + 3, none⟩ = some (.int .u32 (vu rq)) ∧ w'.cell? ⟨ba, oa + k * 5 + 4, none⟩ = some (.string rd)) (OrdT.takes [0, 1, 2, 3, 4, 5, 6, 7, 8, 9, 10, 11, 12, 13] (.two 14 (.one 15 (.one 16 .done)) 15 (.one 14 (.one 16 .done)))) (by kernel_rfl) (by kernel_rfl) (HC.out _ HH.out.drew.hB) (fun wz hz => ?_)
              have h6 := HH.out.drew
              rw [← hz] at h6
              have H6 := Lib.hid h6
              clear hz h6 HH
              unfold OrdT.takes
              --ordt mmyyyyymmyyyyy
              iterate 2 (refine' t_move _ _ rfl rfl rfl rfl _ _; rotate_left; (go_simp; with_reducible rfl); simp only [Act.put, List.setIfInBounds_toArray, List.set_cons_zero, List.set_cons_succ])
              iterate 5 (refine' t_yield _ rfl rfl rfl _ _; rotate_left; (intro w' hSw; obtain ⟨s0, s1, s2⟩ := hSw; go_simp; with_reducible rfl); simp only [Act.put, List.setIfInBounds_toArray, List.set_cons_zero, List.set_cons_succ])
              iterate 2 (refine' t_move _ _ rfl rfl rfl rfl _ _; rotate_left; (go_simp; with_reducible rfl); simp only [Act.put, List.setIfInBounds_toArray, List.set_cons_zero, List.set_cons_succ])
              iterate 5 (refine' t_yield _ rfl rfl rfl _ _; rotate_left; (intro w' hSw; obtain ⟨s0, s1, s2⟩ := hSw; go_simp; with_reducible rfl); simp only [Act.put, List.setIfInBounds_toArray, List.set_cons_zero, List.set_cons_succ])
              --end
              refine t_two rfl rfl rfl rfl (fun K hK => ?_) (fun K hK => ?_)
              · go_simp
                refine (filled_any (lo8 rq) (lo8 rq) _).mono ?_
                rintro e w7 ⟨rfl, hB7⟩
                have h7 := H6.out.below hB7
                dsimp only
                refine hK _ _ (HC.out _ h7.hB) ?_
                clear hK
                refine t_one rfl rfl (fun K hK => wp_alloc_sec rfl rfl ?_)
                have h8 := h7.alloc (.cells (Go.Proofs.YtfbkfdoekgnldaaGreatDoor.sec zsec) 53)
                have g8 := h8.blk 0 _ _ rfl
                have h9 := h7.alloc (.cells (Go.Proofs.YtfbkfdoekgnldaaGreatDoor.sec (fillS (lo8 rq) (lo8 rq))) 53)
                refine hK _ _ (HC.out _ h8.hB) ?_
                clear hK
                have H9 := Lib.hid h9
                clear h9
                refine t_one rfl rfl (fun K hK => wp_store_sec _ _ rfl rfl w7.heap.size (fillS (lo8 rq) (lo8 rq)) zsec rfl rfl g8.1 ?_)
                rw [setRow_alloc_at _ _ _ _ _ rfl]
                refine hK _ _ (HC.out _ H9.out.hB) ?_
                clear hK
                refine t_done ?_
                go_wp2_with fail
                go_meet
                exact ⟨w7.heap.size, rfl, H9.out⟩
              · refine wp_alloc_sec rfl rfl ?_
                have h7 := H6.out.alloc (.cells (Go.Proofs.YtfbkfdoekgnldaaGreatDoor.sec zsec) 53)
                refine hK _ _ (HC.out _ h7.hB) ?_
                clear hK
                refine t_one rfl rfl (fun K hK => ?_)
                go_simp
                refine (filled_any (lo8 rq) (lo8 rq) _).mono ?_
                rintro e w8 ⟨rfl, hB8⟩
                have h8 := h7.below hB8
                dsimp only
                refine hK _ _ (HC.out _ h8.hB) ?_
                clear hK
                have g8 := h8.blk 0 _ _ rfl
                have h9 := Has.setRow [] h8 (Go.Proofs.YtfbkfdoekgnldaaGreatDoor.sec (fillS (lo8 rq) (lo8 rq)))
                have H9 := Lib.hid h9
                clear h9
                refine t_one rfl rfl (fun K hK => wp_store_sec _ _ rfl rfl wz.heap.size (fillS (lo8 rq) (lo8 rq)) zsec rfl rfl g8.1 ?_)
                refine hK _ _ (HC.out _ H9.out.hB) ?_
                clear hK
                refine t_done ?_
                go_wp2_with fail
                go_meet
                exact ⟨wz.heap.size, rfl, H9.out⟩
            case rest =>
            obtain ⟨b1, rfl, h7⟩ := hcut
            clear HH
            have H7 := Lib.hid h7
            have q1 : World.cell? _ ⟨ba, oa + k * 5 + 1, none⟩ = some (.bool rother) := HR5.out _ h7.hB 1 _ rfl
            have q2 := (HC.out _ h7.hB).1
            clear h7 q0 hwm
            by_cases hk0 : rk = 0
            · as_aux_lemma =>
              subst hk0
              obtain ⟨gS, cS2, hvS, hth, h9⟩ := Has.putL [_, _] H7.out secL_len m (fillS (lo8 rq) (lo8 rq)) (by rw [hst]; exact hm64)
              rw [hst] at hvS
              injection hvS with hvS _ hcs
              subst hcs
              subst hvS
              have c0 := H7.out.cell 1 _ _ _ rfl 0 _ rfl
              have bY := (H7.out.blk 0 _ _ rfl).1
              have hixS := fun w => run_index_sec gS 64 cS m hm64 w
              have H9 := Lib.hid h9.drop
              clear h9 H7
              go_wp2_with (first | ((with_reducible refine wpList_load_sector rfl _ rfl b1 (fillS (lo8 rq) (lo8 rq)) ?_ bY ?_); rfl) | ((with_reducible refine wpList_store_sec_mid rfl _ _ rfl rfl gS (m * 128) (fillS (lo8 rq) (lo8 rq)) ?_ ?_ hth ?_); rfl; rfl))
              go_roundw
              case rel => exact ⟨k + 1, st.set m (fillS (lo8 rq) (lo8 rq)), by go_num, by omega, by rw [List.length_set]; exact hst, H9.out⟩
              case measure => simp [intOf]; omega
            · have hkb : (rk != 0) = true := by simpa using hk0
              cases rother
              · skip
                have hsl := fun W' => refseal_any (m : Int) rk rq rd W' hdd
                obtain ⟨⟨X, c⟩, hxc⟩ : ∃ y, y = sealS (m : Int) rk rq rd := ⟨_, rfl⟩
                rw [← hxc] at hsl
                have HSL : Hid (∀ W', Calls Tryz.prog 13 #[.int .i64 (m : Int), .int .i64 rk, .int .u32 (vu rq), .string rd] W' fun e w' => e = .returned (.tuple #[.agg (Go.Proofs.YtfbkfdoekgnldaaGreatDoor.sec X), .int .i64 c]) ∧ Below W'.heap.size W' w') := hsl
                clear hsl hxc
                go_upto_region 13 with fail
                go_cut [13, 14] (fun p z wx => ∃ b3, p = .pointer (some ⟨b3, 0, none⟩) ∧ z = .int .i64 c ∧ Has w wx (Blk _ b3 (.cells (Go.Proofs.YtfbkfdoekgnldaaGreatDoor.sec X) 53) :: Blk _ b1 (.cells (Go.Proofs.YtfbkfdoekgnldaaGreatDoor.sec (fillS (lo8 rq) (lo8 rq))) 53) :: Blk _ w3.heap.size (.cells #[.slice aS 64 cS, .slice aC 0 cC, .int .i64 0, .int .i64 (-1), .bool false] 34) :: OwnR _ 53 128 secL (.slice aS 64 cS) st :: OwnR _ 87 129 wrL (.slice aC 0 cC) [] :: []))
                case first =>
                  as_aux_lemma =>
                  refine wp_region_ordZ (fun w' => w'.cell? ⟨ba, oa + k * 5 + 2, none⟩ = some (.int .i64 rk) ∧ w'.cell? ⟨ba, oa + k * 5 + 3, none⟩ = some (.int .u32 (vu rq)) ∧ w'.cell? ⟨ba, oa + k * 5 + 4, none⟩ = some (.string rd)) (OrdT.takes [0, 1, 2, 3, 4, 5, 6, 7, 8, 9, 10, 11, 12, 13, 14, 15, 16, 17, 18] (.two 19 (OrdT.takes [20, 21, 22] (.one 23 (.one 24 (.take 25 .done)))) 23 (.one 19 (OrdT.takes [20, 21, 22] (.one 24 (.take 25 .done)))))) (by kernel_rfl) (by kernel_rfl) (HC.out _ H7.out.drew.hB) (fun wz hz => ?_)
                  have h6 := H7.out.drew
                  rw [← hz] at h6
                  have H6 := Lib.hid h6
                  clear hz h6 H7
                  unfold OrdT.takes
                  --ordt mmmyyyymmyyyymmyyyy
                  iterate 3 (refine' t_move _ _ rfl rfl rfl rfl _ _; rotate_left; (go_simp; with_reducible rfl); simp only [Act.put, List.setIfInBounds_toArray, List.set_cons_zero, List.set_cons_succ])
                  iterate 4 (refine' t_yield _ rfl rfl rfl _ _; rotate_left; (intro w' hSw; obtain ⟨s0, s1, s2⟩ := hSw; go_simp; with_reducible rfl); simp only [Act.put, List.setIfInBounds_toArray, List.set_cons_zero, List.set_cons_succ])
                  iterate 2 (refine' t_move _ _ rfl rfl rfl rfl _ _; rotate_left; (go_simp; with_reducible rfl); simp only [Act.put, List.setIfInBounds_toArray, List.set_cons_zero, List.set_cons_succ])
                  iterate 4 (refine' t_yield _ rfl rfl rfl _ _; rotate_left; (intro w' hSw; obtain ⟨s0, s1, s2⟩ := hSw; go_simp; with_reducible rfl); simp only [Act.put, List.setIfInBounds_toArray, List.set_cons_zero, List.set_cons_succ])
                  iterate 2 (refine' t_move _ _ rfl rfl rfl rfl _ _; rotate_left; (go_simp; with_reducible rfl); simp only [Act.put, List.setIfInBounds_toArray, List.set_cons_zero, List.set_cons_succ])
                  iterate 4 (refine' t_yield _ rfl rfl rfl _ _; rotate_left; (intro w' hSw; obtain ⟨s0, s1, s2⟩ := hSw; go_simp; with_reducible rfl); simp only [Act.put, List.setIfInBounds_toArray, List.set_cons_zero, List.set_cons_succ])
                  --end
                  refine t_two rfl rfl rfl rfl (fun K hK => ?_) (fun K hK => ?_)
                  · go_simp
                    refine (HSL.out _).mono ?_
                    rintro e w7 ⟨rfl, hB7⟩
                    have h7 := H6.out.below hB7
                    dsimp only
                    refine hK _ _ (HC.out _ h7.hB) ?_
                    clear hK
                    unfold OrdT.takes
                    --ordt myy
                    (refine' t_move _ _ rfl rfl rfl rfl _ _; rotate_left; (go_simp; with_reducible rfl); simp only [Act.put, List.setIfInBounds_toArray, List.set_cons_zero, List.set_cons_succ])
                    iterate 2 (refine' t_yield _ rfl rfl rfl _ _; rotate_left; (intro w' hSw; obtain ⟨s0, s1, s2⟩ := hSw; go_simp; with_reducible rfl); simp only [Act.put, List.setIfInBounds_toArray, List.set_cons_zero, List.set_cons_succ])
                    --end
                    refine t_one rfl rfl (fun K hK => wp_alloc_sec rfl rfl ?_)
                    have h8 := h7.alloc (.cells (Go.Proofs.YtfbkfdoekgnldaaGreatDoor.sec zsec) 53)
                    have g8 := h8.blk 0 _ _ rfl
                    have h9 := h7.alloc (.cells (Go.Proofs.YtfbkfdoekgnldaaGreatDoor.sec X) 53)
                    refine hK _ _ (HC.out _ h8.hB) ?_
                    clear hK
                    have H9 := Lib.hid h9
                    clear h9
                    refine t_one rfl rfl (fun K hK => wp_store_sec _ _ rfl rfl w7.heap.size X zsec rfl rfl g8.1 ?_)
                    rw [setRow_alloc_at _ _ _ _ _ rfl]
                    refine hK _ _ (HC.out _ H9.out.hB) ?_
                    clear hK
                    --ordt y
                    (refine' t_yield _ rfl rfl rfl _ _; rotate_left; (intro w' hSw; obtain ⟨s0, s1, s2⟩ := hSw; go_simp; with_reducible rfl); simp only [Act.put, List.setIfInBounds_toArray, List.set_cons_zero, List.set_cons_succ])
                    --end
                    refine t_done ?_
                    go_wp2_with fail
                    go_meet
                    exact ⟨w7.heap.size, rfl, rfl, H9.out⟩
                  · refine wp_alloc_sec rfl rfl ?_
                    have h7 := H6.out.alloc (.cells (Go.Proofs.YtfbkfdoekgnldaaGreatDoor.sec zsec) 53)
                    refine hK _ _ (HC.out _ h7.hB) ?_
                    clear hK
                    refine t_one rfl rfl (fun K hK => ?_)
                    go_simp
                    refine (HSL.out _).mono ?_
                    rintro e w8 ⟨rfl, hB8⟩
                    have h8 := h7.below hB8
                    dsimp only
                    refine hK _ _ (HC.out _ h8.hB) ?_
                    clear hK
                    unfold OrdT.takes
                    --ordt myy
                    (refine' t_move _ _ rfl rfl rfl rfl _ _; rotate_left; (go_simp; with_reducible rfl); simp only [Act.put, List.setIfInBounds_toArray, List.set_cons_zero, List.set_cons_succ])
                    iterate 2 (refine' t_yield _ rfl rfl rfl _ _; rotate_left; (intro w' hSw; obtain ⟨s0, s1, s2⟩ := hSw; go_simp; with_reducible rfl); simp only [Act.put, List.setIfInBounds_toArray, List.set_cons_zero, List.set_cons_succ])
                    --end
                    have g8 := h8.blk 0 _ _ rfl
                    have h9 := Has.setRow [] h8 (Go.Proofs.YtfbkfdoekgnldaaGreatDoor.sec X)
                    have H9 := Lib.hid h9
                    clear h9
                    refine t_one rfl rfl (fun K hK => wp_store_sec _ _ rfl rfl wz.heap.size X zsec rfl rfl g8.1 ?_)
                    refine hK _ _ (HC.out _ H9.out.hB) ?_
                    clear hK
                    --ordt y
                    (refine' t_yield _ rfl rfl rfl _ _; rotate_left; (intro w' hSw; obtain ⟨s0, s1, s2⟩ := hSw; go_simp; with_reducible rfl); simp only [Act.put, List.setIfInBounds_toArray, List.set_cons_zero, List.set_cons_succ])
                    --end
                    refine t_done ?_
                    go_wp2_with fail
                    go_meet
                    exact ⟨wz.heap.size, rfl, rfl, H9.out⟩
                case rest =>
                obtain ⟨b3, rfl, rfl, h8⟩ := hcut
                clear H7
                have H8 := Lib.hid h8
                clear h8
                by_cases hc0 : c = 0
                · as_aux_lemma =>
                  subst hc0
                  have bX := (H8.out.blk 0 _ _ rfl).1
                  have bF := (H8.out.blk 1 _ _ rfl).1
                  have h9 := (Has.setRow [_] H8.out (Go.Proofs.YtfbkfdoekgnldaaGreatDoor.sec X)).drop
                  have HS := Lib.hid h9
                  clear h9
                  go_upto_region 16 with fail
                  go_cut [107] (fun _ wx => Has w wx (Blk _ b1 (.cells (Go.Proofs.YtfbkfdoekgnldaaGreatDoor.sec X) 53) :: Blk _ w3.heap.size (.cells #[.slice aS 64 cS, .slice aC 0 cC, .int .i64 0, .int .i64 (-1), .bool false] 34) :: OwnR _ 53 128 secL (.slice aS 64 cS) st :: OwnR _ 87 129 wrL (.slice aC 0 cC) [] :: []))
                  case first =>
                    go_wp2_with (first | ((with_reducible refine wpList_load_sector rfl _ rfl b3 X ?_ bX ?_); rfl) | ((with_reducible refine wpList_store_sector rfl _ _ rfl b1 X (fillS (lo8 rq) (lo8 rq)) ?_ ?_ bF ?_); rfl; rfl))
                    go_meet
                    exact HS.out
                  case rest =>
                  have h10 := hcut
                  have H7 := Lib.hid h10
                  clear h10 HS H8 bX bF
                  obtain ⟨gS, cS2, hvS, hth, h9⟩ := Has.putL [_, _] H7.out secL_len m X (by rw [hst]; exact hm64)
                  rw [hst] at hvS
                  injection hvS with hvS _ hcs
                  subst hcs
                  subst hvS
                  have c0 := H7.out.cell 1 _ _ _ rfl 0 _ rfl
                  have bY := (H7.out.blk 0 _ _ rfl).1
                  have hixS := fun w => run_index_sec gS 64 cS m hm64 w
                  have H9 := Lib.hid h9.drop
                  clear h9 H7
                  go_wp2_with (first | ((with_reducible refine wpList_load_sector rfl _ rfl b1 X ?_ bY ?_); rfl) | ((with_reducible refine wpList_store_sec_mid rfl _ _ rfl rfl gS (m * 128) X ?_ ?_ hth ?_); rfl; rfl))
                  go_roundw
                  case rel => exact ⟨k + 1, st.set m X, by go_num, by omega, by rw [List.length_set]; exact hst, H9.out⟩
                  case measure => simp [intOf]; omega
                · as_aux_lemma =>
                  have hcb : (c != 0) = true := by simpa using hc0
                  have HB8 := Lib.hid H8.out.hB
                  clear H8
                  go_wp2_with fail
                  refine (HAW.out _ HB8.out).mono ?_
                  rintro e w9 ⟨rfl, hB9⟩
                  have HB := Lib.hid (HB8.out.trans (hB9.mono HB8.out.size))
                  clear hB9 HB8
                  go_wp2_with fail
                  go_ret
                  exact ⟨rfl, HB.out⟩
              · skip
                have hsl := fun W' => refseal_any ((m : Int) + 1) rk rq rd W' hdd
                obtain ⟨⟨X, c⟩, hxc⟩ : ∃ y, y = sealS ((m : Int) + 1) rk rq rd := ⟨_, rfl⟩
                rw [← hxc] at hsl
                have HSL : Hid (∀ W', Calls Tryz.prog 13 #[.int .i64 ((m : Int) + 1), .int .i64 rk, .int .u32 (vu rq), .string rd] W' fun e w' => e = .returned (.tuple #[.agg (Go.Proofs.YtfbkfdoekgnldaaGreatDoor.sec X), .int .i64 c]) ∧ Below W'.heap.size W' w') := hsl
                clear hsl hxc
                go_upto_region 13 with fail
                go_cut [13, 14] (fun p z wx => ∃ b3, p = .pointer (some ⟨b3, 0, none⟩) ∧ z = .int .i64 c ∧ Has w wx (Blk _ b3 (.cells (Go.Proofs.YtfbkfdoekgnldaaGreatDoor.sec X) 53) :: Blk _ b1 (.cells (Go.Proofs.YtfbkfdoekgnldaaGreatDoor.sec (fillS (lo8 rq) (lo8 rq))) 53) :: Blk _ w3.heap.size (.cells #[.slice aS 64 cS, .slice aC 0 cC, .int .i64 0, .int .i64 (-1), .bool false] 34) :: OwnR _ 53 128 secL (.slice aS 64 cS) st :: OwnR _ 87 129 wrL (.slice aC 0 cC) [] :: []))
                case first =>
                  as_aux_lemma =>
                  refine wp_region_ordZ (fun w' => w'.cell? ⟨ba, oa + k * 5 + 2, none⟩ = some (.int .i64 rk) ∧ w'.cell? ⟨ba, oa + k * 5 + 3, none⟩ = some (.int .u32 (vu rq)) ∧ w'.cell? ⟨ba, oa + k * 5 + 4, none⟩ = some (.string rd)) (OrdT.takes [0, 1, 2, 3, 4, 5, 6, 7, 8, 9, 10, 11, 12, 13, 14, 15, 16, 17, 18] (.two 19 (OrdT.takes [20, 21, 22] (.one 23 (.one 24 (.take 25 .done)))) 23 (.one 19 (OrdT.takes [20, 21, 22] (.one 24 (.take 25 .done)))))) (by kernel_rfl) (by kernel_rfl) (HC.out _ H7.out.drew.hB) (fun wz hz => ?_)
                  have h6 := H7.out.drew
                  rw [← hz] at h6
                  have H6 := Lib.hid h6
                  clear hz h6 H7
                  unfold OrdT.takes
                  --ordt mmmyyyymmyyyymmyyyy
                  iterate 3 (refine' t_move _ _ rfl rfl rfl rfl _ _; rotate_left; (go_simp; with_reducible rfl); simp only [Act.put, List.setIfInBounds_toArray, List.set_cons_zero, List.set_cons_succ])
                  iterate 4 (refine' t_yield _ rfl rfl rfl _ _; rotate_left; (intro w' hSw; obtain ⟨s0, s1, s2⟩ := hSw; go_simp; with_reducible rfl); simp only [Act.put, List.setIfInBounds_toArray, List.set_cons_zero, List.set_cons_succ])
                  iterate 2 (refine' t_move _ _ rfl rfl rfl rfl _ _; rotate_left; (go_simp; with_reducible rfl); simp only [Act.put, List.setIfInBounds_toArray, List.set_cons_zero, List.set_cons_succ])
                  iterate 4 (refine' t_yield _ rfl rfl rfl _ _; rotate_left; (intro w' hSw; obtain ⟨s0, s1, s2⟩ := hSw; go_simp; with_reducible rfl); simp only [Act.put, List.setIfInBounds_toArray, List.set_cons_zero, List.set_cons_succ])
                  iterate 2 (refine' t_move _ _ rfl rfl rfl rfl _ _; rotate_left; (go_simp; with_reducible rfl); simp only [Act.put, List.setIfInBounds_toArray, List.set_cons_zero, List.set_cons_succ])
                  iterate 4 (refine' t_yield _ rfl rfl rfl _ _; rotate_left; (intro w' hSw; obtain ⟨s0, s1, s2⟩ := hSw; go_simp; with_reducible rfl); simp only [Act.put, List.setIfInBounds_toArray, List.set_cons_zero, List.set_cons_succ])
                  --end
                  refine t_two rfl rfl rfl rfl (fun K hK => ?_) (fun K hK => ?_)
                  · go_simp
                    refine (HSL.out _).mono ?_
                    rintro e w7 ⟨rfl, hB7⟩
                    have h7 := H6.out.below hB7
                    dsimp only
                    refine hK _ _ (HC.out _ h7.hB) ?_
                    clear hK
                    unfold OrdT.takes
                    --ordt myy
                    (refine' t_move _ _ rfl rfl rfl rfl _ _; rotate_left; (go_simp; with_reducible rfl); simp only [Act.put, List.setIfInBounds_toArray, List.set_cons_zero, List.set_cons_succ])
                    iterate 2 (refine' t_yield _ rfl rfl rfl _ _; rotate_left; (intro w' hSw; obtain ⟨s0, s1, s2⟩ := hSw; go_simp; with_reducible rfl); simp only [Act.put, List.setIfInBounds_toArray, List.set_cons_zero, List.set_cons_succ])
                    --end
                    refine t_one rfl rfl (fun K hK => wp_alloc_sec rfl rfl ?_)
                    have h8 := h7.alloc (.cells (Go.Proofs.YtfbkfdoekgnldaaGreatDoor.sec zsec) 53)
                    have g8 := h8.blk 0 _ _ rfl
                    have h9 := h7.alloc (.cells (Go.Proofs.YtfbkfdoekgnldaaGreatDoor.sec X) 53)
                    refine hK _ _ (HC.out _ h8.hB) ?_
                    clear hK
                    have H9 := Lib.hid h9
                    clear h9
                    refine t_one rfl rfl (fun K hK => wp_store_sec _ _ rfl rfl w7.heap.size X zsec rfl rfl g8.1 ?_)
                    rw [setRow_alloc_at _ _ _ _ _ rfl]
                    refine hK _ _ (HC.out _ H9.out.hB) ?_
                    clear hK
                    --ordt y
                    (refine' t_yield _ rfl rfl rfl _ _; rotate_left; (intro w' hSw; obtain ⟨s0, s1, s2⟩ := hSw; go_simp; with_reducible rfl); simp only [Act.put, List.setIfInBounds_toArray, List.set_cons_zero, List.set_cons_succ])
                    --end
                    refine t_done ?_
                    go_wp2_with fail
                    go_meet
                    exact ⟨w7.heap.size, rfl, rfl, H9.out⟩
                  · refine wp_alloc_sec rfl rfl ?_
                    have h7 := H6.out.alloc (.cells (Go.Proofs.YtfbkfdoekgnldaaGreatDoor.sec zsec) 53)
                    refine hK _ _ (HC.out _ h7.hB) ?_
                    clear hK
                    refine t_one rfl rfl (fun K hK => ?_)
                    go_simp
                    refine (HSL.out _).mono ?_
                    rintro e w8 ⟨rfl, hB8⟩
                    have h8 := h7.below hB8
                    dsimp only
                    refine hK _ _ (HC.out _ h8.hB) ?_
                    clear hK
                    unfold OrdT.takes
                    --ordt myy
                    (refine' t_move _ _ rfl rfl rfl rfl _ _; rotate_left; (go_simp; with_reducible rfl); simp only [Act.put, List.setIfInBounds_toArray, List.set_cons_zero, List.set_cons_succ])
                    iterate 2 (refine' t_yield _ rfl rfl rfl _ _; rotate_left; (intro w' hSw; obtain ⟨s0, s1, s2⟩ := hSw; go_simp; with_reducible rfl); simp only [Act.put, List.setIfInBounds_toArray, List.set_cons_zero, List.set_cons_succ])
                    --end
                    have g8 := h8.blk 0 _ _ rfl
                    have h9 := Has.setRow [] h8 (Go.Proofs.YtfbkfdoekgnldaaGreatDoor.sec X)
                    have H9 := Lib.hid h9
                    clear h9
                    refine t_one rfl rfl (fun K hK => wp_store_sec _ _ rfl rfl wz.heap.size X zsec rfl rfl g8.1 ?_)
                    refine hK _ _ (HC.out _ H9.out.hB) ?_
                    clear hK
                    --ordt y
                    (refine' t_yield _ rfl rfl rfl _ _; rotate_left; (intro w' hSw; obtain ⟨s0, s1, s2⟩ := hSw; go_simp; with_reducible rfl); simp only [Act.put, List.setIfInBounds_toArray, List.set_cons_zero, List.set_cons_succ])
                    --end
                    refine t_done ?_
                    go_wp2_with fail
                    go_meet
                    exact ⟨wz.heap.size, rfl, rfl, H9.out⟩
                case rest =>
                obtain ⟨b3, rfl, rfl, h8⟩ := hcut
                clear H7
                have H8 := Lib.hid h8
                clear h8
                by_cases hc0 : c = 0
                · as_aux_lemma =>
                  subst hc0
                  have bX := (H8.out.blk 0 _ _ rfl).1
                  have bF := (H8.out.blk 1 _ _ rfl).1
                  have h9 := (Has.setRow [_] H8.out (Go.Proofs.YtfbkfdoekgnldaaGreatDoor.sec X)).drop
                  have HS := Lib.hid h9
                  clear h9
                  go_upto_region 16 with fail
                  go_cut [107] (fun _ wx => Has w wx (Blk _ b1 (.cells (Go.Proofs.YtfbkfdoekgnldaaGreatDoor.sec X) 53) :: Blk _ w3.heap.size (.cells #[.slice aS 64 cS, .slice aC 0 cC, .int .i64 0, .int .i64 (-1), .bool false] 34) :: OwnR _ 53 128 secL (.slice aS 64 cS) st :: OwnR _ 87 129 wrL (.slice aC 0 cC) [] :: []))
                  case first =>
                    go_wp2_with (first | ((with_reducible refine wpList_load_sector rfl _ rfl b3 X ?_ bX ?_); rfl) | ((with_reducible refine wpList_store_sector rfl _ _ rfl b1 X (fillS (lo8 rq) (lo8 rq)) ?_ ?_ bF ?_); rfl; rfl))
                    go_meet
                    exact HS.out
                  case rest =>
                  have h10 := hcut
                  have H7 := Lib.hid h10
                  clear h10 HS H8 bX bF
                  obtain ⟨gS, cS2, hvS, hth, h9⟩ := Has.putL [_, _] H7.out secL_len m X (by rw [hst]; exact hm64)
                  rw [hst] at hvS
                  injection hvS with hvS _ hcs
                  subst hcs
                  subst hvS
                  have c0 := H7.out.cell 1 _ _ _ rfl 0 _ rfl
                  have bY := (H7.out.blk 0 _ _ rfl).1
                  have hixS := fun w => run_index_sec gS 64 cS m hm64 w
                  have H9 := Lib.hid h9.drop
                  clear h9 H7
                  go_wp2_with (first | ((with_reducible refine wpList_load_sector rfl _ rfl b1 X ?_ bY ?_); rfl) | ((with_reducible refine wpList_store_sec_mid rfl _ _ rfl rfl gS (m * 128) X ?_ ?_ hth ?_); rfl; rfl))
                  go_roundw
                  case rel => exact ⟨k + 1, st.set m X, by go_num, by omega, by rw [List.length_set]; exact hst, H9.out⟩
                  case measure => simp [intOf]; omega
                · as_aux_lemma =>
                  have hcb : (c != 0) = true := by simpa using hc0
                  have HB8 := Lib.hid H8.out.hB
                  clear H8
                  go_wp2_with fail
                  refine (HAW.out _ HB8.out).mono ?_
                  rintro e w9 ⟨rfl, hB9⟩
                  have HB := Lib.hid (HB8.out.trans (hB9.mono HB8.out.size))
                  clear hB9 HB8
                  go_wp2_with fail
                  go_ret
                  exact ⟨rfl, HB.out⟩
          · as_aux_lemma =>
            obtain rfl : k = raws.length := by omega
            have hA1 := hH.perm (List.perm_append_comm (l₁ := [_]) (l₂ := [_, _]))
            have hA2 := Has.ownSt (S := rawS st) hA1 (by show st.length ≤ 100000; omega) (by show (0 : Nat) ≤ 100000; omega)
            have h4 : Has w wr [Blk _ w3.heap.size (.cells #[.slice aS (rawS st).st.length cS, .slice aC (rawS st).ca.length cC, .int .i64 (rawS st).taken, .int .i64 (rawS st).power, .bool (rawS st).off] 34), StR _ (.slice aS (rawS st).st.length cS) (.slice aC (rawS st).ca.length cC) (rawS st)] := by
              rw [show (rawS st).st.length = 64 from hst]
              exact hA2.perm (List.Perm.swap _ _ _)
            have hce := rawS_check st hst
            have hl1 : (rawS st).st.length ≤ 1000 := by rw [show (rawS st).st.length = 64 from hst]; omega
            have hl2 : (rawS st).ca.length ≤ 1000 := by show (0 : Nat) ≤ 1000; omega
            have hcell := h4.cells5 0 _ _ _ _ _ _ _ rfl
            have hld := load_has9 h4 (.tail _ (.head _)) hl1 hl2 hce
            obtain ⟨S, hS⟩ : ∃ S, S = rawS st := ⟨_, rfl⟩
            rw [← hS] at hld hcell
            obtain ⟨c0, c1, c2, c3, c4, cf0, cf1, cf2, cf3, cf4, cz⟩ := hcell
            have HLD := Lib.hid hld
            clear hld h4 hA1 hA2 hH hce hl1 hl2 hS hlt
            go_wp2_with fail
            refine HLD.out.mono ?_
            clear HLD c0 c1 c2 c3 c4 cf0 cf1 cf2 cf3 cf4 cz
            rintro e w5 ⟨g, rfl, h5⟩
            have h6 := (h5.perm (List.Perm.swap _ _ _)).alloc (.cells #[.int .i64 1, .int .i64 q] 23)
            have h7 : Has w _ [Blk _ w3.heap.size (.cells #[.slice aS S.st.length cS, .slice aC S.ca.length cC, .int .i64 S.taken, .int .i64 S.power, .bool S.off] 34), DevR _ g S, StR _ (.slice aS S.st.length cS) (.slice aC S.ca.length cC) S, Blk _ w5.heap.size (.cells #[.int .i64 (⟨1, q⟩ : Lay).first, .int .i64 (⟨1, q⟩ : Lay).size] 23)] := h6.perm (List.perm_append_comm (l₁ := [_]) (l₂ := [_, _, _]))
            obtain ⟨l, hl⟩ : ∃ l : Lay, l = ⟨1, q⟩ := ⟨_, rfl⟩
            rw [← hl] at h7
            have H4 := Lib.hid h7
            clear h5 h6 h7 hl
            go_wp2_with fail
            simp only [g_w64_u8, hwq]
            go_loopw [18] (fun i wr => ∃ k : Nat, k ≤ xs.length ∧ i = .int .i64 (k : Int) ∧ ∃ bS kS bC kC, Has w wr [Blk _ w3.heap.size (.cells #[.slice bS (runs9 l (xs.take k) S).st.length kS, .slice bC (runs9 l (xs.take k) S).ca.length kC, .int .i64 (runs9 l (xs.take k) S).taken, .int .i64 (runs9 l (xs.take k) S).power, .bool (runs9 l (xs.take k) S).off] 34), DevR _ g (runs9 l (xs.take k) S), StR _ (.slice bS (runs9 l (xs.take k) S).st.length kS) (.slice bC (runs9 l (xs.take k) S).ca.length kC) (runs9 l (xs.take k) S), Blk _ w5.heap.size (.cells #[.int .i64 l.first, .int .i64 l.size] 23)]) (fun i _ => xs.length - (intOf i).toNat)
            case atStart => exact ⟨0, Nat.zero_le _, rfl, aS, cS, aC, cC, H4.out⟩
            case round =>
              obtain ⟨k, hk, rfl, bS, kS, bC, kC, hH⟩ := hrel
              clear H4
              obtain ⟨R, hR⟩ : ∃ R, R = runs9 l (xs.take k) S := ⟨_, rfl⟩
              rw [← hR] at hH
              have HR := Lib.hid hR
              clear hR
              by_cases hlt : k < xs.length
              · as_aux_lemma =>
                obtain ⟨x, hx⟩ : ∃ x, xs[k]? = some x := ⟨_, List.getElem?_eq_getElem hlt⟩
                obtain ⟨ba, oa, cap2, hv, _⟩ := HL.out.hL.elem stepL_len k x hx
                injection hv with hv _ hcap
                subst hcap
                subst hv
                have HC : Hid (∀ W', Below w.heap.size w W' → W'.rangeAt ba (oa + k * 4) (stepL x)) := fun W' hB => by
                  obtain ⟨b', o', cap', hvb, r⟩ := (HL.out.hL.below hB).elem stepL_len k x hx
                  injection hvb with hvb _ _
                  injection hvb with hvb
                  injection hvb with e1 e2
                  subst e1 e2
                  exact r
                have HKX := Lib.hid (HL.out.each x (List.mem_of_getElem? hx))
                have HSK : Hid (∀ W', Below w.heap.size w W' → W'.heap[w3.heap.size]? = some (.cells #[.slice bS R.st.length kS, .slice bC R.ca.length kC, .int .i64 R.taken, .int .i64 R.power, .bool R.off] 34 (0, 0)) → W'.heap[w5.heap.size]? = some (.cells #[.int .i64 l.first, .int .i64 l.size] 23 (0, 0)) → W'.rangeAt w3.heap.size 0 (stL (.slice bS R.st.length kS) (.slice bC R.ca.length kC) R) ∧ W'.rangeAt ba (oa + k * 4) (stepL x) ∧ W'.rangeAt w5.heap.size 0 (layL l)) := fun W' hB h1 h2 => ⟨st_row h1, HC.out _ hB, lay_row h2⟩
                have HN := Lib.hid (runs9_take l xs k x hx S)
                rw [← HR.out] at HN
                have hix := fun w => run_index_step ba oa xs.length cap k hlt w
                have hki : (k : Int) < (xs.length : Int) := by omega
                have HH := Lib.hid hH
                obtain ⟨T, hT⟩ : ∃ T, T = x.next l R := ⟨_, rfl⟩
                have HT := Lib.hid hT
                clear hx hH hT
                go_wp2_with fail
                go_upto_region 25 with fail
                go_cut [19, 20] (fun p f wx => ∃ b5 bT kT bU kU, p = .pointer (some ⟨b5, 0, none⟩) ∧ f = .bool true ∧ Has w wx (Blk _ b5 (.cells #[.slice bT T.st.length kT, .slice bU T.ca.length kU, .int .i64 T.taken, .int .i64 T.power, .bool T.off] 34) :: Blk _ w3.heap.size (.cells #[.slice bS R.st.length kS, .slice bC R.ca.length kC, .int .i64 R.taken, .int .i64 R.power, .bool R.off] 34) :: DevR _ g T :: StR _ (.slice bT T.st.length kT) (.slice bU T.ca.length kU) T :: Blk _ w5.heap.size (.cells #[.int .i64 l.first, .int .i64 l.size] 23) :: []))
                case first =>
                  refine wp_region_ordZ (fun w' => w'.rangeAt w3.heap.size 0 (stL (.slice bS R.st.length kS) (.slice bC R.ca.length kC) R) ∧ w'.rangeAt ba (oa + k * 4) (stepL x) ∧ w'.rangeAt w5.heap.size 0 (layL l)) (OrdT.takes [0, 1, 2, 3, 4, 5, 6] (.two 7 (OrdT.takes [8, 9, 10] (.one 11 (.one 12 (.take 13 .done)))) 11 (.one 7 (OrdT.takes [8, 9, 10] (.one 12 (.take 13 .done)))))) (by kernel_rfl) (by kernel_rfl) (HSK.out _ HH.out.drew.hB (HH.out.drew.blk 0 _ _ rfl).1 (HH.out.drew.blk 3 _ _ rfl).1) (fun wz hz => ?_)
                  have h6 := HH.out.drew
                  rw [← hz] at h6
                  have H6 := Lib.hid h6
                  clear hz h6 HH
                  unfold OrdT.takes
                  --ordt m
                  (refine' t_move _ _ rfl rfl rfl rfl _ _; rotate_left; (go_simp; with_reducible rfl); simp only [Act.put, List.setIfInBounds_toArray, List.set_cons_zero, List.set_cons_succ])
                  --end
                  refine t_load w3.heap.size 0 (stL (.slice bS R.st.length kS) (.slice bC R.ca.length kC) R) _ _ _ rfl rfl rfl rfl rfl (fun w' hSw => hSw.1) Tryz.underlying34 rfl (stL_size _ _ _) ?_
                  simp only [Act.put, List.setIfInBounds_toArray, List.set_cons_zero, List.set_cons_succ, stL_arr]
                  refine t_load w5.heap.size 0 (layL l) _ _ _ rfl rfl rfl rfl rfl (fun w' hSw => hSw.2.2) Tryz.underlying23 rfl (layL_size _) ?_
                  simp only [Act.put, List.setIfInBounds_toArray, List.set_cons_zero, List.set_cons_succ, layL_arr]
                  --ordt mmy
                  iterate 2 (refine' t_move _ _ rfl rfl rfl rfl _ _; rotate_left; (go_simp; with_reducible rfl); simp only [Act.put, List.setIfInBounds_toArray, List.set_cons_zero, List.set_cons_succ])
                  (refine' t_yield _ rfl rfl rfl _ _; rotate_left; (intro w' hSw; obtain ⟨s0, s1, s2⟩ := hSw; go_simp; with_reducible rfl); simp only [Act.put, List.setIfInBounds_toArray, List.set_cons_zero, List.set_cons_succ])
                  --end
                  refine t_load ba (oa + k * 4) (stepL x) _ _ _ rfl rfl rfl rfl rfl (fun w' hSw => hSw.2.1) Tryz.underlying42 rfl (stepL_size x) ?_
                  simp only [Act.put, List.setIfInBounds_toArray, List.set_cons_zero, List.set_cons_succ, stepL_arr]
                  refine t_two rfl rfl rfl rfl (fun K hK => ?_) (fun K hK => ?_)
                  · go_simp
                    refine (do9_mid [_] H6.out l x (HKX.out) HHL.out).mono ?_
                    rintro e w7 ⟨bT, kT, bU, kU, rfl, h7⟩
                    rw [← HT.out] at h7 ⊢
                    dsimp only
                    refine hK _ _ (HSK.out _ h7.hB (h7.blk 0 _ _ rfl).1 (h7.blk 3 _ _ rfl).1) ?_
                    clear hK
                    unfold OrdT.takes
                    --ordt m yy
                    (refine' t_move _ _ rfl rfl rfl rfl _ _; rotate_left; (go_simp; with_reducible rfl); simp only [Act.put, List.setIfInBounds_toArray, List.set_cons_zero, List.set_cons_succ])
                    iterate 2 (refine' t_yield _ rfl rfl rfl _ _; rotate_left; (intro w' hSw; obtain ⟨s0, s1, s2⟩ := hSw; go_simp; with_reducible rfl); simp only [Act.put, List.setIfInBounds_toArray, List.set_cons_zero, List.set_cons_succ])
                    --end
                    refine t_one rfl rfl (fun K hK => ?_)
                    go_simp
                    have h8 := h7.alloc (.cells #[.slice none 0 0, .slice none 0 0, .int .i64 0, .int .i64 0, .bool false] 34)
                    have h9 := h7.alloc (.cells #[.slice bT T.st.length kT, .slice bU T.ca.length kU, .int .i64 T.taken, .int .i64 T.power, .bool T.off] 34)
                    refine hK _ _ (HSK.out _ h8.hB (h8.blk 1 _ _ rfl).1 (h8.blk 4 _ _ rfl).1) ?_
                    clear hK
                    have H9 := Lib.hid h9
                    clear h7 h8 h9 H6
                    refine t_one rfl rfl (fun K hK => ?_)
                    go_simp
                    refine hK _ _ (HSK.out _ H9.out.hB (H9.out.blk 1 _ _ rfl).1 (H9.out.blk 4 _ _ rfl).1) ?_
                    clear hK
                    --ordt y
                    (refine' t_yield _ rfl rfl rfl _ _; rotate_left; (intro w' hSw; obtain ⟨s0, s1, s2⟩ := hSw; go_simp; with_reducible rfl); simp only [Act.put, List.setIfInBounds_toArray, List.set_cons_zero, List.set_cons_succ])
                    --end
                    refine t_done ?_
                    go_wp2_with fail
                    go_meet
                    exact ⟨w7.heap.size, bT, kT, bU, kU, rfl, rfl, H9.out⟩
                  · have h7 := H6.out.alloc (.cells #[.slice none 0 0, .slice none 0 0, .int .i64 0, .int .i64 0, .bool false] 34)
                    go_simp
                    refine hK _ _ (HSK.out _ h7.hB (h7.blk 1 _ _ rfl).1 (h7.blk 4 _ _ rfl).1) ?_
                    clear hK
                    have H7 := Lib.hid h7
                    clear h7 H6
                    refine t_one rfl rfl (fun K hK => ?_)
                    go_simp
                    refine (do9_mid [_, _] H7.out l x (HKX.out) HHL.out).mono ?_
                    rintro e w8 ⟨bT, kT, bU, kU, rfl, h8⟩
                    rw [← HT.out] at h8 ⊢
                    dsimp only
                    refine hK _ _ (HSK.out _ h8.hB (h8.blk 1 _ _ rfl).1 (h8.blk 4 _ _ rfl).1) ?_
                    clear hK
                    unfold OrdT.takes
                    --ordt m yy
                    (refine' t_move _ _ rfl rfl rfl rfl _ _; rotate_left; (go_simp; with_reducible rfl); simp only [Act.put, List.setIfInBounds_toArray, List.set_cons_zero, List.set_cons_succ])
                    iterate 2 (refine' t_yield _ rfl rfl rfl _ _; rotate_left; (intro w' hSw; obtain ⟨s0, s1, s2⟩ := hSw; go_simp; with_reducible rfl); simp only [Act.put, List.setIfInBounds_toArray, List.set_cons_zero, List.set_cons_succ])
                    --end
                    refine t_one rfl rfl (fun K hK => ?_)
                    obtain ⟨c0, c1, c2, c3, c4, cf0, cf1, cf2, cf3, cf4, cz⟩ := h8.cells5 0 _ _ _ _ _ _ _ rfl
                    have h9 := h8.store5 [] (.slice bT T.st.length kT) (.slice bU T.ca.length kU) (.int .i64 T.taken) (.int .i64 T.power) (.bool T.off)
                    have H9 := Lib.hid h9
                    clear h8 h9 H7
                    go_simp
                    refine hK _ _ (HSK.out _ H9.out.hB (H9.out.blk 1 _ _ rfl).1 (H9.out.blk 4 _ _ rfl).1) ?_
                    clear hK
                    --ordt y
                    (refine' t_yield _ rfl rfl rfl _ _; rotate_left; (intro w' hSw; obtain ⟨s0, s1, s2⟩ := hSw; go_simp; with_reducible rfl); simp only [Act.put, List.setIfInBounds_toArray, List.set_cons_zero, List.set_cons_succ])
                    --end
                    refine t_done ?_
                    go_wp2_with fail
                    go_meet
                    exact ⟨wz.heap.size, bT, kT, bU, kU, rfl, rfl, H9.out⟩
                case rest =>
                obtain ⟨b5, bT, kT, bU, kU, rfl, rfl, h9⟩ := hcut
                obtain ⟨g0, g1, g2, g3, g4, gf0, gf1, gf2, gf3, gf4, gz⟩ := h9.cells5 0 _ _ _ _ _ _ _ rfl
                obtain ⟨c0, c1, c2, c3, c4, cf0, cf1, cf2, cf3, cf4, cz⟩ := h9.cells5 1 _ _ _ _ _ _ _ rfl
                have h10 := (h9.store5 [_] (.slice bT T.st.length kT) (.slice bU T.ca.length kU) (.int .i64 T.taken) (.int .i64 T.power) (.bool T.off)).drop
                have H10 := Lib.hid h10
                clear h9 h10
                go_wp2
                go_roundw
                case rel =>
                  refine ⟨k + 1, by omega, by go_num, bT, kT, bU, kU, ?_⟩
                  rw [HN.out, ← HT.out]
                  exact H10.out
                case measure => simp [intOf]; omega
              · as_aux_lemma =>
                have hkk : k = xs.length := by omega
                have HH := Lib.hid hH
                clear hH
                go_wp2_with fail
                have HSK : Hid (∀ W' : World, W'.heap[w3.heap.size]? = some (.cells #[.slice bS R.st.length kS, .slice bC R.ca.length kC, .int .i64 R.taken, .int .i64 R.power, .bool R.off] 34 (0, 0)) → W'.rangeAt w3.heap.size 0 (stL (.slice bS R.st.length kS) (.slice bC R.ca.length kC) R) ∧ True ∧ True) := fun W' h => ⟨st_row h, trivial, trivial⟩
                refine wp_region_ordZ (fun w' => w'.rangeAt w3.heap.size 0 (stL (.slice bS R.st.length kS) (.slice bC R.ca.length kC) R) ∧ True ∧ True) (OrdT.takes [0, 2] (.one 1 (.one 3 (.take 4 (.one 5 (OrdT.takes [6, 7] .done)))))) (by kernel_rfl) (by kernel_rfl) (HSK.out _ (HH.out.drew.blk 0 _ _ rfl).1) (fun wz hz => ?_)
                have h6 := HH.out.drew
                rw [← hz] at h6
                have H6 := Lib.hid h6
                clear hz h6 HH
                unfold OrdT.takes
                --ordt m
                (refine' t_move _ _ rfl rfl rfl rfl _ _; rotate_left; (go_simp; with_reducible rfl); simp only [Act.put, List.setIfInBounds_toArray, List.set_cons_zero, List.set_cons_succ])
                --end
                refine t_load w3.heap.size 0 (stL (.slice bS R.st.length kS) (.slice bC R.ca.length kC) R) _ _ _ rfl rfl rfl rfl rfl (fun w' hSw => hSw.1) Tryz.underlying34 rfl (stL_size _ _ _) ?_
                simp only [Act.put, List.setIfInBounds_toArray, List.set_cons_zero, List.set_cons_succ, stL_arr]
                refine t_one rfl rfl (fun K hK => ?_)
                go_simp
                refine (save_has H6.out (.tail _ (.head _))).mono ?_
                rintro e w7 ⟨bT, kT, bU, kU, rfl, h7⟩
                dsimp only
                refine hK _ _ (HSK.out _ (h7.blk 1 _ _ rfl).1) ?_
                clear hK
                refine t_one rfl rfl (fun K hK => ?_)
                go_simp
                refine (same_has h7 (.head _) (.tail _ (.tail _ (.tail _ (.head _))))).mono ?_
                rintro e w8 ⟨rfl, h8⟩
                dsimp only
                refine hK _ _ (HSK.out _ (h8.blk 1 _ _ rfl).1) ?_
                clear hK
                --ordt m
                (refine' t_move _ _ rfl rfl rfl rfl _ _; rotate_left; (go_simp; with_reducible rfl); simp only [Act.put, List.setIfInBounds_toArray, List.set_cons_zero, List.set_cons_succ])
                --end
                refine t_one rfl rfl (fun K hK => ?_)
                go_simp
                refine (HAW.out _ h8.hB).mono ?_
                rintro e w9 ⟨rfl, hB9⟩
                have h9 := h8.below hB9
                dsimp only
                refine hK _ _ (HSK.out _ (h9.blk 1 _ _ rfl).1) ?_
                clear hK
                unfold OrdT.takes
                --ordt yy
                iterate 2 (refine' t_yield _ rfl rfl rfl _ _; rotate_left; (intro w' hSw; obtain ⟨s0, s1, s2⟩ := hSw; go_simp; with_reducible rfl); simp only [Act.put, List.setIfInBounds_toArray, List.set_cons_zero, List.set_cons_succ])
                --end
                refine t_done ?_
                go_wp2_with fail
                go_ret
                exact ⟨rfl, h9.hB⟩
    · as_aux_lemma =>
      go_wp2_with fail
      refine (HAW.out _ HB1.out).mono ?_
      rintro e w9 ⟨rfl, hB9⟩
      have HB := Lib.hid (Below.trans HB1.out (hB9.mono (Below.size HB1.out)))
      clear hB9
      go_wp2_with fail
      go_ret
      exact ⟨rfl, HB.out⟩
end Go.Proofs.YtfbkfdoekgnldaaGreatDoor
