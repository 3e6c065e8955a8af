/- The reference's Put and Get on the state of a device. -/
import Derived.Test.YtfbkfdoekgnldaaGreatDoorRefOpen
import Derived.Test.YtfbkfdoekgnldaaGreatDoorKeep
import Derived.Test.YtfbkfdoekgnldaaGreatDoorStH
import Derived.Test.YtfbkfdoekgnldaaGreatDoorGetPut
namespace Go.Proofs.YtfbkfdoekgnldaaGreatDoor
open Go.RowKit
open Lime
attribute [local go_sem] Oper.semAt_some
attribute [local go_sem high] q_shr32 q_shl32 q_shr32k q_shl32k q_shr32n q_shl32n g_com32 run_eql_sector run_neq_sector
attribute [local go_sem] g_xor32 g_or32 g_add32 g_wrap8 vu_nonneg g_same32 g_lo8 setRow_alloc_at setRow_alloc_past setRow_drew sec_set sec_set76 g_same8 sec_get g_ne32 g_eq32
set_option maxRecDepth 100000 in
set_option maxHeartbeats 2000000 in
theorem refget {W : World} {S : Dv} {uS uC : Value} (h : StIn W S uS uC) (p : Int) :
    Calls Tryz.prog 68 #[.agg #[uS, uC, .int .i64 S.taken, .int .i64 S.power, .bool S.off], .int .i64 p] W fun e w' => e = .returned (getV (S.at p) p (if S.at p = 0 then S.look p else zsec)) ∧ Below W.heap.size W w' := by
  obtain ⟨X, hX⟩ : ∃ X, X = if S.at p = 0 then S.look p else zsec := ⟨_, rfl⟩
  obtain ⟨c, hcE⟩ : ∃ c, c = S.at p := ⟨_, rfl⟩
  have h1 := ((Has.start W).alloc (.cells #[uS, uC, .int .i64 S.taken, .int .i64 S.power, .bool S.off] 34)).allocAt (.cells #[.int .i64 0, .int .u32 0, .string ⟨#[]⟩] 49) (W.heap.size + 1) (by simp)
  have hR := ref_read (h.below h1.hB) p
  unfold stCells Dv.readV at hR
  rw [← hX, ← hcE] at hR
  rw [← hX, ← hcE]
  have HR := Lib.hid hR
  have H1 := Lib.hid h1
  obtain ⟨⟨aS, cS, rfl, -⟩, ⟨aC, cC, rfl, -⟩, -, -⟩ := h
  clear h1 hR hX hcE
  by_cases hc : c = 0
  · subst hc
    have HV := Lib.hid (show getV 0 p X = openVI p X from if_pos rfl)
    go_enter Tryz.func68, Tryz.ntmps68
    go_wp2_with fail
    refine HR.out.mono ?_
    clear HR
    rintro e w2 ⟨rfl, hB2⟩
    have h3 := (H1.out.below hB2).alloc (.cells (sec X) 53)
    have bX := (h3.blk 0 _ _ rfl).1
    have HO := Lib.hid (refopen_int_any p X (w2.alloc (.cells (sec X) 53)))
    have H3 := Lib.hid h3
    clear h3 H1 hB2
    go_wp2_with (first | (with_reducible refine wpList_alloc_sector rfl rfl ?_) | ((with_reducible refine wpList_store_sector rfl _ _ rfl w2.heap.size X zsec ?_ ?_ (heap_alloc_new _ _) ?_); rfl; rfl) | ((with_reducible refine wpList_load_sector rfl _ rfl w2.heap.size X ?_ bX ?_); rfl))
    refine HO.out.mono ?_
    clear HO
    rintro e w3 ⟨rfl, hB3⟩
    obtain ⟨fk, fq, fd, fc, hV⟩ := openVI_shape p X
    rw [hV]
    have HV2 := Lib.hid hV
    have h4 := H3.out.below hB3
    have b1 := (h4.blk 1 _ _ rfl).1
    have h5 := h4.setRow [_] #[.int .i64 fk, .int .u32 (vu fq), .string fd]
    have H5 := Lib.hid h5
    clear h4 h5 H3 hV bX
    go_wp2_with ((with_reducible refine wpList_store_frame rfl _ _ rfl (W.heap.size + 1) #[.int .i64 fk, .int .u32 (vu fq), .string fd] _ ?_ ?_ b1 rfl rfl rfl ?_); rfl; rfl)
    refine bodyPost_ret (results_frame2 rfl _ _ (W.heap.size + 1) _ rfl (H5.out.blk 1 _ _ rfl).1 rfl) rfl ⟨?_, H5.out.hB⟩
    rw [HV.out, HV2.out]; rfl
  · have HV := Lib.hid (show getV c p X = .tuple #[.agg #[.int .i64 0, .int .u32 0, .string ⟨#[]⟩], .int .i64 c] from if_neg hc)
    have hc2 : (c != 0) = true := by simpa using hc
    go_enter Tryz.func68, Tryz.ntmps68
    go_wp2_with fail
    refine HR.out.mono ?_
    clear HR
    rintro e w2 ⟨rfl, hB2⟩
    have h3 := (H1.out.below hB2).alloc (.cells (sec X) 53)
    have b1 := (h3.blk 1 _ _ rfl).1
    have h5 := h3.setRow [_] #[.int .i64 0, .int .u32 0, .string ⟨#[]⟩]
    have H5 := Lib.hid h5
    clear h3 h5 H1 hB2 hc
    go_wp2_with (first | (with_reducible refine wpList_alloc_sector rfl rfl ?_) | ((with_reducible refine wpList_store_sector rfl _ _ rfl w2.heap.size X zsec ?_ ?_ (heap_alloc_new _ _) ?_); rfl; rfl) | (with_reducible refine wpList_build_frame rfl rfl ?_) | ((with_reducible refine wpList_store_frame rfl _ _ rfl (W.heap.size + 1) #[.int .i64 0, .int .u32 0, .string ⟨#[]⟩] _ ?_ ?_ b1 rfl rfl rfl ?_); rfl; rfl))
    refine bodyPost_ret (results_frame2 rfl _ _ (W.heap.size + 1) _ rfl (H5.out.blk 1 _ _ rfl).1 rfl) rfl ⟨?_, H5.out.hB⟩
    rw [HV.out]; rfl
theorem StRes.lift {W W3 W' : World} {S S' : Dv} {uS uC : Value} {code : Int} {e : Ending} (hB : Below W.heap.size W W3) (h : StRes W3 S uS uC S' code e W') : StRes W S uS uC S' code e W' := by
  obtain ⟨vS, vC, he, hin, hk, hB'⟩ := h
  exact ⟨vS, vC, he, hin, fun k hk2 => (hk k hk2).imp id (fun h => Nat.le_trans hB.size h), hB.trans (hB'.mono hB.size)⟩
theorem ref_write_any {W : World} {S : Dv} {uS uC : Value} (h : StIn W S uS uC) (ok : S.Ok) (n : Int) (X : Sector) :
    Calls Tryz.prog 74 #[.agg (stCells uS uC S), .int .i64 n, .agg (sec X)] W (StRes W S uS uC (S.write n X) (S.writeE n)) := by
  by_cases hy : S.writeE n = 0
  · rw [hy]; exact ref_write_yes h ok n X hy
  · exact ref_write_no h n X hy
theorem Has.stGo {w W W' : World} {rs : List (Res w.heap.size)} {S S' : Dv} {uS uC vS vC : Value} (h : Has w W (StR _ uS uC S :: rs)) (hin : StIn W' S' vS vC) (hk : ∀ k ∈ blksL vS S'.st ++ blksL vC S'.ca, k ∈ blksL uS S.st ++ blksL uC S.ca ∨ W.heap.size ≤ k) (hB : Below W.heap.size W W') :
    Has w W' (StR _ vS vC S' :: rs) := by
  obtain ⟨F, ⟨h0, hb, hl⟩, hF, _, hT⟩ := h.focus
  refine hT W' (StR _ vS vC S') ((blksL vS S'.st ++ blksL vC S'.ca).filter fun k => decide (w.heap.size ≤ k)) (Only.of_below hB) ⟨hin, fun k hk2 => ?_, fun k hk2 => hin.blt k (List.mem_filter.1 hk2).1⟩ (fun k hk2 => ?_)
  · by_cases hlt : k < w.heap.size
    · exact .inl hlt
    · exact .inr (List.mem_filter.2 ⟨hk2, by simpa using hlt⟩)
  · obtain ⟨h1, h2⟩ := List.mem_filter.1 hk2
    simp only [decide_eq_true_eq] at h2
    rcases hk k h1 with h3 | h3
    · rcases hb k h3 with h4 | h4
      · omega
      · exact .inl h4
    · exact .inr h3
set_option maxRecDepth 100000 in
set_option maxHeartbeats 2000000 in
theorem refput {W : World} {S : Dv} {uS uC : Value} (h : StIn W S uS uC) (ok : S.Ok) (p kind : Int) (seq : BitVec 32) (d : ByteArray) (hd : d.size ≤ 9223372036854775807) :
    Calls Tryz.prog 64 #[.agg #[uS, uC, .int .i64 S.taken, .int .i64 S.power, .bool S.off], .int .i64 p, .int .i64 kind, .int .u32 (vu seq), .string d] W (StRes W S uS uC (S.put p kind seq d) (S.putE p kind seq d)) := by
  unfold Dv.put Dv.putE
  have h1 := box2 W uS uC (.int .i64 S.taken) (.int .i64 S.power) (.bool S.off)
  have hs := refseal_any p kind seq d ((W.alloc (.cells #[uS, uC, .int .i64 S.taken, .int .i64 S.power, .bool S.off] 34)).alloc (.cells #[.slice none 0 0, .slice none 0 0, .int .i64 0, .int .i64 0, .bool false] 34)) hd
  obtain ⟨⟨X, c⟩, hx⟩ : ∃ x, sealS p kind seq d = x := ⟨_, rfl⟩
  rw [hx] at hs ⊢
  dsimp only
  have HS := Lib.hid hs
  have H1 := Lib.hid h1
  have HIN := Lib.hid h
  have HOK := Lib.hid ok
  obtain ⟨⟨aS, cS, rfl, -⟩, ⟨aC, cC, rfl, -⟩, -, -⟩ := h
  clear h1 hs hx ok
  by_cases hc : c = 0
  · subst hc
    rw [if_pos rfl, if_pos rfl]
    go_enter Tryz.func64, Tryz.ntmps64
    go_wp2_with fail
    refine HS.out.mono ?_
    clear HS
    rintro e w2 ⟨rfl, hB2⟩
    unfold sealV
    dsimp only
    have h2 := H1.out.below hB2
    have h3 := h2.alloc (.cells (sec X) 53)
    have bX := (h3.blk 0 _ _ rfl).1
    have hW := ref_write_any (HIN.out.below h3.hB) HOK.out p X
    unfold stCells at hW
    have c0 := h2.cell 1 _ _ _ rfl 0 _ rfl
    have c1 := h2.cell 1 _ _ _ rfl 1 _ rfl
    have c2 := h2.cell 1 _ _ _ rfl 2 _ rfl
    have c3 := h2.cell 1 _ _ _ rfl 3 _ rfl
    have c4 := h2.cell 1 _ _ _ rfl 4 _ rfl
    have z := block_lt_of_cell c0
    dsimp only at z
    have HW := Lib.hid hW
    have H3 := Lib.hid h3
    clear h2 h3 hW H1 hB2
    go_wp2_with (first | (with_reducible refine wpList_alloc_sector rfl rfl ?_) | ((with_reducible refine wpList_store_sector rfl _ _ rfl w2.heap.size X zsec ?_ ?_ (heap_alloc_new _ _) ?_); rfl; rfl) | ((with_reducible refine wpList_load_sector rfl _ rfl w2.heap.size X ?_ bX ?_); rfl))
    refine HW.out.mono ?_
    clear HW
    rintro e w4 ⟨vS, vC, rfl, hin, hk, hB4⟩
    have h5 := (H3.out.addSt HIN.out).stGo hin hk hB4
    obtain ⟨⟨bS, kS, rfl, -⟩, ⟨bC, kC, rfl, -⟩, -, -⟩ := hin
    have HK : Hid (∀ k ∈ blksL (.slice bS (S.write p X).st.length kS) (S.write p X).st ++ blksL (.slice bC (S.write p X).ca.length kC) (S.write p X).ca, k ∈ blksL (.slice aS S.st.length cS) S.st ++ blksL (.slice aC S.ca.length cC) S.ca ∨ W.heap.size ≤ k) := fun k hk2 => (hk k hk2).imp id (fun h => Nat.le_trans H3.out.hB.size h)
    clear c0 c1 c2 c3 c4 z bX hk hB4
    have c0 := h5.cell 2 _ _ _ rfl 0 _ rfl
    have c1 := h5.cell 2 _ _ _ rfl 1 _ rfl
    have c2 := h5.cell 2 _ _ _ rfl 2 _ rfl
    have c3 := h5.cell 2 _ _ _ rfl 3 _ rfl
    have c4 := h5.cell 2 _ _ _ rfl 4 _ rfl
    have f0 := h5.frozen 2 _ _ _ rfl 0
    have f1 := h5.frozen 2 _ _ _ rfl 1
    have f2 := h5.frozen 2 _ _ _ rfl 2
    have f3 := h5.frozen 2 _ _ _ rfl 3
    have f4 := h5.frozen 2 _ _ _ rfl 4
    have h6 := h5.store5 [_, _] (.slice bS (S.write p X).st.length kS) (.slice bC (S.write p X).ca.length kC) (.int .i64 (S.write p X).taken) (.int .i64 (S.write p X).power) (.bool (S.write p X).off)
    have H6 := Lib.hid h6
    clear h5 h6 H3
    unfold stCells
    go_wp2_with fail
    refine bodyPost_ret (results_st2 rfl _ _ (W.heap.size + 1) _ rfl (H6.out.blk 2 _ _ rfl).1 rfl) rfl ?_
    exact ⟨_, _, rfl, H6.out.st (.head _), HK.out, H6.out.hB⟩
  · rw [if_neg hc, if_neg hc]
    have hc2 : (c != 0) = true := by simpa using hc
    clear hc
    go_enter Tryz.func64, Tryz.ntmps64
    go_wp2_with fail
    refine HS.out.mono ?_
    clear HS
    rintro e w2 ⟨rfl, hB2⟩
    unfold sealV
    dsimp only
    have h2 := H1.out.below hB2
    have c0 := h2.cell 1 _ _ _ rfl 0 _ rfl
    have c1 := h2.cell 1 _ _ _ rfl 1 _ rfl
    have c2 := h2.cell 1 _ _ _ rfl 2 _ rfl
    have c3 := h2.cell 1 _ _ _ rfl 3 _ rfl
    have c4 := h2.cell 1 _ _ _ rfl 4 _ rfl
    have d0 := h2.cell 0 _ _ _ rfl 0 _ rfl
    have d1 := h2.cell 0 _ _ _ rfl 1 _ rfl
    have d2 := h2.cell 0 _ _ _ rfl 2 _ rfl
    have d3 := h2.cell 0 _ _ _ rfl 3 _ rfl
    have d4 := h2.cell 0 _ _ _ rfl 4 _ rfl
    have f0 := h2.frozen 0 _ _ _ rfl 0
    have f1 := h2.frozen 0 _ _ _ rfl 1
    have f2 := h2.frozen 0 _ _ _ rfl 2
    have f3 := h2.frozen 0 _ _ _ rfl 3
    have f4 := h2.frozen 0 _ _ _ rfl 4
    have z := block_lt_of_cell c0
    have z2 := block_lt_of_cell d0
    dsimp only at z z2
    have h3 := ((h2.addSt HIN.out).store5 [_] (.slice aS S.st.length cS) (.slice aC S.ca.length cC) (.int .i64 S.taken) (.int .i64 S.power) (.bool S.off)).alloc (.cells (sec X) 53)
    have H3 := Lib.hid h3
    clear h2 h3 H1 hB2
    go_wp2_with (first | (with_reducible refine wpList_alloc_sector rfl rfl ?_) | ((with_reducible refine wpList_store_sector rfl _ _ rfl w2.heap.size X zsec ?_ ?_ (heap_alloc_new _ _) ?_); rfl; rfl))
    refine bodyPost_ret (results_st2 rfl _ _ (W.heap.size + 1) _ rfl (H3.out.blk 2 _ _ rfl).1 rfl) rfl ?_
    exact ⟨_, _, rfl, H3.out.st (.tail _ (.head _)), fun k hk => .inl hk, H3.out.hB⟩
/-- the reference's Get and Put, said of what a walk owns -/
theorem refget_has {w W : World} {rs : List (Res w.heap.size)} {S : Dv} {uS uC : Value} (h : Has w W rs) (hr : StR _ uS uC S ∈ rs) (p : Int) :
    Calls Tryz.prog 68 #[.agg #[uS, uC, .int .i64 S.taken, .int .i64 S.power, .bool S.off], .int .i64 p] W fun e w' => e = .returned (getV (S.at p) p (if S.at p = 0 then S.look p else zsec)) ∧ Has w w' rs :=
  (refget (h.st hr) p).mono fun _ _ ⟨he, hB⟩ => ⟨he, h.below hB⟩
end Go.Proofs.YtfbkfdoekgnldaaGreatDoor
