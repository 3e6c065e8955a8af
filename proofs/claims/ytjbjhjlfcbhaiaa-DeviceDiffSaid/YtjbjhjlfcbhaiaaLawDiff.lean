/- The walk of the statement DeviceDiff. -/
import Derived.Test.YtjbjhjlfcbhaiaaLawLoads
import Derived.Test.YtjbjhjlfcbhaiaaNoDev
namespace Go.Proofs.Ytjbjhjlfcbhaiaa
open Go.RowKit
attribute [local go_sem] Oper.semAt_some setRow_alloc_at setRow_alloc_past setRow_drew
theorem run_field_zst (w : World) : (Instr.field 57 (.agg #[.slice none 0 0, .slice none 0 0, .int .i64 0, .int .i64 0, .bool false]) 0).run Try.prog w = .ok (.slice none 0 0) w := by kernel_rfl
attribute [local go_sem] run_field_zst
def diffE (S T : Dv) : Int := if S.st.length = T.st.length then 0 else 6
def diffD (S T : Dv) : List Int := if S.st.length = T.st.length then diffK S T S.st.length else []
theorem diffE_comm (S T : Dv) : diffE T S = diffE S T := by
  unfold diffE
  by_cases h : S.st.length = T.st.length
  · rw [if_pos h, if_pos h.symm]
  · rw [if_neg h, if_neg (fun e => h e.symm)]
theorem seqB_comm (s t : Sector) : seqB s t = seqB t s := by unfold seqB; exact decide_eq_decide.2 eq_comm
theorem diffD_comm (S T : Dv) : diffD T S = diffD S T := by
  unfold diffD
  by_cases h : S.st.length = T.st.length
  · rw [if_pos h, if_pos h.symm, h]
    unfold diffK
    congr 1
    funext i
    rw [seqB_comm]
  · rw [if_neg h, if_neg (fun e => h e.symm)]
theorem diffD_len (S T : Dv) (h : S.st.length ≤ 1000) : (diffD S T).length ≤ 1000 := by
  unfold diffD
  split
  · have := diffK_len S T S.st.length; omega
  · simp
theorem Has.nilInts {w W W' : World} {rs : List (Res w.heap.size)} (h : Has w W rs) (hB : Below W.heap.size W W') : Has w W' (RdR _ 1 intL (.slice none 0 0) [] :: rs) :=
  h.more hB _ [] ⟨⟨none, 0, rfl, .inl rfl⟩, by simp [blksL], by simp⟩ (by simp)
theorem Has.newInts {w W W' : World} {rs : List (Res w.heap.size)} {S T : Dv} {e : Ending} (h : Has w W rs) (hl : S.st.length = T.st.length) (hd : DiffV W S T e W') : ∃ v, e = .returned (.tuple #[v, .int .i64 (diffE S T)]) ∧ Has w W' (RdR _ 1 intL v (diffD S T) :: rs) := by
  obtain ⟨v, rfl, hO, hk, hB⟩ := hd
  have e1 : diffE S T = 0 := if_pos hl
  have e2 : diffD S T = diffK S T S.st.length := if_pos hl
  rw [e1, e2]
  exact ⟨v, rfl, h.more hB _ (blks v) ⟨hO.rd, fun k hk => .inr (blksL_sub _ _ k hk), hO.lt⟩ hk⟩
theorem diff_any {w W : World} {rs : List (Res w.heap.size)} {g g2 : Nat} {S T : Dv} (h : Has w W rs) (h1 : DevR _ g S ∈ rs) (h2 : DevR _ g2 T ∈ rs) :
    Calls Try.prog 20 #[pv g, pv g2] W fun e w' => ∃ v, e = .returned (.tuple #[v, .int .i64 (diffE S T)]) ∧ Has w w' (RdR _ 1 intL v (diffD S T) :: rs) := by
  by_cases hl : S.st.length = T.st.length
  · obtain ⟨F, ⟨vS, vC, mb, hD, rfl⟩, hF⟩ := h.mem h1
    obtain ⟨F2, ⟨vS2, vC2, mb2, hD2, rfl⟩, hF2⟩ := h.mem h2
    exact (diff_same hD hD2 hl).mono fun e w' hd => h.newInts hl hd
  · obtain ⟨F, ⟨vS, vC, mb, hD, rfl⟩, hF⟩ := h.mem h1
    obtain ⟨F2, ⟨vS2, vC2, mb2, hD2, rfl⟩, hF2⟩ := h.mem h2
    refine (diff_form hD hD2 hl).mono ?_
    rintro e w' ⟨rfl, hB⟩
    have e1 : diffE S T = 6 := if_neg hl
    have e2 : diffD S T = [] := if_neg hl
    rw [e1, e2]
    exact ⟨_, rfl, h.nilInts hB⟩
theorem rdiff_any {w W : World} {rs : List (Res w.heap.size)} {S T : Dv} {uS uC vS vC : Value} (h : Has w W rs) (h1 : StR _ uS uC S ∈ rs) (h2 : StR _ vS vC T ∈ rs) :
    Calls Try.prog 35 #[.agg #[uS, uC, .int .i64 S.taken, .int .i64 S.power, .bool S.off], .agg #[vS, vC, .int .i64 T.taken, .int .i64 T.power, .bool T.off]] W fun e w' => ∃ v, e = .returned (.tuple #[v, .int .i64 (diffE S T)]) ∧ Has w w' (RdR _ 1 intL v (diffD S T) :: rs) := by
  by_cases hl : S.st.length = T.st.length
  · exact (ref_diff (h.st h1) (h.st h2) hl).mono fun e w' hd => h.newInts hl hd
  · refine (ref_diff_odd (h.st h1) (h.st h2) hl).mono ?_
    rintro e w' ⟨rfl, hB⟩
    have e1 : diffE S T = 6 := if_neg hl
    have e2 : diffD S T = [] := if_neg hl
    rw [e1, e2]
    exact ⟨_, rfl, h.nilInts hB⟩
theorem ints_has {w W : World} {rs : List (Res w.heap.size)} {v u : Value} {l : List Int} (h : Has w W rs) (h1 : RdR _ 1 intL v l ∈ rs) (h2 : RdR _ 1 intL u l ∈ rs) (hl : l.length ≤ 1000000) :
    Calls Try.prog 36 #[v, u] W fun e w' => e = .returned (.bool true) ∧ Has w w' rs :=
  (same_ints l (h.rd h1) (h.rd h2) hl).mono fun _ _ ⟨he, hB⟩ => ⟨he, h.below hB⟩
set_option maxRecDepth 100000 in
set_option maxHeartbeats 8000000 in
theorem diff_law (sv tv uS uC tS tC : Value) (S T : Dv) (w : World) (hs : StArg w sv S uS uC) (ht : StArg w tv T tS tC) :
    Calls Try.prog 10 #[sv, tv] w fun e w' => e = .returned (.bool true) ∧ Below w.heap.size w w' := by
  have HAW := Lib.hid awake_any
  obtain ⟨rfl, hS, hC, b1, b2⟩ := hs
  obtain ⟨rfl, hS2, hC2, b3, b4⟩ := ht
  have hS' := hS
  have hC' := hC
  have hS2' := hS2
  have hC2' := hC2
  obtain ⟨aS, cS, rfl, -⟩ := hS'
  obtain ⟨aC, cC, rfl, -⟩ := hC'
  obtain ⟨eS, dS, rfl, -⟩ := hS2'
  obtain ⟨eC, dC, rfl, -⟩ := hC2'
  unfold stCells
  have hb := ((Has.start w).alloc (.cells #[.slice aS S.st.length cS, .slice aC S.ca.length cC, .int .i64 S.taken, .int .i64 S.power, .bool S.off] 57)).allocAt (.cells #[.slice eS T.st.length dS, .slice eC T.ca.length dC, .int .i64 T.taken, .int .i64 T.power, .bool T.off] 57) (w.heap.size + 1) (by simp)
  have HB := Lib.hid hb
  clear hb
  by_cases q0 : 300 < (S.st.length : Int)
  · go_enter Try.func10, Try.ntmps10
    go_wp2_with fail
    refine (HAW.out _).mono ?_
    rintro e w9 ⟨rfl, hB9⟩
    go_wp2_with fail
    go_ret
    exact ⟨rfl, HB.out.hB.trans (hB9.mono HB.out.hB.size)⟩
  by_cases q1 : 500 < (S.ca.length : Int)
  · go_enter Try.func10, Try.ntmps10
    go_wp2_with fail
    refine (HAW.out _).mono ?_
    rintro e w9 ⟨rfl, hB9⟩
    go_wp2_with fail
    go_ret
    exact ⟨rfl, HB.out.hB.trans (hB9.mono HB.out.hB.size)⟩
  by_cases q2 : 300 < (T.st.length : Int)
  · go_enter Try.func10, Try.ntmps10
    go_wp2_with fail
    refine (HAW.out _).mono ?_
    rintro e w9 ⟨rfl, hB9⟩
    go_wp2_with fail
    go_ret
    exact ⟨rfl, HB.out.hB.trans (hB9.mono HB.out.hB.size)⟩
  by_cases q3 : 500 < (T.ca.length : Int)
  · go_enter Try.func10, Try.ntmps10
    go_wp2_with fail
    refine (HAW.out _).mono ?_
    rintro e w9 ⟨rfl, hB9⟩
    go_wp2_with fail
    go_ret
    exact ⟨rfl, HB.out.hB.trans (hB9.mono HB.out.hB.size)⟩
  have hin : StIn w S (.slice aS S.st.length cS) (.slice aC S.ca.length cC) := ⟨hS, hC, by omega, by omega⟩
  have hin2 : StIn w T (.slice eS T.st.length dS) (.slice eC T.ca.length dC) := ⟨hS2, hC2, by omega, by omega⟩
  have h1 := (HB.out.addSt hin).addSt hin2
  have H1 := Lib.hid h1
  clear hin hin2 hS hC hS2 hC2 h1 HB
  go_enter Try.func10, Try.ntmps10
  go_wp2_with fail
  refine (load_has H1.out (.tail _ (.head _)) (by omega) (by omega)).mono ?_
  rintro e w2 (⟨he0, rfl, h2⟩ | ⟨he0, g, rfl, h2⟩)
  · obtain ⟨E, hE⟩ : ∃ E, E = S.checkE := ⟨_, rfl⟩
    rw [← hE] at he0 ⊢
    have hload : Calls Try.prog 32 #[.agg #[.slice eS T.st.length dS, .slice eC T.ca.length dC, .int .i64 T.taken, .int .i64 T.power, .bool T.off]] w2 fun e W' => ∃ p c, e = .returned (.tuple #[.pointer p, .int .i64 c]) ∧ Below w2.heap.size w2 W' := by
      have hin2 := h2.st (.head _)
      refine (load_any hin2.hS hin2.hC (by omega) (by omega)).mono ?_
      rintro e W' ⟨⟨_, rfl⟩ | ⟨_, g, F, rfl, _, _⟩, hB⟩
      · exact ⟨_, _, rfl, hB⟩
      · exact ⟨_, _, rfl, hB⟩
    have c0 := h2.cell 2 _ _ _ rfl 0 _ rfl
    have c1 := h2.cell 2 _ _ _ rfl 1 _ rfl
    have c2 := h2.cell 2 _ _ _ rfl 2 _ rfl
    have c3 := h2.cell 2 _ _ _ rfl 3 _ rfl
    have c4 := h2.cell 2 _ _ _ rfl 4 _ rfl
    have d0 := h2.cell 3 _ _ _ rfl 0 _ rfl
    have d1 := h2.cell 3 _ _ _ rfl 1 _ rfl
    have d2 := h2.cell 3 _ _ _ rfl 2 _ rfl
    have d3 := h2.cell 3 _ _ _ rfl 3 _ rfl
    have d4 := h2.cell 3 _ _ _ rfl 4 _ rfl
    have HLD := Lib.hid hload
    have H2 := Lib.hid h2
    have he1 : (E != 0) = true := by simpa using he0
    clear hload h2 hE he0 H1
    go_wp2_with fail
    refine HLD.out.mono ?_
    rintro e w3 ⟨p, c, rfl, hB3⟩
    have h3 := (H2.out.below hB3).drop.drop.drop.drop
    clear HLD H2 hB3 c0 c1 c2 c3 c4 d0 d1 d2 d3 d4
    have hz := h3.alloc (.cells #[.slice none 0 0, .slice none 0 0, .int .i64 0, .int .i64 0, .bool false, .map none] 74)
    have HNO : Hid (∀ W', Has w W' [Blk _ w3.heap.size (.cells #[.slice none 0 0, .slice none 0 0, .int .i64 0, .int .i64 0, .bool false, .map none] 74)] → NoDev W' (pv w3.heap.size)) := fun W' h => .inr ⟨_, rfl, h.cell 0 _ _ _ rfl 5 _ rfl⟩
    obtain ⟨Z, hZ⟩ : ∃ Z, Z = zsec := ⟨_, rfl⟩
    have HRD : Hid (∀ (W' : World) (v : Value), NoDev W' v → Calls Try.prog 17 #[v, .int .i64 0] W' fun e w' => e = .returned (.tuple #[.agg (sec Z), .int .i64 1]) ∧ Below W'.heap.size W' w') := fun W' v h => by rw [hZ]; exact nd_read h 0
    obtain ⟨X, hX⟩ : ∃ X, X = secA := ⟨_, rfl⟩
    have HON : Hid (∀ (W' : World), Calls Try.prog 22 #[] W' fun e w' => e = .returned (.agg (sec X)) ∧ Below W'.heap.size W' w') := fun W' => by rw [hX]; exact ones_any W'
    have HZ := Lib.hid hz
    clear hz h3 hZ hX
    go_wp2_with fail
    refine (HRD.out _ _ (.inl rfl)).mono ?_
    rintro e w4 ⟨rfl, hB4⟩
    have h4 := ((HZ.out.below hB4).alloc (.cells (sec Z) 31)).drop
    have H4 := Lib.hid h4
    clear h4 HZ hB4
    go_wp2_with (first | (with_reducible refine wpList_alloc_sector rfl rfl ?_) | ((with_reducible refine wpList_store_sector rfl _ _ rfl w4.heap.size Z zsec ?_ ?_ (heap_alloc_new _ _) ?_); rfl; rfl))
    refine (HRD.out _ _ (HNO.out _ H4.out)).mono ?_
    rintro e w5 ⟨rfl, hB5⟩
    have h5 := ((H4.out.below hB5).alloc (.cells (sec Z) 31)).drop
    have H5 := Lib.hid h5
    clear h5 H4 hB5
    go_wp2_with (first | (with_reducible refine wpList_alloc_sector rfl rfl ?_) | ((with_reducible refine wpList_store_sector rfl _ _ rfl w5.heap.size Z zsec ?_ ?_ (heap_alloc_new _ _) ?_); rfl; rfl))
    refine (nd_diff (HNO.out _ H5.out) ⟨_, rfl⟩).mono ?_
    rintro e wx ⟨rfl, rfl⟩
    go_wp2_with fail
    refine (HON.out _).mono ?_
    rintro e w6 ⟨rfl, hB6⟩
    have H6 := Lib.hid (H5.out.below hB6)
    clear H5 hB6
    go_wp2_with fail
    refine (nd_write (HNO.out _ H6.out) 0 X).mono ?_
    rintro e w7 ⟨rfl, hB7⟩
    have H7 := Lib.hid (H6.out.below hB7)
    clear H6 hB7
    go_wp2_with fail
    refine (nd_flush (.inl rfl)).mono ?_
    rintro e wx ⟨rfl, rfl⟩
    go_wp2_with fail
    refine (nd_crash (HNO.out _ H7.out)).mono ?_
    rintro e w8 ⟨rfl, hB8⟩
    have H8 := Lib.hid (H7.out.below hB8)
    clear H7 hB8
    go_wp2_with fail
    refine (nd_limit (.inl rfl) 0).mono ?_
    rintro e wx ⟨rfl, rfl⟩
    go_wp2_with fail
    refine (nd_on (HNO.out _ H8.out)).mono ?_
    rintro e wx ⟨rfl, rfl⟩
    go_wp2_with fail
    refine (nd_pending (.inl rfl)).mono ?_
    rintro e wx ⟨rfl, rfl⟩
    go_wp2_with fail
    refine (nd_sectors (HNO.out _ H8.out)).mono ?_
    rintro e wx ⟨rfl, rfl⟩
    go_wp2_with fail
    refine (nd_taken (.inl rfl)).mono ?_
    rintro e wx ⟨rfl, rfl⟩
    go_wp2_with fail
    refine (nd_save (HNO.out _ H8.out)).mono ?_
    rintro e w9 ⟨rfl, hB9⟩
    have H9 := Lib.hid (H8.out.below hB9)
    clear H8 hB9
    go_wp2_with fail
    refine (HAW.out _).mono ?_
    rintro e w10 ⟨rfl, hB10⟩
    go_wp2_with fail
    go_ret
    exact ⟨rfl, H9.out.hB.trans (hB10.mono H9.out.hB.size)⟩
  · have c0 := h2.cell 3 _ _ _ rfl 0 _ rfl
    have c1 := h2.cell 3 _ _ _ rfl 1 _ rfl
    have c2 := h2.cell 3 _ _ _ rfl 2 _ rfl
    have c3 := h2.cell 3 _ _ _ rfl 3 _ rfl
    have c4 := h2.cell 3 _ _ _ rfl 4 _ rfl
    have d0 := h2.cell 4 _ _ _ rfl 0 _ rfl
    have d1 := h2.cell 4 _ _ _ rfl 1 _ rfl
    have d2 := h2.cell 4 _ _ _ rfl 2 _ rfl
    have d3 := h2.cell 4 _ _ _ rfl 3 _ rfl
    have d4 := h2.cell 4 _ _ _ rfl 4 _ rfl
    have H2 := Lib.hid h2
    clear h2 H1
    go_wp2_with fail
    refine (load_has H2.out (.tail _ (.head _)) (by omega) (by omega)).mono ?_
    rintro e w3 (⟨hf0, rfl, h3'⟩ | ⟨hf0, g2, rfl, h3⟩)
    · obtain ⟨E, hE⟩ : ∃ E, E = T.checkE := ⟨_, rfl⟩
      rw [← hE] at hf0 ⊢
      have he1 : (E != 0) = true := by simpa using hf0
      have h3 := h3'.drop.drop.drop.drop.drop
      clear h3' hE hf0 H2 he0 c0 c1 c2 c3 c4 d0 d1 d2 d3 d4
      have hz := h3.alloc (.cells #[.slice none 0 0, .slice none 0 0, .int .i64 0, .int .i64 0, .bool false, .map none] 74)
      have HNO : Hid (∀ W', Has w W' [Blk _ w3.heap.size (.cells #[.slice none 0 0, .slice none 0 0, .int .i64 0, .int .i64 0, .bool false, .map none] 74)] → NoDev W' (pv w3.heap.size)) := fun W' h => .inr ⟨_, rfl, h.cell 0 _ _ _ rfl 5 _ rfl⟩
      obtain ⟨Z, hZ⟩ : ∃ Z, Z = zsec := ⟨_, rfl⟩
      have HRD : Hid (∀ (W' : World) (v : Value), NoDev W' v → Calls Try.prog 17 #[v, .int .i64 0] W' fun e w' => e = .returned (.tuple #[.agg (sec Z), .int .i64 1]) ∧ Below W'.heap.size W' w') := fun W' v h => by rw [hZ]; exact nd_read h 0
      obtain ⟨X, hX⟩ : ∃ X, X = secA := ⟨_, rfl⟩
      have HON : Hid (∀ (W' : World), Calls Try.prog 22 #[] W' fun e w' => e = .returned (.agg (sec X)) ∧ Below W'.heap.size W' w') := fun W' => by rw [hX]; exact ones_any W'
      have HZ := Lib.hid hz
      clear hz h3 hZ hX
      go_wp2_with fail
      refine (HRD.out _ _ (.inl rfl)).mono ?_
      rintro e w4 ⟨rfl, hB4⟩
      have h4 := ((HZ.out.below hB4).alloc (.cells (sec Z) 31)).drop
      have H4 := Lib.hid h4
      clear h4 HZ hB4
      go_wp2_with (first | (with_reducible refine wpList_alloc_sector rfl rfl ?_) | ((with_reducible refine wpList_store_sector rfl _ _ rfl w4.heap.size Z zsec ?_ ?_ (heap_alloc_new _ _) ?_); rfl; rfl))
      refine (HRD.out _ _ (HNO.out _ H4.out)).mono ?_
      rintro e w5 ⟨rfl, hB5⟩
      have h5 := ((H4.out.below hB5).alloc (.cells (sec Z) 31)).drop
      have H5 := Lib.hid h5
      clear h5 H4 hB5
      go_wp2_with (first | (with_reducible refine wpList_alloc_sector rfl rfl ?_) | ((with_reducible refine wpList_store_sector rfl _ _ rfl w5.heap.size Z zsec ?_ ?_ (heap_alloc_new _ _) ?_); rfl; rfl))
      refine (nd_diff (HNO.out _ H5.out) ⟨_, rfl⟩).mono ?_
      rintro e wx ⟨rfl, rfl⟩
      go_wp2_with fail
      refine (HON.out _).mono ?_
      rintro e w6 ⟨rfl, hB6⟩
      have H6 := Lib.hid (H5.out.below hB6)
      clear H5 hB6
      go_wp2_with fail
      refine (nd_write (HNO.out _ H6.out) 0 X).mono ?_
      rintro e w7 ⟨rfl, hB7⟩
      have H7 := Lib.hid (H6.out.below hB7)
      clear H6 hB7
      go_wp2_with fail
      refine (nd_flush (.inl rfl)).mono ?_
      rintro e wx ⟨rfl, rfl⟩
      go_wp2_with fail
      refine (nd_crash (HNO.out _ H7.out)).mono ?_
      rintro e w8 ⟨rfl, hB8⟩
      have H8 := Lib.hid (H7.out.below hB8)
      clear H7 hB8
      go_wp2_with fail
      refine (nd_limit (.inl rfl) 0).mono ?_
      rintro e wx ⟨rfl, rfl⟩
      go_wp2_with fail
      refine (nd_on (HNO.out _ H8.out)).mono ?_
      rintro e wx ⟨rfl, rfl⟩
      go_wp2_with fail
      refine (nd_pending (.inl rfl)).mono ?_
      rintro e wx ⟨rfl, rfl⟩
      go_wp2_with fail
      refine (nd_sectors (HNO.out _ H8.out)).mono ?_
      rintro e wx ⟨rfl, rfl⟩
      go_wp2_with fail
      refine (nd_taken (.inl rfl)).mono ?_
      rintro e wx ⟨rfl, rfl⟩
      go_wp2_with fail
      refine (nd_save (HNO.out _ H8.out)).mono ?_
      rintro e w9 ⟨rfl, hB9⟩
      have H9 := Lib.hid (H8.out.below hB9)
      clear H8 hB9
      go_wp2_with fail
      refine (HAW.out _).mono ?_
      rintro e w10 ⟨rfl, hB10⟩
      go_wp2_with fail
      go_ret
      exact ⟨rfl, H9.out.hB.trans (hB10.mono H9.out.hB.size)⟩
    · clear H2 c0 c1 c2 c3 c4 d0 d1 d2 d3 d4
      have H3 := Lib.hid h3
      clear h3
      go_wp2_with fail
      refine (diff_any H3.out (.tail _ (.head _)) (.head _)).mono ?_
      rintro e w4 ⟨v1, rfl, h4⟩
      have H4 := Lib.hid h4
      clear h4 H3
      go_wp2_with fail
      refine (diff_any H4.out (.tail _ (.head _)) (.tail _ (.tail _ (.head _)))).mono ?_
      rintro e w5 ⟨v2, rfl, h5⟩
      rw [diffE_comm S T]
      rw [diffD_comm S T] at h5
      have c0 := h5.cell 6 _ _ _ rfl 0 _ rfl
      have c1 := h5.cell 6 _ _ _ rfl 1 _ rfl
      have c2 := h5.cell 6 _ _ _ rfl 2 _ rfl
      have c3 := h5.cell 6 _ _ _ rfl 3 _ rfl
      have c4 := h5.cell 6 _ _ _ rfl 4 _ rfl
      have d0 := h5.cell 7 _ _ _ rfl 0 _ rfl
      have d1 := h5.cell 7 _ _ _ rfl 1 _ rfl
      have d2 := h5.cell 7 _ _ _ rfl 2 _ rfl
      have d3 := h5.cell 7 _ _ _ rfl 3 _ rfl
      have d4 := h5.cell 7 _ _ _ rfl 4 _ rfl
      have H5 := Lib.hid h5
      clear h5 H4
      go_wp2_with fail
      refine (rdiff_any H5.out (.tail _ (.tail _ (.tail _ (.tail _ (.tail _ (.head _)))))) (.tail _ (.tail _ (.tail _ (.tail _ (.head _)))))).mono ?_
      rintro e w6 ⟨v3, rfl, h6⟩
      have H6 := Lib.hid h6
      have HDL := Lib.hid (diffD_len S T (by omega))
      clear h6 H5 c0 c1 c2 c3 c4 d0 d1 d2 d3 d4
      have hu := Try.underlying57
      go_wp2_with fail
      have HSK : Hid (∀ W' : World, W'.heap[w.heap.size]? = some (.cells #[.slice aS S.st.length cS, .slice aC S.ca.length cC, .int .i64 S.taken, .int .i64 S.power, .bool S.off] 57 (0, 0)) → W'.rangeAt w.heap.size 0 (stL (.slice aS S.st.length cS) (.slice aC S.ca.length cC) S) ∧ True ∧ True) := fun W' h => ⟨st_row h, trivial, trivial⟩
      refine wp_region_ordZ (fun w' => w'.rangeAt w.heap.size 0 (stL (.slice aS S.st.length cS) (.slice aC S.ca.length cC) S) ∧ True ∧ True) (OrdT.takes [0, 1, 2, 3, 4, 5, 6, 7, 8, 9, 10] (.one 11 (OrdT.takes [12, 13, 14, 15] (.one 16 (OrdT.takes [17, 18, 19, 21] (.one 20 (.one 22 (OrdT.takes [23, 24] (.one 25 (OrdT.takes [26, 27] .done)))))))))) (by kernel_rfl) (by kernel_rfl) (HSK.out _ (H6.out.drew.blk 8 _ _ rfl).1) (fun wz hz => ?_)
      have h7 := H6.out.drew
      rw [← hz] at h7
      have H7 := Lib.hid h7
      clear hz h7 H6
      unfold OrdT.takes
      --ordt mmymmmyymmm
      iterate 2 (refine' t_move _ _ rfl rfl rfl rfl _ _; rotate_left; (go_simp; with_reducible rfl); simp only [Act.put, List.setIfInBounds_toArray, List.set_cons_zero, List.set_cons_succ])
      (refine' t_yield _ rfl rfl rfl _ _; rotate_left; (intro w' hSw; obtain ⟨s0, s1, s2⟩ := hSw; go_simp; with_reducible rfl); simp only [Act.put, List.setIfInBounds_toArray, List.set_cons_zero, List.set_cons_succ])
      iterate 3 (refine' t_move _ _ rfl rfl rfl rfl _ _; rotate_left; (go_simp; with_reducible rfl); simp only [Act.put, List.setIfInBounds_toArray, List.set_cons_zero, List.set_cons_succ])
      iterate 2 (refine' t_yield _ rfl rfl rfl _ _; rotate_left; (intro w' hSw; obtain ⟨s0, s1, s2⟩ := hSw; go_simp; with_reducible rfl); simp only [Act.put, List.setIfInBounds_toArray, List.set_cons_zero, List.set_cons_succ])
      iterate 3 (refine' t_move _ _ rfl rfl rfl rfl _ _; rotate_left; (go_simp; with_reducible rfl); simp only [Act.put, List.setIfInBounds_toArray, List.set_cons_zero, List.set_cons_succ])
      --end
      refine t_one rfl rfl (fun K hK => ?_)
      go_simp
      refine (ints_has H7.out (.tail _ (.tail _ (.head _))) (.head _) (by have := HDL.out; omega)).mono ?_
      rintro e w8 ⟨rfl, h8⟩
      dsimp only
      refine hK _ _ (HSK.out _ (h8.blk 8 _ _ rfl).1) ?_
      clear hK
      unfold OrdT.takes
      --ordt ymmm
      (refine' t_yield _ rfl rfl rfl _ _; rotate_left; (intro w' hSw; obtain ⟨s0, s1, s2⟩ := hSw; go_simp; with_reducible rfl); simp only [Act.put, List.setIfInBounds_toArray, List.set_cons_zero, List.set_cons_succ])
      iterate 3 (refine' t_move _ _ rfl rfl rfl rfl _ _; rotate_left; (go_simp; with_reducible rfl); simp only [Act.put, List.setIfInBounds_toArray, List.set_cons_zero, List.set_cons_succ])
      --end
      refine t_one rfl rfl (fun K hK => ?_)
      go_simp
      refine (ints_has h8 (.tail _ (.head _)) (.head _) (by have := HDL.out; omega)).mono ?_
      rintro e w9 ⟨rfl, h9⟩
      dsimp only
      refine hK _ _ (HSK.out _ (h9.blk 8 _ _ rfl).1) ?_
      clear hK
      unfold OrdT.takes
      --ordt ymm
      (refine' t_yield _ rfl rfl rfl _ _; rotate_left; (intro w' hSw; obtain ⟨s0, s1, s2⟩ := hSw; go_simp; with_reducible rfl); simp only [Act.put, List.setIfInBounds_toArray, List.set_cons_zero, List.set_cons_succ])
      iterate 2 (refine' t_move _ _ rfl rfl rfl rfl _ _; rotate_left; (go_simp; with_reducible rfl); simp only [Act.put, List.setIfInBounds_toArray, List.set_cons_zero, List.set_cons_succ])
      --end
      refine t_load w.heap.size 0 (stL (.slice aS S.st.length cS) (.slice aC S.ca.length cC) S) _ _ _ rfl rfl rfl rfl rfl (fun w' hSw => hSw.1) hu rfl (stL_size _ _ _) ?_
      simp only [Act.put, List.setIfInBounds_toArray, List.set_cons_zero, List.set_cons_succ, stL_arr]
      refine t_one rfl rfl (fun K hK => ?_)
      go_simp
      refine (save_has h9 (.tail _ (.tail _ (.tail _ (.tail _ (.head _)))))).mono ?_
      rintro e w10 ⟨bT, kT, bU, kU, rfl, h10⟩
      dsimp only
      refine hK _ _ (HSK.out _ (h10.blk 9 _ _ rfl).1) ?_
      clear hK
      refine t_one rfl rfl (fun K hK => ?_)
      go_simp
      refine (same_has h10 (.head _) (.tail _ (.tail _ (.tail _ (.tail _ (.tail _ (.tail _ (.tail _ (.head _))))))))).mono ?_
      rintro e w11 ⟨rfl, h11⟩
      dsimp only
      refine hK _ _ (HSK.out _ (h11.blk 9 _ _ rfl).1) ?_
      clear hK
      unfold OrdT.takes
      --ordt ym
      (refine' t_yield _ rfl rfl rfl _ _; rotate_left; (intro w' hSw; obtain ⟨s0, s1, s2⟩ := hSw; go_simp; with_reducible rfl); simp only [Act.put, List.setIfInBounds_toArray, List.set_cons_zero, List.set_cons_succ])
      (refine' t_move _ _ rfl rfl rfl rfl _ _; rotate_left; (go_simp; with_reducible rfl); simp only [Act.put, List.setIfInBounds_toArray, List.set_cons_zero, List.set_cons_succ])
      --end
      refine t_one rfl rfl (fun K hK => ?_)
      go_simp
      refine (HAW.out _).mono ?_
      rintro e w12 ⟨rfl, hB12⟩
      have h12 := h11.below hB12
      dsimp only
      refine hK _ _ (HSK.out _ (h12.blk 9 _ _ rfl).1) ?_
      clear hK
      unfold OrdT.takes
      --ordt yy
      iterate 2 (refine' t_yield _ rfl rfl rfl _ _; rotate_left; (intro w' hSw; obtain ⟨s0, s1, s2⟩ := hSw; go_simp; with_reducible rfl); simp only [Act.put, List.setIfInBounds_toArray, List.set_cons_zero, List.set_cons_succ])
      --end
      refine t_done ?_
      go_wp2_with fail
      go_ret
      exact ⟨rfl, h12.hB⟩
end Go.Proofs.Ytjbjhjlfcbhaiaa
