/- A call on a device beside the reference's; what is in common. A call on a device beside the reference's: Write. A call on a device beside the reference's: Read. A call on a device beside the reference's: Flush. A call on a device beside the reference's: Limit. A call on a device beside the reference's: Crash. A call on a device beside the reference's: Pending, Taken, On and Sectors. A call on a device beside the reference's. -/
import Derived.Test.YtjbjhjlfcbhaiaaCallL
import Derived.Test.YtjbjhjlfcbhaiaaRefWr2
import Derived.Test.YtjbjhjlfcbhaiaaRefCrA
import Derived.Test.YtjbjhjlfcbhaiaaAwake6
namespace Go.Proofs.Ytjbjhjlfcbhaiaa
open Go.RowKit
theorem Has.stMid {w W W' : World} (l1 : List (Res w.heap.size)) {l2 : List (Res w.heap.size)} {S S' : Dv} {uS uC : Value} {code : Int} {e : Ending} (h : Has w W (l1 ++ StR _ uS uC S :: l2)) (hr : StRes W S uS uC S' code e W') :
    ∃ bS kS bC kC, e = .returned (.tuple #[.agg #[.slice bS S'.st.length kS, .slice bC S'.ca.length kC, .int .i64 S'.taken, .int .i64 S'.power, .bool S'.off], .int .i64 code]) ∧ Has w W' (l1 ++ StR _ (.slice bS S'.st.length kS) (.slice bC S'.ca.length kC) S' :: l2) := by
  obtain ⟨vS, vC, rfl, h2⟩ := (h.perm List.perm_middle).stRes hr
  obtain ⟨⟨bS, kS, rfl, _⟩, ⟨bC, kC, rfl, _⟩, _, _⟩ := h2.st (.head _)
  exact ⟨bS, kS, bC, kC, rfl, h2.perm List.perm_middle.symm⟩
/-- the state's cells -/
def stL (uS uC : Value) (S : Dv) : List Value := [uS, uC, .int .i64 S.taken, .int .i64 S.power, .bool S.off]
theorem stL_len (uS uC : Value) (S : Dv) : (stL uS uC S).length = 5 := rfl
theorem stL_size (uS uC : Value) (S : Dv) : (Try.prog.info? 57).map (·.size) = some (stL uS uC S).length := st_size
theorem stL_arr (uS uC : Value) (S : Dv) : (stL uS uC S).toArray = #[uS, uC, .int .i64 S.taken, .int .i64 S.power, .bool S.off] := rfl
theorem st_row {W : World} {b : Nat} {uS uC : Value} {S : Dv} {t : TypeId} (h : W.heap[b]? = some (.cells #[uS, uC, .int .i64 S.taken, .int .i64 S.power, .bool S.off] t (0, 0))) : W.rangeAt b 0 (stL uS uC S) :=
  rangeAt_row h (stL uS uC S) 0 (fun j v hv => by rw [Nat.zero_add]; simpa [stL] using hv)
/-- what `do` leaves -/
def DoV (w : World) (rs : List (Res w.heap.size)) (g : Nat) (S' : Dv) (e : Ending) (w' : World) : Prop := ∃ vS vC, e = .returned (.tuple #[.agg (stCells vS vC S'), .bool true]) ∧ Has w w' (DevR _ g S' :: StR _ vS vC S' :: rs)
theorem DoV.of {w W : World} {rs : List (Res w.heap.size)} {g : Nat} {S' : Dv} (l1 : List (Res w.heap.size)) {vS vC : Value} (h : Has w W (l1 ++ DevR _ g S' :: StR _ vS vC S' :: rs)) : DoV w rs g S' (.returned (.tuple #[.agg #[vS, vC, .int .i64 S'.taken, .int .i64 S'.power, .bool S'.off], .bool true])) W := by
  refine ⟨vS, vC, rfl, ?_⟩
  induction l1 with
  | nil => exact h
  | cons r l1 ih => exact ih h.drop
/-- Crash, of numbers that lie below what the walk owns -/
theorem crash_low {w W : World} {rs : List (Res w.heap.size)} {g : Nat} {S : Dv} (l1 : List (Res w.heap.size)) (h : Has w W (l1 ++ DevR _ g S :: rs)) (v : Value) (keep : List Int) (hv : RdL W 1 intL v keep) (hl : keep.length ≤ 1000000) (hlow : ∀ k ∈ blksL v keep, k < w.heap.size) :
    Calls Try.prog 16 #[pv g, v] W fun e w' => e = .returned (.int .i64 (S.crashE keep)) ∧ Has w w' (l1 ++ DevR _ g (S.crash keep) :: rs) :=
  (crash_ne (h.perm List.perm_middle) v keep hv hl (fun hne k hk => .inl (hlow k (by unfold blksL; rw [if_neg (by simpa using hne)]; exact hk)))).mono fun _ _ ⟨he, h'⟩ => ⟨he, h'.perm List.perm_middle.symm⟩
theorem ref_crash {W : World} {S : Dv} {uS uC v : Value} (h : StIn W S uS uC) (keep : List Int) (hv : RdL W 1 intL v keep) (hl : keep.length ≤ 1000000) (ok : S.Ok) :
    Calls Try.prog 48 #[.agg (stCells uS uC S), v] W (StRes W S uS uC (S.crash keep) (S.crashE keep)) := by
  cases h1 : keep.any S.odd
  · cases h2 : risesI keep
    · exact ref_crash_form h keep hv hl h1 h2
    · exact ref_crash_go h keep hv hl ok h1 h2
  · exact ref_crash_odd h keep hv hl h1
theorem ref_write {W : World} {S : Dv} {uS uC : Value} (h : StIn W S uS uC) (ok : S.Ok) (n : Int) (X : Sector) :
    Calls Try.prog 49 #[.agg (stCells uS uC S), .int .i64 n, .agg (sec X)] W (StRes W S uS uC (S.write n X) (S.writeE n)) := by
  by_cases hy : S.writeE n = 0
  · rw [hy]; exact ref_write_yes h ok n X hy
  · exact ref_write_no h n X hy
theorem wp_region_ordZ {P : Program} {Q : Exit → Act → World → Prop} {id : Nat} {a : Act} {w : World} {l : List Oper} (S : World → Prop) (t : OrdT) (hm : P.follows .mixedOrders = true)
    (hs : (Region.noSelect l.toArray && ordT .any l.toArray (t.lst l.length) t (Array.replicate l.length false) && decide (t.size ≤ l.length)) = true) (hS : S w.drew) (h : ∀ wz, wz = w.drew → wpT P l.toArray S (NoPanic Q) t a wz) : (Code.region id l.toArray true).wp P Q a w :=
  wp_region_ordT S t hm hs hS (h _ rfl)
end Go.Proofs.Ytjbjhjlfcbhaiaa
namespace Go.Proofs.Ytjbjhjlfcbhaiaa
open Go.RowKit
attribute [local go_sem] Oper.semAt_some setRow_alloc_at setRow_alloc_past setRow_drew
/-- the sector of a call -/
def CallD.sec (x : CallD) : Sector := fillS (UInt8.ofNat (IntKind.u8.wrap x.n).toNat) x.b
theorem CallD.first (n : Int) : vb (UInt8.ofNat (IntKind.u8.wrap n).toNat) = IntKind.u8.wrap n := by
  obtain ⟨a, ha⟩ := of_u8 (n := IntKind.u8.wrap n) (by
    have h1 : 0 ≤ IntKind.u8.wrap n ∧ IntKind.u8.wrap n < 256 := by
      rw [show IntKind.u8.wrap n = n % 256 from rfl]; omega
    simp only [Lit.wf, Bool.and_eq_true, decide_eq_true_eq]
    have h2 : IntKind.u8.min = 0 := by decide
    have h3 : IntKind.u8.max = 255 := by decide
    omega)
  rw [ha]
  have h1 := vb_nonneg a
  have h2 := vb_lt a
  unfold vb at *
  simp
set_option maxRecDepth 100000 in
set_option maxHeartbeats 4000000 in
theorem do_write {w W : World} {rs : List (Res w.heap.size)} {g : Nat} {S : Dv} {uS uC : Value} (h : Has w W (DevR _ g S :: StR _ uS uC S :: rs)) (x : CallD) (hm : (vb x.what).tmod 9 < 4) :
    Calls Try.prog 28 #[pv g, .agg (stCells uS uC S), .agg (callL x).toArray] W (DoV w rs g (S.write x.at_ x.sec)) := by
  have ok := ok_has h (.head _)
  have hin := h.st (.tail _ (.head _))
  obtain ⟨⟨aS, cS, rfl, _⟩, ⟨aC, cC, rfl, _⟩, _, _⟩ := hin
  obtain ⟨X, hX⟩ : ∃ X, X = x.sec := ⟨_, rfl⟩
  rw [← hX]
  unfold CallD.sec at hX
  obtain ⟨what, at_, n, b, kv, keep⟩ := x
  dsimp only at hm hX
  have m4 : ((vb what).tmod 9 == 4) = false := by rw [beq_eq_false_iff_ne]; omega
  have m5 : ((vb what).tmod 9 == 5) = false := by rw [beq_eq_false_iff_ne]; omega
  have m6 : ((vb what).tmod 9 == 6) = false := by rw [beq_eq_false_iff_ne]; omega
  have m7 : ((vb what).tmod 9 == 7) = false := by rw [beq_eq_false_iff_ne]; omega
  have m8 : ((vb what).tmod 9 == 8) = false := by rw [beq_eq_false_iff_ne]; omega
  unfold stCells callL
  have h1 := (((h.alloc (.cells #[.slice aS S.st.length cS, .slice aC S.ca.length cC, .int .i64 S.taken, .int .i64 S.power, .bool S.off] 57)).allocAt (.cells #[.int .u8 (vb what), .int .i64 at_, .int .i64 n, .int .u8 (vb b), kv] 63) (W.heap.size + 1) (by simp)).allocAt (.cells #[.slice none 0 0, .slice none 0 0, .int .i64 0, .int .i64 0, .bool false] 57) (W.heap.size + 1 + 1) (by simp))
  have HFL : Hid (∀ w', Calls Try.prog 14 #[.int .u8 (IntKind.u8.wrap n), .int .u8 (vb b)] w' fun e w'' => e = .returned (.agg (Go.Proofs.Ytjbjhjlfcbhaiaa.sec X)) ∧ Below w'.heap.size w' w'') := fun w' => by
    have hfa := filled_any (UInt8.ofNat (IntKind.u8.wrap n).toNat) b w'
    rw [CallD.first n, ← hX] at hfa
    exact hfa
  have H1 := Lib.hid h1
  have HOK := Lib.hid ok
  clear h h1 ok hm hX
  go_enter Try.func28, Try.ntmps28
  go_wp2_with fail
  refine (HFL.out _).mono ?_
  clear HFL
  rintro e w3 ⟨rfl, hB3⟩
  have h2 := (H1.out.below hB3).alloc (.cells (Go.Proofs.Ytjbjhjlfcbhaiaa.sec X) 31)
  have b4 := h2.cell 3 _ _ _ rfl
  have hF := ref_write (h2.st (.tail _ (.tail _ (.tail _ (.tail _ (.tail _ (.head _))))))) HOK.out at_ X
  unfold stCells at hF
  have c0 := h2.cell 3 _ _ _ rfl 0 _ rfl
  have c1 := h2.cell 3 _ _ _ rfl 1 _ rfl
  have c2 := h2.cell 3 _ _ _ rfl 2 _ rfl
  have c3 := h2.cell 3 _ _ _ rfl 3 _ rfl
  have c4 := h2.cell 3 _ _ _ rfl 4 _ rfl
  have d1 := h2.cell 2 _ _ _ rfl 1 _ rfl
  have bX := (h2.blk 0 _ _ rfl).1
  have HF := Lib.hid hF
  have H2 := Lib.hid h2
  clear h2 hF H1
  go_wp2_with (first | (with_reducible refine wpList_alloc_sector rfl rfl ?_) | ((with_reducible refine wpList_store_sector rfl _ _ rfl w3.heap.size X zsec ?_ ?_ (heap_alloc_new _ _) ?_); rfl; rfl) | ((with_reducible refine wpList_load_sector rfl _ rfl w3.heap.size X ?_ bX ?_); rfl))
  refine HF.out.mono ?_
  clear HF
  rintro e w4 hr
  obtain ⟨bS, kS, bC, kC, rfl, h4⟩ := H2.out.stMid [_, _, _, _, _] hr
  clear hr H2 c0 c1 c2 c3 c4 d1 bX
  obtain ⟨T, hT⟩ : ∃ T, T = S.write at_ X := ⟨_, rfl⟩
  rw [← hT] at h4 ⊢
  have HT := Lib.hid hT
  clear hT
  have h5 := h4.alloc (.cells #[.slice bS T.st.length kS, .slice bC T.ca.length kC, .int .i64 T.taken, .int .i64 T.power, .bool T.off] 57)
  have HSK : Hid (∀ W' {l2 : List (Res w.heap.size)} {st : Dv} {r1 r2 : Res w.heap.size}, Has w W' (Blk _ w4.heap.size (.cells #[.slice bS T.st.length kS, .slice bC T.ca.length kC, .int .i64 T.taken, .int .i64 T.power, .bool T.off] 57) :: Blk _ w3.heap.size (.cells (Go.Proofs.Ytjbjhjlfcbhaiaa.sec X) 31) :: r1 :: Blk _ (W.heap.size + 1) (.cells #[.int .u8 (vb what), .int .i64 at_, .int .i64 n, .int .u8 (vb b), kv] 63) :: r2 :: DevR _ g st :: l2) → W'.rangeAt w4.heap.size 0 (stL (.slice bS T.st.length kS) (.slice bC T.ca.length kC) T) ∧ W'.cell? ⟨W.heap.size + 1, 1, none⟩ = some (.int .i64 at_) ∧ W'.rangeAt w3.heap.size 0 (secL X)) := fun W' {l2 st r1 r2} h =>
    ⟨st_row (h.blk 0 _ _ rfl).1, h.cell 3 _ _ _ rfl 1 _ rfl, rangeAt_row (h.blk 1 _ _ rfl).1 (secL X) 0 (fun j v hv => by rw [Nat.zero_add]; simpa [secL] using hv)⟩
  have H5 := Lib.hid h5
  clear h4 h5
  go_wp2_with fail
  have hu := Try.underlying57
  have hu2 := Try.underlying31
  refine wp_region_ordT (fun w' => w'.rangeAt w4.heap.size 0 (stL (.slice bS T.st.length kS) (.slice bC T.ca.length kC) T) ∧ w'.cell? ⟨W.heap.size + 1, 1, none⟩ = some (.int .i64 at_) ∧ w'.rangeAt w3.heap.size 0 (secL X)) (OrdT.takes [0, 1, 2, 3, 4, 6] (.one 5 (.take 7 (.one 8 (.take 9 .done))))) (by kernel_rfl) (by kernel_rfl) (HSK.out _ H5.out.drew) ?_
  unfold OrdT.takes
  refine t_load w4.heap.size 0 (stL (.slice bS T.st.length kS) (.slice bC T.ca.length kC) T) _ _ _ rfl rfl rfl rfl rfl (fun w' hSw => hSw.1) hu rfl (stL_size _ _ _) ?_
  simp only [Act.put, List.setIfInBounds_toArray, List.set_cons_zero, List.set_cons_succ, stL_arr]
  --ordt myy
  (refine' t_move _ _ rfl rfl rfl rfl _ _; rotate_left; (go_simp; with_reducible rfl); simp only [Act.put, List.setIfInBounds_toArray, List.set_cons_zero, List.set_cons_succ])
  iterate 2 (refine' t_yield _ rfl rfl rfl _ _; rotate_left; (intro w' hSw; obtain ⟨s0, s1, s2⟩ := hSw; go_simp; with_reducible rfl); simp only [Act.put, List.setIfInBounds_toArray, List.set_cons_zero, List.set_cons_succ])
  --end
  refine t_load w3.heap.size 0 (secL X) _ _ _ rfl rfl rfl rfl rfl (fun w' hSw => hSw.2.2) hu2 rfl (secL_size X) ?_
  simp only [Act.put, List.setIfInBounds_toArray, List.set_cons_zero, List.set_cons_succ, secL_arr]
  --ordt m
  (refine' t_move _ _ rfl rfl rfl rfl _ _; rotate_left; (go_simp; with_reducible rfl); simp only [Act.put, List.setIfInBounds_toArray, List.set_cons_zero, List.set_cons_succ])
  --end
  refine t_one rfl rfl (fun K hK => ?_)
  go_simp
  have hw := write_mid [_, _, _, _, _] H5.out.drew at_ X
  rw [← HT.out] at hw
  refine hw.mono ?_
  clear hw
  rintro e w6 ⟨rfl, h6⟩
  dsimp only
  refine hK _ _ (HSK.out _ h6) ?_
  clear hK
  --ordt y
  (refine' t_yield _ rfl rfl rfl _ _; rotate_left; (intro w' hSw; obtain ⟨s0, s1, s2⟩ := hSw; go_simp; with_reducible rfl); simp only [Act.put, List.setIfInBounds_toArray, List.set_cons_zero, List.set_cons_succ])
  --end
  refine t_one rfl rfl (fun K hK => ?_)
  have c0 := h6.cell 2 _ _ _ rfl 0 _ rfl
  have c1 := h6.cell 2 _ _ _ rfl 1 _ rfl
  have c2 := h6.cell 2 _ _ _ rfl 2 _ rfl
  have c3 := h6.cell 2 _ _ _ rfl 3 _ rfl
  have c4 := h6.cell 2 _ _ _ rfl 4 _ rfl
  have f0 := h6.frozen 2 _ _ _ rfl 0
  have f1 := h6.frozen 2 _ _ _ rfl 1
  have f2 := h6.frozen 2 _ _ _ rfl 2
  have f3 := h6.frozen 2 _ _ _ rfl 3
  have f4 := h6.frozen 2 _ _ _ rfl 4
  have h7 := h6.store5 [_, _] (.slice bS T.st.length kS) (.slice bC T.ca.length kC) (.int .i64 T.taken) (.int .i64 T.power) (.bool T.off)
  have H7 := Lib.hid h7
  clear h6 h7 H5
  go_simp
  refine hK _ _ (HSK.out _ H7.out) ?_
  clear hK
  --ordt y
  (refine' t_yield _ rfl rfl rfl _ _; rotate_left; (intro w' hSw; obtain ⟨s0, s1, s2⟩ := hSw; go_simp; with_reducible rfl); simp only [Act.put, List.setIfInBounds_toArray, List.set_cons_zero, List.set_cons_succ])
  --end
  refine t_done ?_
  go_wp2_with fail
  refine bodyPost_ret (results_st2 rfl _ _ (W.heap.size + 1 + 1) _ rfl (H7.out.blk 2 _ _ rfl).1 rfl) rfl ?_
  have e := HT.out
  subst e
  exact DoV.of [_, _, _, _, _] H7.out
end Go.Proofs.Ytjbjhjlfcbhaiaa
namespace Go.Proofs.Ytjbjhjlfcbhaiaa
open Go.RowKit
attribute [local go_sem] Oper.semAt_some setRow_alloc_at setRow_alloc_past setRow_drew
attribute [local go_sem high] run_eql_sector
set_option maxRecDepth 100000 in
set_option maxHeartbeats 4000000 in
theorem do_read {w W : World} {rs : List (Res w.heap.size)} {g : Nat} {S : Dv} {uS uC : Value} (h : Has w W (DevR _ g S :: StR _ uS uC S :: rs)) (x : CallD) (hm : (vb x.what).tmod 9 = 4) :
    Calls Try.prog 28 #[pv g, .agg (stCells uS uC S), .agg (callL x).toArray] W (DoV w rs g S) := by
  have hin := h.st (.tail _ (.head _))
  obtain ⟨⟨aS, cS, rfl, _⟩, ⟨aC, cC, rfl, _⟩, _, _⟩ := hin
  obtain ⟨what, at_, n, b, kv, keep⟩ := x
  dsimp only at hm
  unfold stCells callL
  have h1 := (((h.alloc (.cells #[.slice aS S.st.length cS, .slice aC S.ca.length cC, .int .i64 S.taken, .int .i64 S.power, .bool S.off] 57)).allocAt (.cells #[.int .u8 (vb what), .int .i64 at_, .int .i64 n, .int .u8 (vb b), kv] 63) (W.heap.size + 1) (by simp)).allocAt (.cells #[.slice none 0 0, .slice none 0 0, .int .i64 0, .int .i64 0, .bool false] 57) (W.heap.size + 1 + 1) (by simp))
  obtain ⟨X, c, hX⟩ : ∃ X c, S.readV at_ = .tuple #[.agg (sec X), .int .i64 c] := ⟨_, _, rfl⟩
  have hR := read_has h1 (.tail _ (.tail _ (.tail _ (.head _)))) at_
  rw [hX] at hR
  have HX := Lib.hid hX
  have HR := Lib.hid hR
  have H1 := Lib.hid h1
  have hu := Try.underlying57
  have hu2 := Try.underlying31
  clear h h1 hX hR
  go_enter Try.func28, Try.ntmps28
  go_wp2_with fail
  refine HR.out.mono ?_
  clear HR
  rintro e w3 ⟨rfl, h3⟩
  have h4 := h3.alloc (.cells (sec X) 31)
  have hF := ref_read (h4.st (.tail _ (.tail _ (.tail _ (.tail _ (.tail _ (.head _))))))) at_
  unfold stCells at hF
  rw [HX.out] at hF
  have c0 := h4.cell 3 _ _ _ rfl 0 _ rfl
  have c1 := h4.cell 3 _ _ _ rfl 1 _ rfl
  have c2 := h4.cell 3 _ _ _ rfl 2 _ rfl
  have c3 := h4.cell 3 _ _ _ rfl 3 _ rfl
  have c4 := h4.cell 3 _ _ _ rfl 4 _ rfl
  have d1 := h4.cell 2 _ _ _ rfl 1 _ rfl
  have HF := Lib.hid hF
  have H4 := Lib.hid h4
  clear h3 h4 hF H1
  go_wp2_with (first | (with_reducible refine wpList_alloc_sector rfl rfl ?_) | ((with_reducible refine wpList_store_sector rfl _ _ rfl w3.heap.size X zsec ?_ ?_ (heap_alloc_new _ _) ?_); rfl; rfl))
  refine HF.out.mono ?_
  clear HF
  rintro e w5 ⟨rfl, hB5⟩
  have h5 := (H4.out.below hB5).alloc (.cells (sec X) 31)
  clear H4 c0 c1 c2 c3 c4 d1
  have HSK : Hid (∀ w' {l2 : List (Res w.heap.size)} {r1 r2 : Res w.heap.size}, Has w w' (Blk _ w5.heap.size (.cells (sec X) 31) :: Blk _ w3.heap.size (.cells (sec X) 31) :: r1 :: r2 :: Blk _ W.heap.size (.cells #[.slice aS S.st.length cS, .slice aC S.ca.length cC, .int .i64 S.taken, .int .i64 S.power, .bool S.off] 57) :: l2) → w'.rangeAt W.heap.size 0 (stL (.slice aS S.st.length cS) (.slice aC S.ca.length cC) S) ∧ w'.rangeAt w3.heap.size 0 (secL X) ∧ w'.rangeAt w5.heap.size 0 (secL X)) := fun w' {l2 r1 r2} h =>
    ⟨st_row (h.blk 4 _ _ rfl).1, rangeAt_row (h.blk 1 _ _ rfl).1 (secL X) 0 (fun j v hv => by rw [Nat.zero_add]; simpa [secL] using hv), rangeAt_row (h.blk 0 _ _ rfl).1 (secL X) 0 (fun j v hv => by rw [Nat.zero_add]; simpa [secL] using hv)⟩
  have H5 := Lib.hid h5
  clear h5
  have hsq : seqB X X = true := by unfold seqB; simp
  go_wp2_with (first | (with_reducible refine wpList_alloc_sector rfl rfl ?_) | ((with_reducible refine wpList_store_sector rfl _ _ rfl w5.heap.size X zsec ?_ ?_ (heap_alloc_new _ _) ?_); rfl; rfl))
  refine wp_region_ordZ (fun w' => w'.rangeAt W.heap.size 0 (stL (.slice aS S.st.length cS) (.slice aC S.ca.length cC) S) ∧ w'.rangeAt w3.heap.size 0 (secL X) ∧ w'.rangeAt w5.heap.size 0 (secL X)) (OrdT.takes [0, 1, 2, 3, 4, 5, 6, 7, 8] (.one 9 (.take 10 .done))) (by kernel_rfl) (by kernel_rfl) (HSK.out _ H5.out.drew) (fun wz hz => ?_)
  have h6 := H5.out.drew
  rw [← hz] at h6
  have H6 := Lib.hid h6
  clear hz h6 H5
  unfold OrdT.takes
  refine t_load W.heap.size 0 (stL (.slice aS S.st.length cS) (.slice aC S.ca.length cC) S) _ _ _ rfl rfl rfl rfl rfl (fun w' hSw => hSw.1) hu rfl (stL_size _ _ _) ?_
  simp only [Act.put, List.setIfInBounds_toArray, List.set_cons_zero, List.set_cons_succ, stL_arr]
  refine t_load w3.heap.size 0 (secL X) _ _ _ rfl rfl rfl rfl rfl (fun w' hSw => hSw.2.1) hu2 rfl (secL_size X) ?_
  simp only [Act.put, List.setIfInBounds_toArray, List.set_cons_zero, List.set_cons_succ, secL_arr]
  refine t_load w5.heap.size 0 (secL X) _ _ _ rfl rfl rfl rfl rfl (fun w' hSw => hSw.2.2) hu2 rfl (secL_size X) ?_
  simp only [Act.put, List.setIfInBounds_toArray, List.set_cons_zero, List.set_cons_succ, secL_arr]
  --ordt ymmmyy
  (refine' t_yield _ rfl rfl rfl _ _; rotate_left; (intro w' hSw; obtain ⟨s0, s1, s2⟩ := hSw; go_simp; with_reducible rfl); simp only [Act.put, List.setIfInBounds_toArray, List.set_cons_zero, List.set_cons_succ])
  iterate 3 (refine' t_move _ _ rfl rfl rfl rfl _ _; rotate_left; (go_simp; with_reducible rfl); simp only [Act.put, List.setIfInBounds_toArray, List.set_cons_zero, List.set_cons_succ])
  iterate 2 (refine' t_yield _ rfl rfl rfl _ _; rotate_left; (intro w' hSw; obtain ⟨s0, s1, s2⟩ := hSw; go_simp; with_reducible rfl); simp only [Act.put, List.setIfInBounds_toArray, List.set_cons_zero, List.set_cons_succ])
  --end
  refine t_one rfl rfl (fun K hK => ?_)
  have h6 := H6.out
  have c0 := h6.cell 2 _ _ _ rfl 0 _ rfl
  have c1 := h6.cell 2 _ _ _ rfl 1 _ rfl
  have c2 := h6.cell 2 _ _ _ rfl 2 _ rfl
  have c3 := h6.cell 2 _ _ _ rfl 3 _ rfl
  have c4 := h6.cell 2 _ _ _ rfl 4 _ rfl
  have f0 := h6.frozen 2 _ _ _ rfl 0
  have f1 := h6.frozen 2 _ _ _ rfl 1
  have f2 := h6.frozen 2 _ _ _ rfl 2
  have f3 := h6.frozen 2 _ _ _ rfl 3
  have f4 := h6.frozen 2 _ _ _ rfl 4
  have h7 := h6.store5 [_, _] (.slice aS S.st.length cS) (.slice aC S.ca.length cC) (.int .i64 S.taken) (.int .i64 S.power) (.bool S.off)
  have H7 := Lib.hid h7
  clear h6 h7 H6
  go_simp
  refine hK _ _ (HSK.out _ H7.out) ?_
  clear hK
  --ordt y
  (refine' t_yield _ rfl rfl rfl _ _; rotate_left; (intro w' hSw; obtain ⟨s0, s1, s2⟩ := hSw; go_simp; with_reducible rfl); simp only [Act.put, List.setIfInBounds_toArray, List.set_cons_zero, List.set_cons_succ])
  --end
  refine t_done ?_
  go_wp2_with fail
  refine bodyPost_ret (results_st2 rfl _ _ (W.heap.size + 1 + 1) _ rfl (H7.out.blk 2 _ _ rfl).1 rfl) rfl ?_
  exact DoV.of [_, _, _, _, _] H7.out
end Go.Proofs.Ytjbjhjlfcbhaiaa
namespace Go.Proofs.Ytjbjhjlfcbhaiaa
open Go.RowKit
attribute [local go_sem] Oper.semAt_some setRow_alloc_at setRow_alloc_past setRow_drew
set_option maxRecDepth 100000 in
set_option maxHeartbeats 4000000 in
theorem do_flush {w W : World} {rs : List (Res w.heap.size)} {g : Nat} {S : Dv} {uS uC : Value} (h : Has w W (DevR _ g S :: StR _ uS uC S :: rs)) (x : CallD) (hm : (vb x.what).tmod 9 = 5) :
    Calls Try.prog 28 #[pv g, .agg (stCells uS uC S), .agg (callL x).toArray] W (DoV w rs g S.flush) := by
  have ok := ok_has h (.head _)
  have hin := h.st (.tail _ (.head _))
  obtain ⟨⟨aS, cS, rfl, _⟩, ⟨aC, cC, rfl, _⟩, _, _⟩ := hin
  obtain ⟨what, at_, n, b, kv, keep⟩ := x
  dsimp only at hm
  unfold stCells callL
  have h1 := (((h.alloc (.cells #[.slice aS S.st.length cS, .slice aC S.ca.length cC, .int .i64 S.taken, .int .i64 S.power, .bool S.off] 57)).allocAt (.cells #[.int .u8 (vb what), .int .i64 at_, .int .i64 n, .int .u8 (vb b), kv] 63) (W.heap.size + 1) (by simp)).allocAt (.cells #[.slice none 0 0, .slice none 0 0, .int .i64 0, .int .i64 0, .bool false] 57) (W.heap.size + 1 + 1) (by simp))
  have hF := ref_flush (h1.st (.tail _ (.tail _ (.tail _ (.tail _ (.head _)))))) (fun y hy => ok.c2 y hy)
  unfold stCells at hF
  have HF := Lib.hid hF
  have H1 := Lib.hid h1
  clear h hF h1 ok
  go_enter Try.func28, Try.ntmps28
  go_wp2_with fail
  refine HF.out.mono ?_
  clear HF
  rintro e w4 hr
  obtain ⟨bS, kS, bC, kC, rfl, h4⟩ := H1.out.stMid [_, _, _, _] hr
  clear hr H1
  have h5 := h4.alloc (.cells #[.slice bS S.flush.st.length kS, .slice bC S.flush.ca.length kC, .int .i64 S.flush.taken, .int .i64 S.flush.power, .bool S.flush.off] 57)
  have H5 := Lib.hid h5
  clear h4 h5
  go_wp2_with fail
  have hu := Try.underlying57
  refine wp_region_ordT (fun w' => w'.rangeAt w4.heap.size 0 (stL (.slice bS S.flush.st.length kS) (.slice bC S.flush.ca.length kC) S.flush) ∧ True ∧ True) (OrdT.takes [0, 1, 3] (.one 2 (.take 4 (.one 5 (.take 6 .done))))) (by kernel_rfl) (by kernel_rfl) ⟨st_row (H5.out.drew.blk 0 _ _ rfl).1, trivial, trivial⟩ ?_
  unfold OrdT.takes
  refine t_load w4.heap.size 0 (stL (.slice bS S.flush.st.length kS) (.slice bC S.flush.ca.length kC) S.flush) _ _ _ rfl rfl rfl rfl rfl (fun w' hSw => hSw.1) hu rfl (stL_size _ _ _) ?_
  simp only [Act.put, List.setIfInBounds_toArray, List.set_cons_zero, List.set_cons_succ, stL_arr]
  --ordt mm
  iterate 2 (refine' t_move _ _ rfl rfl rfl rfl _ _; rotate_left; (go_simp; with_reducible rfl); simp only [Act.put, List.setIfInBounds_toArray, List.set_cons_zero, List.set_cons_succ])
  --end
  refine t_one rfl rfl (fun K hK => ?_)
  go_simp
  refine (flush_mid [_, _, _, _] H5.out.drew).mono ?_
  rintro e w6 ⟨rfl, h6⟩
  dsimp only
  refine hK _ _ ⟨st_row (h6.blk 0 _ _ rfl).1, trivial, trivial⟩ ?_
  clear hK
  --ordt y
  (refine' t_yield _ rfl rfl rfl _ _; rotate_left; (intro w' hSw; obtain ⟨s0, s1, s2⟩ := hSw; go_simp; with_reducible rfl); simp only [Act.put, List.setIfInBounds_toArray, List.set_cons_zero, List.set_cons_succ])
  --end
  refine t_one rfl rfl (fun K hK => ?_)
  have c0 := h6.cell 1 _ _ _ rfl 0 _ rfl
  have c1 := h6.cell 1 _ _ _ rfl 1 _ rfl
  have c2 := h6.cell 1 _ _ _ rfl 2 _ rfl
  have c3 := h6.cell 1 _ _ _ rfl 3 _ rfl
  have c4 := h6.cell 1 _ _ _ rfl 4 _ rfl
  have f0 := h6.frozen 1 _ _ _ rfl 0
  have f1 := h6.frozen 1 _ _ _ rfl 1
  have f2 := h6.frozen 1 _ _ _ rfl 2
  have f3 := h6.frozen 1 _ _ _ rfl 3
  have f4 := h6.frozen 1 _ _ _ rfl 4
  have h7 := h6.store5 [_] (.slice bS S.flush.st.length kS) (.slice bC S.flush.ca.length kC) (.int .i64 S.flush.taken) (.int .i64 S.flush.power) (.bool S.flush.off)
  have H7 := Lib.hid h7
  clear h6 h7 H5
  go_simp
  refine hK _ _ ⟨st_row (H7.out.blk 0 _ _ rfl).1, trivial, trivial⟩ ?_
  clear hK
  --ordt y
  (refine' t_yield _ rfl rfl rfl _ _; rotate_left; (intro w' hSw; obtain ⟨s0, s1, s2⟩ := hSw; go_simp; with_reducible rfl); simp only [Act.put, List.setIfInBounds_toArray, List.set_cons_zero, List.set_cons_succ])
  --end
  refine t_done ?_
  go_wp2_with fail
  refine bodyPost_ret (results_st2 rfl _ _ (W.heap.size + 1 + 1) _ rfl (H7.out.blk 1 _ _ rfl).1 rfl) rfl ?_
  exact DoV.of [_, _, _, _] H7.out
end Go.Proofs.Ytjbjhjlfcbhaiaa
namespace Go.Proofs.Ytjbjhjlfcbhaiaa
open Go.RowKit
attribute [local go_sem] Oper.semAt_some setRow_alloc_at setRow_alloc_past setRow_drew
set_option maxRecDepth 100000 in
set_option maxHeartbeats 4000000 in
theorem do_limit {w W : World} {rs : List (Res w.heap.size)} {g : Nat} {S : Dv} {uS uC : Value} (h : Has w W (DevR _ g S :: StR _ uS uC S :: rs)) (x : CallD) (hm : (vb x.what).tmod 9 = 6) :
    Calls Try.prog 28 #[pv g, .agg (stCells uS uC S), .agg (callL x).toArray] W (DoV w rs g (S.limit x.n)) := by
  have hin := h.st (.tail _ (.head _))
  obtain ⟨⟨aS, cS, rfl, _⟩, ⟨aC, cC, rfl, _⟩, _, _⟩ := hin
  obtain ⟨what, at_, n, b, kv, keep⟩ := x
  dsimp only at hm
  unfold stCells callL
  have h1 := (((h.alloc (.cells #[.slice aS S.st.length cS, .slice aC S.ca.length cC, .int .i64 S.taken, .int .i64 S.power, .bool S.off] 57)).allocAt (.cells #[.int .u8 (vb what), .int .i64 at_, .int .i64 n, .int .u8 (vb b), kv] 63) (W.heap.size + 1) (by simp)).allocAt (.cells #[.slice none 0 0, .slice none 0 0, .int .i64 0, .int .i64 0, .bool false] 57) (W.heap.size + 1 + 1) (by simp))
  have hF := ref_limit (h1.st (.tail _ (.tail _ (.tail _ (.tail _ (.head _)))))) n
  unfold stCells at hF
  have HF := Lib.hid hF
  have H1 := Lib.hid h1
  clear h hF h1
  go_enter Try.func28, Try.ntmps28
  go_wp2_with fail
  refine HF.out.mono ?_
  clear HF
  rintro e w4 hr
  obtain ⟨bS, kS, bC, kC, rfl, h4⟩ := H1.out.stMid [_, _, _, _] hr
  clear hr H1
  have h5 := h4.alloc (.cells #[.slice bS (S.limit n).st.length kS, .slice bC (S.limit n).ca.length kC, .int .i64 (S.limit n).taken, .int .i64 (S.limit n).power, .bool (S.limit n).off] 57)
  have H5 := Lib.hid h5
  clear h4 h5
  go_wp2_with fail
  have hu := Try.underlying57
  refine wp_region_ordT (fun w' => w'.rangeAt w4.heap.size 0 (stL (.slice bS (S.limit n).st.length kS) (.slice bC (S.limit n).ca.length kC) (S.limit n)) ∧ w'.cell? ⟨W.heap.size + 1, 2, none⟩ = some (.int .i64 n) ∧ True) (OrdT.takes [0, 1, 2, 3, 5] (.one 4 (.take 6 (.one 7 (.take 8 .done))))) (by kernel_rfl) (by kernel_rfl) ⟨st_row (H5.out.drew.blk 0 _ _ rfl).1, H5.out.drew.cell 2 _ _ _ rfl 2 _ rfl, trivial⟩ ?_
  unfold OrdT.takes
  refine t_load w4.heap.size 0 (stL (.slice bS (S.limit n).st.length kS) (.slice bC (S.limit n).ca.length kC) (S.limit n)) _ _ _ rfl rfl rfl rfl rfl (fun w' hSw => hSw.1) hu rfl (stL_size _ _ _) ?_
  simp only [Act.put, List.setIfInBounds_toArray, List.set_cons_zero, List.set_cons_succ, stL_arr]
  --ordt myym
  (refine' t_move _ _ rfl rfl rfl rfl _ _; rotate_left; (go_simp; with_reducible rfl); simp only [Act.put, List.setIfInBounds_toArray, List.set_cons_zero, List.set_cons_succ])
  iterate 2 (refine' t_yield _ rfl rfl rfl _ _; rotate_left; (intro w' hSw; obtain ⟨s0, s1, s2⟩ := hSw; go_simp; with_reducible rfl); simp only [Act.put, List.setIfInBounds_toArray, List.set_cons_zero, List.set_cons_succ])
  (refine' t_move _ _ rfl rfl rfl rfl _ _; rotate_left; (go_simp; with_reducible rfl); simp only [Act.put, List.setIfInBounds_toArray, List.set_cons_zero, List.set_cons_succ])
  --end
  refine t_one rfl rfl (fun K hK => ?_)
  go_simp
  refine (limit_mid [_, _, _, _] H5.out.drew n).mono ?_
  rintro e w6 ⟨rfl, h6⟩
  dsimp only
  refine hK _ _ ⟨st_row (h6.blk 0 _ _ rfl).1, h6.cell 2 _ _ _ rfl 2 _ rfl, trivial⟩ ?_
  clear hK
  --ordt y
  (refine' t_yield _ rfl rfl rfl _ _; rotate_left; (intro w' hSw; obtain ⟨s0, s1, s2⟩ := hSw; go_simp; with_reducible rfl); simp only [Act.put, List.setIfInBounds_toArray, List.set_cons_zero, List.set_cons_succ])
  --end
  refine t_one rfl rfl (fun K hK => ?_)
  have c0 := h6.cell 1 _ _ _ rfl 0 _ rfl
  have c1 := h6.cell 1 _ _ _ rfl 1 _ rfl
  have c2 := h6.cell 1 _ _ _ rfl 2 _ rfl
  have c3 := h6.cell 1 _ _ _ rfl 3 _ rfl
  have c4 := h6.cell 1 _ _ _ rfl 4 _ rfl
  have f0 := h6.frozen 1 _ _ _ rfl 0
  have f1 := h6.frozen 1 _ _ _ rfl 1
  have f2 := h6.frozen 1 _ _ _ rfl 2
  have f3 := h6.frozen 1 _ _ _ rfl 3
  have f4 := h6.frozen 1 _ _ _ rfl 4
  have h7 := h6.store5 [_] (.slice bS (S.limit n).st.length kS) (.slice bC (S.limit n).ca.length kC) (.int .i64 (S.limit n).taken) (.int .i64 (S.limit n).power) (.bool (S.limit n).off)
  have H7 := Lib.hid h7
  clear h6 h7 H5
  go_simp
  refine hK _ _ ⟨st_row (H7.out.blk 0 _ _ rfl).1, H7.out.cell 2 _ _ _ rfl 2 _ rfl, trivial⟩ ?_
  clear hK
  --ordt y
  (refine' t_yield _ rfl rfl rfl _ _; rotate_left; (intro w' hSw; obtain ⟨s0, s1, s2⟩ := hSw; go_simp; with_reducible rfl); simp only [Act.put, List.setIfInBounds_toArray, List.set_cons_zero, List.set_cons_succ])
  --end
  refine t_done ?_
  go_wp2_with fail
  refine bodyPost_ret (results_st2 rfl _ _ (W.heap.size + 1 + 1) _ rfl (H7.out.blk 1 _ _ rfl).1 rfl) rfl ?_
  exact DoV.of [_, _, _, _] H7.out
end Go.Proofs.Ytjbjhjlfcbhaiaa
namespace Go.Proofs.Ytjbjhjlfcbhaiaa
open Go.RowKit
attribute [local go_sem] Oper.semAt_some setRow_alloc_at setRow_alloc_past setRow_drew
set_option maxRecDepth 100000 in
set_option maxHeartbeats 4000000 in
theorem do_crash {w W : World} {rs : List (Res w.heap.size)} {g : Nat} {S : Dv} {uS uC : Value} (h : Has w W (DevR _ g S :: StR _ uS uC S :: rs)) (x : CallD) (hK : RdL w 1 intL x.kv x.keep) (hlen : x.keep.length ≤ 1000000) (hlow : ∀ k ∈ blksL x.kv x.keep, k < w.heap.size) (hm : (vb x.what).tmod 9 = 7) :
    Calls Try.prog 28 #[pv g, .agg (stCells uS uC S), .agg (callL x).toArray] W (DoV w rs g (S.crash x.keep)) := by
  have ok := ok_has h (.head _)
  have hin := h.st (.tail _ (.head _))
  obtain ⟨⟨aS, cS, rfl, _⟩, ⟨aC, cC, rfl, _⟩, _, _⟩ := hin
  obtain ⟨what, at_, n, b, kv, keep⟩ := x
  dsimp only at hm hK hlen hlow
  have HK := Lib.hid hK
  obtain ⟨ak, ck, rfl, _⟩ := hK
  unfold stCells callL
  have h1 := (((h.alloc (.cells #[.slice aS S.st.length cS, .slice aC S.ca.length cC, .int .i64 S.taken, .int .i64 S.power, .bool S.off] 57)).allocAt (.cells #[.int .u8 (vb what), .int .i64 at_, .int .i64 n, .int .u8 (vb b), .slice ak keep.length ck] 63) (W.heap.size + 1) (by simp)).allocAt (.cells #[.slice none 0 0, .slice none 0 0, .int .i64 0, .int .i64 0, .bool false] 57) (W.heap.size + 1 + 1) (by simp))
  have hF := ref_crash (h1.st (.tail _ (.tail _ (.tail _ (.tail _ (.head _)))))) keep (HK.out.below h1.hB) hlen ok
  unfold stCells at hF
  have HF := Lib.hid hF
  have H1 := Lib.hid h1
  have HLOW := Lib.hid hlow
  clear h hF h1 ok hlow
  go_enter Try.func28, Try.ntmps28
  go_wp2_with fail
  refine HF.out.mono ?_
  clear HF
  rintro e w4 hr
  obtain ⟨bS, kS, bC, kC, rfl, h4⟩ := H1.out.stMid [_, _, _, _] hr
  clear hr H1
  have h5 := h4.alloc (.cells #[.slice bS (S.crash keep).st.length kS, .slice bC (S.crash keep).ca.length kC, .int .i64 (S.crash keep).taken, .int .i64 (S.crash keep).power, .bool (S.crash keep).off] 57)
  have H5 := Lib.hid h5
  clear h4 h5
  go_wp2_with fail
  have hu := Try.underlying57
  refine wp_region_ordT (fun w' => w'.rangeAt w4.heap.size 0 (stL (.slice bS (S.crash keep).st.length kS) (.slice bC (S.crash keep).ca.length kC) (S.crash keep)) ∧ w'.cell? ⟨W.heap.size + 1, 4, none⟩ = some (.slice ak keep.length ck) ∧ True) (OrdT.takes [0, 1, 2, 3, 5] (.one 4 (.take 6 (.one 7 (.take 8 .done))))) (by kernel_rfl) (by kernel_rfl) ⟨st_row (H5.out.drew.blk 0 _ _ rfl).1, H5.out.drew.cell 2 _ _ _ rfl 4 _ rfl, trivial⟩ ?_
  unfold OrdT.takes
  refine t_load w4.heap.size 0 (stL (.slice bS (S.crash keep).st.length kS) (.slice bC (S.crash keep).ca.length kC) (S.crash keep)) _ _ _ rfl rfl rfl rfl rfl (fun w' hSw => hSw.1) hu rfl (stL_size _ _ _) ?_
  simp only [Act.put, List.setIfInBounds_toArray, List.set_cons_zero, List.set_cons_succ, stL_arr]
  --ordt myym
  (refine' t_move _ _ rfl rfl rfl rfl _ _; rotate_left; (go_simp; with_reducible rfl); simp only [Act.put, List.setIfInBounds_toArray, List.set_cons_zero, List.set_cons_succ])
  iterate 2 (refine' t_yield _ rfl rfl rfl _ _; rotate_left; (intro w' hSw; obtain ⟨s0, s1, s2⟩ := hSw; go_simp; with_reducible rfl); simp only [Act.put, List.setIfInBounds_toArray, List.set_cons_zero, List.set_cons_succ])
  (refine' t_move _ _ rfl rfl rfl rfl _ _; rotate_left; (go_simp; with_reducible rfl); simp only [Act.put, List.setIfInBounds_toArray, List.set_cons_zero, List.set_cons_succ])
  --end
  refine t_one rfl rfl (fun K hK => ?_)
  go_simp
  refine (crash_low [_, _, _, _] H5.out.drew (.slice ak keep.length ck) keep (HK.out.below H5.out.drew.hB) hlen HLOW.out).mono ?_
  rintro e w6 ⟨rfl, h6⟩
  dsimp only
  refine hK _ _ ⟨st_row (h6.blk 0 _ _ rfl).1, h6.cell 2 _ _ _ rfl 4 _ rfl, trivial⟩ ?_
  clear hK
  --ordt y
  (refine' t_yield _ rfl rfl rfl _ _; rotate_left; (intro w' hSw; obtain ⟨s0, s1, s2⟩ := hSw; go_simp; with_reducible rfl); simp only [Act.put, List.setIfInBounds_toArray, List.set_cons_zero, List.set_cons_succ])
  --end
  refine t_one rfl rfl (fun K hK => ?_)
  have c0 := h6.cell 1 _ _ _ rfl 0 _ rfl
  have c1 := h6.cell 1 _ _ _ rfl 1 _ rfl
  have c2 := h6.cell 1 _ _ _ rfl 2 _ rfl
  have c3 := h6.cell 1 _ _ _ rfl 3 _ rfl
  have c4 := h6.cell 1 _ _ _ rfl 4 _ rfl
  have f0 := h6.frozen 1 _ _ _ rfl 0
  have f1 := h6.frozen 1 _ _ _ rfl 1
  have f2 := h6.frozen 1 _ _ _ rfl 2
  have f3 := h6.frozen 1 _ _ _ rfl 3
  have f4 := h6.frozen 1 _ _ _ rfl 4
  have h7 := h6.store5 [_] (.slice bS (S.crash keep).st.length kS) (.slice bC (S.crash keep).ca.length kC) (.int .i64 (S.crash keep).taken) (.int .i64 (S.crash keep).power) (.bool (S.crash keep).off)
  have H7 := Lib.hid h7
  clear h6 h7 H5
  go_simp
  refine hK _ _ ⟨st_row (H7.out.blk 0 _ _ rfl).1, H7.out.cell 2 _ _ _ rfl 4 _ rfl, trivial⟩ ?_
  clear hK
  --ordt y
  (refine' t_yield _ rfl rfl rfl _ _; rotate_left; (intro w' hSw; obtain ⟨s0, s1, s2⟩ := hSw; go_simp; with_reducible rfl); simp only [Act.put, List.setIfInBounds_toArray, List.set_cons_zero, List.set_cons_succ])
  --end
  refine t_done ?_
  go_wp2_with fail
  refine bodyPost_ret (results_st2 rfl _ _ (W.heap.size + 1 + 1) _ rfl (H7.out.blk 1 _ _ rfl).1 rfl) rfl ?_
  exact DoV.of [_, _, _, _] H7.out
end Go.Proofs.Ytjbjhjlfcbhaiaa
namespace Go.Proofs.Ytjbjhjlfcbhaiaa
open Go.RowKit
attribute [local go_sem] Oper.semAt_some setRow_alloc_at setRow_alloc_past setRow_drew
set_option maxRecDepth 100000 in
set_option maxHeartbeats 4000000 in
theorem do_ask {w W : World} {rs : List (Res w.heap.size)} {g : Nat} {S : Dv} {uS uC : Value} (h : Has w W (DevR _ g S :: StR _ uS uC S :: rs)) (x : CallD) (hm : (vb x.what).tmod 9 = 8) :
    Calls Try.prog 28 #[pv g, .agg (stCells uS uC S), .agg (callL x).toArray] W (DoV w rs g S) := by
  have hin := h.st (.tail _ (.head _))
  obtain ⟨⟨aS, cS, rfl, _⟩, ⟨aC, cC, rfl, _⟩, _, _⟩ := hin
  obtain ⟨what, at_, n, b, kv, keep⟩ := x
  dsimp only at hm
  unfold stCells callL
  have h1 := (((h.alloc (.cells #[.slice aS S.st.length cS, .slice aC S.ca.length cC, .int .i64 S.taken, .int .i64 S.power, .bool S.off] 57)).allocAt (.cells #[.int .u8 (vb what), .int .i64 at_, .int .i64 n, .int .u8 (vb b), kv] 63) (W.heap.size + 1) (by simp)).allocAt (.cells #[.slice none 0 0, .slice none 0 0, .int .i64 0, .int .i64 0, .bool false] 57) (W.heap.size + 1 + 1) (by simp))
  have H1 := Lib.hid h1
  have hu := Try.underlying57
  clear h h1
  go_enter Try.func28, Try.ntmps28
  go_wp2_with fail
  have h2 := H1.out.drew
  have HSK : Hid (∀ w' {l2 : List (Res w.heap.size)} {r1 r2 : Res w.heap.size}, Has w w' (r1 :: r2 :: Blk _ W.heap.size (.cells #[.slice aS S.st.length cS, .slice aC S.ca.length cC, .int .i64 S.taken, .int .i64 S.power, .bool S.off] 57) :: l2) → w'.rangeAt W.heap.size 0 (stL (.slice aS S.st.length cS) (.slice aC S.ca.length cC) S) ∧ (w'.cell? ⟨W.heap.size, 0, none⟩ = some (.slice aS S.st.length cS) ∧ w'.cell? ⟨W.heap.size, 1, none⟩ = some (.slice aC S.ca.length cC)) ∧ (w'.cell? ⟨W.heap.size, 2, none⟩ = some (.int .i64 S.taken) ∧ w'.cell? ⟨W.heap.size, 4, none⟩ = some (.bool S.off))) := fun w' {l2 r1 r2} h =>
    ⟨st_row (h.blk 2 _ _ rfl).1, ⟨h.cell 2 _ _ _ rfl 0 _ rfl, h.cell 2 _ _ _ rfl 1 _ rfl⟩, ⟨h.cell 2 _ _ _ rfl 2 _ rfl, h.cell 2 _ _ _ rfl 4 _ rfl⟩⟩
  refine wp_region_ordZ (fun w' => w'.rangeAt W.heap.size 0 (stL (.slice aS S.st.length cS) (.slice aC S.ca.length cC) S) ∧ (w'.cell? ⟨W.heap.size, 0, none⟩ = some (.slice aS S.st.length cS) ∧ w'.cell? ⟨W.heap.size, 1, none⟩ = some (.slice aC S.ca.length cC)) ∧ (w'.cell? ⟨W.heap.size, 2, none⟩ = some (.int .i64 S.taken) ∧ w'.cell? ⟨W.heap.size, 4, none⟩ = some (.bool S.off)))
    (OrdT.takes [0, 1, 3, 4, 5] (.one 2 (OrdT.takes [6, 7, 8, 10, 11] (.one 9 (OrdT.takes [12, 13, 14, 15, 17, 18, 19] (.one 16 (OrdT.takes [20, 21, 22, 23, 25, 26, 27] (.one 24 (OrdT.takes [28, 29] (.one 30 (.take 31 .done))))))))))) (by kernel_rfl) (by kernel_rfl) (HSK.out _ h2) (fun wz hz => ?_)
  rw [← hz] at h2
  have H2 := Lib.hid h2
  clear h2 H1 hz
  unfold OrdT.takes
  refine t_load W.heap.size 0 (stL (.slice aS S.st.length cS) (.slice aC S.ca.length cC) S) _ _ _ rfl rfl rfl rfl rfl (fun w' hSw => hSw.1) hu rfl (stL_size _ _ _) ?_
  simp only [Act.put, List.setIfInBounds_toArray, List.set_cons_zero, List.set_cons_succ, stL_arr]
  --ordt m yyy
  (refine' t_move _ _ rfl rfl rfl rfl _ _; rotate_left; (go_simp; with_reducible rfl); simp only [Act.put, List.setIfInBounds_toArray, List.set_cons_zero, List.set_cons_succ])
  iterate 3 (refine' t_yield _ rfl rfl rfl _ _; rotate_left; (intro w' hSw; obtain ⟨s0, s1, s2⟩ := hSw; go_simp; with_reducible rfl); simp only [Act.put, List.setIfInBounds_toArray, List.set_cons_zero, List.set_cons_succ])
  --end
  refine t_one rfl rfl (fun K hK => ?_)
  go_simp
  refine (pending_has H2.out (.tail _ (.tail _ (.tail _ (.head _))))).mono ?_
  rintro e w6 ⟨rfl, rfl⟩
  dsimp only
  refine hK _ _ (HSK.out _ H2.out) ?_
  clear hK
  unfold OrdT.takes
  --ordt ymmyy
  (refine' t_yield _ rfl rfl rfl _ _; rotate_left; (intro w' hSw; obtain ⟨s0, s1, s2⟩ := hSw; go_simp; with_reducible rfl); simp only [Act.put, List.setIfInBounds_toArray, List.set_cons_zero, List.set_cons_succ])
  iterate 2 (refine' t_move _ _ rfl rfl rfl rfl _ _; rotate_left; (go_simp; with_reducible rfl); simp only [Act.put, List.setIfInBounds_toArray, List.set_cons_zero, List.set_cons_succ])
  iterate 2 (refine' t_yield _ rfl rfl rfl _ _; rotate_left; (intro w' hSw; obtain ⟨s0, s1, s2⟩ := hSw; go_simp; with_reducible rfl); simp only [Act.put, List.setIfInBounds_toArray, List.set_cons_zero, List.set_cons_succ])
  --end
  refine t_one rfl rfl (fun K hK => ?_)
  go_simp
  refine (taken_has H2.out (.tail _ (.tail _ (.tail _ (.head _))))).mono ?_
  rintro e w6 ⟨rfl, rfl⟩
  dsimp only
  refine hK _ _ (HSK.out _ H2.out) ?_
  clear hK
  unfold OrdT.takes
  --ordt yymmyyy
  iterate 2 (refine' t_yield _ rfl rfl rfl _ _; rotate_left; (intro w' hSw; obtain ⟨s0, s1, s2⟩ := hSw; go_simp; with_reducible rfl); simp only [Act.put, List.setIfInBounds_toArray, List.set_cons_zero, List.set_cons_succ])
  iterate 2 (refine' t_move _ _ rfl rfl rfl rfl _ _; rotate_left; (go_simp; with_reducible rfl); simp only [Act.put, List.setIfInBounds_toArray, List.set_cons_zero, List.set_cons_succ])
  iterate 3 (refine' t_yield _ rfl rfl rfl _ _; rotate_left; (intro w' hSw; obtain ⟨s0, s1, s2⟩ := hSw; go_simp; with_reducible rfl); simp only [Act.put, List.setIfInBounds_toArray, List.set_cons_zero, List.set_cons_succ])
  --end
  refine t_one rfl rfl (fun K hK => ?_)
  go_simp
  refine (on_has H2.out (.tail _ (.tail _ (.tail _ (.head _))))).mono ?_
  rintro e w6 ⟨rfl, rfl⟩
  dsimp only
  refine hK _ _ (HSK.out _ H2.out) ?_
  clear hK
  unfold OrdT.takes
  --ordt yymmyyy
  iterate 2 (refine' t_yield _ rfl rfl rfl _ _; rotate_left; (intro w' hSw; obtain ⟨s0, s1, s2⟩ := hSw; go_simp; with_reducible rfl); simp only [Act.put, List.setIfInBounds_toArray, List.set_cons_zero, List.set_cons_succ])
  iterate 2 (refine' t_move _ _ rfl rfl rfl rfl _ _; rotate_left; (go_simp; with_reducible rfl); simp only [Act.put, List.setIfInBounds_toArray, List.set_cons_zero, List.set_cons_succ])
  iterate 3 (refine' t_yield _ rfl rfl rfl _ _; rotate_left; (intro w' hSw; obtain ⟨s0, s1, s2⟩ := hSw; go_simp; with_reducible rfl); simp only [Act.put, List.setIfInBounds_toArray, List.set_cons_zero, List.set_cons_succ])
  --end
  refine t_one rfl rfl (fun K hK => ?_)
  go_simp
  refine (sectors_has H2.out (.tail _ (.tail _ (.tail _ (.head _))))).mono ?_
  rintro e w6 ⟨rfl, rfl⟩
  dsimp only
  refine hK _ _ (HSK.out _ H2.out) ?_
  clear hK
  unfold OrdT.takes
  --ordt yy
  iterate 2 (refine' t_yield _ rfl rfl rfl _ _; rotate_left; (intro w' hSw; obtain ⟨s0, s1, s2⟩ := hSw; go_simp; with_reducible rfl); simp only [Act.put, List.setIfInBounds_toArray, List.set_cons_zero, List.set_cons_succ])
  --end
  refine t_one rfl rfl (fun K hK => ?_)
  have h6 := H2.out
  have c0 := h6.cell 0 _ _ _ rfl 0 _ rfl
  have c1 := h6.cell 0 _ _ _ rfl 1 _ rfl
  have c2 := h6.cell 0 _ _ _ rfl 2 _ rfl
  have c3 := h6.cell 0 _ _ _ rfl 3 _ rfl
  have c4 := h6.cell 0 _ _ _ rfl 4 _ rfl
  have f0 := h6.frozen 0 _ _ _ rfl 0
  have f1 := h6.frozen 0 _ _ _ rfl 1
  have f2 := h6.frozen 0 _ _ _ rfl 2
  have f3 := h6.frozen 0 _ _ _ rfl 3
  have f4 := h6.frozen 0 _ _ _ rfl 4
  have h7 := h6.store5 [] (.slice aS S.st.length cS) (.slice aC S.ca.length cC) (.int .i64 S.taken) (.int .i64 S.power) (.bool S.off)
  have H7 := Lib.hid h7
  clear h6 h7
  go_simp
  refine hK _ _ (HSK.out _ H7.out) ?_
  clear hK
  --ordt y
  (refine' t_yield _ rfl rfl rfl _ _; rotate_left; (intro w' hSw; obtain ⟨s0, s1, s2⟩ := hSw; go_simp; with_reducible rfl); simp only [Act.put, List.setIfInBounds_toArray, List.set_cons_zero, List.set_cons_succ])
  --end
  refine t_done ?_
  go_wp2_with fail
  refine bodyPost_ret (results_st2 rfl _ _ (W.heap.size + 1 + 1) _ rfl (H7.out.blk 0 _ _ rfl).1 rfl) rfl ?_
  exact DoV.of [_, _, _] H7.out
end Go.Proofs.Ytjbjhjlfcbhaiaa
namespace Go.Proofs.Ytjbjhjlfcbhaiaa
open Go.RowKit
/-- the state behind a call -/
def CallD.next (x : CallD) (S : Dv) : Dv :=
  if (vb x.what).tmod 9 = 4 then S else if (vb x.what).tmod 9 = 5 then S.flush else if (vb x.what).tmod 9 = 6 then S.limit x.n else if (vb x.what).tmod 9 = 7 then S.crash x.keep else if (vb x.what).tmod 9 = 8 then S else S.write x.at_ x.sec
theorem do_any {w W : World} {rs : List (Res w.heap.size)} {g : Nat} {S : Dv} {uS uC : Value} (h : Has w W (DevR _ g S :: StR _ uS uC S :: rs)) (x : CallD) (hK : RdL w 1 intL x.kv x.keep) (hlen : x.keep.length ≤ 1000000) :
    Calls Try.prog 28 #[pv g, .agg (stCells uS uC S), .agg (callL x).toArray] W (DoV w rs g (x.next S)) := by
  unfold CallD.next
  split
  · exact do_read h x ‹_›
  split
  · exact do_flush h x ‹_›
  split
  · exact do_limit h x ‹_›
  split
  · exact do_crash h x hK hlen (hK.lt (fun _ => rfl) (by decide)) ‹_›
  split
  · exact do_ask h x ‹_›
  · refine do_write h x ?_
    have h1 := vb_nonneg x.what
    have h2 : (vb x.what).tmod 9 = vb x.what % 9 := Int.tmod_eq_emod_of_nonneg h1
    omega
end Go.Proofs.Ytjbjhjlfcbhaiaa
