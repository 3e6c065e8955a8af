/- The walk of the statement DeviceKnown. -/
import Derived.Test.YtjbjhjlfcbhaiaaPwMath
import Derived.Test.YtjbjhjlfcbhaiaaLawWhole
import Derived.Test.YtjbjhjlfcbhaiaaOrdT
import Derived.Test.YtjbjhjlfcbhaiaaAwake6
namespace Go.Proofs.Ytjbjhjlfcbhaiaa
open Go.RowKit
attribute [local go_sem] Oper.semAt_some setRow_alloc_at
attribute [local go_sem high] run_eql_sector run_neq_sector
attribute [local go_sem] secL_arr
def kX (A : Sector) : List Sector := zst.set 5 A
def kY (A : Sector) : List Sector := (kX A).set 6 A
theorem kX_len (A : Sector) : (kX A).length = 64 := by simp [kX, zst]
theorem kY_len (A : Sector) : (kY A).length = 64 := by simp [kY, kX_len]
/-- behind the first write and its flush -/
theorem kn1 (A : Sector) : (Dv.new 64).write 5 A = (Dv.new 64).push 5 A ∧ (Dv.new 64).writeE 5 = 0 := ⟨Dv.write_go (Dv.new_free 64) (by decide) (by rw [new64_len]; decide) _, Dv.writeE_go (Dv.new_free 64) (by decide) (by rw [new64_len]; decide)⟩
theorem kn2 (A : Sector) : ((Dv.new 64).push 5 A).flush = bsD (kX A) 1 ∧ ((Dv.new 64).push 5 A).flushE = 0 := ⟨rfl, rfl⟩
theorem bsD_free (X : List Sector) (t : Int) (ht : t < 1000) : (bsD X t).Free := ⟨rfl, by simp [bsD], by simp [bsD]; omega, by simp [bsD]⟩
theorem kn3 (A B : Sector) : (bsD (kX A) 1).write 5 B = (bsD (kX A) 1).push 5 B ∧ (bsD (kX A) 1).writeE 5 = 0 :=
  ⟨Dv.write_go (bsD_free _ _ (by decide)) (by decide) (by show (5 : Int) < ((kX A).length : Int); rw [kX_len]; decide) _, Dv.writeE_go (bsD_free _ _ (by decide)) (by decide) (by show (5 : Int) < ((kX A).length : Int); rw [kX_len]; decide)⟩
theorem kn4 (A B : Sector) : ({ st := ((bsD (kX A) 1).push 5 B).st, ca := [], taken := ((bsD (kX A) 1).push 5 B).taken, power := -1, off := false } : Dv) = bsD (kX A) 2 := rfl
theorem kn_read (X : List Sector) (t : Int) (n : Nat) (hn : n < 64) (hX : X.length = 64) (A : Sector) (hA : X[n]? = some A) : (bsD X t).readV n = .tuple #[.agg (sec A), .int .i64 0] := by
  have hat : (bsD X t).at n = 0 := Dv.at_ok rfl (by omega) (by show (n : Int) < (X.length : Int); omega)
  unfold Dv.readV
  rw [hat, if_pos rfl, bsD_look, Int.toNat_natCast, List.getD_eq_getElem?_getD, hA]; rfl
theorem kn5 (A : Sector) : (bsD (kX A) 2).readV 5 = .tuple #[.agg (sec A), .int .i64 0] := kn_read _ _ 5 (by decide) (kX_len A) A (by simp [kX, zst])
/-- with power for one write more -/
def kL (X : List Sector) : Dv := { st := X, ca := [], taken := 2, power := 1, off := false }
theorem kn6 (X : List Sector) : (bsD X 2).limit 1 = kL X ∧ limitE 1 = 0 := ⟨rfl, rfl⟩
def kM (X : List Sector) (A : Sector) : Dv := { st := X, ca := [(6, A)], taken := 3, power := 0, off := false }
theorem kn7 (X : List Sector) (hX : X.length = 64) (A : Sector) : (kL X).write 6 A = kM X A ∧ (kL X).writeE 6 = 0 := by
  have hf : (kL X).Free := ⟨rfl, by simp [kL], by simp [kL], by simp [kL]⟩
  have hs : (6 : Int) < ((kL X).st.length : Int) := by show (6 : Int) < (X.length : Int); omega
  exact ⟨(Dv.write_go hf (by decide) hs A).trans rfl, Dv.writeE_go hf (by decide) hs⟩
def kN (X : List Sector) (A : Sector) : Dv := { st := X, ca := [(6, A)], taken := 3, power := 0, off := true }
theorem kn8 (X : List Sector) (hX : X.length = 64) (A B : Sector) : (kM X A).write 6 B = kN X A ∧ (kM X A).writeE 6 = 13 := by
  have hat : (kM X A).at 6 = 0 := Dv.at_ok rfl (by decide) (by show (6 : Int) < (X.length : Int); omega)
  unfold Dv.write Dv.writeE
  rw [if_neg (by simp [hat]), if_pos (.inl rfl), if_neg (by simp [hat]), if_pos (.inl rfl)]
  exact ⟨rfl, rfl⟩
theorem kn9 (X : List Sector) (A : Sector) : (kN X A).readV 6 = .tuple #[.agg (sec zsec), .int .i64 13] := rfl
theorem kn10 (X : List Sector) (A : Sector) : (kN X A).crashE [0] = 0 ∧ (kN X A).crash [0] = bsD (X.set 6 A) 3 := ⟨rfl, rfl⟩
theorem kn11 (A : Sector) : (bsD (kY A) 3).readV 6 = .tuple #[.agg (sec A), .int .i64 0] := kn_read _ _ 6 (by decide) (kY_len A) A (by simp [kY, kX, zst])
theorem kn12 (X : List Sector) : (bsD X 3).crashE [0] = 7 ∧ (bsD X 3).crash [0] = bsD X 3 := ⟨rfl, rfl⟩
theorem kn13 (X : List Sector) (hX : X.length = 64) : (bsD X 3).writeE 64 = 7 := by
  have hat : (bsD X 3).at 64 = 7 := by
    unfold Dv.at
    rw [if_neg (by simp [bsD]), if_pos]
    right; show (X.length : Int) ≤ 64; omega
  unfold Dv.writeE
  rw [if_pos (by simp [hat]), hat]
theorem ints_block {w W : World} {rs : List (Res w.heap.size)} {g b : Nat} {S : Dv} (h : Has w W (DevR _ g S :: rs)) (hb : Blk _ b (.cells #[.int .i64 0] 3) ∈ rs) :
    Calls Try.prog 16 #[pv g, .slice (some ⟨b, 0, none⟩) 1 1] W fun e w' => e = .returned (.int .i64 (S.crashE [0])) ∧ Has w w' (DevR _ g (S.crash [0]) :: rs) := by
  obtain ⟨F, ⟨rfl, hk⟩, hF⟩ := (h.mem (.tail _ hb))
  refine (crash_has h (.slice (some ⟨b, 0, none⟩) 1 1) [0] (rdl_ints (l := [0]) hk (by intro j v hv; simpa [flat, intL] using hv) 1) (by decide) (fun k hk => ?_))
  simp [blks, Value.ownBlock] at hk
  subst hk
  refine .inr ⟨_, hb, ?_⟩
  rintro F2 ⟨rfl, _⟩
  simp
set_option maxRecDepth 100000 in
set_option maxHeartbeats 4000000 in
theorem known_gen (A B : Sector) (H1 : ∀ w : World, Calls Try.prog 22 #[] w fun e w' => e = .returned (.agg (sec A)) ∧ Below w.heap.size w w')
    (H2 : ∀ w : World, Calls Try.prog 23 #[] w fun e w' => e = .returned (.agg (sec B)) ∧ Below w.heap.size w w') (w : World) :
    Calls Try.prog 6 #[] w fun e w' => e = .returned (.bool true) ∧ Below w.heap.size w w' := by
  have HAW := Lib.hid awake_any
  have HA1 := Lib.hid H1
  have HA2 := Lib.hid H2
  clear H1 H2
  have h0 := Has.start w
  go_enter Try.func6, Try.ntmps6
  go_wp2_with fail
  refine (new_has h0 64 (by decide) (by decide)).mono ?_
  rintro e w1 ⟨g, rfl, h1⟩
  go_wp2_with fail
  refine (HAW.out w1).mono ?_
  rintro e w2 ⟨rfl, hB⟩
  have h2 := h1.below hB
  clear hB h1 h0
  go_wp2_with fail
  refine (HA1.out w2).mono ?_
  rintro e w3 ⟨rfl, hB⟩
  have h3 := h2.below hB
  clear hB h2
  go_wp2_with fail
  have c1 := write_has h3 5 A
  rw [(kn1 A).1, (kn1 A).2] at c1
  refine c1.mono ?_
  clear c1
  rintro e w4 ⟨rfl, h4⟩
  clear h3
  go_wp2_with fail
  have c1 := flush_has h4
  rw [(kn2 A).1, (kn2 A).2] at c1
  refine c1.mono ?_
  clear c1
  rintro e w5 ⟨rfl, h5⟩
  clear h4
  go_wp2_with fail
  refine (HA2.out w5).mono ?_
  rintro e w6 ⟨rfl, hB⟩
  have h6 := h5.below hB
  clear hB h5
  go_wp2_with fail
  have c1 := write_has h6 5 B
  rw [(kn3 A B).1, (kn3 A B).2] at c1
  refine c1.mono ?_
  clear c1
  rintro e w7 ⟨rfl, h7⟩
  clear h6
  go_wp2_with fail
  have c1 := crash_nil [] h7
  refine c1.mono ?_
  clear c1
  rintro e w8 ⟨rfl, h8'⟩
  have h8 : Has w w8 [DevR _ g (bsD (kX A) 2)] := h8'
  clear h7 h8'
  go_wp2_with fail
  have c1 := read_has h8 (.head _) 5
  rw [kn5] at c1
  refine c1.mono ?_
  clear c1
  rintro e w9 ⟨rfl, h9⟩
  clear h8
  go_wp2_with (first | (with_reducible refine wpList_alloc_sector rfl rfl ?_) | ((with_reducible refine wpList_store_sector rfl _ _ rfl w9.heap.size A zsec ?_ ?_ ?_ ?_); rfl; rfl; exact heap_alloc_new _ _))
  have h10 := h9.alloc (.cells (sec A) 31)
  have b1 := h10.blk 0 _ _ rfl
  have l1 : ∀ n : Near (w9.alloc (.cells (sec A) 31)), n.w.rangeAt w9.heap.size 0 (secL A) := fun n => n.range (rangeAt_row b1.1 _ _ (fun j v hv => by simpa [secL] using hv))
  have L1 := Lib.hid l1
  have H10 := Lib.hid h10
  have q1 := seqB_self' A
  clear b1 l1 h9 h10
  refine wp_region_near (by kernel_rfl) (by kernel_rfl) ?_
  repeat (first | go_big_quiet_skip | (go_big_quiet_want; first
    | ((with_reducible refine near_load _ _ rfl w9.heap.size 0 (secL A) _ ?_ L1.out Try.underlying31 rfl (secL_size A) ?_); rfl; simp only [Act.put, List.setIfInBounds_toArray, List.set_cons_zero, List.set_cons_succ, secL_arr]; go_big_quiet_on)
    | (go_big_quiet_op; first | go_big_quiet_on | go_big_quiet_call (first | (go_at_call 22; exact near_call _ (HA1.out _))))))
  refine wpQuiet_nil ?_
  rintro _ ⟨nq, rfl⟩
  have h11 := H10.out.below nq.h
  clear L1 H10
  have hXl := kX_len A
  have HkY : Hid (kY A = (kX A).set 6 A) := rfl
  obtain ⟨X, hX⟩ : ∃ X, X = kX A := ⟨_, rfl⟩
  rw [← hX] at h11 hXl HkY
  have HXl := Lib.hid hXl
  clear hX hXl
  go_wp2_with fail
  have c1 := limit_mid [_] h11 1
  rw [(kn6 X).1, (kn6 X).2] at c1
  refine c1.mono ?_
  clear c1
  rintro e w12 ⟨rfl, h12⟩
  clear h11
  go_wp2_with fail
  refine (HA1.out w12).mono ?_
  rintro e w13 ⟨rfl, hB⟩
  have h13 := h12.below hB
  clear hB h12
  go_wp2_with fail
  have c1 := write_mid [_] h13 6 A
  rw [(kn7 X HXl.out A).1, (kn7 X HXl.out A).2] at c1
  refine c1.mono ?_
  clear c1
  rintro e w14 ⟨rfl, h14⟩
  clear h13
  go_wp2_with fail
  refine (HA2.out w14).mono ?_
  rintro e w15 ⟨rfl, hB⟩
  have h15 := h14.below hB
  clear hB h14
  go_wp2_with fail
  have c1 := write_mid [_] h15 6 B
  rw [(kn8 X HXl.out A B).1, (kn8 X HXl.out A B).2] at c1
  refine c1.mono ?_
  clear c1
  rintro e w16 ⟨rfl, h16⟩
  clear h15
  go_wp2_with fail
  have c1 := read_has h16 (.tail _ (.head _)) 6
  rw [kn9] at c1
  refine c1.mono ?_
  clear c1
  rintro e w17 ⟨rfl, h17⟩
  clear h16
  go_wp2_with fail
  have c1 := on_has h17 (.tail _ (.head _))
  rw [show (kN X A).off = true from rfl, Bool.not_true] at c1
  refine c1.mono ?_
  clear c1
  rintro e w18 ⟨rfl, rfl⟩
  have h18 := (h17.alloc (.cells #[.int .i64 0] 3)).perm (rs' := [DevR _ g (kN X A), Blk _ w18.heap.size (.cells #[.int .i64 0] 3), Blk _ w9.heap.size (.cells (sec A) 31)]) (by
    exact (List.perm_append_comm (l₁ := [Blk _ w18.heap.size _, Blk _ w9.heap.size _]) (l₂ := [DevR _ g (kN X A)])).trans (.refl _))
  have c1 := ints_block h18 (.head _)
  rw [(kn10 X A).1, (kn10 X A).2, ← HkY.out] at c1
  have HC := Lib.hid c1
  clear c1 h18 h17
  go_wp2_with fail
  refine HC.out.mono ?_
  rintro e w19 ⟨rfl, h19⟩
  clear HC
  go_wp2_with fail
  have c1 := read_has h19 (.head _) 6
  rw [kn11] at c1
  refine c1.mono ?_
  clear c1
  rintro e w20 ⟨rfl, h20⟩
  clear h19
  have b20 := (h20.blk 2 _ _ rfl).1
  have h21 := h20.setRow [_, _] (sec A)
  have H21 := Lib.hid h21
  clear h21 h20
  go_wp2_with (first | ((with_reducible refine wpList_store_sector rfl _ _ rfl w9.heap.size A A ?_ ?_ b20 ?_); rfl; rfl))
  clear b20
  obtain ⟨W21, hW21⟩ : ∃ W21, W21 = w20.setRow w9.heap.size (sec A) := ⟨_, rfl⟩
  rw [← hW21] at H21 ⊢
  clear hW21
  refine (new_none 63 (.inl (by decide))).mono ?_
  rintro e w22 ⟨rfl, hB⟩
  have h22 := H21.out.below hB
  clear hB H21
  go_wp2_with fail
  have HR : Hid (∀ {A' : Dv} {rs : List (Res w.heap.size)} W', Has w W' (DevR _ g A' :: rs) → Blk _ w9.heap.size (.cells (sec A) 31) ∈ rs → W'.rangeAt w9.heap.size 0 (secL A)) := fun W' h hm => by
    obtain ⟨F, ⟨rfl, hk⟩, hF⟩ := h.mem (.tail _ hm)
    exact rangeAt_row hk _ _ (fun j v hv => by simpa [secL] using hv)
  have hu := Try.underlying31
  have r0 := HR.out _ h22.drew (.tail _ (.head _))
  have hYl := kY_len A
  obtain ⟨Y, hY⟩ : ∃ Y, Y = kY A := ⟨_, rfl⟩
  rw [← hY] at h22 hYl
  have HYl := Lib.hid hYl
  have H22 := Lib.hid h22
  clear hY hYl h22 HkY
  refine wp_region_ordT (fun w' => w'.rangeAt w9.heap.size 0 (secL A) ∧ True ∧ True) (OrdT.takes [0, 1, 2, 3, 4, 5, 6, 7, 8, 9, 10, 11, 12, 13, 14, 15, 16, 17, 18, 19, 20, 21, 22, 23, 24, 25, 26, 27, 28, 29, 30, 31] (.one 32 (OrdT.takes [33, 34, 35, 36] (.one 37 (OrdT.takes [38, 39, 40, 41] (.one 42 (.one 43 (OrdT.takes [44, 45, 46, 47] (.one 48 (.one 49 (OrdT.takes [50, 51, 52] .done))))))))))) (by kernel_rfl) (by kernel_rfl) ⟨r0, trivial, trivial⟩ ?_
  unfold OrdT.takes
  --ordt mymmyymmyymmyymmyymmyymmyymmyym
  (refine' t_move _ _ rfl rfl rfl rfl _ _; rotate_left; (go_simp; with_reducible rfl); simp only [Act.put, List.setIfInBounds_toArray, List.set_cons_zero, List.set_cons_succ])
  (refine' t_yield _ rfl rfl rfl _ _; rotate_left; (intro w' hSw; obtain ⟨s0, s1, s2⟩ := hSw; go_simp; with_reducible rfl); simp only [Act.put, List.setIfInBounds_toArray, List.set_cons_zero, List.set_cons_succ])
  iterate 2 (refine' t_move _ _ rfl rfl rfl rfl _ _; rotate_left; (go_simp; with_reducible rfl); simp only [Act.put, List.setIfInBounds_toArray, List.set_cons_zero, List.set_cons_succ])
  iterate 2 (refine' t_yield _ rfl rfl rfl _ _; rotate_left; (intro w' hSw; obtain ⟨s0, s1, s2⟩ := hSw; go_simp; with_reducible rfl); simp only [Act.put, List.setIfInBounds_toArray, List.set_cons_zero, List.set_cons_succ])
  iterate 2 (refine' t_move _ _ rfl rfl rfl rfl _ _; rotate_left; (go_simp; with_reducible rfl); simp only [Act.put, List.setIfInBounds_toArray, List.set_cons_zero, List.set_cons_succ])
  iterate 2 (refine' t_yield _ rfl rfl rfl _ _; rotate_left; (intro w' hSw; obtain ⟨s0, s1, s2⟩ := hSw; go_simp; with_reducible rfl); simp only [Act.put, List.setIfInBounds_toArray, List.set_cons_zero, List.set_cons_succ])
  iterate 2 (refine' t_move _ _ rfl rfl rfl rfl _ _; rotate_left; (go_simp; with_reducible rfl); simp only [Act.put, List.setIfInBounds_toArray, List.set_cons_zero, List.set_cons_succ])
  iterate 2 (refine' t_yield _ rfl rfl rfl _ _; rotate_left; (intro w' hSw; obtain ⟨s0, s1, s2⟩ := hSw; go_simp; with_reducible rfl); simp only [Act.put, List.setIfInBounds_toArray, List.set_cons_zero, List.set_cons_succ])
  iterate 2 (refine' t_move _ _ rfl rfl rfl rfl _ _; rotate_left; (go_simp; with_reducible rfl); simp only [Act.put, List.setIfInBounds_toArray, List.set_cons_zero, List.set_cons_succ])
  iterate 2 (refine' t_yield _ rfl rfl rfl _ _; rotate_left; (intro w' hSw; obtain ⟨s0, s1, s2⟩ := hSw; go_simp; with_reducible rfl); simp only [Act.put, List.setIfInBounds_toArray, List.set_cons_zero, List.set_cons_succ])
  iterate 2 (refine' t_move _ _ rfl rfl rfl rfl _ _; rotate_left; (go_simp; with_reducible rfl); simp only [Act.put, List.setIfInBounds_toArray, List.set_cons_zero, List.set_cons_succ])
  iterate 2 (refine' t_yield _ rfl rfl rfl _ _; rotate_left; (intro w' hSw; obtain ⟨s0, s1, s2⟩ := hSw; go_simp; with_reducible rfl); simp only [Act.put, List.setIfInBounds_toArray, List.set_cons_zero, List.set_cons_succ])
  iterate 2 (refine' t_move _ _ rfl rfl rfl rfl _ _; rotate_left; (go_simp; with_reducible rfl); simp only [Act.put, List.setIfInBounds_toArray, List.set_cons_zero, List.set_cons_succ])
  iterate 2 (refine' t_yield _ rfl rfl rfl _ _; rotate_left; (intro w' hSw; obtain ⟨s0, s1, s2⟩ := hSw; go_simp; with_reducible rfl); simp only [Act.put, List.setIfInBounds_toArray, List.set_cons_zero, List.set_cons_succ])
  iterate 2 (refine' t_move _ _ rfl rfl rfl rfl _ _; rotate_left; (go_simp; with_reducible rfl); simp only [Act.put, List.setIfInBounds_toArray, List.set_cons_zero, List.set_cons_succ])
  iterate 2 (refine' t_yield _ rfl rfl rfl _ _; rotate_left; (intro w' hSw; obtain ⟨s0, s1, s2⟩ := hSw; go_simp; with_reducible rfl); simp only [Act.put, List.setIfInBounds_toArray, List.set_cons_zero, List.set_cons_succ])
  (refine' t_move _ _ rfl rfl rfl rfl _ _; rotate_left; (go_simp; with_reducible rfl); simp only [Act.put, List.setIfInBounds_toArray, List.set_cons_zero, List.set_cons_succ])
  --end
  refine t_load w9.heap.size 0 (secL A) _ _ _ rfl rfl rfl rfl rfl (fun w' hSw => hSw.1) hu rfl (secL_size A) ?_
  simp only [Act.put, List.setIfInBounds_toArray, List.set_cons_zero, List.set_cons_succ, secL_arr]
  refine t_one rfl rfl (fun K hK => ?_)
  go_simp
  refine (HA1.out _).mono ?_
  rintro e w23 ⟨rfl, hB⟩
  have h23 := H22.out.drew.below hB
  dsimp only
  refine hK _ _ ⟨HR.out _ h23 (.tail _ (.head _)), trivial, trivial⟩ ?_
  clear hK hB H22 r0
  --ordt yymm
  iterate 2 (refine' t_yield _ rfl rfl rfl _ _; rotate_left; (intro w' hSw; obtain ⟨s0, s1, s2⟩ := hSw; go_simp; with_reducible rfl); simp only [Act.put, List.setIfInBounds_toArray, List.set_cons_zero, List.set_cons_succ])
  iterate 2 (refine' t_move _ _ rfl rfl rfl rfl _ _; rotate_left; (go_simp; with_reducible rfl); simp only [Act.put, List.setIfInBounds_toArray, List.set_cons_zero, List.set_cons_succ])
  --end
  refine t_one rfl rfl (fun K hK => ?_)
  go_simp
  refine (taken_has h23 (.head _)).mono ?_
  rintro e w24 ⟨rfl, rfl⟩
  rw [show (bsD Y 3).taken = 3 from rfl]
  dsimp only
  refine hK _ _ ⟨HR.out _ h23 (.tail _ (.head _)), trivial, trivial⟩ ?_
  clear hK
  --ordt yymm
  iterate 2 (refine' t_yield _ rfl rfl rfl _ _; rotate_left; (intro w' hSw; obtain ⟨s0, s1, s2⟩ := hSw; go_simp; with_reducible rfl); simp only [Act.put, List.setIfInBounds_toArray, List.set_cons_zero, List.set_cons_succ])
  iterate 2 (refine' t_move _ _ rfl rfl rfl rfl _ _; rotate_left; (go_simp; with_reducible rfl); simp only [Act.put, List.setIfInBounds_toArray, List.set_cons_zero, List.set_cons_succ])
  --end
  refine t_one rfl rfl (fun K hK => ?_)
  go_simp
  have h25 := (h23.alloc (.cells #[.int .i64 0] 3)).perm (List.Perm.swap _ _ _)
  refine hK _ _ ⟨HR.out _ h25 (.tail _ (.tail _ (.head _))), trivial, trivial⟩ ?_
  clear hK h23
  refine t_one rfl rfl (fun K hK => ?_)
  go_simp
  have c1 := ints_block h25 (.head _)
  rw [(kn12 Y).1, (kn12 Y).2] at c1
  refine c1.mono ?_
  clear c1
  rintro e w26 ⟨rfl, h26⟩
  clear h25
  dsimp only
  refine hK _ _ ⟨HR.out _ h26 (.tail _ (.tail _ (.head _))), trivial, trivial⟩ ?_
  clear hK
  --ordt yymm
  iterate 2 (refine' t_yield _ rfl rfl rfl _ _; rotate_left; (intro w' hSw; obtain ⟨s0, s1, s2⟩ := hSw; go_simp; with_reducible rfl); simp only [Act.put, List.setIfInBounds_toArray, List.set_cons_zero, List.set_cons_succ])
  iterate 2 (refine' t_move _ _ rfl rfl rfl rfl _ _; rotate_left; (go_simp; with_reducible rfl); simp only [Act.put, List.setIfInBounds_toArray, List.set_cons_zero, List.set_cons_succ])
  --end
  refine t_one rfl rfl (fun K hK => ?_)
  go_simp
  refine (HA1.out _).mono ?_
  rintro e w27 ⟨rfl, hB⟩
  have h27 := h26.below hB
  dsimp only
  refine hK _ _ ⟨HR.out _ h27 (.tail _ (.tail _ (.head _))), trivial, trivial⟩ ?_
  clear hK hB h26
  refine t_one rfl rfl (fun K hK => ?_)
  go_simp
  have c1 := write_has h27 64 A
  rw [kn13 Y HYl.out] at c1
  refine c1.mono ?_
  clear c1
  rintro e w28 ⟨rfl, h28⟩
  clear h27
  dsimp only
  refine hK _ _ ⟨HR.out _ h28 (.tail _ (.tail _ (.head _))), trivial, trivial⟩ ?_
  clear hK
  --ordt yyy
  iterate 3 (refine' t_yield _ rfl rfl rfl _ _; rotate_left; (intro w' hSw; obtain ⟨s0, s1, s2⟩ := hSw; go_simp; with_reducible rfl); simp only [Act.put, List.setIfInBounds_toArray, List.set_cons_zero, List.set_cons_succ])
  --end
  refine t_done ?_
  have hB := h28.hB
  clear h28
  go_wp2
  go_ret
  exact ⟨rfl, hB⟩
theorem known_law6 (w : World) : Calls Try.prog 6 #[] w fun e w' => e = .returned (.bool true) ∧ Below w.heap.size w w' := known_gen secA secB ones_any twos_any w
end Go.Proofs.Ytjbjhjlfcbhaiaa
