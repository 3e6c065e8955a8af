/- The walk of put: writes on a device, some of them with a flush. -/
import Derived.Test.YtjbjhjlfcbhaiaaDevHas
import Derived.Test.YtjbjhjlfcbhaiaaDvMath
import Derived.Test.YtjbjhjlfcbhaiaaFilled
import Derived.Test.YtjbjhjlfcbhaiaaOrd
namespace Go.Proofs.Ytjbjhjlfcbhaiaa
open Go.RowKit
attribute [local go_sem] Oper.semAt_some
structure PutV where
  at_ : UInt8
  b : UInt8
  fl : Bool
def putL (p : PutV) : List Value := [.int .u8 (vb p.at_), .int .u8 (vb p.b), .bool p.fl]
theorem putL_len (p : PutV) : (putL p).length = 3 := rfl
/-- the sector of a put -/
def PutV.sec (p : PutV) : Int := vb p.at_ % 64
def PutV.val (p : PutV) : Sector := fillS p.at_ p.b
def Dv.put1 (S : Dv) (p : PutV) : Dv := if p.fl then (S.push p.sec p.val).stable else S.push p.sec p.val
def Dv.puts (S : Dv) (l : List PutV) : Dv := l.foldl Dv.put1 S
theorem Dv.puts_take (S : Dv) (l : List PutV) (k : Nat) (p : PutV) (h : l[k]? = some p) : S.puts (l.take (k + 1)) = (S.puts (l.take k)).put1 p := by
  unfold puts; rw [List.take_add_one, h]; simp
theorem PutV.sec_ge (p : PutV) : 0 ≤ p.sec := by unfold PutV.sec; have := vb_nonneg p.at_; omega
theorem PutV.sec_lt (p : PutV) : p.sec < 64 := by unfold PutV.sec; have := vb_nonneg p.at_; omega
/-- a device on which so many more puts can be made -/
structure Dv.Roomy (S : Dv) (n : Nat) : Prop where
  on : S.off = false
  pw : S.power < 0
  tk : S.taken + n < 1000000000000
  rm : S.ca.length + n < 400
  st : S.st.length = 64
theorem Dv.Roomy.free {S : Dv} {n : Nat} (h : S.Roomy n) : S.Free := ⟨h.on, by have := h.pw; omega, by have := h.tk; omega, by have := h.rm; omega⟩
theorem Dv.put1_roomy {S : Dv} {n : Nat} (h : S.Roomy (n + 1)) (p : PutV) : (S.put1 p).Roomy n := by
  have h1 := h.pw
  have h2 := h.tk
  have h3 := h.rm
  unfold put1
  split
  · exact ⟨h.on, by simp [stable, push]; omega, by simp [stable, push]; omega, by simp [stable]; omega, by simp [stable, push, flushL_length]; exact h.st⟩
  · exact ⟨h.on, by simp [push]; omega, by simp [push]; omega, by simp [push]; omega, h.st⟩
theorem Dv.puts_roomy {l : List PutV} : ∀ {S : Dv} {n : Nat}, S.Roomy (l.length + n) → (S.puts l).Roomy n := by
  induction l with
  | nil => intro S n h; simpa [puts] using h
  | cons p l ih =>
    intro S n h
    have : (S.put1 p).Roomy (l.length + n) := Dv.put1_roomy (by rw [show l.length + n + 1 = (p :: l).length + n by simp; omega]; exact h) p
    exact ih this
theorem put_sz (w : World) : (sizeOf 34).run Try.prog w = .ok 3 w := by kernel_rfl
theorem run_index_put (sb o n cap i : Nat) (h : i < n) (w : World) : (Instr.indexAt 22 (.slice (some ⟨sb, o, none⟩) n cap) (.int .i64 (i : Int))).run Try.prog w = .ok (.pointer (some ⟨sb, o + i * 3, none⟩)) w := by
  have h1 : (0 : Int) ≤ i ∧ (i : Int) < n := by omega
  simp only [Instr.indexAt, asIntOf, Sem.run_bind, Sem.run_pure, Result.andThen_ok, run_underlying Try.underlying22, if_pos h1, put_sz, Addr.add_lit, Int.toNat_natCast]
theorem RdL.put {W : World} {v : Value} {l : List PutV} (h : RdL W 3 putL v l) (i : Nat) (p : PutV) (hp : l[i]? = some p) : ∃ b o cap, v = .slice (some ⟨b, o, none⟩) l.length cap ∧
    W.cell? ⟨b, o + i * 3, none⟩ = some (.int .u8 (vb p.at_)) ∧ W.cell? ⟨b, o + i * 3 + 1, none⟩ = some (.int .u8 (vb p.b)) ∧ W.cell? ⟨b, o + i * 3 + 2, none⟩ = some (.bool p.fl) := by
  obtain ⟨b, o, cap, hv, hr⟩ := h.elem putL_len i p hp
  exact ⟨b, o, cap, hv, hr 0 _ rfl, hr 1 _ rfl, hr 2 _ rfl⟩
theorem rem64i (c : UInt8) : IntKind.i64.wrap ((vb c).tmod 64) = vb c % 64 := by
  rw [Int.tmod_eq_emod_of_nonneg (vb_nonneg c)]
  exact IntWalk.i64_in _ (by have := vb_nonneg c; omega)
theorem rem64 (c : UInt8) : IntKind.u8.wrap ((vb c).tmod 64) = vb c % 64 := by
  rw [Int.tmod_eq_emod_of_nonneg (vb_nonneg c), IntKind.wrap_u8]
  have := vb_nonneg c; omega
set_option maxRecDepth 100000 in
set_option maxHeartbeats 2000000 in
theorem put_gen {w W : World} {rs : List (Res w.heap.size)} {g : Nat} {S : Dv} (h : Has w W (DevR _ g S :: rs)) (v : Value) (l : List PutV) (hv : ∀ T W', Has w W' (DevR _ g T :: rs) → RdL W' 3 putL v l) (hl : l.length ≤ 100000) (hS : S.Roomy l.length) :
    Calls Try.prog 13 #[pv g, v] W fun e w' => e = .returned (.bool true) ∧ Has w w' (DevR _ g (S.puts l) :: rs) := by
  have hv' := hv _ _ h
  obtain ⟨a, cap, rfl, _⟩ := hv'
  have HV := Lib.hid hv
  have h0 : Has w W (DevR _ g (S.puts (l.take 0)) :: rs) := h
  clear hv h
  go_enter Try.func13, Try.ntmps13
  go_wp2
  go_loopw [5] (fun i wr => ∃ k : Nat, k ≤ l.length ∧ i = .int .i64 (k : Int) ∧ Has w wr (DevR _ g (S.puts (l.take k)) :: rs)) (fun i _ => l.length - (intOf i).toNat)
  case atStart => exact ⟨0, Nat.zero_le _, rfl, h0⟩
  case round =>
    obtain ⟨k, hk, rfl, hH⟩ := hrel
    clear h0
    by_cases hlt : k < l.length
    · obtain ⟨p, hp⟩ : ∃ p, l[k]? = some p := ⟨_, List.getElem?_eq_getElem hlt⟩
      have HT := Lib.hid (Dv.puts_take S l k p hp)
      obtain ⟨b, o, cap', hvb, c0, c1, c2⟩ := (HV.out _ _ hH).put k p hp
      injection hvb with hvb _ hcap
      subst hcap
      subst hvb
      have hR : (S.puts (l.take k)).Roomy (l.length - k) := Dv.puts_roomy (by rw [List.length_take, Nat.min_eq_left hk, Nat.add_sub_cancel' hk]; exact hS)
      obtain ⟨T, hT⟩ : ∃ T, T = S.puts (l.take k) := ⟨_, rfl⟩
      rw [← hT] at hH hR HT
      have HP := Lib.hid hp
      clear hT hp
      obtain ⟨X, hX⟩ : ∃ X, X = fillS p.at_ p.b := ⟨_, rfl⟩
      have hf := hR.free
      have hwr := Dv.write_go hf p.sec_ge (by rw [hR.st]; exact p.sec_lt) p.val
      have hwe := Dv.writeE_go hf p.sec_ge (by rw [hR.st]; exact p.sec_lt)
      have HW : Hid (∀ W', Has w W' (DevR _ g T :: rs) → Calls Try.prog 21 #[pv g, .int .i64 (IntKind.i64.wrap ((vb p.at_).tmod 64)), .agg (sec X)] W' fun e w' => e = .returned (.int .i64 0) ∧ Has w w' (DevR _ g (T.push p.sec p.val) :: rs)) := fun W' h' => by
        rw [hX]
        have := write_has h' p.sec p.val
        rw [hwr, hwe] at this
        rw [rem64i]
        exact this
      have hoff : (T.push p.sec p.val).off = false := hR.on
      have HFL : Hid (∀ W', Has w W' (DevR _ g (T.push p.sec p.val) :: rs) → Calls Try.prog 19 #[pv g] W' fun e w' => e = .returned (.int .i64 0) ∧ Has w w' (DevR _ g (T.push p.sec p.val).stable :: rs)) := fun W' h' => by
        have := flush_has h'
        rwa [(Dv.flush_go hoff).1, (Dv.flush_go hoff).2] at this
      have hki : (k : Int) < (l.length : Int) := by omega
      have hix := fun w => run_index_put b o l.length cap k hlt w
      have HH := Lib.hid hH
      have HF : Hid (∀ W', Calls Try.prog 14 #[.int .u8 (vb p.at_), .int .u8 (vb p.b)] W' fun e w' => e = .returned (.agg (sec X)) ∧ Below W'.heap.size W' w') := fun W' => by rw [hX]; exact filled_any p.at_ p.b W'
      have HC : Hid (∀ T W', Has w W' (DevR _ g T :: rs) → W'.cell? ⟨b, o + k * 3, none⟩ = some (.int .u8 (vb p.at_)) ∧ W'.cell? ⟨b, o + k * 3 + 1, none⟩ = some (.int .u8 (vb p.b)) ∧ W'.cell? ⟨b, o + k * 3 + 2, none⟩ = some (.bool p.fl)) := fun T' W' hB => by
        obtain ⟨b', o', cap', hvb, d0, d1, d2⟩ := (HV.out _ _ hB).put k p HP.out
        injection hvb with hvb _ _
        injection hvb with hvb
        injection hvb with e1 e2
        subst e1 e2
        exact ⟨d0, d1, d2⟩
      clear hwr hwe hoff hR hf hH hX
      cases hfl : p.fl
      · have HP1 := Lib.hid (show T.put1 p = if p.fl then (T.push p.sec p.val).stable else T.push p.sec p.val from rfl)
        rw [hfl] at HP1 c2 HC
        clear hfl
        go_wp2
        refine wp_region_ord (fun w' => w'.cell? ⟨b, o + k * 3, none⟩ = some (.int .u8 (vb p.at_)) ∧ w'.cell? ⟨b, o + k * 3 + 1, none⟩ = some (.int .u8 (vb p.b)) ∧ w'.cell? ⟨b, o + k * 3 + 2, none⟩ = some (.bool false)) [(0, false), (1, false), (2, false), (3, false), (4, false), (5, false), (6, false), (7, false), (8, false), (9, false), (10, false), (11, false), (12, false), (13, false), (14, false), (15, false), (16, false), (17, false), (18, true), (19, true), (20, false), (21, false), (22, false), (23, false), (24, false), (25, false), (26, false), (27, false), (28, false), (29, false), (30, false), (31, false), (32, false)] (by kernel_rfl) (by kernel_rfl) ⟨c0, c1, c2⟩ ?_
        --ord mmmyyyyymmyyymmyyy
        iterate 3 (refine ord_move _ rfl rfl rfl rfl ?_; simp only [Act.put, List.setIfInBounds_toArray, List.set_cons_zero, List.set_cons_succ])
        iterate 5 (refine' ord_yield _ rfl rfl rfl _ _; rotate_left; (intro w' hSw; obtain ⟨s0, s1, s2⟩ := hSw; go_simp; with_reducible rfl); simp only [Act.put, List.setIfInBounds_toArray, List.set_cons_zero, List.set_cons_succ])
        iterate 2 (refine ord_move _ rfl rfl rfl rfl ?_; simp only [Act.put, List.setIfInBounds_toArray, List.set_cons_zero, List.set_cons_succ])
        iterate 3 (refine' ord_yield _ rfl rfl rfl _ _; rotate_left; (intro w' hSw; obtain ⟨s0, s1, s2⟩ := hSw; go_simp; with_reducible rfl); simp only [Act.put, List.setIfInBounds_toArray, List.set_cons_zero, List.set_cons_succ])
        iterate 2 (refine ord_move _ rfl rfl rfl rfl ?_; simp only [Act.put, List.setIfInBounds_toArray, List.set_cons_zero, List.set_cons_succ])
        iterate 3 (refine' ord_yield _ rfl rfl rfl _ _; rotate_left; (intro w' hSw; obtain ⟨s0, s1, s2⟩ := hSw; go_simp; with_reducible rfl); simp only [Act.put, List.setIfInBounds_toArray, List.set_cons_zero, List.set_cons_succ])
        --end
        refine ord_step rfl rfl (fun K hK => ?_)
        go_simp
        refine (HF.out _).mono ?_
        rintro e w2 ⟨rfl, hB2⟩
        have h2 := HH.out.drew.below hB2
        dsimp only
        refine hK _ _ (HC.out _ _ h2) ?_
        clear hK
        refine ord_step rfl rfl (fun K hK => ?_)
        go_simp
        refine (HW.out _ h2).mono ?_
        rintro e w3 ⟨rfl, h3⟩
        dsimp only
        refine hK _ _ (HC.out _ _ h3) ?_
        clear hK
        --ord ymmmyyymsssyy
        (refine' ord_yield _ rfl rfl rfl _ _; rotate_left; (intro w' hSw; obtain ⟨s0, s1, s2⟩ := hSw; go_simp; with_reducible rfl); simp only [Act.put, List.setIfInBounds_toArray, List.set_cons_zero, List.set_cons_succ])
        iterate 3 (refine ord_move _ rfl rfl rfl rfl ?_; simp only [Act.put, List.setIfInBounds_toArray, List.set_cons_zero, List.set_cons_succ])
        iterate 3 (refine' ord_yield _ rfl rfl rfl _ _; rotate_left; (intro w' hSw; obtain ⟨s0, s1, s2⟩ := hSw; go_simp; with_reducible rfl); simp only [Act.put, List.setIfInBounds_toArray, List.set_cons_zero, List.set_cons_succ])
        (refine ord_move _ rfl rfl rfl rfl ?_; simp only [Act.put, List.setIfInBounds_toArray, List.set_cons_zero, List.set_cons_succ])
        iterate 3 (refine ord_skip rfl rfl rfl ?_; simp only [Act.put, List.setIfInBounds_toArray, List.set_cons_zero, List.set_cons_succ])
        iterate 2 (refine' ord_yield _ rfl rfl rfl _ _; rotate_left; (intro w' hSw; obtain ⟨s0, s1, s2⟩ := hSw; go_simp; with_reducible rfl); simp only [Act.put, List.setIfInBounds_toArray, List.set_cons_zero, List.set_cons_succ])
        --end
        refine ord_done ?_
        all_goals
          go_wp2
          go_roundw
          case rel => exact ⟨k + 1, by omega, by go_num, by rw [HT.out, HP1.out]; first | exact h4 | exact h3⟩
          case measure => simp [intOf]; omega
      · have HP1 := Lib.hid (show T.put1 p = if p.fl then (T.push p.sec p.val).stable else T.push p.sec p.val from rfl)
        rw [hfl] at HP1 c2 HC
        clear hfl
        go_wp2
        first | (go_region_held3 (fun w' => w'.cell? ⟨b, o + k * 3, none⟩ = some (.int .u8 (vb p.at_)) ∧ w'.cell? ⟨b, o + k * 3 + 1, none⟩ = some (.int .u8 (vb p.b)) ∧ w'.cell? ⟨b, o + k * 3 + 2, none⟩ = some (.bool true)) (first | exact ⟨c0, c1, c2⟩ | exact HC.out _ _ h4 | exact HC.out _ _ h3 | exact HC.out _ _ h2) (first | (go_at_call 14; refine (HF.out _).mono ?_; rintro e w2 ⟨rfl, hB2⟩; have h2 := HH.out.drew.below hB2) | (go_at_call 21; refine (HW.out _ h2).mono ?_; rintro e w3 ⟨rfl, h3⟩) | (go_at_call 19; refine (HFL.out _ h3).mono ?_; rintro e w4 ⟨rfl, h4⟩))) | fail
        all_goals
          go_wp2
          go_roundw
          case rel => exact ⟨k + 1, by omega, by go_num, by rw [HT.out, HP1.out]; first | exact h4 | exact h3⟩
          case measure => simp [intOf]; omega
    · have hkk : k = l.length := by omega
      rw [hkk, List.take_length] at hH
      have HH := Lib.hid hH
      clear hH hkk
      go_wp2
      go_ret
      exact ⟨rfl, HH.out⟩
theorem put_any {w W : World} {rs : List (Res w.heap.size)} {g : Nat} {S : Dv} (h : Has w W (DevR _ g S :: rs)) (v : Value) (l : List PutV) (hv : RdL w 3 putL v l) (hl : l.length ≤ 100000) (hS : S.Roomy l.length) :
    Calls Try.prog 13 #[pv g, v] W fun e w' => e = .returned (.bool true) ∧ Has w w' (DevR _ g (S.puts l) :: rs) :=
  put_gen h v l (fun _ _ h' => hv.below h'.hB) hl hS
end Go.Proofs.Ytjbjhjlfcbhaiaa
