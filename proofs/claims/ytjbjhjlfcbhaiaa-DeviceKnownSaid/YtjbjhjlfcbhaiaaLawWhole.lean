/- The walk of the statement DeviceWhole. -/
import Derived.Test.YtjbjhjlfcbhaiaaDevMid
import Derived.Test.YtjbjhjlfcbhaiaaCrMath
import Derived.Test.YtjbjhjlfcbhaiaaAwake6
namespace Go.Proofs.Ytjbjhjlfcbhaiaa
open Go.RowKit
attribute [local go_sem] Oper.semAt_some
theorem puts_flush_new (l : List PutV) : ((Dv.new 64).puts l).flush = bsD (wants l) l.length ∧ ((Dv.new 64).puts l).flushE = 0 := by
  have h := puts_new l l.length (Nat.le_refl _)
  rw [List.take_length] at h
  rw [h]
  refine ⟨?_, rfl⟩
  show ({ st := flushL (flushL (List.replicate 64 zsec) (wrs (l.take (lastK l l.length)))) (wrs (l.drop (lastK l l.length))), ca := [], taken := (l.length : Int), power := -1, off := false } : Dv) = _
  rw [← flushL_append']
  have : wrs (l.take (lastK l l.length)) ++ wrs (l.drop (lastK l l.length)) = wrs l := by
    unfold wrs
    rw [← List.map_append, List.take_append_drop]
  rw [this]; rfl
theorem bsD_look (X : List Sector) (t : Int) (i : Int) : (bsD X t).look i = X.getD i.toNat zsec := rfl
theorem bsD_look_new (l : List PutV) (hl : l.length ≤ 100) (t : Int) (i : Nat) : (bsD (wants l) t).look i = ((Dv.new 64).puts l).look i := by
  have hr : (Dv.new 64).Roomy l.length := new64_roomy (by omega)
  have h1 := Dv.look_stable (Dv.puts_ok (Dv.new_ok (n := 64) (by decide) (by decide)) l hr) i (by omega)
  have h2 := (puts_flush_new l).1
  have hoff : ((Dv.new 64).puts l).off = false := (Dv.puts_roomy (n := 0) (by simpa using hr)).on
  rw [(Dv.flush_go hoff).1] at h2
  rw [← h1, h2]; rfl
/-- a put without its flush -/
def unf (p : PutV) : PutV := { p with fl := false }
/-- puts, the first ones of which have lost their flush -/
def unfK (m : List PutV) (k : Nat) : List PutV := (m.take k).map unf ++ m.drop k
theorem unfK_len (m : List PutV) (k : Nat) : (unfK m k).length = m.length := by simp [unfK]; omega
theorem unfK_get (m : List PutV) (k : Nat) (hk : k < m.length) : (unfK m k)[k]? = m[k]? := by
  unfold unfK
  rw [List.getElem?_append_right (by simp; omega), List.getElem?_drop]
  congr 1; simp; omega
theorem unfK_set (m : List PutV) (k : Nat) (p : PutV) (hp : m[k]? = some p) : (unfK m k).set k (unf p) = unfK m (k + 1) := by
  have hk : k < m.length := (List.getElem?_eq_some_iff.1 hp).1
  have hpe : m[k] = p := (List.getElem?_eq_some_iff.1 hp).2
  unfold unfK
  rw [List.set_append_right _ _ (by simp; omega), List.drop_eq_getElem_cons hk]
  have : k - ((m.take k).map unf).length = 0 := by simp; omega
  rw [this, List.set_cons_zero, List.take_add_one, hp, Option.toList_some, List.map_append]
  simp
theorem unfK_all (m : List PutV) : unfK m m.length = m.map unf := by simp [unfK]
theorem wrs_unf (m : List PutV) : wrs (m.map unf) = wrs m := by
  unfold wrs
  rw [List.map_map]; rfl
theorem put_info : (Try.prog.info? 34).map (fun i => (i.zero, i.size, i.bytes)) = some (some (.agg #[.int .u8 0, .int .u8 0, .bool false]), 3, 3) := by kernel_rfl
theorem putL_one (p : PutV) : ∀ u ∈ putL p, u.oneCell' = true := by
  intro u hu
  simp [putL] at hu
  rcases hu with rfl | rfl | rfl <;> rfl
set_option maxRecDepth 100000 in
set_option maxHeartbeats 4000000 in
theorem whole_law (v v2 : Value) (l m : List PutV) (w : World) (hv : RdL w 3 putL v l) (hbig : l.length ≤ 9223372036854775807) (hv2 : RdL w 3 putL v2 m) (hbig2 : m.length ≤ 9223372036854775807) :
    Calls Try.prog 5 #[v, v2] w fun e w' => e = .returned (.bool true) ∧ Below w.heap.size w w' := by
  have hv' := hv
  have hv2' := hv2
  obtain ⟨a, cap, rfl, _⟩ := hv'
  obtain ⟨a2, cap2, rfl, _⟩ := hv2'
  have HAW := Lib.hid awake_any
  by_cases h60 : 60 < l.length
  · have hl1 : (60 : Int) < (l.length : Int) := by omega
    clear hv hv2
    go_enter Try.func5, Try.ntmps5
    go_wp2_with (go_at_call 11; refine (HAW.out _).mono ?_; rintro e w' ⟨rfl, hB⟩)
    go_ret
    exact ⟨rfl, hB⟩
  · have hl1 : (l.length : Int) ≤ 60 := by omega
    by_cases h60b : 60 < m.length
    · have hm1 : (60 : Int) < (m.length : Int) := by omega
      clear hv hv2
      go_enter Try.func5, Try.ntmps5
      go_wp2_with (go_at_call 11; refine (HAW.out _).mono ?_; rintro e w' ⟨rfl, hB⟩)
      go_ret
      exact ⟨rfl, hB⟩
    · have hm1 : (m.length : Int) ≤ 60 := by omega
      obtain ⟨vm, W1, hrun, hO, hn, hB1⟩ := run_copy_app putL_len putL_one 22 34 _ 3 Try.underlying22 put_info rfl (by decide) (by decide) w a2 m cap2 22 hv2 (by omega)
      have hbs := run_buildSlice0 22 34 Try.underlying22 (fun w => ⟨_, put_sz w⟩)
      have h1 : Has w W1 [OwnR _ 34 3 putL vm (unfK m 0)] := (Has.start w).more hB1 _ _ ⟨hO, rfl⟩ hn
      have H1 := Lib.hid h1
      have HV := Lib.hid hv
      obtain ⟨am, capm, rfl, _, _⟩ := hO.shape
      clear hv hv2 hbig hbig2 h60 h60b hO hn hB1 h1
      go_enter Try.func5, Try.ntmps5
      go_wp2_with (at_builtin; (with_reducible refine wpList_append_eq rfl _ _ _ rfl _ _ _ _ ?_ ?_ hrun ?_); rfl; rfl)
      clear hrun hbs
      go_loopw [5] (fun i wr => ∃ k : Nat, k ≤ m.length ∧ i = .int .i64 (k : Int) ∧ Has w wr [OwnR _ 34 3 putL (.slice am m.length capm) (unfK m k)]) (fun i _ => m.length - (intOf i).toNat)
      case atStart => exact ⟨0, Nat.zero_le _, rfl, H1.out⟩
      case round =>
        obtain ⟨k, hk, rfl, hH⟩ := hrel
        by_cases hlt : k < m.length
        · obtain ⟨p, hp⟩ : ∃ p, m[k]? = some p := ⟨_, List.getElem?_eq_getElem hlt⟩
          obtain ⟨gm, cm, hvm, c2, f2, h2⟩ := hH.set1 [] putL_len k 2 p (unf p) (.bool false) ((unfK_get m k hlt).trans hp) (by decide) rfl
          rw [unfK_set m k p hp] at h2
          rw [unfK_len] at hvm
          injection hvm with hvm _ hcap
          subst hcap
          subst hvm
          have c2 : wr.cell? ⟨gm, k * 3 + 2, none⟩ = some (.bool p.fl) := c2
          have hix := fun w => run_index_put gm 0 m.length capm k hlt w
          simp only [Nat.zero_add] at hix
          have hki : (k : Int) < (m.length : Int) := by omega
          have H2 := Lib.hid h2
          clear hp h2 hH
          go_wp2
          go_roundw
          case rel => exact ⟨k + 1, by omega, by go_num, H2.out⟩
          case measure => simp [intOf]; omega
        · have hkk : k = m.length := by omega
          subst hkk
          rw [unfK_all] at hH
          have hr0 : (Dv.new 64).Roomy l.length := new64_roomy (by omega)
          have pf := puts_flush_new l
          have hu : ∀ p ∈ m.map unf, p.fl = false := by intro p hp; obtain ⟨q, _, rfl⟩ := List.mem_map.1 hp; rfl
          have hml : (m.map unf).length = m.length := by simp
          have hXl := wants_len l
          obtain ⟨X, hX⟩ : ∃ X, X = wants l := ⟨_, rfl⟩
          rw [← hX] at pf hXl
          have hr1 : (bsD X l.length).Roomy (m.map unf).length := bsD_roomy hXl (by omega) (by omega)
          have hp1 := bsD_puts X l.length (m.map unf) hu
          have hce := bcD_crashE X l.length (m.map unf)
          have hcr := bcD_crash X l.length (m.map unf)
          have hfl := bcD_flush X l.length (m.map unf)
          rw [hml] at hce hcr hfl
          obtain ⟨Y, hY⟩ : ∃ Y, Y = flushL X (wrs (m.map unf)) := ⟨_, rfl⟩
          have hYl : Y.length = 64 := by rw [hY, flushL_length]; exact hXl
          rw [← hY] at hcr hfl
          have hr2 : (bsD Y ((l.length : Int) + m.length)).Roomy (m.map unf).length := bsD_roomy hYl (by omega) (by omega)
          have hp2 := bsD_puts Y ((l.length : Int) + m.length) (m.map unf) hu
          have hbig : (m.map unf).length ≤ 100000 := by omega
          have Hhr0 := Lib.hid hr0
          have Hpf := Lib.hid pf
          have Hhr1 := Lib.hid hr1
          have Hhp1 := Lib.hid hp1
          have Hhce := Lib.hid hce
          have Hhcr := Lib.hid hcr
          have Hhfl := Lib.hid hfl
          have Hhr2 := Lib.hid hr2
          have Hhp2 := Lib.hid hp2
          have Hhbig := Lib.hid hbig
          have HhX := Lib.hid hX
          have HhXl := Lib.hid hXl
          have HhYl := Lib.hid hYl
          have HH := Lib.hid hH
          clear hr0 pf hu hml hr1 hp1 hce hcr hfl hr2 hp2 hX hY hXl hYl hbig hH H1
          go_wp2_with fail
          refine (new_has HH.out 64 (by decide) (by decide)).mono ?_
          rintro e w1 ⟨ga, rfl, h1⟩
          clear HH
          go_wp2_with fail
          refine (new_has h1 64 (by decide) (by decide)).mono ?_
          rintro e w2 ⟨gb, rfl, h2⟩
          clear h1
          go_wp2_with fail
          refine (new_has h2 64 (by decide) (by decide)).mono ?_
          rintro e w3 ⟨gc, rfl, h3⟩
          clear h2
          go_wp2_with fail
          refine (put_mid [_, _] h3 _ l HV.out (by omega) Hhr0.out).mono ?_
          rintro e w4 ⟨rfl, h4⟩
          clear h3
          go_wp2_with fail
          refine (put_mid [_] h4 _ l HV.out (by omega) Hhr0.out).mono ?_
          rintro e w5 ⟨rfl, h5⟩
          clear h4
          go_wp2_with fail
          refine (put_mid [] h5 _ l HV.out (by omega) Hhr0.out).mono ?_
          rintro e w6 ⟨rfl, h6⟩
          clear h5
          go_wp2_with fail
          have c1 := flush_mid [_, _] h6
          rw [Hpf.out.1, Hpf.out.2] at c1
          refine c1.mono ?_
          clear c1
          rintro e w7 ⟨rfl, h7⟩
          clear h6
          go_wp2_with fail
          have c1 := flush_mid [_] h7
          rw [Hpf.out.1, Hpf.out.2] at c1
          refine c1.mono ?_
          clear c1
          rintro e w8 ⟨rfl, h8⟩
          clear h7
          go_wp2_with fail
          have c1 := flush_mid [] h8
          rw [Hpf.out.1, Hpf.out.2] at c1
          refine c1.mono ?_
          clear c1
          rintro e w9 ⟨rfl, h9⟩
          clear h8
          go_wp2_with fail
          have c1 := put_own [_, _] h9 _ (m.map unf) (.tail _ (.tail _ (.head _))) Hhbig.out Hhr1.out
          rw [Hhp1.out] at c1
          refine c1.mono ?_
          clear c1
          rintro e w10 ⟨rfl, h10⟩
          clear h9
          go_wp2_with fail
          have c1 := put_own [_] h10 _ (m.map unf) (.tail _ (.tail _ (.head _))) Hhbig.out Hhr1.out
          rw [Hhp1.out] at c1
          refine c1.mono ?_
          clear c1
          rintro e w11 ⟨rfl, h11⟩
          clear h10
          obtain ⟨vI, W12, hmk, ⟨aI, cI, rfl⟩, h12⟩ := h11.makeInts .i64 .i64 m.length (by omega)
          have H12 := Lib.hid h12
          clear h12 h11
          go_wp2
          clear hmk
          go_loopw [13] (fun i wr => ∃ k : Nat, k ≤ m.length ∧ i = .int .i64 (k : Int) ∧ Has w wr [OwnR _ 3 1 intL (.slice aI m.length cI) (upI m.length k), DevR _ gc (bsD X l.length), DevR _ gb (bcD X l.length (m.map unf)), DevR _ ga (bcD X l.length (m.map unf)), OwnR _ 34 3 putL (.slice am m.length capm) (m.map unf)]) (fun i _ => m.length - (intOf i).toNat)
          case atStart => exact ⟨0, Nat.zero_le _, rfl, H12.out⟩
          case round =>
            obtain ⟨k, hk, rfl, hH⟩ := hrel
            by_cases hlt : k < m.length
            · have hg := upI_get m.length k k hlt
              rw [if_neg (by omega)] at hg
              obtain ⟨gI, cI', hvm, c2, f2, h2⟩ := hH.set1 [] intL_len k 0 0 (k : Int) (.int .i64 (k : Int)) hg (by decide) rfl
              rw [upI_set, Nat.mul_one, Nat.add_zero] at h2
              rw [Nat.mul_one, Nat.add_zero] at c2 f2
              rw [upI_len] at hvm
              injection hvm with hvm _ hcap
              subst hcap
              subst hvm
              have c2 : wr.cell? ⟨gI, k, none⟩ = some (.int .i64 0) := c2
              have hki : (k : Int) < (m.length : Int) := by omega
              have H2 := Lib.hid h2
              clear h2 hH hg
              go_wp2
              go_roundw
              case rel => exact ⟨k + 1, by omega, by go_num, H2.out⟩
              case measure => simp [intOf]; omega
            · have hkk : k = m.length := by omega
              subst hkk
              rw [upI_all] at hH
              go_wp2_with fail
              refine (diff_none hH (.tail _ (.tail _ (.tail _ (.head _)))) (.tail _ (.tail _ (.head _))) rfl (fun _ => rfl)).mono ?_
              rintro e w13 ⟨⟨ad, cd, rfl⟩, h13⟩
              clear hH
              go_wp2_with fail
              have c1 := crash_own [_, _, _] h13 _ _ (.head _) (by simp; omega)
              rw [Hhce.out, Hhcr.out] at c1
              refine c1.mono ?_
              clear c1
              rintro e w14 ⟨rfl, h14⟩
              clear h13
              go_wp2_with fail
              have c1 := flush_mid [_, _] h14
              rw [Hhfl.out, show (bcD X l.length (m.map unf)).flushE = 0 from rfl] at c1
              refine c1.mono ?_
              clear c1
              rintro e w15 ⟨rfl, h15⟩
              clear h14
              go_wp2_with fail
              refine (diff_none h15 (.tail _ (.tail _ (.tail _ (.head _)))) (.tail _ (.tail _ (.head _))) rfl (fun _ => rfl)).mono ?_
              rintro e w16 ⟨⟨ad2, cd2, rfl⟩, h16⟩
              clear h15
              go_wp2_with fail
              have c1 := put_own [_, _, _] h16 _ (m.map unf) (.tail _ (.tail _ (.tail _ (.head _)))) Hhbig.out Hhr2.out
              rw [Hhp2.out] at c1
              refine c1.mono ?_
              clear c1
              rintro e w17 ⟨rfl, h17⟩
              clear h16
              go_wp2_with fail
              refine (crash_nil [_, _, _] h17).mono ?_
              rintro e w18 ⟨rfl, h18⟩
              clear h17
              go_wp2_with fail
              have c1 := put_own [_] h18 _ (m.map unf) (.tail _ (.tail _ (.tail _ (.head _)))) Hhbig.out Hhr1.out
              rw [Hhp1.out] at c1
              refine c1.mono ?_
              clear c1
              rintro e w19 ⟨rfl, h19⟩
              clear h18
              go_wp2_with fail
              refine (crash_nil [_] h19).mono ?_
              rintro e w20 ⟨rfl, h20⟩
              clear h19
              go_wp2_with fail
              refine (diff_none h20 (.tail _ (.tail _ (.tail _ (.head _)))) (.tail _ (.tail _ (.head _))) rfl (fun _ => rfl)).mono ?_
              rintro e w21 ⟨⟨ad3, cd3, rfl⟩, h21⟩
              clear h20
              go_wp2_with fail
              refine (new_has h21 64 (by decide) (by decide)).mono ?_
              rintro e w22 ⟨gd, rfl, h22⟩
              clear h21
              go_wp2_with fail
              refine (put_mid [] h22 _ l HV.out (by omega) Hhr0.out).mono ?_
              rintro e w23 ⟨rfl, h23⟩
              clear h22
              have hll : X.length = ((Dv.new 64).puts l).st.length := by rw [HhXl.out]; exact (Dv.puts_roomy (n := 0) (by simpa using Hhr0.out)).st.symm
              have hlo : ∀ i : Nat, (bsD X ((l.length : Int) + (m.map unf).length)).look i = ((Dv.new 64).puts l).look i := fun i => by rw [HhX.out]; exact bsD_look_new l (by omega) _ i
              have HD := Lib.hid (diff_none h23 (.tail _ (.tail _ (.head _))) (.head _) hll hlo)
              have hB := h23.hB
              clear hll hlo h23
              go_wp2_with fail
              refine HD.out.mono ?_
              rintro e w24 ⟨⟨ad4, cd4, rfl⟩, h24⟩
              have hB := h24.hB
              clear h24
              go_wp2_with (go_at_call 11; refine (HAW.out _).mono ?_; rintro e w' ⟨rfl, hB6⟩)
              go_ret
              exact ⟨rfl, hB.trans (hB6.mono hB.size)⟩
end Go.Proofs.Ytjbjhjlfcbhaiaa
