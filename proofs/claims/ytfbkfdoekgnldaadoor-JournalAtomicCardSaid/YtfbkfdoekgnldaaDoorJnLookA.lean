/- The walks of the journal's record and stale. The walk of the journal's stale. Records in memory: a slice of them that a walk owns, appended to; what is found in a journal as a value. The walk of the journal's look. -/
import Derived.Test.YtfbkfdoekgnldaaDoorJnBase
import Derived.Test.YtfbkfdoekgnldaaDoorRefLim
import Derived.Test.YtfbkfdoekgnldaaDoorMapB
import Derived.Test.YtfbkfdoekgnldaaDoorAppL
import Derived.Deep.DeepCutAuto
namespace Go.Proofs.YtfbkfdoekgnldaaDoor
open Go.RowKit
open Lime
attribute [local go_sem] Oper.semAt_some setRow_alloc_at setRow_alloc_past setRow_drew
def recC (r : Rec) : Array Value := #[.int .i64 r.at_, .int .i64 r.kind, .string r.data]
theorem wp_region_ordJ {P : Program} {Q : Exit → Act → World → Prop} {id : Nat} {a : Act} {w : World} {l : List Oper} (S : World → Prop) (t : OrdT) (hm : P.follows .mixedOrders = true)
    (hs : (Region.noSelect l.toArray && ordT .any l.toArray (t.lst l.length) t (Array.replicate l.length false) && decide (t.size ≤ l.length)) = true) (hS : S w.drew) (h : ∀ wz, wz = w.drew → wpT P l.toArray S (NoPanic Q) t a wz) : (Code.region id l.toArray true).wp P Q a w :=
  wp_region_ordT S t hm hs hS (h _ rfl)
theorem Has.store3 {w W : World} (l1 : List (Res w.heap.size)) {l2 : List (Res w.heap.size)} {b : Nat} {x0 x1 x2 : Value} {t : TypeId} (h : Has w W (l1 ++ Blk _ b (.cells #[x0, x1, x2] t (0, 0)) :: l2)) (y0 y1 y2 : Value) :
    Has w (((W.setCell ⟨b, 0, none⟩ y0).setCell ⟨b, 1, none⟩ y1).setCell ⟨b, 2, none⟩ y2) (l1 ++ Blk _ b (.cells #[y0, y1, y2] t (0, 0)) :: l2) :=
  ((h.setCell l1 0 y0).setCell l1 1 y1).setCell l1 2 y2
theorem rec_size : (Tryd.prog.info? 67).map (·.size) = some 3 := by kernel_rfl
/-- two results: a record in a cell, and a value -/
theorem results_rec2 {fn : Func} {p q : Tmp} (h : fn.results = #[.cell p 67, .tmp q]) (tmps : Array Value) (w : World) (g : Nat) (cs : Array Value)
    (hp : tmps.getD p undef = .pointer (some ⟨g, 0, none⟩)) (hg : w.heap[g]? = some (.cells cs 67 (0, 0))) (hc : cs.size = 3) :
    (results fn tmps).run Tryd.prog w = .ok (.tuple #[.agg cs, tmps.getD q undef]) w := by
  have hp' : tmps[p]?.getD undef = .pointer (some ⟨g, 0, none⟩) := by simpa using hp
  have hl := run_loadVar_row (P := Tryd.prog) w g _ _ _ _ _ hg Tryd.underlying67 rfl (by rw [hc]; exact rec_size)
  simp [results, h, hp', asAddr, hl]
theorem byte_at (d : ByteArray) (k : Nat) (h : k < d.size) : ((d[k]).toNat : Int) = vb (byteAt d k) := (str_at d k h).symm
theorem wrap_byte (b : UInt8) : IntKind.i64.wrap (vb b) = vb b := byte_int b
theorem wrap_byte2 (b : UInt8) : IntKind.i64.wrap (vb b * 256) = vb b * 256 := IntWalk.i64_in _ (by have := vb_nonneg b; have := vb_lt b; omega)
theorem or_bytes (a b : UInt8) : bits .or .i64 (vb a) (vb b * 256) = vb a + 256 * vb b := by
  have h1 : (BitVec.ofInt 64 (vb a)).toNat = a.toNat := by
    unfold vb; rw [BitVec.ofInt_natCast, BitVec.toNat_ofNat]; exact Nat.mod_eq_of_lt (by have := a.toNat_lt; omega)
  have h2 : (BitVec.ofInt 64 (vb b * 256)).toNat = b.toNat <<< 8 := by
    have e : (vb b * (256 : Int) : Int) = Int.ofNat (b.toNat <<< 8) := by unfold vb; rw [Nat.shiftLeft_eq]; show _ = ((b.toNat * 2 ^ 8 : Nat) : Int); omega
    rw [e, show Int.ofNat (b.toNat <<< 8) = ((b.toNat <<< 8 : Nat) : Int) from rfl, BitVec.ofInt_natCast, BitVec.toNat_ofNat]; exact Nat.mod_eq_of_lt (by have := b.toNat_lt; rw [Nat.shiftLeft_eq]; omega)
  have h3 := Nat.shiftLeft_add_eq_or_of_lt (i := 8) (b := a.toNat) (by have := a.toNat_lt; omega) b.toNat
  show IntKind.i64.wrap ((BitVec.ofInt 64 (vb a) ||| BitVec.ofInt 64 (vb b * 256)).toNat : Int) = _
  rw [BitVec.toNat_or, h1, h2, Nat.or_comm, ← h3, Nat.shiftLeft_eq]
  have ha := a.toNat_lt
  have hb := b.toNat_lt
  unfold vb
  rw [show ((b.toNat * 2 ^ 8 + a.toNat : Nat) : Int) = (a.toNat : Int) + 256 * b.toNat by omega]
  exact IntWalk.i64_in _ (by omega)
set_option maxRecDepth 100000 in
set_option maxHeartbeats 4000000 in
theorem record_has {w W : World} {rs : List (Res w.heap.size)} {g : Nat} {S : Dv} (h : Has w W rs) (hr : DevR _ g S ∈ rs) (l : Lay) (hc : l.check = 0) (f : Fr) (hf : f.d.size ≤ 120) :
    Calls Tryd.prog 73 #[pv g, .agg #[.int .i64 l.first, .int .i64 l.size], .agg #[.int .i64 f.k, .int .u32 (vu f.q), .string f.d]] W fun e w' => ∃ r : Rec, e = .returned (.tuple #[.agg #[.int .i64 r.at_, .int .i64 r.kind, .string r.data], .bool (isRec S l f)]) ∧ (isRec S l f = true → r = recOf f.d) ∧ Has w w' rs := by
  obtain ⟨fk, fq, fd⟩ := f
  dsimp only at hf ⊢
  obtain ⟨B, hB⟩ : ∃ B, B = isRec S l ⟨fk, fq, fd⟩ := ⟨_, rfl⟩
  rw [← hB]
  have HB := Lib.hid hB
  have h3 := ((h.alloc (.cells #[.int .i64 l.first, .int .i64 l.size] 27)).allocAt (.cells #[.int .i64 fk, .int .u32 (vu fq), .string fd] 76) (W.heap.size + 1) (by simp)).allocAt (.cells #[.int .i64 0, .int .i64 0, .string ⟨#[]⟩] 67) (W.heap.size + 1 + 1) (by simp)
  have H3 := Lib.hid h3
  clear hB h3
  by_cases q : fk = 2 ∧ 3 ≤ fd.size ∧ fd.size ≤ 99
  · obtain ⟨rfl, q2, q3⟩ := q
    have i0 := byte_at fd 0 (by omega)
    have i1 := byte_at fd 1 (by omega)
    have i2 := byte_at fd 2 (by omega)
    obtain ⟨b0, hb0⟩ : ∃ b, b = byteAt fd 0 := ⟨_, rfl⟩
    obtain ⟨b1, hb1⟩ : ∃ b, b = byteAt fd 1 := ⟨_, rfl⟩
    obtain ⟨b2, hb2⟩ : ∃ b, b = byteAt fd 2 := ⟨_, rfl⟩
    rw [← hb0] at i0
    rw [← hb1] at i1
    rw [← hb2] at i2
    have z0 : 0 < fd.size := by omega
    have z1 : 1 < fd.size := by omega
    have z2 : 2 < fd.size := by omega
    have y1 : 1 < (fd.size : Int) := by omega
    have y2 : 2 < (fd.size : Int) := by omega
    have y3 : 3 ≤ (fd.size : Int) := by omega
    have HB0 := Lib.hid hb0
    have HB1 := Lib.hid hb1
    have HB2 := Lib.hid hb2
    clear hb0 hb1 hb2
    have w0 := wrap_byte b0
    have w1 := wrap_byte b1
    have w2 := wrap_byte b2
    have w3 := wrap_byte2 b1
    have w4 := or_bytes b0 b1
    obtain ⟨p, hp⟩ : ∃ p : Int, p = vb b0 + 256 * vb b1 := ⟨_, rfl⟩
    obtain ⟨k, hk⟩ : ∃ k : Int, k = vb b2 := ⟨_, rfl⟩
    rw [← hp] at w4
    have HP := Lib.hid hp
    have HK := Lib.hid hk
    rw [← hk] at i2 w2
    have d4 : decide ((fd.size : Int) < 3) = false := by simp; omega
    have d5 : decide (99 < (fd.size : Int)) = false := by simp; omega
    clear hp hk
    go_enter Tryd.func73, Tryd.ntmps73
    go_wp2_with fail
    refine wp_region_ordT (fun w' => w'.cell? ⟨W.heap.size + 1, 2, none⟩ = some (.string fd) ∧ True ∧ True) (OrdT.takes [0, 1, 2, 3, 4, 5, 6, 7, 8, 9, 10, 11, 12, 13, 14, 15, 16, 17] (.last 18)) (by kernel_rfl) (by kernel_rfl) ⟨H3.out.drew.cell 1 _ _ _ rfl 2 _ rfl, trivial, trivial⟩ ?_
    unfold OrdT.takes
    --ordt yyyyyyyyyyyyyyyyyy
    iterate 18 (refine' t_yield _ rfl rfl rfl _ _; rotate_left; (intro w' hSw; obtain ⟨s0, s1, s2⟩ := hSw; go_simp; with_reducible rfl); simp only [Act.put, List.setIfInBounds_toArray, List.set_cons_zero, List.set_cons_succ])
    --end
    refine t_last rfl rfl (fun K hK => ?_)
    go_simp
    refine hK _ _ (NoPanic.normal ?_)
    clear hK
    have h4 := ((h.alloc (.cells #[.int .i64 l.first, .int .i64 l.size] 27)).allocAt (.cells #[.int .i64 2, .int .u32 (vu fq), .string fd] 76) (W.heap.size + 1) (by simp)).allocAt (.cells #[.int .i64 p, .int .i64 k, .string (fd.extract 3 fd.size)] 67) (W.heap.size + 1 + 1) (by simp)
    have H4 := Lib.hid h4
    have HC := Lib.hid hc
    have HR := Lib.hid hr
    clear h h4 hc hr H3
    obtain ⟨n, hn⟩ : ∃ n : Nat, n = S.st.length := ⟨_, rfl⟩
    have HSZ : Hid (∀ W', Has w W' (Blk _ (W.heap.size + 1 + 1) (.cells #[.int .i64 p, .int .i64 k, .string (fd.extract 3 fd.size)] 67) :: Blk _ (W.heap.size + 1) (.cells #[.int .i64 2, .int .u32 (vu fq), .string fd] 76) :: Blk _ W.heap.size (.cells #[.int .i64 l.first, .int .i64 l.size] 27) :: rs) → (W'.cell? ⟨W.heap.size, 0, none⟩ = some (.int .i64 l.first) ∧ W'.cell? ⟨W.heap.size, 1, none⟩ = some (.int .i64 l.size)) ∧ (W'.cell? ⟨W.heap.size + 1 + 1, 0, none⟩ = some (.int .i64 p) ∧ W'.cell? ⟨W.heap.size + 1 + 1, 1, none⟩ = some (.int .i64 k) ∧ W'.cell? ⟨W.heap.size + 1 + 1, 2, none⟩ = some (.string (fd.extract 3 fd.size))) ∧ True) :=
      fun W' h => ⟨⟨h.cell 2 _ _ _ rfl 0 _ rfl, h.cell 2 _ _ _ rfl 1 _ rfl⟩, ⟨h.cell 0 _ _ _ rfl 0 _ rfl, h.cell 0 _ _ _ rfl 1 _ rfl, h.cell 0 _ _ _ rfl 2 _ rfl⟩, trivial⟩
    have HSEC : Hid (∀ W', Has w W' (Blk _ (W.heap.size + 1 + 1) (.cells #[.int .i64 p, .int .i64 k, .string (fd.extract 3 fd.size)] 67) :: Blk _ (W.heap.size + 1) (.cells #[.int .i64 2, .int .u32 (vu fq), .string fd] 76) :: Blk _ W.heap.size (.cells #[.int .i64 l.first, .int .i64 l.size] 27) :: rs) → Calls Tryd.prog 76 #[pv g] W' fun e w' => e = .returned (.int .i64 (n : Int)) ∧ w' = W') := fun W' h => by rw [hn]; exact sectors_has h (.tail _ (.tail _ (.tail _ HR.out)))
    have hB : B = (decide (p < (n : Int)) && !l.inside p && decide (0 < k)) := by
      rw [HB.out]
      unfold isRec
      have e : recOf fd = ⟨p, k, fd.extract 3 fd.size⟩ := by unfold recOf; rw [HP.out, HK.out, HB0.out, HB1.out, HB2.out]
      rw [e, ← hn]
      simp [q2, q3]
    have HBB := Lib.hid hB
    have HRC : Hid (recOf fd = ⟨p, k, fd.extract 3 fd.size⟩) := by unfold recOf; rw [HP.out, HK.out, HB0.out, HB1.out, HB2.out]; exact Lib.hid rfl
    have HIN := Lib.hid (fun W' => inside_any l p W' HC.out)
    obtain ⟨ins, hins⟩ : ∃ b, b = l.inside p := ⟨_, rfl⟩
    rw [← hins] at HIN HBB
    clear hn hB hins HB HB0 HB1 HB2 HP HK HC i0 i1 i2 z0 z1 z2 y1 y2 y3 w0 w1 w2 w3 w4 d4 d5
    go_wp2_with fail
    by_cases hlt : p < (n : Int)
    · cases ins
      · refine wp_region_ordJ (fun W' => (W'.cell? ⟨W.heap.size, 0, none⟩ = some (.int .i64 l.first) ∧ W'.cell? ⟨W.heap.size, 1, none⟩ = some (.int .i64 l.size)) ∧ (W'.cell? ⟨W.heap.size + 1 + 1, 0, none⟩ = some (.int .i64 p) ∧ W'.cell? ⟨W.heap.size + 1 + 1, 1, none⟩ = some (.int .i64 k) ∧ W'.cell? ⟨W.heap.size + 1 + 1, 2, none⟩ = some (.string (fd.extract 3 fd.size))) ∧ True) (OrdT.takes [0, 1, 2, 3] (.one 4 (OrdT.takes [5, 6, 7, 8, 9] (.one 10 (OrdT.takes [11, 12, 13, 14, 15, 16, 17] (.one 18 (.take 19 .done))))))) (by kernel_rfl) (by kernel_rfl) (HSZ.out _ H4.out.drew.drew) (fun wz hz => ?_)
        have h6 := H4.out.drew.drew
        rw [← hz] at h6
        have H6 := Lib.hid h6
        clear hz h6 H4
        unfold OrdT.takes
        --ordt yyym
        iterate 3 (refine' t_yield _ rfl rfl rfl _ _; rotate_left; (intro w' hSw; obtain ⟨s0, s1, s2⟩ := hSw; go_simp; with_reducible rfl); simp only [Act.put, List.setIfInBounds_toArray, List.set_cons_zero, List.set_cons_succ])
        (refine' t_move _ _ rfl rfl rfl rfl _ _; rotate_left; (go_simp; with_reducible rfl); simp only [Act.put, List.setIfInBounds_toArray, List.set_cons_zero, List.set_cons_succ])
        --end
        refine t_one rfl rfl (fun K hK => ?_)
        go_simp
        refine (HSEC.out _ H6.out).mono ?_
        rintro e w7 ⟨rfl, rfl⟩
        dsimp only
        refine hK _ _ (HSZ.out _ H6.out) ?_
        clear hK
        unfold OrdT.takes
        --ordt ym yyy
        (refine' t_yield _ rfl rfl rfl _ _; rotate_left; (intro w' hSw; obtain ⟨s0, s1, s2⟩ := hSw; go_simp; with_reducible rfl); simp only [Act.put, List.setIfInBounds_toArray, List.set_cons_zero, List.set_cons_succ])
        (refine' t_move _ _ rfl rfl rfl rfl _ _; rotate_left; (go_simp; with_reducible rfl); simp only [Act.put, List.setIfInBounds_toArray, List.set_cons_zero, List.set_cons_succ])
        iterate 3 (refine' t_yield _ rfl rfl rfl _ _; rotate_left; (intro w' hSw; obtain ⟨s0, s1, s2⟩ := hSw; go_simp; with_reducible rfl); simp only [Act.put, List.setIfInBounds_toArray, List.set_cons_zero, List.set_cons_succ])
        --end
        refine t_one rfl rfl (fun K hK => ?_)
        go_simp
        refine (HIN.out _).mono ?_
        rintro e w8 ⟨rfl, hB8⟩
        have h8 := H6.out.below hB8
        have H8 := Lib.hid h8
        clear h8 hB8 H6
        dsimp only
        refine hK _ _ (HSZ.out _ H8.out) ?_
        clear hK
        unfold OrdT.takes
        --ordt yym yyy y
        iterate 2 (refine' t_yield _ rfl rfl rfl _ _; rotate_left; (intro w' hSw; obtain ⟨s0, s1, s2⟩ := hSw; go_simp; with_reducible rfl); simp only [Act.put, List.setIfInBounds_toArray, List.set_cons_zero, List.set_cons_succ])
        (refine' t_move _ _ rfl rfl rfl rfl _ _; rotate_left; (go_simp; with_reducible rfl); simp only [Act.put, List.setIfInBounds_toArray, List.set_cons_zero, List.set_cons_succ])
        iterate 4 (refine' t_yield _ rfl rfl rfl _ _; rotate_left; (intro w' hSw; obtain ⟨s0, s1, s2⟩ := hSw; go_simp; with_reducible rfl); simp only [Act.put, List.setIfInBounds_toArray, List.set_cons_zero, List.set_cons_succ])
        --end
        have c0 := H8.out.cell 0 _ _ _ rfl 0 _ rfl
        have c1 := H8.out.cell 0 _ _ _ rfl 1 _ rfl
        have c2 := H8.out.cell 0 _ _ _ rfl 2 _ rfl
        have f0 := H8.out.frozen 0 _ _ _ rfl 0
        have f1 := H8.out.frozen 0 _ _ _ rfl 1
        have f2 := H8.out.frozen 0 _ _ _ rfl 2
        have H9 := Lib.hid (Has.store3 [] H8.out (.int .i64 p) (.int .i64 k) (.string (fd.extract 3 fd.size)))
        refine t_one rfl rfl (fun K hK => ?_)
        go_simp
        refine hK _ _ (HSZ.out _ H9.out) ?_
        clear hK c0 c1 c2 f0 f1 f2
        --ordt y
        (refine' t_yield _ rfl rfl rfl _ _; rotate_left; (intro w' hSw; obtain ⟨s0, s1, s2⟩ := hSw; go_simp; with_reducible rfl); simp only [Act.put, List.setIfInBounds_toArray, List.set_cons_zero, List.set_cons_succ])
        --end
        refine t_done ?_
        go_wp2_with fail
        exact bodyPost_ret (results_rec2 rfl _ _ (W.heap.size + 1 + 1) _ rfl (H9.out.blk 0 _ _ rfl).1 rfl) rfl ⟨⟨p, k, fd.extract 3 fd.size⟩, by rw [HBB.out]; simp [hlt], fun _ => HRC.out.symm, H9.out.drop.drop.drop⟩
      · refine wp_region_ordJ (fun W' => (W'.cell? ⟨W.heap.size, 0, none⟩ = some (.int .i64 l.first) ∧ W'.cell? ⟨W.heap.size, 1, none⟩ = some (.int .i64 l.size)) ∧ (W'.cell? ⟨W.heap.size + 1 + 1, 0, none⟩ = some (.int .i64 p) ∧ W'.cell? ⟨W.heap.size + 1 + 1, 1, none⟩ = some (.int .i64 k) ∧ W'.cell? ⟨W.heap.size + 1 + 1, 2, none⟩ = some (.string (fd.extract 3 fd.size))) ∧ True) (OrdT.takes [0, 1, 2, 3] (.one 4 (OrdT.takes [5, 6, 7, 8, 9] (.one 10 (OrdT.takes [11, 12, 13, 14, 15, 16, 17] (.one 18 (.take 19 .done))))))) (by kernel_rfl) (by kernel_rfl) (HSZ.out _ H4.out.drew.drew) (fun wz hz => ?_)
        have h6 := H4.out.drew.drew
        rw [← hz] at h6
        have H6 := Lib.hid h6
        clear hz h6 H4
        unfold OrdT.takes
        --ordt yyym
        iterate 3 (refine' t_yield _ rfl rfl rfl _ _; rotate_left; (intro w' hSw; obtain ⟨s0, s1, s2⟩ := hSw; go_simp; with_reducible rfl); simp only [Act.put, List.setIfInBounds_toArray, List.set_cons_zero, List.set_cons_succ])
        (refine' t_move _ _ rfl rfl rfl rfl _ _; rotate_left; (go_simp; with_reducible rfl); simp only [Act.put, List.setIfInBounds_toArray, List.set_cons_zero, List.set_cons_succ])
        --end
        refine t_one rfl rfl (fun K hK => ?_)
        go_simp
        refine (HSEC.out _ H6.out).mono ?_
        rintro e w7 ⟨rfl, rfl⟩
        dsimp only
        refine hK _ _ (HSZ.out _ H6.out) ?_
        clear hK
        unfold OrdT.takes
        --ordt ym yyy
        (refine' t_yield _ rfl rfl rfl _ _; rotate_left; (intro w' hSw; obtain ⟨s0, s1, s2⟩ := hSw; go_simp; with_reducible rfl); simp only [Act.put, List.setIfInBounds_toArray, List.set_cons_zero, List.set_cons_succ])
        (refine' t_move _ _ rfl rfl rfl rfl _ _; rotate_left; (go_simp; with_reducible rfl); simp only [Act.put, List.setIfInBounds_toArray, List.set_cons_zero, List.set_cons_succ])
        iterate 3 (refine' t_yield _ rfl rfl rfl _ _; rotate_left; (intro w' hSw; obtain ⟨s0, s1, s2⟩ := hSw; go_simp; with_reducible rfl); simp only [Act.put, List.setIfInBounds_toArray, List.set_cons_zero, List.set_cons_succ])
        --end
        refine t_one rfl rfl (fun K hK => ?_)
        go_simp
        refine (HIN.out _).mono ?_
        rintro e w8 ⟨rfl, hB8⟩
        have h8 := H6.out.below hB8
        have H8 := Lib.hid h8
        clear h8 hB8 H6
        dsimp only
        refine hK _ _ (HSZ.out _ H8.out) ?_
        clear hK
        unfold OrdT.takes
        --ordt yymsssy
        iterate 2 (refine' t_yield _ rfl rfl rfl _ _; rotate_left; (intro w' hSw; obtain ⟨s0, s1, s2⟩ := hSw; go_simp; with_reducible rfl); simp only [Act.put, List.setIfInBounds_toArray, List.set_cons_zero, List.set_cons_succ])
        (refine' t_move _ _ rfl rfl rfl rfl _ _; rotate_left; (go_simp; with_reducible rfl); simp only [Act.put, List.setIfInBounds_toArray, List.set_cons_zero, List.set_cons_succ])
        iterate 3 (refine t_skip rfl rfl rfl ?_; simp only [Act.put, List.setIfInBounds_toArray, List.set_cons_zero, List.set_cons_succ])
        (refine' t_yield _ rfl rfl rfl _ _; rotate_left; (intro w' hSw; obtain ⟨s0, s1, s2⟩ := hSw; go_simp; with_reducible rfl); simp only [Act.put, List.setIfInBounds_toArray, List.set_cons_zero, List.set_cons_succ])
        --end
        have c0 := H8.out.cell 0 _ _ _ rfl 0 _ rfl
        have c1 := H8.out.cell 0 _ _ _ rfl 1 _ rfl
        have c2 := H8.out.cell 0 _ _ _ rfl 2 _ rfl
        have f0 := H8.out.frozen 0 _ _ _ rfl 0
        have f1 := H8.out.frozen 0 _ _ _ rfl 1
        have f2 := H8.out.frozen 0 _ _ _ rfl 2
        have H9 := Lib.hid (Has.store3 [] H8.out (.int .i64 p) (.int .i64 k) (.string (fd.extract 3 fd.size)))
        refine t_one rfl rfl (fun K hK => ?_)
        go_simp
        refine hK _ _ (HSZ.out _ H9.out) ?_
        clear hK c0 c1 c2 f0 f1 f2
        --ordt y
        (refine' t_yield _ rfl rfl rfl _ _; rotate_left; (intro w' hSw; obtain ⟨s0, s1, s2⟩ := hSw; go_simp; with_reducible rfl); simp only [Act.put, List.setIfInBounds_toArray, List.set_cons_zero, List.set_cons_succ])
        --end
        refine t_done ?_
        go_wp2_with fail
        exact bodyPost_ret (results_rec2 rfl _ _ (W.heap.size + 1 + 1) _ rfl (H9.out.blk 0 _ _ rfl).1 rfl) rfl ⟨⟨p, k, fd.extract 3 fd.size⟩, by rw [HBB.out]; simp, fun _ => HRC.out.symm, H9.out.drop.drop.drop⟩
    · refine wp_region_ordJ (fun W' => (W'.cell? ⟨W.heap.size, 0, none⟩ = some (.int .i64 l.first) ∧ W'.cell? ⟨W.heap.size, 1, none⟩ = some (.int .i64 l.size)) ∧ (W'.cell? ⟨W.heap.size + 1 + 1, 0, none⟩ = some (.int .i64 p) ∧ W'.cell? ⟨W.heap.size + 1 + 1, 1, none⟩ = some (.int .i64 k) ∧ W'.cell? ⟨W.heap.size + 1 + 1, 2, none⟩ = some (.string (fd.extract 3 fd.size))) ∧ True) (OrdT.takes [0, 1, 2, 3] (.one 4 (OrdT.takes [5, 6, 7, 8, 9, 10, 11, 12, 13, 14, 15, 16, 17] (.one 18 (.take 19 .done))))) (by kernel_rfl) (by kernel_rfl) (HSZ.out _ H4.out.drew.drew) (fun wz hz => ?_)
      have h6 := H4.out.drew.drew
      rw [← hz] at h6
      have H6 := Lib.hid h6
      clear hz h6 H4
      unfold OrdT.takes
      --ordt yyym
      iterate 3 (refine' t_yield _ rfl rfl rfl _ _; rotate_left; (intro w' hSw; obtain ⟨s0, s1, s2⟩ := hSw; go_simp; with_reducible rfl); simp only [Act.put, List.setIfInBounds_toArray, List.set_cons_zero, List.set_cons_succ])
      (refine' t_move _ _ rfl rfl rfl rfl _ _; rotate_left; (go_simp; with_reducible rfl); simp only [Act.put, List.setIfInBounds_toArray, List.set_cons_zero, List.set_cons_succ])
      --end
      refine t_one rfl rfl (fun K hK => ?_)
      go_simp
      refine (HSEC.out _ H6.out).mono ?_
      rintro e w7 ⟨rfl, rfl⟩
      dsimp only
      refine hK _ _ (HSZ.out _ H6.out) ?_
      clear hK
      unfold OrdT.takes
      --ordt ymsssssymsssy
      (refine' t_yield _ rfl rfl rfl _ _; rotate_left; (intro w' hSw; obtain ⟨s0, s1, s2⟩ := hSw; go_simp; with_reducible rfl); simp only [Act.put, List.setIfInBounds_toArray, List.set_cons_zero, List.set_cons_succ])
      (refine' t_move _ _ rfl rfl rfl rfl _ _; rotate_left; (go_simp; with_reducible rfl); simp only [Act.put, List.setIfInBounds_toArray, List.set_cons_zero, List.set_cons_succ])
      iterate 5 (refine t_skip rfl rfl rfl ?_; simp only [Act.put, List.setIfInBounds_toArray, List.set_cons_zero, List.set_cons_succ])
      (refine' t_yield _ rfl rfl rfl _ _; rotate_left; (intro w' hSw; obtain ⟨s0, s1, s2⟩ := hSw; go_simp; with_reducible rfl); simp only [Act.put, List.setIfInBounds_toArray, List.set_cons_zero, List.set_cons_succ])
      (refine' t_move _ _ rfl rfl rfl rfl _ _; rotate_left; (go_simp; with_reducible rfl); simp only [Act.put, List.setIfInBounds_toArray, List.set_cons_zero, List.set_cons_succ])
      iterate 3 (refine t_skip rfl rfl rfl ?_; simp only [Act.put, List.setIfInBounds_toArray, List.set_cons_zero, List.set_cons_succ])
      (refine' t_yield _ rfl rfl rfl _ _; rotate_left; (intro w' hSw; obtain ⟨s0, s1, s2⟩ := hSw; go_simp; with_reducible rfl); simp only [Act.put, List.setIfInBounds_toArray, List.set_cons_zero, List.set_cons_succ])
      --end
      have c0 := H6.out.cell 0 _ _ _ rfl 0 _ rfl
      have c1 := H6.out.cell 0 _ _ _ rfl 1 _ rfl
      have c2 := H6.out.cell 0 _ _ _ rfl 2 _ rfl
      have f0 := H6.out.frozen 0 _ _ _ rfl 0
      have f1 := H6.out.frozen 0 _ _ _ rfl 1
      have f2 := H6.out.frozen 0 _ _ _ rfl 2
      have H9 := Lib.hid (Has.store3 [] H6.out (.int .i64 p) (.int .i64 k) (.string (fd.extract 3 fd.size)))
      refine t_one rfl rfl (fun K hK => ?_)
      go_simp
      refine hK _ _ (HSZ.out _ H9.out) ?_
      clear hK c0 c1 c2 f0 f1 f2
      --ordt y
      (refine' t_yield _ rfl rfl rfl _ _; rotate_left; (intro w' hSw; obtain ⟨s0, s1, s2⟩ := hSw; go_simp; with_reducible rfl); simp only [Act.put, List.setIfInBounds_toArray, List.set_cons_zero, List.set_cons_succ])
      --end
      refine t_done ?_
      go_wp2_with fail
      exact bodyPost_ret (results_rec2 rfl _ _ (W.heap.size + 1 + 1) _ rfl (H9.out.blk 0 _ _ rfl).1 rfl) rfl ⟨⟨p, k, fd.extract 3 fd.size⟩, by rw [HBB.out, show decide (p < (n : Int)) = false by simpa using hlt]; rfl, fun _ => HRC.out.symm, H9.out.drop.drop.drop⟩
  · have hb : Hid (B = false) := by
      rw [HB.out]; unfold isRec
      apply Lib.hid
      simp only [Bool.and_eq_false_imp, Bool.and_eq_true, beq_iff_eq, decide_eq_true_eq, Bool.not_eq_true', decide_eq_false_iff_not]
      intros
      omega
    by_cases q1 : fk = 2
    · subst q1
      by_cases q2 : fd.size < 3
      · go_enter Tryd.func73, Tryd.ntmps73
        go_wp2_with fail
        exact bodyPost_ret (results_rec2 rfl _ _ (W.heap.size + 1 + 1) _ rfl (H3.out.blk 0 _ _ rfl).1 rfl) rfl ⟨⟨0, 0, ⟨#[]⟩⟩, by rw [hb.out]; rfl, fun e => absurd (hb.out.symm.trans e) (by simp), H3.out.drop.drop.drop⟩
      · have q3 : 99 < fd.size := by omega
        go_enter Tryd.func73, Tryd.ntmps73
        go_wp2_with fail
        exact bodyPost_ret (results_rec2 rfl _ _ (W.heap.size + 1 + 1) _ rfl (H3.out.blk 0 _ _ rfl).1 rfl) rfl ⟨⟨0, 0, ⟨#[]⟩⟩, by rw [hb.out]; rfl, fun e => absurd (hb.out.symm.trans e) (by simp), H3.out.drop.drop.drop⟩
    · have q2 : (fk != 2) = true := by simpa using q1
      go_enter Tryd.func73, Tryd.ntmps73
      go_wp2_with fail
      exact bodyPost_ret (results_rec2 rfl _ _ (W.heap.size + 1 + 1) _ rfl (H3.out.blk 0 _ _ rfl).1 rfl) rfl ⟨⟨0, 0, ⟨#[]⟩⟩, by rw [hb.out]; rfl, fun e => absurd (hb.out.symm.trans e) (by simp), H3.out.drop.drop.drop⟩
end Go.Proofs.YtfbkfdoekgnldaaDoor
namespace Go.Proofs.YtfbkfdoekgnldaaDoor
open Go.RowKit
open Lime
attribute [local go_sem] Oper.semAt_some setRow_alloc_at setRow_alloc_past setRow_drew g_add32 g_same32 g_eq32 g_ne32
set_option maxRecDepth 100000 in
set_option maxHeartbeats 4000000 in
theorem stale_has {w W : World} {rs : List (Res w.heap.size)} {g : Nat} {S : Dv} (h : Has w W rs) (hr : DevR _ g S ∈ rs) (l : Lay) (hc : l.check = 0) (q : BitVec 32) (hh : HalfLaid w) :
    Calls Tryd.prog 54 #[pv g, .agg #[.int .i64 l.first, .int .i64 l.size], .int .u32 (vu q)] W fun e w' => e = .returned (.tuple #[.bool (staleM S l q).1, .int .i64 (staleM S l q).2]) ∧ Has w w' rs := by
  obtain ⟨c1, c2, c3, c4⟩ := Lay.check_ok hc
  obtain ⟨Q, hQ⟩ : ∃ Q, Q = q + 1#32 := ⟨_, rfl⟩
  obtain ⟨R, hR⟩ : ∃ R, R = staleM S l q := ⟨_, rfl⟩
  rw [← hR]
  have hR2 : R = staleK S l Q (l.size.toNat - 1) ((1 : Nat) : Int) false := by
    rw [hR]; unfold staleM; rw [hQ, show (l.size - 1).toNat = l.size.toNat - 1 by omega]; rfl
  have HR2 := Lib.hid hR2
  have HGET : Hid (∀ W' (k : Nat), Has w W' (Blk _ W.heap.size (.cells #[.int .i64 l.first, .int .i64 l.size] 27) :: rs) → Calls Tryd.prog 43 #[pv g, .int .i64 (l.first + (k : Int))] W' fun e w' => e = .returned (.tuple #[.agg #[.int .i64 (S.get (l.first + (k : Int))).1.k, .int .u32 (vu (S.get (l.first + (k : Int))).1.q), .string (S.get (l.first + (k : Int))).1.d], .int .i64 (S.get (l.first + (k : Int))).2]) ∧ Has w w' (Blk _ W.heap.size (.cells #[.int .i64 l.first, .int .i64 l.size] 27) :: rs)) :=
    fun W' k h' => get_ret h' (.tail _ hr) _ hh
  have H1 := Lib.hid (h.alloc (.cells #[.int .i64 l.first, .int .i64 l.size] 27))
  have hw1 : IntKind.u32.wrap (vu q + 1) = vu Q := by rw [hQ]; exact g_add32 q 1#32
  clear h hr hh hR hR2 hc hQ
  go_enter Tryd.func54, Tryd.ntmps54
  go_wp2_with fail
  go_loopw [6, 8] (fun is i wr => ∃ (b : Bool) (k : Nat), is = .bool b ∧ i = .int .i64 (k : Int) ∧ (k : Int) ≤ l.size ∧ R = staleK S l Q (l.size.toNat - k) (k : Int) b ∧ Has w wr (Blk _ W.heap.size (.cells #[.int .i64 l.first, .int .i64 l.size] 27) :: rs)) (fun _ i _ => l.size.toNat - (intOf i).toNat)
  case atStart => exact ⟨false, 1, rfl, rfl, by omega, HR2.out, H1.out⟩
  case round =>
    obtain ⟨b, k, rfl, rfl, hk, hRk, hH⟩ := hrel
    clear H1 HR2
    have d0 := hH.cell 0 _ _ _ rfl 0 _ rfl
    have d1 := hH.cell 0 _ _ _ rfl 1 _ rfl
    by_cases hlt : (k : Int) < l.size
    · have hw : wrap64 (l.first + (k : Int)) = l.first + (k : Int) := by unfold wrap64; omega
      have e1 : l.size.toNat - k = (l.size.toNat - (k + 1)) + 1 := by omega
      rw [e1] at hRk
      unfold staleK at hRk
      have HG := HGET.out wr k hH
      obtain ⟨x, hx⟩ : ∃ x, x = S.get (l.first + (k : Int)) := ⟨_, rfl⟩
      rw [← hx] at HG hRk
      obtain ⟨⟨fk, fq, fd⟩, fe⟩ := x
      dsimp only at HG hRk
      have HG2 := Lib.hid HG
      have HRK := Lib.hid hRk
      have HH := Lib.hid hH
      clear HG hx hRk HGET e1
      go_wp2_with fail
      refine HG2.out.mono ?_
      clear HG2
      rintro e w3 ⟨rfl, h3⟩
      have z := block_lt_of_cell (h3.cell 0 _ _ _ rfl 0 _ rfl)
      dsimp only at z
      have H4 := Lib.hid (h3.alloc (.cells #[.int .i64 fk, .int .u32 (vu fq), .string fd] 76))
      clear h3 d0 d1 hH
      go_wp2_with fail
      refine (broken_any fe _).mono ?_
      rintro e w4 ⟨rfl, hB4⟩
      have h5 := H4.out.below hB4
      have f0 := h5.cell 0 _ _ _ rfl 0 _ rfl
      have f1 := h5.cell 0 _ _ _ rfl 1 _ rfl
      have d0 := h5.cell 1 _ _ _ rfl 0 _ rfl
      have d1 := h5.cell 1 _ _ _ rfl 1 _ rfl
      have H5 := Lib.hid h5.drop
      clear h5 hB4 H4 z
      cases hb : broken fe
      · have hn : R = staleK S l Q (l.size.toNat - (k + 1)) ((k : Int) + 1) (b || isStale (⟨fk, fq, fd⟩, fe) Q) := by rw [HRK.out, hb, if_neg (by simp)]
        have HN := Lib.hid hn
        clear hn hb HRK
        have fin : Hid (∀ b' : Bool, b' = (b || isStale (⟨fk, fq, fd⟩, fe) Q) → ∃ (b2 : Bool) (k2 : Nat), Value.bool b' = .bool b2 ∧ Value.int .i64 ((k : Int) + 1) = .int .i64 (k2 : Int) ∧ (k2 : Int) ≤ l.size ∧ R = staleK S l Q (l.size.toNat - k2) (k2 : Int) b2 ∧ Has w w4 (Blk _ W.heap.size (.cells #[.int .i64 l.first, .int .i64 l.size] 27) :: rs)) :=
          fun b' e => ⟨b', k + 1, rfl, rfl, by omega, by rw [e]; exact HN.out, H5.out⟩
        clear HN H5
        cases b
        · by_cases h0 : fe = 0
          · subst h0
            by_cases h1 : fq = Q
            · subst h1
              by_cases h2 : fk = 2
              · subst h2
                go_wp2_with fail
                go_roundw
                case rel => exact fin.out true (by simp [isStale, mine])
                case measure => simp [intOf]; omega
              · by_cases h3 : fk = 3
                · subst h3
                  go_wp2_with fail
                  go_roundw
                  case rel => exact fin.out true (by simp [isStale, mine])
                  case measure => simp [intOf]; omega
                · have g2 : (fk == 2) = false := by simpa using h2
                  have g3 : (fk == 3) = false := by simpa using h3
                  have E : Hid (isStale (⟨fk, fq, fd⟩, 0) fq = false) := by unfold isStale; rw [g2, g3]; exact Lib.hid (by simp)
                  clear h2 h3
                  go_wp2_with fail
                  go_roundw
                  case rel => exact fin.out false (by rw [E.out]; rfl)
                  case measure => simp [intOf]; omega
            · have g1 : (fq == Q) = false := by simpa using h1
              have E : Hid (isStale (⟨fk, fq, fd⟩, 0) Q = false) := by unfold isStale mine; rw [g1]; exact Lib.hid (by simp)
              clear h1
              go_wp2_with fail
              go_roundw
              case rel => exact fin.out false (by rw [E.out]; rfl)
              case measure => simp [intOf]; omega
          · have g0 : (fe == 0) = false := by simpa using h0
            have E : Hid (isStale (⟨fk, fq, fd⟩, fe) Q = false) := by unfold isStale mine; rw [g0]; exact Lib.hid (by simp)
            clear h0
            go_wp2_with fail
            go_roundw
            case rel => exact fin.out false (by rw [E.out]; rfl)
            case measure => simp [intOf]; omega
        · go_wp2_with fail
          go_roundw
          case rel => exact fin.out true rfl
          case measure => simp [intOf]; omega
      · have hn : R = (false, fe) := by rw [HRK.out, hb, if_pos rfl]
        have HN := Lib.hid hn
        clear hn hb HRK
        go_wp2_with fail
        go_ret2
        exact ⟨by rw [HN.out]; rfl, H5.out.drop⟩
    · have e1 : l.size.toNat - k = 0 := by omega
      rw [e1] at hRk
      have HN : Hid (R = (b, 0)) := hRk
      have HH := Lib.hid hH
      clear hRk e1 hH HGET
      go_wp2_with fail
      go_ret2
      exact ⟨by rw [HN.out]; rfl, HH.out.drop⟩
end Go.Proofs.YtfbkfdoekgnldaaDoor
namespace Go.Proofs.YtfbkfdoekgnldaaDoor
open Go.RowKit
def recL (r : Rec) : List Value := [.int .i64 r.at_, .int .i64 r.kind, .string r.data]
theorem recL_len (r : Rec) : (recL r).length = 3 := rfl
theorem recL_one (r : Rec) : ∀ u ∈ recL r, u.oneCell' = true := by
  intro u hu
  simp only [recL, List.mem_cons, List.not_mem_nil, or_false] at hu
  rcases hu with rfl | rfl | rfl <;> rfl
theorem rec_info : (Tryd.prog.info? 67).map (fun i => (i.zero, i.size, i.bytes)) = some (some (.agg #[.int .i64 0, .int .i64 0, .string ⟨#[]⟩]), 3, 32) := by kernel_rfl
abbrev RecsR (B : Nat) (v : Value) (l : List Rec) : Res B := OwnR B 67 3 recL v l
/-- 'append(v, x)' of records, x in a row of its own that was just made -/
theorem Has.pushRec {w W : World} (l1 : List (Res w.heap.size)) {l2 : List (Res w.heap.size)} {v : Value} {l : List Rec} (h : Has w W (l1 ++ RecsR _ v l :: l2)) (x : Rec) (hl : l.length ≤ 100000) :
    ∃ a cap W', (Builtin.append_ #[22, 22] 22 #[v, .slice (some ⟨W.heap.size, 0, none⟩) 1 1]).run Tryd.prog (W.alloc (.cells #[.int .i64 x.at_, .int .i64 x.kind, .string x.data] 67)) = .ok (.slice a (l.length + 1) cap) W' ∧ Has w W' (l1 ++ RecsR _ (.slice a (l.length + 1) cap) (l ++ [x]) :: l2) := by
  have h1 := (h.perm List.perm_middle).below ((Below.refl _ _).alloc (Nat.le_refl _) (.cells #[.int .i64 x.at_, .int .i64 x.kind, .string x.data] 67))
  obtain ⟨F, ⟨hO, rfl⟩, hF, _, hT⟩ := h1.focus
  have hx : (W.alloc (.cells #[.int .i64 x.at_, .int .i64 x.kind, .string x.data] 67)).rangeAt W.heap.size 0 (recL x) := rangeAt_row (heap_alloc_new W _) _ _ (fun j u hu => by rw [Nat.zero_add]; simpa [recL] using hu)
  obtain ⟨v', W', hrun, hO2, hf, hOn⟩ := own_append_one recL_len recL_one 22 67 (.agg #[.int .i64 0, .int .i64 0, .string ⟨#[]⟩]) 32 Tryd.underlying22 rec_info rfl (by decide) (by decide) _ v l 22 hO x W.heap.size 0 1 hx (by omega)
  have hh := (hT W' (RecsR _ v' (l ++ [x])) _ hOn ⟨hO2, rfl⟩ (fun k hk => by
    rcases hf k hk with h | h
    · exact .inl h
    · right; omega)).perm List.perm_middle.symm
  obtain ⟨a, cap, rfl, _⟩ := hO2.shape
  rw [List.length_append] at hrun hh
  exact ⟨a, cap, W', hrun, hh⟩
theorem found_size : (Tryd.prog.info? 95).map (·.size) = some 3 := by kernel_rfl
/-- two results: what was found in a cell, and a value -/
theorem results_found2 {fn : Func} {p q : Tmp} (h : fn.results = #[.cell p 95, .tmp q]) (tmps : Array Value) (w : World) (g : Nat) (cs : Array Value)
    (hp : tmps.getD p undef = .pointer (some ⟨g, 0, none⟩)) (hg : w.heap[g]? = some (.cells cs 95 (0, 0))) (hc : cs.size = 3) :
    (results fn tmps).run Tryd.prog w = .ok (.tuple #[.agg cs, tmps.getD q undef]) w := by
  have hp' : tmps[p]?.getD undef = .pointer (some ⟨g, 0, none⟩) := by simpa using hp
  have hl := run_loadVar_row (P := Tryd.prog) w g _ _ _ _ _ hg Tryd.underlying95 rfl (by rw [hc]; exact found_size)
  simp [results, h, hp', asAddr, hl]
theorem hasAt_snoc (l : List Rec) (r : Rec) (p : Int) : hasAt (l ++ [r]) p = if p = r.at_ then true else hasAt l p := by
  unfold hasAt
  rw [List.any_append]
  by_cases e : p = r.at_
  · subst e; simp
  · rw [if_neg e]
    have e2 : ¬ r.at_ = p := fun h => e h.symm
    simp [e2]
theorem recOf_wf (d : ByteArray) : (Lit.int .i64 (recOf d).at_).wf = true := by
  unfold recOf
  have h0 := vb_nonneg (byteAt d 0)
  have h1 := vb_lt (byteAt d 0)
  have h2 := vb_nonneg (byteAt d 1)
  have h3 := vb_lt (byteAt d 1)
  simp only [Lit.wf, Bool.and_eq_true, decide_eq_true_eq]
  have m0 : IntKind.i64.min = -9223372036854775808 := by decide
  have m1 : IntKind.i64.max = 9223372036854775807 := by decide
  omega
theorem loop_eq (d : ByteArray) : ∀ (n i : Nat) (r : List UInt8), d.size - i = n → ByteArray.toList.loop d i r = r.reverse ++ d.data.toList.drop i := by
  intro n
  induction n with
  | zero =>
    intro i r h
    have h2 : d.data.toList.length ≤ i := by show d.data.size ≤ i; have : d.data.size = d.size := rfl; omega
    rw [ByteArray.toList.loop, if_neg (by omega), List.drop_eq_nil_of_le h2, List.append_nil]
  | succ n ih =>
    intro i r h
    have hi : i < d.size := by omega
    have hi2 : i < d.data.toList.length := hi
    rw [ByteArray.toList.loop, if_pos hi, ih _ _ (by omega), List.drop_eq_getElem_cons hi2]
    have e : d.get! i = d.data.toList[i] := by
      show d.data[i]! = _
      rw [getElem!_pos d.data i hi]; simp
    rw [e]; simp
theorem bytes_toList (d : ByteArray) : d.toList = d.data.toList := by
  unfold ByteArray.toList
  rw [loop_eq d _ 0 [] rfl]; rfl
theorem bytes_same (a b : ByteArray) : (a.toList == b.toList) = decide (a = b) := by
  rw [bytes_toList, bytes_toList, Bool.eq_iff_iff]
  simp only [beq_iff_eq, decide_eq_true_eq]
  constructor
  · intro h; exact ByteArray.ext (Array.toList_inj.1 h)
  · rintro rfl; rfl
theorem OwnL.slice {W : World} {e : TypeId} {m : Nat} {α : Type} {c : α → List Value} {v : Value} {l : List α} (h : OwnL W e m c v l) : ∃ a cap, v = .slice a l.length cap := by
  obtain ⟨a, cap, h, _⟩ := h.shape
  exact ⟨a, cap, h⟩
end Go.Proofs.YtfbkfdoekgnldaaDoor
namespace Go.Proofs.YtfbkfdoekgnldaaDoor
open Go.RowKit
open Lime
attribute [local go_sem] Oper.semAt_some setRow_alloc_at setRow_alloc_past setRow_drew g_same32 g_eq32 g_ne32
theorem takes_no {S : Dv} {l : Lay} {x : Fr × Int} {q : BitVec 32} {out : List Rec} (h : mine x q = false) : takes S l x q out = false := by unfold takes; rw [h]; rfl
set_option maxRecDepth 100000 in
set_option maxHeartbeats 8000000 in
theorem look_has {w W : World} {rs : List (Res w.heap.size)} {g : Nat} {S : Dv} (h : Has w W rs) (hr : DevR _ g S ∈ rs) (l : Lay) (hh : HalfLaid w) :
    Calls Tryd.prog 52 #[pv g, .agg #[.int .i64 l.first, .int .i64 l.size]] W fun e w' => ∃ (q : BitVec 32) (a : Option Addr) (cap : Nat), e = .returned (.tuple #[.agg #[.int .u32 (vu q), .slice a (lookM S l).1.length cap, .bool (lookM S l).2.1], .int .i64 (lookM S l).2.2]) ∧ ((lookM S l).2.2 = 0 → q = (headM S l).1) ∧ Has w w' (RecsR _ (.slice a (lookM S l).1.length cap) (lookM S l).1 :: rs) := by
  have h2 := (h.alloc (.cells #[.int .i64 l.first, .int .i64 l.size] 27)).allocAt (.cells #[.int .u32 0, .slice none 0 0, .bool false] 95) (W.heap.size + 1) (by simp)
  have HHD := Lib.hid (head_has h2 (.tail _ (.tail _ hr)) l hh)
  have HR := Lib.hid hr
  have HHL := Lib.hid hh
  obtain ⟨R, hR⟩ : ∃ R, R = lookM S l := ⟨_, rfl⟩
  rw [← hR]
  have hRd : R = if (headM S l).2 ≠ 0 then ([], false, (headM S l).2) else lookQ S l ((headM S l).1 + 1#32) (l.size - 1).toNat 1 [] := by rw [hR]; rfl
  have hck : (headM S l).2 = 0 → l.check = 0 := by
    intro h0
    unfold headM at h0
    by_cases hc : l.check = 0
    · exact hc
    · rw [if_pos hc] at h0; exact h0
  obtain ⟨⟨q, c⟩, hq⟩ : ∃ x, x = headM S l := ⟨_, rfl⟩
  rw [← hq] at HHD hRd hck ⊢
  dsimp only at HHD hRd hck ⊢
  have HRD := Lib.hid hRd
  have H2 := Lib.hid h2
  have HCK := Lib.hid hck
  clear h h2 hr hh hR hq hRd hck
  go_enter Tryd.func52, Tryd.ntmps52
  go_wp2_with fail
  refine HHD.out.mono ?_
  clear HHD H2
  rintro e w1 ⟨rfl, h1⟩
  have f0 := h1.cell 0 _ _ _ rfl 0 _ rfl
  have f1 := h1.cell 0 _ _ _ rfl 1 _ rfl
  have f2 := h1.cell 0 _ _ _ rfl 2 _ rfl
  have g0 := h1.frozen 0 _ _ _ rfl 0
  have g1 := h1.frozen 0 _ _ _ rfl 1
  have g2 := h1.frozen 0 _ _ _ rfl 2
  by_cases hc : c = 0
  · subst hc
    have c4 := Lay.check_ok (HCK.out rfl)
    obtain ⟨c1, c2, c3, c5⟩ := c4
    have HR2 : Hid (R = lookQ S l (q + 1#32) (l.size.toNat - 1) ((1 : Nat) : Int) []) := by rw [HRD.out, if_neg (by simp), show (l.size - 1).toNat = l.size.toNat - 1 by omega]; exact Lib.hid rfl
    have h3 := (h1.setCell [] 0 (.int .u32 (vu q))).madeMap
    rw [show (w1.setCell ⟨W.heap.size + 1, 0, none⟩ (.int .u32 (vu q))).heap.size = w1.heap.size by simp] at h3
    have h4 := OwnR.nil h3 67 3 recL
    have H4 := Lib.hid h4
    clear HRD h1 h3 h4
    obtain ⟨Q, hQ⟩ : ∃ Q, Q = q + 1#32 := ⟨_, rfl⟩
    have hw1 : IntKind.u32.wrap (vu q + 1) = vu Q := by rw [hQ]; exact g_add32 q 1#32
    rw [← hQ] at HR2
    clear hQ
    have hmm := @run_makeMap Tryd.prog
    have H5 := Lib.hid (H4.out.perm ((List.Perm.cons _ (List.Perm.swap _ _ _)).trans (List.Perm.swap _ _ _)))
    clear H4
    go_wp2_with fail
    go_loopw [7] (fun i wr => ∃ (k : Nat) (out : List Rec) (a : Option Addr) (cap : Nat), i = .int .i64 (k : Int) ∧ (k : Int) ≤ l.size ∧ 1 ≤ k ∧ (out.length : Int) ≤ l.most ∧ R = lookQ S l Q (l.size.toNat - k) (k : Int) out ∧ Has w wr (Blk _ (W.heap.size + 1) (.cells #[.int .u32 (vu q), .slice a out.length cap, .bool false] 95) :: RecsR _ (.slice a out.length cap) out :: MapR _ w1.heap.size out.length (hasAt out) :: Blk _ W.heap.size (.cells #[.int .i64 l.first, .int .i64 l.size] 27) :: rs)) (fun i _ => l.size.toNat - (intOf i).toNat)
    case atStart => exact ⟨1, [], none, 0, rfl, by omega, by omega, by unfold Lay.most; simp; omega, HR2.out, H5.out⟩
    case round =>
      obtain ⟨k, out, a, cap, rfl, hk, hk1, hom, hRk, hH⟩ := hrel
      clear H5 HR2 f0 f1 f2 g0 g1 g2 hmm
      have d0 := hH.cell 3 _ _ _ rfl 0 _ rfl
      have d1 := hH.cell 3 _ _ _ rfl 1 _ rfl
      have f0 := hH.cell 0 _ _ _ rfl 0 _ rfl
      have f1 := hH.cell 0 _ _ _ rfl 1 _ rfl
      have f2 := hH.cell 0 _ _ _ rfl 2 _ rfl
      have g0 := hH.frozen 0 _ _ _ rfl 0
      have g1 := hH.frozen 0 _ _ _ rfl 1
      have g2 := hH.frozen 0 _ _ _ rfl 2
      by_cases hlt : (k : Int) < l.size
      · have hw : wrap64 (l.first + (k : Int)) = l.first + (k : Int) := by unfold wrap64; omega
        have e1 : l.size.toNat - k = (l.size.toNat - (k + 1)) + 1 := by omega
        rw [e1, lookQ_succ] at hRk
        have HG := get_ret hH (.tail _ (.tail _ (.tail _ (.tail _ HR.out)))) (l.first + (k : Int)) HHL.out
        have hsz := Dv.get_size S (l.first + (k : Int))
        obtain ⟨x, hx⟩ : ∃ x, x = S.get (l.first + (k : Int)) := ⟨_, rfl⟩
        rw [← hx] at HG hRk hsz
        obtain ⟨⟨fk, fq, fd⟩, fe⟩ := x
        dsimp only at HG hRk hsz
        have HG2 := Lib.hid HG
        have HRK := Lib.hid hRk
        have HSZD := Lib.hid hsz
        have HOM := Lib.hid hom
        clear HG hx hRk e1 hH hsz hom f0 f1 f2 g0 g1 g2
        go_wp2_with fail
        refine HG2.out.mono ?_
        clear HG2
        rintro e w3 ⟨rfl, h3⟩
        have H4 := Lib.hid (h3.alloc (.cells #[.int .i64 fk, .int .u32 (vu fq), .string fd] 76))
        clear h3 d0 d1
        go_wp2_with fail
        refine (broken_any fe _).mono ?_
        rintro e w4 ⟨rfl, hB4⟩
        have h5 := H4.out.below hB4
        have x0 := h5.cell 0 _ _ _ rfl 0 _ rfl
        have x1 := h5.cell 0 _ _ _ rfl 1 _ rfl
        have x2 := h5.cell 0 _ _ _ rfl 2 _ rfl
        have f0 := h5.cell 1 _ _ _ rfl 0 _ rfl
        have f1 := h5.cell 1 _ _ _ rfl 1 _ rfl
        have f2 := h5.cell 1 _ _ _ rfl 2 _ rfl
        have g0 := h5.frozen 1 _ _ _ rfl 0
        have g1 := h5.frozen 1 _ _ _ rfl 1
        have g2 := h5.frozen 1 _ _ _ rfl 2
        have d0 := h5.cell 4 _ _ _ rfl 0 _ rfl
        have d1 := h5.cell 4 _ _ _ rfl 1 _ rfl
        have H5 := Lib.hid h5
        clear h5 hB4 H4
        cases hb : broken fe
        · have hn : R = if takes S l (⟨fk, fq, fd⟩, fe) Q out = true then lookQ S l Q (l.size.toNat - (k + 1)) ((k : Int) + 1) (out ++ [recOf fd]) else (out, ends (⟨fk, fq, fd⟩, fe) Q out, 0) := by rw [HRK.out, hb, if_neg (by simp)]
          have HN := Lib.hid hn
          clear hn hb HRK
          obtain ⟨M, hM⟩ : ∃ M, M = mine (⟨fk, fq, fd⟩, fe) Q := ⟨_, rfl⟩
          have HM := Lib.hid hM
          clear hM
          have hrec := record_has H5.out (.tail _ (.tail _ (.tail _ (.tail _ (.tail _ HR.out))))) l (HCK.out trivial) ⟨fk, fq, fd⟩ HSZD.out
          obtain ⟨I, hI⟩ : ∃ I, I = isRec S l ⟨fk, fq, fd⟩ := ⟨_, rfl⟩
          rw [← hI] at hrec
          have HI := Lib.hid hI
          have HREC := Lib.hid hrec
          clear hrec hI
          have eW : Hid (∀ M', M' = mine (⟨fk, fq, fd⟩, fe) Q → Value.bool M' = .bool M) := fun M' e => by rw [e, HM.out]
          go_upto_region 11 with fail
          go_cut [10] (fun m wx => m = .bool M ∧ wx = w4)
          case first =>
            by_cases h0 : fe = 0
            · subst h0
              by_cases h1 : fq = Q
              · subst h1
                go_wp2_with fail
                go_meet
                exact ⟨eW.out true (by simp [mine]), rfl⟩
              · have g1 : (fq == Q) = false := by simpa using h1
                have E : Hid (mine (⟨fk, fq, fd⟩, 0) Q = false) := by unfold mine; rw [g1]; exact Lib.hid (by simp)
                clear h1
                go_wp2_with fail
                go_meet
                exact ⟨eW.out false E.out.symm, rfl⟩
            · have g0 : (fe == 0) = false := by simpa using h0
              have E : Hid (mine (⟨fk, fq, fd⟩, fe) Q = false) := by unfold mine; rw [g0]; exact Lib.hid (by simp)
              clear h0
              go_wp2_with fail
              go_meet
              exact ⟨eW.out false E.out.symm, rfl⟩
          case rest =>
            obtain ⟨rfl, rfl⟩ := hcut
            go_upto_region 13 with (go_at_call 73; refine HREC.out.mono ?_; rintro e w5 ⟨r, rfl, hr1, h6⟩)
            have HR1 := Lib.hid hr1
            have H7 := Lib.hid (h6.alloc (.cells #[.int .i64 r.at_, .int .i64 r.kind, .string r.data] 67))
            have HSZ : Hid (∀ W', Has w W' (Blk _ w5.heap.size (.cells #[.int .i64 r.at_, .int .i64 r.kind, .string r.data] 67) :: Blk _ w3.heap.size (.cells #[.int .i64 fk, .int .u32 (vu fq), .string fd] 76) :: Blk _ (W.heap.size + 1) (.cells #[.int .u32 (vu q), .slice a out.length cap, .bool false] 95) :: RecsR _ (.slice a out.length cap) out :: MapR _ w1.heap.size out.length (hasAt out) :: Blk _ W.heap.size (.cells #[.int .i64 l.first, .int .i64 l.size] 27) :: rs) → ((W'.cell? ⟨W.heap.size, 0, none⟩ = some (.int .i64 l.first) ∧ W'.cell? ⟨W.heap.size, 1, none⟩ = some (.int .i64 l.size)) ∧ (W'.cell? ⟨W.heap.size + 1, 1, none⟩ = some (.slice a out.length cap) ∧ W'.cell? ⟨w5.heap.size, 0, none⟩ = some (.int .i64 r.at_)) ∧ (W'.cell? ⟨w3.heap.size, 0, none⟩ = some (.int .i64 fk) ∧ W'.cell? ⟨w3.heap.size, 2, none⟩ = some (.string fd) ∧ (I = true → (Instr.lookup 117 (.map (some w1.heap.size)) (.int .i64 r.at_) false).run Tryd.prog W' = .ok (.bool (hasAt out r.at_)) W')))) :=
              fun W' h => ⟨⟨h.cell 5 _ _ _ rfl 0 _ rfl, h.cell 5 _ _ _ rfl 1 _ rfl⟩, ⟨h.cell 2 _ _ _ rfl 1 _ rfl, h.cell 0 _ _ _ rfl 0 _ rfl⟩, ⟨h.cell 1 _ _ _ rfl 0 _ rfl, h.cell 1 _ _ _ rfl 2 _ rfl, fun e => h.lookMap (b := w1.heap.size) (n := out.length) (f := hasAt out) (by simp) r.at_ (by rw [HR1.out e]; exact recOf_wf fd)⟩⟩
            clear hr1 h6 HREC H5 d0 d1 f0 f1 f2 g0 g1 g2 x0 x1 x2
            obtain ⟨T, hT⟩ : ∃ T, T = takes S l (⟨fk, fq, fd⟩, fe) Q out := ⟨_, rfl⟩
            rw [← hT] at HN
            have HT := Lib.hid hT
            clear hT
            go_cut [80] (fun c wx => c = .bool (!T) ∧ Has w wx (Blk _ w5.heap.size (.cells #[.int .i64 r.at_, .int .i64 r.kind, .string r.data] 67) :: Blk _ w3.heap.size (.cells #[.int .i64 fk, .int .u32 (vu fq), .string fd] 76) :: Blk _ (W.heap.size + 1) (.cells #[.int .u32 (vu q), .slice a out.length cap, .bool false] 95) :: RecsR _ (.slice a out.length cap) out :: MapR _ w1.heap.size out.length (hasAt out) :: Blk _ W.heap.size (.cells #[.int .i64 l.first, .int .i64 l.size] 27) :: rs))
            case first =>
              have HMO : Hid (∀ W', Calls Tryd.prog 74 #[.agg #[.int .i64 l.first, .int .i64 l.size]] W' fun e w' => e = .returned (.int .i64 l.most) ∧ Below W'.heap.size W' w') := fun W' => most_any l W' (HCK.out trivial)
              obtain ⟨P, hP⟩ : ∃ P, P = hasAt out r.at_ := ⟨_, rfl⟩
              rw [← hP] at HSZ
              have HP := Lib.hid hP
              clear hP
              cases M
              · have E : Hid (T = false) := by rw [HT.out]; exact takes_no HM.out.symm
                refine wp_region_ordJ (fun W' => (W'.cell? ⟨W.heap.size, 0, none⟩ = some (.int .i64 l.first) ∧ W'.cell? ⟨W.heap.size, 1, none⟩ = some (.int .i64 l.size)) ∧ (W'.cell? ⟨W.heap.size + 1, 1, none⟩ = some (.slice a out.length cap) ∧ W'.cell? ⟨w5.heap.size, 0, none⟩ = some (.int .i64 r.at_)) ∧ (W'.cell? ⟨w3.heap.size, 0, none⟩ = some (.int .i64 fk) ∧ W'.cell? ⟨w3.heap.size, 2, none⟩ = some (.string fd) ∧ (I = true → (Instr.lookup 117 (.map (some w1.heap.size)) (.int .i64 r.at_) false).run Tryd.prog W' = .ok (.bool P) W'))) (OrdT.takes [0, 1, 2, 3, 4, 5, 6, 7, 8, 9, 10, 11, 12, 13, 14, 15, 16, 17, 18, 19] .done) (by kernel_rfl) (by kernel_rfl) (HSZ.out _ H7.out.drew) (fun wz hz => ?_)
                have h8 := H7.out.drew
                rw [← hz] at h8
                have H8 := Lib.hid h8
                clear hz h8 H7
                unfold OrdT.takes
                --ordt mymssymssssymssssssy
                (refine' t_move _ _ rfl rfl rfl rfl _ _; rotate_left; (go_simp; with_reducible rfl); simp only [Act.put, List.setIfInBounds_toArray, List.set_cons_zero, List.set_cons_succ])
                (refine' t_yield _ rfl rfl rfl _ _; rotate_left; (intro w' hSw; obtain ⟨s0, s1, s2⟩ := hSw; go_simp; with_reducible rfl); simp only [Act.put, List.setIfInBounds_toArray, List.set_cons_zero, List.set_cons_succ])
                (refine' t_move _ _ rfl rfl rfl rfl _ _; rotate_left; (go_simp; with_reducible rfl); simp only [Act.put, List.setIfInBounds_toArray, List.set_cons_zero, List.set_cons_succ])
                iterate 2 (refine t_skip rfl rfl rfl ?_; simp only [Act.put, List.setIfInBounds_toArray, List.set_cons_zero, List.set_cons_succ])
                (refine' t_yield _ rfl rfl rfl _ _; rotate_left; (intro w' hSw; obtain ⟨s0, s1, s2⟩ := hSw; go_simp; with_reducible rfl); simp only [Act.put, List.setIfInBounds_toArray, List.set_cons_zero, List.set_cons_succ])
                (refine' t_move _ _ rfl rfl rfl rfl _ _; rotate_left; (go_simp; with_reducible rfl); simp only [Act.put, List.setIfInBounds_toArray, List.set_cons_zero, List.set_cons_succ])
                iterate 4 (refine t_skip rfl rfl rfl ?_; simp only [Act.put, List.setIfInBounds_toArray, List.set_cons_zero, List.set_cons_succ])
                (refine' t_yield _ rfl rfl rfl _ _; rotate_left; (intro w' hSw; obtain ⟨s0, s1, s2⟩ := hSw; go_simp; with_reducible rfl); simp only [Act.put, List.setIfInBounds_toArray, List.set_cons_zero, List.set_cons_succ])
                (refine' t_move _ _ rfl rfl rfl rfl _ _; rotate_left; (go_simp; with_reducible rfl); simp only [Act.put, List.setIfInBounds_toArray, List.set_cons_zero, List.set_cons_succ])
                iterate 6 (refine t_skip rfl rfl rfl ?_; simp only [Act.put, List.setIfInBounds_toArray, List.set_cons_zero, List.set_cons_succ])
                (refine' t_yield _ rfl rfl rfl _ _; rotate_left; (intro w' hSw; obtain ⟨s0, s1, s2⟩ := hSw; go_simp; with_reducible rfl); simp only [Act.put, List.setIfInBounds_toArray, List.set_cons_zero, List.set_cons_succ])
                --end
                refine t_done ?_
                go_wp2_with fail
                go_meet
                exact ⟨by rw [E.out]; rfl, H8.out⟩
              · cases I
                · have E : Hid (T = false) := by rw [HT.out]; unfold takes; rw [← HI.out]; exact Lib.hid (by simp)
                  refine wp_region_ordJ (fun W' => (W'.cell? ⟨W.heap.size, 0, none⟩ = some (.int .i64 l.first) ∧ W'.cell? ⟨W.heap.size, 1, none⟩ = some (.int .i64 l.size)) ∧ (W'.cell? ⟨W.heap.size + 1, 1, none⟩ = some (.slice a out.length cap) ∧ W'.cell? ⟨w5.heap.size, 0, none⟩ = some (.int .i64 r.at_)) ∧ (W'.cell? ⟨w3.heap.size, 0, none⟩ = some (.int .i64 fk) ∧ W'.cell? ⟨w3.heap.size, 2, none⟩ = some (.string fd) ∧ (false = true → (Instr.lookup 117 (.map (some w1.heap.size)) (.int .i64 r.at_) false).run Tryd.prog W' = .ok (.bool P) W'))) (OrdT.takes [0, 1, 2, 3, 4, 5, 6, 7, 8, 9, 10, 11, 12, 13, 14, 15, 16, 17, 18, 19] .done) (by kernel_rfl) (by kernel_rfl) (HSZ.out _ H7.out.drew) (fun wz hz => ?_)
                  have h8 := H7.out.drew
                  rw [← hz] at h8
                  have H8 := Lib.hid h8
                  clear hz h8 H7
                  unfold OrdT.takes
                  --ordt mymmyymssssymssssssy
                  (refine' t_move _ _ rfl rfl rfl rfl _ _; rotate_left; (go_simp; with_reducible rfl); simp only [Act.put, List.setIfInBounds_toArray, List.set_cons_zero, List.set_cons_succ])
                  (refine' t_yield _ rfl rfl rfl _ _; rotate_left; (intro w' hSw; obtain ⟨s0, s1, s2⟩ := hSw; go_simp; with_reducible rfl); simp only [Act.put, List.setIfInBounds_toArray, List.set_cons_zero, List.set_cons_succ])
                  iterate 2 (refine' t_move _ _ rfl rfl rfl rfl _ _; rotate_left; (go_simp; with_reducible rfl); simp only [Act.put, List.setIfInBounds_toArray, List.set_cons_zero, List.set_cons_succ])
                  iterate 2 (refine' t_yield _ rfl rfl rfl _ _; rotate_left; (intro w' hSw; obtain ⟨s0, s1, s2⟩ := hSw; go_simp; with_reducible rfl); simp only [Act.put, List.setIfInBounds_toArray, List.set_cons_zero, List.set_cons_succ])
                  (refine' t_move _ _ rfl rfl rfl rfl _ _; rotate_left; (go_simp; with_reducible rfl); simp only [Act.put, List.setIfInBounds_toArray, List.set_cons_zero, List.set_cons_succ])
                  iterate 4 (refine t_skip rfl rfl rfl ?_; simp only [Act.put, List.setIfInBounds_toArray, List.set_cons_zero, List.set_cons_succ])
                  (refine' t_yield _ rfl rfl rfl _ _; rotate_left; (intro w' hSw; obtain ⟨s0, s1, s2⟩ := hSw; go_simp; with_reducible rfl); simp only [Act.put, List.setIfInBounds_toArray, List.set_cons_zero, List.set_cons_succ])
                  (refine' t_move _ _ rfl rfl rfl rfl _ _; rotate_left; (go_simp; with_reducible rfl); simp only [Act.put, List.setIfInBounds_toArray, List.set_cons_zero, List.set_cons_succ])
                  iterate 6 (refine t_skip rfl rfl rfl ?_; simp only [Act.put, List.setIfInBounds_toArray, List.set_cons_zero, List.set_cons_succ])
                  (refine' t_yield _ rfl rfl rfl _ _; rotate_left; (intro w' hSw; obtain ⟨s0, s1, s2⟩ := hSw; go_simp; with_reducible rfl); simp only [Act.put, List.setIfInBounds_toArray, List.set_cons_zero, List.set_cons_succ])
                  --end
                  refine t_done ?_
                  go_wp2_with fail
                  go_meet
                  exact ⟨by rw [E.out]; rfl, H8.out⟩
                · cases P
                  · have E : Hid (T = decide ((out.length : Int) < l.most)) := by rw [HT.out]; unfold takes; dsimp only; rw [← HI.out, ← HM.out, ← HR1.out rfl, ← HP.out]; exact Lib.hid (by simp)
                    refine wp_region_ordJ (fun W' => (W'.cell? ⟨W.heap.size, 0, none⟩ = some (.int .i64 l.first) ∧ W'.cell? ⟨W.heap.size, 1, none⟩ = some (.int .i64 l.size)) ∧ (W'.cell? ⟨W.heap.size + 1, 1, none⟩ = some (.slice a out.length cap) ∧ W'.cell? ⟨w5.heap.size, 0, none⟩ = some (.int .i64 r.at_)) ∧ (W'.cell? ⟨w3.heap.size, 0, none⟩ = some (.int .i64 fk) ∧ W'.cell? ⟨w3.heap.size, 2, none⟩ = some (.string fd) ∧ (true = true → (Instr.lookup 117 (.map (some w1.heap.size)) (.int .i64 r.at_) false).run Tryd.prog W' = .ok (.bool false) W'))) (OrdT.takes [0, 1, 2, 3, 4, 5, 6, 7, 8, 9, 10, 11, 12, 13, 14, 15, 16] (.one 17 (OrdT.takes [18, 19] .done))) (by kernel_rfl) (by kernel_rfl) (HSZ.out _ H7.out.drew) (fun wz hz => ?_)
                    have h8 := H7.out.drew
                    rw [← hz] at h8
                    have H8 := Lib.hid h8
                    clear hz h8 H7
                    unfold OrdT.takes
                    --ordt mymmyymmyyyymyyyy
                    (refine' t_move _ _ rfl rfl rfl rfl _ _; rotate_left; (go_simp; with_reducible rfl); simp only [Act.put, List.setIfInBounds_toArray, List.set_cons_zero, List.set_cons_succ])
                    (refine' t_yield _ rfl rfl rfl _ _; rotate_left; (intro w' hSw; obtain ⟨s0, s1, s2⟩ := hSw; go_simp; with_reducible rfl); simp only [Act.put, List.setIfInBounds_toArray, List.set_cons_zero, List.set_cons_succ])
                    iterate 2 (refine' t_move _ _ rfl rfl rfl rfl _ _; rotate_left; (go_simp; with_reducible rfl); simp only [Act.put, List.setIfInBounds_toArray, List.set_cons_zero, List.set_cons_succ])
                    iterate 2 (refine' t_yield _ rfl rfl rfl _ _; rotate_left; (intro w' hSw; obtain ⟨s0, s1, s2⟩ := hSw; go_simp; with_reducible rfl); simp only [Act.put, List.setIfInBounds_toArray, List.set_cons_zero, List.set_cons_succ])
                    iterate 2 (refine' t_move _ _ rfl rfl rfl rfl _ _; rotate_left; (go_simp; with_reducible rfl); simp only [Act.put, List.setIfInBounds_toArray, List.set_cons_zero, List.set_cons_succ])
                    iterate 4 (refine' t_yield _ rfl rfl rfl _ _; rotate_left; (intro w' hSw; obtain ⟨s0, s1, s2⟩ := hSw; go_simp; with_reducible rfl); simp only [Act.put, List.setIfInBounds_toArray, List.set_cons_zero, List.set_cons_succ])
                    (refine' t_move _ _ rfl rfl rfl rfl _ _; rotate_left; (go_simp; with_reducible rfl); simp only [Act.put, List.setIfInBounds_toArray, List.set_cons_zero, List.set_cons_succ])
                    iterate 4 (refine' t_yield _ rfl rfl rfl _ _; rotate_left; (intro w' hSw; obtain ⟨s0, s1, s2⟩ := hSw; go_simp; with_reducible rfl); simp only [Act.put, List.setIfInBounds_toArray, List.set_cons_zero, List.set_cons_succ])
                    --end
                    refine t_one rfl rfl (fun K hK => ?_)
                    go_simp
                    refine (HMO.out _).mono ?_
                    rintro e w8 ⟨rfl, hB8⟩
                    have h9 := H8.out.below hB8
                    have H9 := Lib.hid h9
                    clear h9 hB8 H8
                    dsimp only
                    refine hK _ _ (by have := HSZ.out _ H9.out; simpa using this) ?_
                    clear hK
                    unfold OrdT.takes
                    --ordt yy
                    iterate 2 (refine' t_yield _ rfl rfl rfl _ _; rotate_left; (intro w' hSw; obtain ⟨s0, s1, s2⟩ := hSw; go_simp; with_reducible rfl); simp only [Act.put, List.setIfInBounds_toArray, List.set_cons_zero, List.set_cons_succ])
                    --end
                    refine t_done ?_
                    go_wp2_with fail
                    go_meet
                    refine ⟨?_, H9.out⟩
                    rw [E.out]
                    have := HOM.out
                    by_cases hl : (out.length : Int) < l.most
                    · have hl2 : ((out.length : Int) == l.most) = false := by simp; omega
                      simp [hl, hl2]
                    · have hl2 : ((out.length : Int) == l.most) = true := by simp; omega
                      simp [hl, hl2]
                  · have E : Hid (T = false) := by rw [HT.out]; unfold takes; dsimp only; rw [← HR1.out rfl, ← HP.out]; exact Lib.hid (by simp)
                    refine wp_region_ordJ (fun W' => (W'.cell? ⟨W.heap.size, 0, none⟩ = some (.int .i64 l.first) ∧ W'.cell? ⟨W.heap.size, 1, none⟩ = some (.int .i64 l.size)) ∧ (W'.cell? ⟨W.heap.size + 1, 1, none⟩ = some (.slice a out.length cap) ∧ W'.cell? ⟨w5.heap.size, 0, none⟩ = some (.int .i64 r.at_)) ∧ (W'.cell? ⟨w3.heap.size, 0, none⟩ = some (.int .i64 fk) ∧ W'.cell? ⟨w3.heap.size, 2, none⟩ = some (.string fd) ∧ (true = true → (Instr.lookup 117 (.map (some w1.heap.size)) (.int .i64 r.at_) false).run Tryd.prog W' = .ok (.bool true) W'))) (OrdT.takes [0, 1, 2, 3, 4, 5, 6, 7, 8, 9, 10, 11, 12, 13, 14, 15, 16, 17, 18, 19] .done) (by kernel_rfl) (by kernel_rfl) (HSZ.out _ H7.out.drew) (fun wz hz => ?_)
                    have h8 := H7.out.drew
                    rw [← hz] at h8
                    have H8 := Lib.hid h8
                    clear hz h8 H7
                    unfold OrdT.takes
                    --ordt mymmyymmyyyymssssssy
                    (refine' t_move _ _ rfl rfl rfl rfl _ _; rotate_left; (go_simp; with_reducible rfl); simp only [Act.put, List.setIfInBounds_toArray, List.set_cons_zero, List.set_cons_succ])
                    (refine' t_yield _ rfl rfl rfl _ _; rotate_left; (intro w' hSw; obtain ⟨s0, s1, s2⟩ := hSw; go_simp; with_reducible rfl); simp only [Act.put, List.setIfInBounds_toArray, List.set_cons_zero, List.set_cons_succ])
                    iterate 2 (refine' t_move _ _ rfl rfl rfl rfl _ _; rotate_left; (go_simp; with_reducible rfl); simp only [Act.put, List.setIfInBounds_toArray, List.set_cons_zero, List.set_cons_succ])
                    iterate 2 (refine' t_yield _ rfl rfl rfl _ _; rotate_left; (intro w' hSw; obtain ⟨s0, s1, s2⟩ := hSw; go_simp; with_reducible rfl); simp only [Act.put, List.setIfInBounds_toArray, List.set_cons_zero, List.set_cons_succ])
                    iterate 2 (refine' t_move _ _ rfl rfl rfl rfl _ _; rotate_left; (go_simp; with_reducible rfl); simp only [Act.put, List.setIfInBounds_toArray, List.set_cons_zero, List.set_cons_succ])
                    iterate 4 (refine' t_yield _ rfl rfl rfl _ _; rotate_left; (intro w' hSw; obtain ⟨s0, s1, s2⟩ := hSw; go_simp; with_reducible rfl); simp only [Act.put, List.setIfInBounds_toArray, List.set_cons_zero, List.set_cons_succ])
                    (refine' t_move _ _ rfl rfl rfl rfl _ _; rotate_left; (go_simp; with_reducible rfl); simp only [Act.put, List.setIfInBounds_toArray, List.set_cons_zero, List.set_cons_succ])
                    iterate 6 (refine t_skip rfl rfl rfl ?_; simp only [Act.put, List.setIfInBounds_toArray, List.set_cons_zero, List.set_cons_succ])
                    (refine' t_yield _ rfl rfl rfl _ _; rotate_left; (intro w' hSw; obtain ⟨s0, s1, s2⟩ := hSw; go_simp; with_reducible rfl); simp only [Act.put, List.setIfInBounds_toArray, List.set_cons_zero, List.set_cons_succ])
                    --end
                    refine t_done ?_
                    go_wp2_with fail
                    go_meet
                    exact ⟨by rw [E.out]; rfl, H8.out⟩
            case rest =>
              obtain ⟨rfl, h7⟩ := hcut
              clear H7 HSZ
              have H7 := Lib.hid h7
              cases T
              · have HN2 : Hid (R = (out, ends (⟨fk, fq, fd⟩, fe) Q out, 0)) := by rw [HN.out, if_neg (by simp)]; exact Lib.hid rfl
                have HSZ : Hid (∀ (W' : World) (z : Bool), Has w W' (Blk _ w5.heap.size (.cells #[.int .i64 r.at_, .int .i64 r.kind, .string r.data] 67) :: Blk _ w3.heap.size (.cells #[.int .i64 fk, .int .u32 (vu fq), .string fd] 76) :: Blk _ (W.heap.size + 1) (.cells #[.int .u32 (vu q), .slice a out.length cap, .bool z] 95) :: RecsR _ (.slice a out.length cap) out :: MapR _ w1.heap.size out.length (hasAt out) :: Blk _ W.heap.size (.cells #[.int .i64 l.first, .int .i64 l.size] 27) :: rs) → ((W'.cell? ⟨w3.heap.size, 0, none⟩ = some (.int .i64 fk) ∧ W'.cell? ⟨w3.heap.size, 2, none⟩ = some (.string fd)) ∧ W'.cell? ⟨W.heap.size + 1, 1, none⟩ = some (.slice a out.length cap) ∧ True)) := fun W' z h => ⟨⟨h.cell 1 _ _ _ rfl 0 _ rfl, h.cell 1 _ _ _ rfl 2 _ rfl⟩, h.cell 2 _ _ _ rfl 1 _ rfl, trivial⟩
                clear HN h7
                cases M
                · have HN3 : Hid (R = (out, false, 0)) := by rw [HN2.out]; unfold ends; rw [← HM.out]; exact Lib.hid rfl
                  go_wp2_with fail
                  refine wp_region_ordJ (fun W' => (W'.cell? ⟨w3.heap.size, 0, none⟩ = some (.int .i64 fk) ∧ W'.cell? ⟨w3.heap.size, 2, none⟩ = some (.string fd)) ∧ W'.cell? ⟨W.heap.size + 1, 1, none⟩ = some (.slice a out.length cap) ∧ True) (OrdT.takes [0, 1, 2, 3, 4, 5, 6, 7, 8, 9, 10, 11, 12, 13, 14, 15] (.one 16 .done)) (by kernel_rfl) (by kernel_rfl) (HSZ.out _ _ H7.out.drew) (fun wz hz => ?_)
                  have h8 := H7.out.drew
                  rw [← hz] at h8
                  have H8 := Lib.hid h8
                  clear hz h8 H7
                  unfold OrdT.takes
                  --ordt mmsssymsssssssyy
                  iterate 2 (refine' t_move _ _ rfl rfl rfl rfl _ _; rotate_left; (go_simp; with_reducible rfl); simp only [Act.put, List.setIfInBounds_toArray, List.set_cons_zero, List.set_cons_succ])
                  iterate 3 (refine t_skip rfl rfl rfl ?_; simp only [Act.put, List.setIfInBounds_toArray, List.set_cons_zero, List.set_cons_succ])
                  (refine' t_yield _ rfl rfl rfl _ _; rotate_left; (intro w' hSw; obtain ⟨s0, s1, s2⟩ := hSw; go_simp; with_reducible rfl); simp only [Act.put, List.setIfInBounds_toArray, List.set_cons_zero, List.set_cons_succ])
                  (refine' t_move _ _ rfl rfl rfl rfl _ _; rotate_left; (go_simp; with_reducible rfl); simp only [Act.put, List.setIfInBounds_toArray, List.set_cons_zero, List.set_cons_succ])
                  iterate 7 (refine t_skip rfl rfl rfl ?_; simp only [Act.put, List.setIfInBounds_toArray, List.set_cons_zero, List.set_cons_succ])
                  iterate 2 (refine' t_yield _ rfl rfl rfl _ _; rotate_left; (intro w' hSw; obtain ⟨s0, s1, s2⟩ := hSw; go_simp; with_reducible rfl); simp only [Act.put, List.setIfInBounds_toArray, List.set_cons_zero, List.set_cons_succ])
                  --end
                  have H9 : Hid (Has w _ (Blk _ w5.heap.size (.cells #[.int .i64 r.at_, .int .i64 r.kind, .string r.data] 67) :: Blk _ w3.heap.size (.cells #[.int .i64 fk, .int .u32 (vu fq), .string fd] 76) :: Blk _ (W.heap.size + 1) (.cells #[.int .u32 (vu q), .slice a out.length cap, .bool false] 95) :: RecsR _ (.slice a out.length cap) out :: MapR _ w1.heap.size out.length (hasAt out) :: Blk _ W.heap.size (.cells #[.int .i64 l.first, .int .i64 l.size] 27) :: rs)) := H8.out.setCell [_, _] 2 (.bool false)
                  have k2 := H8.out.cell 2 _ _ _ rfl 2 _ rfl
                  have l2 := H8.out.frozen 2 _ _ _ rfl 2
                  refine t_one rfl rfl (fun K hK => ?_)
                  go_simp
                  refine hK _ _ (HSZ.out _ _ H9.out) ?_
                  clear hK k2 l2
                  refine t_done ?_
                  have f0 := H9.out.cell 2 _ _ _ rfl 0 _ rfl
                  have f1 := H9.out.cell 2 _ _ _ rfl 1 _ rfl
                  have f2 := H9.out.cell 2 _ _ _ rfl 2 _ rfl
                  have g0 := H9.out.frozen 2 _ _ _ rfl 0
                  have g1 := H9.out.frozen 2 _ _ _ rfl 1
                  have g2 := H9.out.frozen 2 _ _ _ rfl 2
                  have H10 := Lib.hid (Has.store3 [_, _] H9.out (.int .u32 (vu q)) (.slice a out.length cap) (.bool false))
                  clear H8 H9
                  go_wp2_with fail
                  refine bodyPost_ret (results_found2 rfl _ _ (W.heap.size + 1) _ rfl (H10.out.blk 2 _ _ rfl).1 rfl) rfl ⟨q, a, cap, by rw [HN3.out]; rfl, fun _ => rfl, ?_⟩
                  rw [HN3.out]
                  exact (((((H10.out.drop.drop.drop).perm (List.Perm.swap _ _ _)).drop).perm (List.Perm.swap _ _ _)).drop)
                · by_cases h3 : fk = 3
                  · have g3 : (fk == 3) = true := by simpa using h3
                    obtain ⟨z, hz⟩ : ∃ z, z = decide (fd = two out.length) := ⟨_, rfl⟩
                    have HZ := Lib.hid hz
                    clear hz
                    have HN3 : Hid (R = (out, z, 0)) := by rw [HN2.out]; unfold ends; rw [← HM.out, HZ.out, g3]; exact Lib.hid (by simp)
                    have hz2 : (fd.toList == (two (out.length : Int)).toList) = z := by rw [HZ.out]; exact bytes_same _ _
                    go_wp2_with fail
                    refine wp_region_ordJ (fun W' => (W'.cell? ⟨w3.heap.size, 0, none⟩ = some (.int .i64 fk) ∧ W'.cell? ⟨w3.heap.size, 2, none⟩ = some (.string fd)) ∧ W'.cell? ⟨W.heap.size + 1, 1, none⟩ = some (.slice a out.length cap) ∧ True) (OrdT.takes [0, 1, 2, 3, 4, 5, 6, 7, 8, 9, 10, 11] (.one 12 (OrdT.takes [13, 14, 15] (.one 16 .done)))) (by kernel_rfl) (by kernel_rfl) (HSZ.out _ _ H7.out.drew) (fun wz hz => ?_)
                    have h8 := H7.out.drew
                    rw [← hz] at h8
                    have H8 := Lib.hid h8
                    clear hz h8 H7
                    unfold OrdT.takes
                    --ordt mmyyyymyyyyy
                    iterate 2 (refine' t_move _ _ rfl rfl rfl rfl _ _; rotate_left; (go_simp; with_reducible rfl); simp only [Act.put, List.setIfInBounds_toArray, List.set_cons_zero, List.set_cons_succ])
                    iterate 4 (refine' t_yield _ rfl rfl rfl _ _; rotate_left; (intro w' hSw; obtain ⟨s0, s1, s2⟩ := hSw; go_simp; with_reducible rfl); simp only [Act.put, List.setIfInBounds_toArray, List.set_cons_zero, List.set_cons_succ])
                    (refine' t_move _ _ rfl rfl rfl rfl _ _; rotate_left; (go_simp; with_reducible rfl); simp only [Act.put, List.setIfInBounds_toArray, List.set_cons_zero, List.set_cons_succ])
                    iterate 5 (refine' t_yield _ rfl rfl rfl _ _; rotate_left; (intro w' hSw; obtain ⟨s0, s1, s2⟩ := hSw; go_simp; with_reducible rfl); simp only [Act.put, List.setIfInBounds_toArray, List.set_cons_zero, List.set_cons_succ])
                    --end
                    refine t_one rfl rfl (fun K hK => ?_)
                    go_simp
                    refine (short_any _ _).mono ?_
                    rintro e w8 ⟨rfl, hB8⟩
                    have h9 := H8.out.below hB8
                    clear H8
                    have H8 := Lib.hid h9
                    clear h9 hB8
                    dsimp only
                    refine hK _ _ (HSZ.out _ _ H8.out) ?_
                    clear hK
                    unfold OrdT.takes
                    --ordt yyy
                    iterate 3 (refine' t_yield _ rfl rfl rfl _ _; rotate_left; (intro w' hSw; obtain ⟨s0, s1, s2⟩ := hSw; go_simp; with_reducible rfl); simp only [Act.put, List.setIfInBounds_toArray, List.set_cons_zero, List.set_cons_succ])
                    --end
                    have H9 : Hid (Has w _ (Blk _ w5.heap.size (.cells #[.int .i64 r.at_, .int .i64 r.kind, .string r.data] 67) :: Blk _ w3.heap.size (.cells #[.int .i64 fk, .int .u32 (vu fq), .string fd] 76) :: Blk _ (W.heap.size + 1) (.cells #[.int .u32 (vu q), .slice a out.length cap, .bool z] 95) :: RecsR _ (.slice a out.length cap) out :: MapR _ w1.heap.size out.length (hasAt out) :: Blk _ W.heap.size (.cells #[.int .i64 l.first, .int .i64 l.size] 27) :: rs)) := H8.out.setCell [_, _] 2 (.bool z)
                    have k2 := H8.out.cell 2 _ _ _ rfl 2 _ rfl
                    have l2 := H8.out.frozen 2 _ _ _ rfl 2
                    refine t_one rfl rfl (fun K hK => ?_)
                    go_simp
                    refine hK _ _ (HSZ.out _ _ H9.out) ?_
                    clear hK k2 l2
                    refine t_done ?_
                    have f0 := H9.out.cell 2 _ _ _ rfl 0 _ rfl
                    have f1 := H9.out.cell 2 _ _ _ rfl 1 _ rfl
                    have f2 := H9.out.cell 2 _ _ _ rfl 2 _ rfl
                    have g0 := H9.out.frozen 2 _ _ _ rfl 0
                    have g1 := H9.out.frozen 2 _ _ _ rfl 1
                    have g2 := H9.out.frozen 2 _ _ _ rfl 2
                    have H10 := Lib.hid (Has.store3 [_, _] H9.out (.int .u32 (vu q)) (.slice a out.length cap) (.bool z))
                    clear H8 H9
                    go_wp2_with fail
                    refine bodyPost_ret (results_found2 rfl _ _ (W.heap.size + 1) _ rfl (H10.out.blk 2 _ _ rfl).1 rfl) rfl ⟨q, a, cap, by rw [HN3.out]; rfl, fun _ => rfl, ?_⟩
                    rw [HN3.out]
                    exact (((((H10.out.drop.drop.drop).perm (List.Perm.swap _ _ _)).drop).perm (List.Perm.swap _ _ _)).drop)
                  · have HN3 : Hid (R = (out, false, 0)) := by rw [HN2.out]; unfold ends; rw [← HM.out, show (fk == 3) = false by simpa using h3]; exact Lib.hid (by simp)
                    have g3 : (fk == 3) = false := by simpa using h3
                    clear h3
                    go_wp2_with fail
                    refine wp_region_ordJ (fun W' => (W'.cell? ⟨w3.heap.size, 0, none⟩ = some (.int .i64 fk) ∧ W'.cell? ⟨w3.heap.size, 2, none⟩ = some (.string fd)) ∧ W'.cell? ⟨W.heap.size + 1, 1, none⟩ = some (.slice a out.length cap) ∧ True) (OrdT.takes [0, 1, 2, 3, 4, 5, 6, 7, 8, 9, 10, 11, 12, 13, 14, 15] (.one 16 .done)) (by kernel_rfl) (by kernel_rfl) (HSZ.out _ _ H7.out.drew) (fun wz hz => ?_)
                    have h8 := H7.out.drew
                    rw [← hz] at h8
                    have H8 := Lib.hid h8
                    clear hz h8 H7
                    unfold OrdT.takes
                    --ordt mmyyyymsssssssyy
                    iterate 2 (refine' t_move _ _ rfl rfl rfl rfl _ _; rotate_left; (go_simp; with_reducible rfl); simp only [Act.put, List.setIfInBounds_toArray, List.set_cons_zero, List.set_cons_succ])
                    iterate 4 (refine' t_yield _ rfl rfl rfl _ _; rotate_left; (intro w' hSw; obtain ⟨s0, s1, s2⟩ := hSw; go_simp; with_reducible rfl); simp only [Act.put, List.setIfInBounds_toArray, List.set_cons_zero, List.set_cons_succ])
                    (refine' t_move _ _ rfl rfl rfl rfl _ _; rotate_left; (go_simp; with_reducible rfl); simp only [Act.put, List.setIfInBounds_toArray, List.set_cons_zero, List.set_cons_succ])
                    iterate 7 (refine t_skip rfl rfl rfl ?_; simp only [Act.put, List.setIfInBounds_toArray, List.set_cons_zero, List.set_cons_succ])
                    iterate 2 (refine' t_yield _ rfl rfl rfl _ _; rotate_left; (intro w' hSw; obtain ⟨s0, s1, s2⟩ := hSw; go_simp; with_reducible rfl); simp only [Act.put, List.setIfInBounds_toArray, List.set_cons_zero, List.set_cons_succ])
                    --end
                    have H9 : Hid (Has w _ (Blk _ w5.heap.size (.cells #[.int .i64 r.at_, .int .i64 r.kind, .string r.data] 67) :: Blk _ w3.heap.size (.cells #[.int .i64 fk, .int .u32 (vu fq), .string fd] 76) :: Blk _ (W.heap.size + 1) (.cells #[.int .u32 (vu q), .slice a out.length cap, .bool false] 95) :: RecsR _ (.slice a out.length cap) out :: MapR _ w1.heap.size out.length (hasAt out) :: Blk _ W.heap.size (.cells #[.int .i64 l.first, .int .i64 l.size] 27) :: rs)) := H8.out.setCell [_, _] 2 (.bool false)
                    have k2 := H8.out.cell 2 _ _ _ rfl 2 _ rfl
                    have l2 := H8.out.frozen 2 _ _ _ rfl 2
                    refine t_one rfl rfl (fun K hK => ?_)
                    go_simp
                    refine hK _ _ (HSZ.out _ _ H9.out) ?_
                    clear hK k2 l2
                    refine t_done ?_
                    have f0 := H9.out.cell 2 _ _ _ rfl 0 _ rfl
                    have f1 := H9.out.cell 2 _ _ _ rfl 1 _ rfl
                    have f2 := H9.out.cell 2 _ _ _ rfl 2 _ rfl
                    have g0 := H9.out.frozen 2 _ _ _ rfl 0
                    have g1 := H9.out.frozen 2 _ _ _ rfl 1
                    have g2 := H9.out.frozen 2 _ _ _ rfl 2
                    have H10 := Lib.hid (Has.store3 [_, _] H9.out (.int .u32 (vu q)) (.slice a out.length cap) (.bool false))
                    clear H8 H9
                    go_wp2_with fail
                    refine bodyPost_ret (results_found2 rfl _ _ (W.heap.size + 1) _ rfl (H10.out.blk 2 _ _ rfl).1 rfl) rfl ⟨q, a, cap, by rw [HN3.out]; rfl, fun _ => rfl, ?_⟩
                    rw [HN3.out]
                    exact (((((H10.out.drop.drop.drop).perm (List.Perm.swap _ _ _)).drop).perm (List.Perm.swap _ _ _)).drop)
              · have hI1 : I = true := by
                  have := HT.out
                  unfold takes at this
                  rw [← HI.out] at this
                  cases I
                  · simp at this
                  · rfl
                have hre := HR1.out hI1
                have HN2 : Hid (R = lookQ S l Q (l.size.toNat - (k + 1)) ((k : Int) + 1) (out ++ [r])) := by rw [HN.out, if_pos rfl, hre]; exact Lib.hid rfl
                have hlm : (out.length : Int) < l.most := by
                  have := HT.out
                  unfold takes at this
                  by_cases h : (out.length : Int) < l.most
                  · exact h
                  · rw [show decide ((out.length : Int) < l.most) = false by simpa using h, Bool.and_false] at this; cases this
                have hwf : (Lit.int .i64 r.at_).wf = true := by rw [hre]; exact recOf_wf fd
                have hml : l.most ≤ 80 := by unfold Lay.most; omega
                obtain ⟨Wm, hrun1, hm⟩ := Has.storeMap [_, _, _, _] H7.out (by unfold maxLen; omega) r.at_ hwf
                obtain ⟨a2, cap2, Wp, hrun2, hp⟩ := Has.pushRec [_, _, _] hm r (by omega)
                have x0 := H7.out.cell 0 _ _ _ rfl 0 _ rfl
                have m0 := hm.cell 0 _ _ _ rfl 0 _ rfl
                have m1 := hm.cell 0 _ _ _ rfl 1 _ rfl
                have m2 := hm.cell 0 _ _ _ rfl 2 _ rfl
                have v1 := hm.cell 2 _ _ _ rfl 1 _ rfl
                have p1 := hp.cell 2 _ _ _ rfl 1 _ rfl
                have pf := hp.frozen 2 _ _ _ rfl 1
                have h9 := Has.setCell [_, _] hp 1 (.slice a2 (out.length + 1) cap2)
                have e2 : (fun j => if j = r.at_ then true else hasAt out j) = hasAt (out ++ [r]) := by funext j; rw [hasAt_snoc]
                rw [e2] at h9
                have H9 := Lib.hid h9
                have HLM := Lib.hid hlm
                clear h9 hm hp h7 HN hI1 hre hlm hml hwf e2
                go_wp2_with (at_builtin; (with_reducible refine wpList_append_eq rfl _ _ _ rfl _ _ _ _ ?_ ?_ hrun2 ?_); rfl; rfl)
                go_roundw
                case rel => exact ⟨k + 1, out ++ [r], a2, cap2, by go_num, by omega, by omega, by have := HLM.out; simp; omega, HN2.out, by rw [List.length_append]; exact H9.out.drop.drop⟩
                case measure => simp [intOf]; omega
        · have hn : R = ([], false, fe) := by rw [HRK.out, hb, if_pos rfl]
          have HN := Lib.hid hn
          have hfe : ¬ fe = 0 := by rintro rfl; revert hb; decide
          have HFE := Lib.hid hfe
          have H6 := Lib.hid (H5.out.drop.store3 [] (.int .u32 0) (.slice none 0 0) (.bool false))
          clear hn hb HRK hfe
          go_wp2_with fail
          refine bodyPost_ret (results_found2 rfl _ _ (W.heap.size + 1) _ rfl (H6.out.blk 0 _ _ rfl).1 rfl) rfl ⟨0#32, none, 0, by rw [HN.out]; rfl, fun e => absurd (by rw [HN.out] at e; exact e) HFE.out, ?_⟩
          rw [HN.out]
          exact OwnR.nil H6.out.drop.drop.drop.drop _ _ _
      · have e1 : l.size.toNat - k = 0 := by omega
        rw [e1] at hRk
        have HN : Hid (R = (out, false, 0)) := hRk
        have H3 := Lib.hid (hH.store3 [] (.int .u32 (vu q)) (.slice a out.length cap) (.bool false))
        clear hRk e1 hH
        go_wp2_with fail
        refine bodyPost_ret (results_found2 rfl _ _ (W.heap.size + 1) _ rfl (H3.out.blk 0 _ _ rfl).1 rfl) rfl ⟨q, a, cap, by rw [HN.out]; rfl, fun _ => rfl, ?_⟩
        rw [HN.out]
        exact H3.out.drop.perm (List.Perm.swap _ _ _) |>.drop.perm (List.Perm.swap _ _ _) |>.drop
  · have HN : Hid (R = ([], false, c)) := by rw [HRD.out, if_pos hc]; exact Lib.hid rfl
    have hc2 : (c != 0) = true := by simpa using hc
    have h3 := Has.store3 [] (h1.setCell [] 0 (.int .u32 (vu q))) (.int .u32 0) (.slice none 0 0) (.bool false)
    have H3 := Lib.hid h3
    have HCN : Hid (¬ c = 0) := hc
    clear hc h1 h3 HRD
    go_wp2_with fail
    refine bodyPost_ret (results_found2 rfl _ _ (W.heap.size + 1) _ rfl (H3.out.blk 0 _ _ rfl).1 rfl) rfl ⟨0#32, none, 0, by rw [HN.out]; rfl, fun e => absurd (by rw [HN.out] at e; exact e) HCN.out, ?_⟩
    rw [HN.out]
    exact OwnR.nil H3.out.drop.drop _ _ _
end Go.Proofs.YtfbkfdoekgnldaaDoor
