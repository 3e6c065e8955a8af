/- Put and Get of frames on a device. -/
import Derived.Test.YtfbkfdoekgnldaaGreatDoorOpenI
import Derived.Test.YtfbkfdoekgnldaaGreatDoorNoDev
namespace Go.Proofs.YtfbkfdoekgnldaaGreatDoor
open Go.RowKit
open Lime
attribute [local go_sem] Oper.semAt_some
attribute [local go_sem high] q_shr32 q_shl32 q_shr32k q_shl32k q_shr32n q_shl32n g_com32 run_eql_sector run_neq_sector
attribute [local go_sem] g_xor32 g_or32 g_add32 g_wrap8 vu_nonneg g_same32 g_lo8 setRow_alloc_at setRow_alloc_past setRow_drew sec_set sec_set76 g_same8 sec_get g_ne32 g_eq32
/-- what Get returns, where a Read returned X and c -/
def getV (c p : Int) (X : Sector) : Value := if c = 0 then openVI p X else .tuple #[.agg #[.int .i64 0, .int .u32 0, .string ⟨#[]⟩], .int .i64 c]
theorem getV_shape (c p : Int) (X : Sector) : ∃ (fk : Int) (fq : BitVec 32) (fd : ByteArray) (k : Int), getV c p X = .tuple #[.agg #[.int .i64 fk, .int .u32 (vu fq), .string fd], .int .i64 k] := by
  unfold getV
  split
  · exact openVI_shape p X
  · exact ⟨0, 0#32, ByteArray.empty, c, rfl⟩
set_option maxRecDepth 100000 in
set_option maxHeartbeats 2000000 in
theorem get_gen {W : World} {q : Option Addr} (p : Int) (X : Sector) (c : Int) (hR : ∀ W', Below W.heap.size W W' → Calls Tryz.prog 52 #[.pointer q, .int .i64 p] W' fun e w' => e = .returned (.tuple #[.agg (sec X), .int .i64 c]) ∧ Below W'.heap.size W' w') (hh : HalfLaid W) :
    Calls Tryz.prog 19 #[.pointer q, .int .i64 p] W fun e w' => e = .returned (getV c p X) ∧ Below W.heap.size W w' := by
  have h1 := (Has.start W).alloc (.cells #[.int .i64 0, .int .u32 0, .string ⟨#[]⟩] 49)
  have HR := Lib.hid (hR _ h1.hB)
  have H1 := Lib.hid h1
  clear h1 hR
  by_cases hc : c = 0
  · subst hc
    have HV := Lib.hid (show getV 0 p X = openVI p X from if_pos rfl)
    go_enter Tryz.func19, Tryz.ntmps19
    go_wp2_with fail
    refine HR.out.mono ?_
    clear HR
    rintro e w2 ⟨rfl, hB2⟩
    have h3 := (H1.out.below hB2).alloc (.cells (sec X) 53)
    have bX := (h3.blk 0 _ _ rfl).1
    have HO := Lib.hid (open_int_any p X _ (hh.below h3.hB))
    have H3 := Lib.hid h3
    clear h3 H1 hB2
    go_wp2_with (first | (with_reducible refine wpList_alloc_sector rfl rfl ?_) | ((with_reducible refine wpList_store_sector rfl _ _ rfl w2.heap.size X zsec ?_ ?_ (heap_alloc_new _ _) ?_); rfl; rfl) | ((with_reducible refine wpList_load_sector rfl _ rfl w2.heap.size X ?_ bX ?_); rfl))
    refine HO.out.mono ?_
    clear HO
    rintro e w3 ⟨rfl, hB3⟩
    obtain ⟨fk, fq, fd, fc, hV⟩ := openVI_shape p X
    rw [hV]
    have HV2 := Lib.hid hV
    have h4 := H3.out.below hB3
    have b1 := (h4.blk 1 _ _ rfl).1
    have h5 := h4.setRow [_] #[.int .i64 fk, .int .u32 (vu fq), .string fd]
    have H5 := Lib.hid h5
    clear h4 h5 H3 hV bX
    go_wp2_with ((with_reducible refine wpList_store_frame rfl _ _ rfl W.heap.size #[.int .i64 fk, .int .u32 (vu fq), .string fd] _ ?_ ?_ b1 rfl rfl rfl ?_); rfl; rfl)
    refine bodyPost_ret (results_frame2 rfl _ _ W.heap.size _ rfl (H5.out.blk 1 _ _ rfl).1 rfl) rfl ⟨?_, H5.out.hB⟩
    rw [HV.out, HV2.out]; rfl
  · have HV := Lib.hid (show getV c p X = .tuple #[.agg #[.int .i64 0, .int .u32 0, .string ⟨#[]⟩], .int .i64 c] from if_neg hc)
    have hc2 : (c != 0) = true := by simpa using hc
    go_enter Tryz.func19, Tryz.ntmps19
    go_wp2_with fail
    refine HR.out.mono ?_
    clear HR
    rintro e w2 ⟨rfl, hB2⟩
    have h3 := (H1.out.below hB2).alloc (.cells (sec X) 53)
    have b1 := (h3.blk 1 _ _ rfl).1
    have h5 := h3.setRow [_] #[.int .i64 0, .int .u32 0, .string ⟨#[]⟩]
    have H5 := Lib.hid h5
    clear h3 h5 H1 hB2 hc
    go_wp2_with (first | (with_reducible refine wpList_alloc_sector rfl rfl ?_) | ((with_reducible refine wpList_store_sector rfl _ _ rfl w2.heap.size X zsec ?_ ?_ (heap_alloc_new _ _) ?_); rfl; rfl) | (with_reducible refine wpList_build_fr0 rfl rfl ?_) | ((with_reducible refine wpList_store_frame rfl _ _ rfl W.heap.size #[.int .i64 0, .int .u32 0, .string ⟨#[]⟩] _ ?_ ?_ b1 rfl rfl rfl ?_); rfl; rfl))
    refine bodyPost_ret (results_frame2 rfl _ _ W.heap.size _ rfl (H5.out.blk 1 _ _ rfl).1 rfl) rfl ⟨?_, H5.out.hB⟩
    rw [HV.out]; rfl
set_option maxRecDepth 100000 in
set_option maxHeartbeats 2000000 in
theorem put_err {W : World} {q : Option Addr} (p kind : Int) (seq : BitVec 32) (d : ByteArray) (hd : d.size ≤ 9223372036854775807) (hh : HalfLaid W) (X : Sector) (c : Int) (hx : sealS p kind seq d = (X, c)) (hc : c ≠ 0) :
    Calls Tryz.prog 56 #[.pointer q, .int .i64 p, .int .i64 kind, .int .u32 (vu seq), .string d] W fun e w' => e = .returned (.int .i64 c) ∧ Below W.heap.size W w' := by
  have hs := seal_any p kind seq d W hd hh
  rw [hx] at hs
  have HS := Lib.hid hs
  have hc2 : (c != 0) = true := by simpa using hc
  clear hs hx hc
  go_enter Tryz.func56, Tryz.ntmps56
  go_wp2_with fail
  refine HS.out.mono ?_
  rintro e w2 ⟨rfl, hB2⟩
  unfold sealV
  dsimp only
  have HB := Lib.hid (hB2.alloc hB2.size (.cells (sec X) 53))
  clear hB2
  go_wp2_with (first | (with_reducible refine wpList_alloc_sector rfl rfl ?_) | ((with_reducible refine wpList_store_sector rfl _ _ rfl w2.heap.size X zsec ?_ ?_ (heap_alloc_new _ _) ?_); rfl; rfl))
  go_ret
  exact ⟨rfl, HB.out⟩
set_option maxRecDepth 100000 in
set_option maxHeartbeats 2000000 in
theorem put_go {W : World} {q : Option Addr} (p kind : Int) (seq : BitVec 32) (d : ByteArray) (hd : d.size ≤ 9223372036854775807) (hh : HalfLaid W) (X : Sector) (hx : sealS p kind seq d = (X, 0)) (k : Int) (R : World → Prop)
    (hW : ∀ W', Below W.heap.size W W' → Calls Tryz.prog 78 #[.pointer q, .int .i64 p, .agg (sec X)] W' fun e w' => e = .returned (.int .i64 k) ∧ R w') :
    Calls Tryz.prog 56 #[.pointer q, .int .i64 p, .int .i64 kind, .int .u32 (vu seq), .string d] W fun e w' => e = .returned (.int .i64 k) ∧ R w' := by
  have hs := seal_any p kind seq d W hd hh
  rw [hx] at hs
  have HS := Lib.hid hs
  clear hs hx
  go_enter Tryz.func56, Tryz.ntmps56
  go_wp2_with fail
  refine HS.out.mono ?_
  rintro e w2 ⟨rfl, hB2⟩
  unfold sealV
  dsimp only
  have HWr := Lib.hid (hW _ (hB2.alloc hB2.size (.cells (sec X) 53)))
  clear hB2 hW
  go_wp2_with (first | (with_reducible refine wpList_alloc_sector rfl rfl ?_) | ((with_reducible refine wpList_store_sector rfl _ _ rfl w2.heap.size X zsec ?_ ?_ (heap_alloc_new _ _) ?_); rfl; rfl) | ((with_reducible refine wpList_load_sector rfl _ rfl w2.heap.size X ?_ (heap_alloc_new _ _) ?_); rfl))
  refine HWr.out.mono ?_
  clear HWr
  rintro e w3 ⟨rfl, hR⟩
  have HR := Lib.hid hR
  clear hR
  go_wp2_with fail
  go_ret
  exact ⟨rfl, HR.out⟩
/-- the state behind a Put, and its error -/
def Dv.put (S : Dv) (p kind : Int) (seq : BitVec 32) (d : ByteArray) : Dv := if (sealS p kind seq d).2 = 0 then S.write p (sealS p kind seq d).1 else S
def Dv.putE (S : Dv) (p kind : Int) (seq : BitVec 32) (d : ByteArray) : Int := if (sealS p kind seq d).2 = 0 then S.writeE p else (sealS p kind seq d).2
/-- Put, said of what a walk owns -/
theorem put_has {w W : World} (l1 : List (Res w.heap.size)) {l2 : List (Res w.heap.size)} {g : Nat} {S : Dv} (h : Has w W (l1 ++ DevR _ g S :: l2)) (p kind : Int) (seq : BitVec 32) (d : ByteArray) (hd : d.size ≤ 9223372036854775807) (hh : HalfLaid w) :
    Calls Tryz.prog 56 #[pv g, .int .i64 p, .int .i64 kind, .int .u32 (vu seq), .string d] W fun e w' => e = .returned (.int .i64 (S.putE p kind seq d)) ∧ Has w w' (l1 ++ DevR _ g (S.put p kind seq d) :: l2) := by
  have hh' := hh.below h.hB
  obtain ⟨⟨X, c⟩, hx⟩ : ∃ x, sealS p kind seq d = x := ⟨_, rfl⟩
  unfold Dv.put Dv.putE
  rw [hx]
  dsimp only
  by_cases hc : c = 0
  · subst hc
    rw [if_pos rfl, if_pos rfl]
    exact put_go p kind seq d hd hh' X hx _ (fun w' => Has w w' (l1 ++ DevR _ g (S.write p X) :: l2)) (fun _ hB => (write_has ((h.below hB).perm List.perm_middle) p X).mono fun _ _ ⟨he, h'⟩ => ⟨he, h'.perm List.perm_middle.symm⟩)
  · rw [if_neg hc, if_neg hc]
    exact (put_err p kind seq d hd hh' X c hx hc).mono fun _ _ ⟨he, hB⟩ => ⟨he, h.below hB⟩
theorem get_has {w W : World} {rs : List (Res w.heap.size)} {g : Nat} {S : Dv} (h : Has w W rs) (hr : DevR _ g S ∈ rs) (p : Int) (hh : HalfLaid w) :
    Calls Tryz.prog 19 #[pv g, .int .i64 p] W fun e w' => e = .returned (getV (S.at p) p (if S.at p = 0 then S.look p else zsec)) ∧ Has w w' rs := by
  obtain ⟨F, ⟨vS, vC, mb, hD, rfl⟩, hF⟩ := h.mem hr
  exact (get_gen p _ _ (fun _ hB => dev_read (hD.below hB) p) (hh.below h.hB)).mono fun _ _ ⟨he, hB⟩ => ⟨he, h.below hB⟩
theorem get_none {W : World} (p : Int) (hh : HalfLaid W) : Calls Tryz.prog 19 #[.pointer none, .int .i64 p] W fun e w' => e = .returned (.tuple #[.agg #[.int .i64 0, .int .u32 0, .string ⟨#[]⟩], .int .i64 1]) ∧ Below W.heap.size W w' :=
  get_gen p zsec 1 (fun _ _ => nd_read (.inl rfl) p) hh
theorem put_none {W : World} (p kind : Int) (seq : BitVec 32) (d : ByteArray) (hd : d.size ≤ 9223372036854775807) (hh : HalfLaid W) (hx : (sealS p kind seq d).2 = 0) : Calls Tryz.prog 56 #[.pointer none, .int .i64 p, .int .i64 kind, .int .u32 (vu seq), .string d] W fun e w' => e = .returned (.int .i64 1) ∧ Below W.heap.size W w' :=
  put_go p kind seq d hd hh (sealS p kind seq d).1 (Prod.ext rfl hx) 1 (fun w' => Below W.heap.size W w') (fun _ hB => (nd_write (.inl rfl) p _).mono fun _ _ ⟨he, hB'⟩ => ⟨he, hB.trans (hB'.mono hB.size)⟩)
end Go.Proofs.YtfbkfdoekgnldaaGreatDoor
