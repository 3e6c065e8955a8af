/- The walk of the sector of an Odd, and of Fixed. -/
import Derived.Test.YtghaaonghlfepaaDoorRefOpen
import Derived.Test.YtghaaonghlfepaaDoorOddRow
namespace Go.Proofs.YtghaaonghlfepaaDoor
open Go.RowKit
open Lime
attribute [local go_sem high] q_shr32 q_shl32 q_shr32k q_shl32k q_shr32n q_shl32n g_com32 run_eql_sector run_neq_sector
attribute [local go_sem] g_xor32 g_or32 g_add32 g_wrap8 vu_nonneg g_same32 g_lo8 setRow_alloc_at setRow_alloc_past setRow_drew sec_set sec_set76 g_same8 sec_get g_ne32 g_eq32 g_kind g_w64_8 g_xor8
set_option maxRecDepth 100000 in
set_option maxHeartbeats 400000 in
theorem fixed_any (sb : Nat) (s : Sector) (w : World) (hs : w.heap[sb]? = some (.cells (sec s) 27 (0, 0))) :
    Calls Tryd.prog 30 #[.pointer (some ⟨sb, 0, none⟩)] w fun e w' =>
      e = .returned (.tuple #[]) ∧ w.setRow sb (sec (putN s 124 (crc (s.toList.take 124)))) = w' := by
  have hsl := fun W => run_slice_to_sector sb 124 (by omega) W
  have hc := refcrc_any 128 (some ⟨sb, 0, none⟩) (s.toList.take 124) w (sec_bytes hs 124 (by omega))
  rw [take_len s 124 (by omega)] at hc
  have HC := Lib.hid hc
  have HN := Lib.hid (refnumber_any sb 124 (crc (s.toList.take 124)) s _ w (by omega) hs)
  clear hc hs
  go_enter Tryd.func30, Tryd.ntmps30
  go_wp2_with fail
  refine HC.out.mono ?_
  rintro e w1 ⟨rfl, rfl⟩
  go_wp2_with fail
  refine HN.out.mono ?_
  rintro e w1 ⟨rfl, hw⟩
  have HW := Lib.hid hw
  clear hw
  go_wp2
  go_end0
  exact ⟨rfl, HW.out⟩
/-- the memory of odd: the argument, the result, the sector -/
structure OdInv (w W : World) (C : Array Value) (S : Sector) : Prop where
  hB : Below w.heap.size w W
  ho : W.heap[w.heap.size]? = some (.cells C 34 (0, 0))
  hr : W.heap[w.heap.size + 1]? = some (.cells (sec zsec) 27 (0, 0))
  hs : W.heap[w.heap.size + 1 + 1]? = some (.cells (sec S) 27 (0, 0))
theorem OdInv.sz {w W : World} {C : Array Value} {S : Sector} (h : OdInv w W C S) : w.heap.size + 1 + 1 < W.heap.size := (Array.getElem?_eq_some_iff.1 h.hs).1
theorem OdInv.below {w W W' : World} {C : Array Value} {S : Sector} (h : OdInv w W C S) (hb : Below W.heap.size W W') : OdInv w W' C S := by
  have := h.sz
  exact ⟨h.hB.trans (hb.mono (by omega)), (hb.block _ (by omega)).trans h.ho, (hb.block _ (by omega)).trans h.hr, (hb.block _ (by omega)).trans h.hs⟩
theorem OdInv.drew {w W : World} {C : Array Value} {S : Sector} (h : OdInv w W C S) : OdInv w W.drew C S := ⟨h.hB.drew, h.ho, h.hr, h.hs⟩
theorem OdInv.set {w W : World} {C : Array Value} {S : Sector} (h : OdInv w W C S) (S' : Sector) : OdInv w (W.setRow (w.heap.size + 1 + 1) (sec S')) C S' :=
  ⟨h.hB.trans ⟨rfl, rfl, rfl, by simp, fun k hk => setRow_other W _ _ _ (by omega)⟩, (setRow_other W _ _ _ (by omega)).trans h.ho, (setRow_other W _ _ _ (by omega)).trans h.hr, setRow_heap W _ _ _ _ _ h.hs⟩
theorem OdInv.setCell {w W : World} {C : Array Value} {S : Sector} (h : OdInv w W C S) (i : Nat) (c : UInt8) : OdInv w (W.setCell ⟨w.heap.size + 1 + 1, i, none⟩ (.int .u8 (vb c))) C (sput S i c) := by
  rw [setCell_eq_setRow W _ _ _ _ _ _ h.hs, sec_set]; exact h.set _
theorem OdInv.start (w : World) (C : Array Value) : OdInv w (((w.alloc (.cells C 34)).alloc (.cells (sec zsec) 27)).alloc (.cells (sec zsec) 27)) C zsec := by
  refine ⟨(((Below.refl _ _).alloc (Nat.le_refl _) _).alloc (by simp) _).alloc (by simp; omega) _, ?_, ?_, ?_⟩
  · rw [Below.heap_alloc _ _ _ (by simp; omega), Below.heap_alloc _ _ _ (by simp)]; exact heap_alloc_eq _ _ _ (by simp)
  · rw [Below.heap_alloc _ _ _ (by simp)]; exact heap_alloc_eq _ _ _ (by simp)
  · exact heap_alloc_eq _ _ _ (by simp)
def SomeSec (w : World) (e : Ending) (w' : World) : Prop := ∃ s : Sector, e = .returned (.agg (sec s)) ∧ Below w.heap.size w w'
theorem results_sector1 {fn : Func} {p : Tmp} (h : fn.results = #[.cell p 27]) (tmps : Array Value) (w : World) (g : Nat) (s : Sector)
    (hp : tmps.getD p undef = .pointer (some ⟨g, 0, none⟩)) (hg : w.heap[g]? = some (.cells (sec s) 27 (0, 0))) :
    (results fn tmps).run Tryd.prog w = .ok (.agg (sec s)) w := by
  have hp' : tmps[p]?.getD undef = .pointer (some ⟨g, 0, none⟩) := by simpa using hp
  simp [results, h, hp', asAddr, run_loadVar_sector w g s hg]
theorem OdInv.ret {w W : World} {C : Array Value} {S : Sector} (h : OdInv w W C S) : (W.setRow (w.heap.size + 1) (sec S)).heap[w.heap.size + 1]? = some (.cells (sec S) 27 (0, 0)) ∧ Below w.heap.size w (W.setRow (w.heap.size + 1) (sec S)) :=
  ⟨setRow_heap W _ _ _ _ _ h.hr, h.hB.trans ⟨rfl, rfl, rfl, by simp, fun k hk => setRow_other W _ _ _ (by omega)⟩⟩
theorem g_rem128 (c : UInt8) : (vb c).tmod 128 = ((c.toNat % 128 : Nat) : Int) := by
  rw [Int.tmod_eq_emod_of_nonneg (vb_nonneg c)]; unfold vb; omega
theorem g_rem128' (c : UInt8) : vb c % 128 = ((c.toNat % 128 : Nat) : Int) := by unfold vb; omega
set_option maxRecDepth 100000 in
set_option maxHeartbeats 4000000 in
theorem odd_any (at_ : UInt8) (k : Int) (q : BitVec 32) (d : ByteArray) (ch : Value) (fx : Bool) (l : List (UInt8 × UInt8)) (w : World) (hd : d.size ≤ 9223372036854775807) (hch : ChAt w ch l) :
    Calls Tryd.prog 13 #[.agg (oddC at_ k q d ch fx)] w (SomeSec w) := by
  obtain ⟨a, cap, rfl, hl, hcells⟩ := hch
  have HC : Hid (l = [] ∨ ∃ b off, a = some ⟨b, off, none⟩ ∧ b < w.heap.size ∧ ∀ i, i < l.length → w.cell? ⟨b, off + i * 2, none⟩ = some (.int .u8 (vb (l.getD i (0, 0)).1)) ∧ w.cell? ⟨b, off + i * 2 + 1, none⟩ = some (.int .u8 (vb (l.getD i (0, 0)).2))) := hcells
  clear hcells
  have hinv := OdInv.start w (oddC at_ k q d (.slice a l.length cap) fx)
  have hcase : (k = 0) ∨ (k ≠ 0 ∧ 112 < d.size) ∨ (k ≠ 0 ∧ d.size ≤ 112) := by omega
  rcases hcase with hk0 | ⟨hk0, hds⟩ | ⟨hk0, hds⟩
  · have qk : (k != 0) = false := by simpa using hk0
    clear hk0
    unfold oddC at hinv ⊢
    go_enter Tryd.func13, Tryd.ntmps13
    go_wp2_with (with_reducible refine wpList_alloc_sector rfl rfl ?_)
    have hst := hinv
    clear hinv
    go_loopw [4] (fun i wr => ∃ (j : Nat) (S : Sector), j ≤ l.length ∧ i = .int .i64 j ∧ OdInv w wr #[.int .u8 (vb at_), .int .i64 k, .int .u32 (vu q), .string d, .slice a l.length cap, .bool fx] S) (fun i _ => l.length - (intOf i).toNat)
    case atStart => exact ⟨0, _, Nat.zero_le _, rfl, hst⟩
    case round =>
      obtain ⟨j, S, hj, rfl, hi⟩ := hrel
      clear hst
      have c4 : wr.cell? ⟨w.heap.size, 4, none⟩ = some (.slice a l.length cap) := cell_of_row wr _ 4 _ _ _ hi.ho
      by_cases hlt : j < l.length ∧ j < 200
      · obtain ⟨h1, h2⟩ := hlt
        rcases HC.out with rfl | ⟨b, off, rfl, hb, hcells⟩
        · simp at h1
        obtain ⟨g0, g1⟩ := hcells j h1
        have e0 := (hi.hB.cell (p := ⟨b, off + j * 2, none⟩) hb).trans g0
        have e1 := (hi.hB.cell (p := ⟨b, off + j * 2 + 1, none⟩) hb).trans g1
        clear g0 g1 hcells
        generalize (l.getD j (0, 0)).1 = x0 at e0
        generalize (l.getD j (0, 0)).2 = x1 at e1
        have hm : x0.toNat % 128 < 128 := Nat.mod_lt _ (by decide)
        have r0 := g_rem128 x0
        have r1 := g_rem128' x0
        generalize x0.toNat % 128 = m at hm r0 r1
        have cs : wr.cell? ⟨w.heap.size + 1 + 1, m, none⟩ = some (.int .u8 (vb (sat S m))) := (cell_of_row wr _ _ _ _ _ hi.hs).trans (sec_get S m hm)
        have fs : wr.frozen? ⟨w.heap.size + 1 + 1, m, none⟩ = false := frozen_of_row wr _ _ _ _ hi.hs
        have hsc := hi.setCell m (sat S m ^^^ x1)
        have hmi : (m : Int) < 128 := by omega
        have hji : (j : Int) < 200 := by omega
        go_wp2
        clear HC
        go_region
        all_goals
          go_wp2
          go_roundw
          case rel => exact ⟨j + 1, _, by omega, by go_num, hsc.drew⟩
          case measure => simp [intOf]; omega
      · have c5 : wr.cell? ⟨w.heap.size, 5, none⟩ = some (.bool fx) := cell_of_row wr _ 5 _ _ _ hi.ho
        have hend : l.length ≤ j ∨ (j < l.length ∧ 200 ≤ j) := by omega
        clear hlt
        rcases hend with h1 | ⟨h1, h2⟩
        all_goals
          cases fx
          · have hs := hi.hs
            have hr := hi.hr
            go_wp2_with (first | ((with_reducible refine wpList_load_sector rfl _ rfl (w.heap.size + 1 + 1) S ?_ hs ?_); rfl) | ((with_reducible refine wpList_store_sector rfl _ _ rfl (w.heap.size + 1) S zsec ?_ ?_ hr ?_); rfl; rfl))
            exact bodyPost_ret (results_sector1 rfl _ _ (w.heap.size + 1) S rfl hi.ret.1) rfl ⟨S, rfl, hi.ret.2⟩
          · have HF := Lib.hid (fixed_any (w.heap.size + 1 + 1) S wr hi.hs)
            have hi2 := hi.set (putN S 124 (crc (S.toList.take 124)))
            generalize putN S 124 (crc (S.toList.take 124)) = S2 at HF hi2
            have hs := hi2.hs
            have hr := hi2.hr
            go_wp2_with fail
            refine HF.out.mono ?_
            rintro e w3 ⟨rfl, rfl⟩
            go_wp2_with (first | ((with_reducible refine wpList_load_sector rfl _ rfl (w.heap.size + 1 + 1) S2 ?_ hs ?_); rfl) | ((with_reducible refine wpList_store_sector rfl _ _ rfl (w.heap.size + 1) S2 zsec ?_ ?_ hr ?_); rfl; rfl))
            exact bodyPost_ret (results_sector1 rfl _ _ (w.heap.size + 1) S2 rfl hi2.ret.1) rfl ⟨S2, rfl, hi2.ret.2⟩
  · have qk : (k != 0) = true := by simpa using hk0
    have qd : decide ((d.size : Int) ≤ 112) = false := by simp; omega
    clear hk0
    unfold oddC at hinv ⊢
    go_enter Tryd.func13, Tryd.ntmps13
    go_wp2_with (with_reducible refine wpList_alloc_sector rfl rfl ?_)
    have hst := hinv
    clear hinv
    go_loopw [4] (fun i wr => ∃ (j : Nat) (S : Sector), j ≤ l.length ∧ i = .int .i64 j ∧ OdInv w wr #[.int .u8 (vb at_), .int .i64 k, .int .u32 (vu q), .string d, .slice a l.length cap, .bool fx] S) (fun i _ => l.length - (intOf i).toNat)
    case atStart => exact ⟨0, _, Nat.zero_le _, rfl, hst⟩
    case round =>
      obtain ⟨j, S, hj, rfl, hi⟩ := hrel
      clear hst
      have c4 : wr.cell? ⟨w.heap.size, 4, none⟩ = some (.slice a l.length cap) := cell_of_row wr _ 4 _ _ _ hi.ho
      by_cases hlt : j < l.length ∧ j < 200
      · obtain ⟨h1, h2⟩ := hlt
        rcases HC.out with rfl | ⟨b, off, rfl, hb, hcells⟩
        · simp at h1
        obtain ⟨g0, g1⟩ := hcells j h1
        have e0 := (hi.hB.cell (p := ⟨b, off + j * 2, none⟩) hb).trans g0
        have e1 := (hi.hB.cell (p := ⟨b, off + j * 2 + 1, none⟩) hb).trans g1
        clear g0 g1 hcells
        generalize (l.getD j (0, 0)).1 = x0 at e0
        generalize (l.getD j (0, 0)).2 = x1 at e1
        have hm : x0.toNat % 128 < 128 := Nat.mod_lt _ (by decide)
        have r0 := g_rem128 x0
        have r1 := g_rem128' x0
        generalize x0.toNat % 128 = m at hm r0 r1
        have cs : wr.cell? ⟨w.heap.size + 1 + 1, m, none⟩ = some (.int .u8 (vb (sat S m))) := (cell_of_row wr _ _ _ _ _ hi.hs).trans (sec_get S m hm)
        have fs : wr.frozen? ⟨w.heap.size + 1 + 1, m, none⟩ = false := frozen_of_row wr _ _ _ _ hi.hs
        have hsc := hi.setCell m (sat S m ^^^ x1)
        have hmi : (m : Int) < 128 := by omega
        have hji : (j : Int) < 200 := by omega
        go_wp2
        clear HC
        go_region
        all_goals
          go_wp2
          go_roundw
          case rel => exact ⟨j + 1, _, by omega, by go_num, hsc.drew⟩
          case measure => simp [intOf]; omega
      · have c5 : wr.cell? ⟨w.heap.size, 5, none⟩ = some (.bool fx) := cell_of_row wr _ 5 _ _ _ hi.ho
        have hend : l.length ≤ j ∨ (j < l.length ∧ 200 ≤ j) := by omega
        clear hlt
        rcases hend with h1 | ⟨h1, h2⟩
        all_goals
          cases fx
          · have hs := hi.hs
            have hr := hi.hr
            go_wp2_with (first | ((with_reducible refine wpList_load_sector rfl _ rfl (w.heap.size + 1 + 1) S ?_ hs ?_); rfl) | ((with_reducible refine wpList_store_sector rfl _ _ rfl (w.heap.size + 1) S zsec ?_ ?_ hr ?_); rfl; rfl))
            exact bodyPost_ret (results_sector1 rfl _ _ (w.heap.size + 1) S rfl hi.ret.1) rfl ⟨S, rfl, hi.ret.2⟩
          · have HF := Lib.hid (fixed_any (w.heap.size + 1 + 1) S wr hi.hs)
            have hi2 := hi.set (putN S 124 (crc (S.toList.take 124)))
            generalize putN S 124 (crc (S.toList.take 124)) = S2 at HF hi2
            have hs := hi2.hs
            have hr := hi2.hr
            go_wp2_with fail
            refine HF.out.mono ?_
            rintro e w3 ⟨rfl, rfl⟩
            go_wp2_with (first | ((with_reducible refine wpList_load_sector rfl _ rfl (w.heap.size + 1 + 1) S2 ?_ hs ?_); rfl) | ((with_reducible refine wpList_store_sector rfl _ _ rfl (w.heap.size + 1) S2 zsec ?_ ?_ hr ?_); rfl; rfl))
            exact bodyPost_ret (results_sector1 rfl _ _ (w.heap.size + 1) S2 rfl hi2.ret.1) rfl ⟨S2, rfl, hi2.ret.2⟩
  · have qk : (k != 0) = true := by simpa using hk0
    have qd : decide ((d.size : Int) ≤ 112) = true := by simp; omega
    obtain ⟨lb, hlb⟩ : ∃ lb : UInt8, vb lb = d.size := ⟨UInt8.ofNat d.size, by unfold vb; simp; omega⟩
    have HS := Lib.hid (fun W => refseal_ok at_.toNat (kindB k) lb q d W at_.toNat_lt (kind_one k) (by omega) hlb)
    clear hk0 hlb
    unfold oddC at hinv ⊢
    go_enter Tryd.func13, Tryd.ntmps13
    go_wp2_with (with_reducible refine wpList_alloc_sector rfl rfl ?_)
    refine (HS.out _).mono ?_
    rintro e w1 ⟨rfl, hB⟩
    have h1 := hinv.below hB
    clear HS hB hinv
    generalize sealOf (kindB k) lb d.data.toList q at_.toNat = S1
    have hst := h1.set S1
    have hs1 := h1.hs
    clear h1
    go_wp2_with ((with_reducible refine wpList_store_sector rfl _ _ rfl (w.heap.size + 1 + 1) S1 zsec ?_ ?_ hs1 ?_); rfl; rfl)
    clear hs1
    go_loopw [4] (fun i wr => ∃ (j : Nat) (S : Sector), j ≤ l.length ∧ i = .int .i64 j ∧ OdInv w wr #[.int .u8 (vb at_), .int .i64 k, .int .u32 (vu q), .string d, .slice a l.length cap, .bool fx] S) (fun i _ => l.length - (intOf i).toNat)
    case atStart => exact ⟨0, _, Nat.zero_le _, rfl, hst⟩
    case round =>
      obtain ⟨j, S, hj, rfl, hi⟩ := hrel
      clear hst
      have c4 : wr.cell? ⟨w.heap.size, 4, none⟩ = some (.slice a l.length cap) := cell_of_row wr _ 4 _ _ _ hi.ho
      by_cases hlt : j < l.length ∧ j < 200
      · obtain ⟨h1, h2⟩ := hlt
        rcases HC.out with rfl | ⟨b, off, rfl, hb, hcells⟩
        · simp at h1
        obtain ⟨g0, g1⟩ := hcells j h1
        have e0 := (hi.hB.cell (p := ⟨b, off + j * 2, none⟩) hb).trans g0
        have e1 := (hi.hB.cell (p := ⟨b, off + j * 2 + 1, none⟩) hb).trans g1
        clear g0 g1 hcells
        generalize (l.getD j (0, 0)).1 = x0 at e0
        generalize (l.getD j (0, 0)).2 = x1 at e1
        have hm : x0.toNat % 128 < 128 := Nat.mod_lt _ (by decide)
        have r0 := g_rem128 x0
        have r1 := g_rem128' x0
        generalize x0.toNat % 128 = m at hm r0 r1
        have cs : wr.cell? ⟨w.heap.size + 1 + 1, m, none⟩ = some (.int .u8 (vb (sat S m))) := (cell_of_row wr _ _ _ _ _ hi.hs).trans (sec_get S m hm)
        have fs : wr.frozen? ⟨w.heap.size + 1 + 1, m, none⟩ = false := frozen_of_row wr _ _ _ _ hi.hs
        have hsc := hi.setCell m (sat S m ^^^ x1)
        have hmi : (m : Int) < 128 := by omega
        have hji : (j : Int) < 200 := by omega
        go_wp2
        clear HC
        go_region
        all_goals
          go_wp2
          go_roundw
          case rel => exact ⟨j + 1, _, by omega, by go_num, hsc.drew⟩
          case measure => simp [intOf]; omega
      · have c5 : wr.cell? ⟨w.heap.size, 5, none⟩ = some (.bool fx) := cell_of_row wr _ 5 _ _ _ hi.ho
        have hend : l.length ≤ j ∨ (j < l.length ∧ 200 ≤ j) := by omega
        clear hlt
        rcases hend with h1 | ⟨h1, h2⟩
        all_goals
          cases fx
          · have hs := hi.hs
            have hr := hi.hr
            go_wp2_with (first | ((with_reducible refine wpList_load_sector rfl _ rfl (w.heap.size + 1 + 1) S ?_ hs ?_); rfl) | ((with_reducible refine wpList_store_sector rfl _ _ rfl (w.heap.size + 1) S zsec ?_ ?_ hr ?_); rfl; rfl))
            exact bodyPost_ret (results_sector1 rfl _ _ (w.heap.size + 1) S rfl hi.ret.1) rfl ⟨S, rfl, hi.ret.2⟩
          · have HF := Lib.hid (fixed_any (w.heap.size + 1 + 1) S wr hi.hs)
            have hi2 := hi.set (putN S 124 (crc (S.toList.take 124)))
            generalize putN S 124 (crc (S.toList.take 124)) = S2 at HF hi2
            have hs := hi2.hs
            have hr := hi2.hr
            go_wp2_with fail
            refine HF.out.mono ?_
            rintro e w3 ⟨rfl, rfl⟩
            go_wp2_with (first | ((with_reducible refine wpList_load_sector rfl _ rfl (w.heap.size + 1 + 1) S2 ?_ hs ?_); rfl) | ((with_reducible refine wpList_store_sector rfl _ _ rfl (w.heap.size + 1) S2 zsec ?_ ?_ hr ?_); rfl; rfl))
            exact bodyPost_ret (results_sector1 rfl _ _ (w.heap.size + 1) S2 rfl hi2.ret.1) rfl ⟨S2, rfl, hi2.ret.2⟩
end Go.Proofs.YtghaaonghlfepaaDoor
