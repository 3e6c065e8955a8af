/- The walk of Filled. -/
import Derived.Test.YtfbkfdoekgnldaaGreatDoorDevW2
namespace Go.Proofs.YtfbkfdoekgnldaaGreatDoor
open Go.RowKit
attribute [local go_sem] Oper.semAt_some
def fillK (b : UInt8) : Nat → Sector
  | 0 => zsec
  | k + 1 => sput (fillK b k) k b
/-- a sector of bytes that are all one, the first one another one -/
def fillS (a b : UInt8) : Sector := sput (fillK b 128) 0 a
theorem results_sec1 {fn : Func} {p : Tmp} (h : fn.results = #[.cell p 53]) (tmps : Array Value) (w : World) (g : Nat) (s : Sector)
    (hp : tmps.getD p undef = .pointer (some ⟨g, 0, none⟩)) (hg : w.heap[g]? = some (.cells (sec s) 53 (0, 0))) :
    (results fn tmps).run Tryz.prog w = .ok (.agg (sec s)) w := by
  have hp' : tmps[p]?.getD undef = .pointer (some ⟨g, 0, none⟩) := by simpa using hp
  simp [results, h, hp', asAddr, run_loadVar_sector w g s hg]
set_option maxRecDepth 100000 in
set_option maxHeartbeats 1000000 in
theorem filled_any (a b : UInt8) (w : World) : Calls Tryz.prog 12 #[.int .u8 (vb a), .int .u8 (vb b)] w fun e w' => e = .returned (.agg (sec (fillS a b))) ∧ Below w.heap.size w w' := by
  have k2 := ((Keep.start w).alloc (.cells (sec zsec) 53)).allocAt (.cells (sec zsec) 53) (w.heap.size + 1) (by simp)
  go_enter Tryz.func12, Tryz.ntmps12
  go_wp2_with (with_reducible refine wpList_alloc_sector rfl rfl ?_)
  revert k2
  generalize (w.alloc (.cells (sec zsec) 53)).alloc (.cells (sec zsec) 53) = W0
  intro k2
  go_loopw [6] (fun i wr => ∃ k : Nat, k ≤ 128 ∧ i = .int .i64 k ∧ Keep w wr [(w.heap.size + 1, .cells (sec (fillK b k)) 53), (w.heap.size, .cells (sec zsec) 53)]) (fun i _ => 128 - (intOf i).toNat)
  case atStart => exact ⟨0, by omega, rfl, k2⟩
  case round =>
    obtain ⟨k, hk, rfl, kr⟩ := hrel
    clear k2
    by_cases hlt : k < 128
    · have c0 := kr.cell 0 (w.heap.size + 1) _ _ rfl k (.int .u8 (vb (sat (fillK b k) k))) (sec_get _ _ hlt)
      have f0 := kr.frozen 0 (w.heap.size + 1) _ _ rfl k
      have k3 := kr.put [] (by omega) (by simp) k (.int .u8 (vb b))
      rw [sec_set] at k3
      have hki : (k : Int) < 128 := by omega
      have H3 := Lib.hid k3
      clear kr k3
      go_wp2
      go_roundw
      case rel => exact ⟨k + 1, by omega, by go_num, H3.out⟩
      case measure => simp [intOf]; omega
    · have hk8 : k = 128 := by omega
      subst hk8
      have c0 := kr.cell 0 (w.heap.size + 1) _ _ rfl 0 (.int .u8 (vb (sat (fillK b 128) 0))) (sec_get _ _ (by omega))
      have f0 := kr.frozen 0 (w.heap.size + 1) _ _ rfl 0
      have k3 := kr.put [] (by omega) (by simp) 0 (.int .u8 (vb a))
      rw [sec_set] at k3
      have k4 : Keep w (wr.setCell ⟨w.heap.size + 1, 0, none⟩ (.int .u8 (vb a))) [(w.heap.size + 1, .cells (sec (fillS a b)) 53), (w.heap.size, .cells (sec zsec) 53)] := k3
      have h1 := k4.at 0 _ rfl
      have h0 := k4.at 1 _ rfl
      dsimp only at h1 h0
      obtain ⟨Z, hZ⟩ : ∃ Z, Z = fillS a b := ⟨_, rfl⟩
      rw [← hZ] at h1 k4
      have HZ := Lib.hid hZ
      have K4 := Lib.hid k4
      clear hZ k4 k3 kr
      go_wp2_with (first | ((with_reducible refine wpList_load_sector rfl _ rfl (w.heap.size + 1) Z ?_ h1 ?_); rfl) | ((with_reducible refine wpList_store_sector rfl _ _ rfl w.heap.size Z zsec ?_ ?_ h0 ?_); rfl; rfl))
      refine bodyPost_ret (results_sec1 rfl _ _ w.heap.size Z rfl (setRow_heap _ _ _ _ _ _ h0)) rfl ⟨by rw [← HZ.out], ?_⟩
      exact K4.out.hB.trans ⟨rfl, rfl, rfl, by simp, fun k hk => setRow_other _ _ _ _ (by omega)⟩
end Go.Proofs.YtfbkfdoekgnldaaGreatDoor
