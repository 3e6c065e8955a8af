/- The walk of awake: a new device takes some writes and a crash. -/
import Derived.Test.YtjbjhjlfcbhaiaaDevHas
import Derived.Test.YtjbjhjlfcbhaiaaDvMath
import Derived.Test.YtjbjhjlfcbhaiaaFilled
import Derived.Test.YtjbjhjlfcbhaiaaNear
namespace Go.Proofs.Ytjbjhjlfcbhaiaa
open Go.RowKit
attribute [local go_sem] Oper.semAt_some setRow_alloc_at
attribute [local go_sem high] run_eql_sector run_neq_sector
attribute [local go_sem] secL_arr
def secA : Sector := fillS 1 1
def secB : Sector := fillS 2 2
set_option maxRecDepth 100000 in
theorem ones_any (w : World) : Calls Try.prog 22 #[] w fun e w' => e = .returned (.agg (sec secA)) ∧ Below w.heap.size w w' := by
  have hB1 : Below w.heap.size w (w.alloc (.cells (sec zsec) 31)) := (Below.refl _ _).alloc (Nat.le_refl _) _
  have HF := Lib.hid (filled_any 1 1 (w.alloc (.cells (sec zsec) 31)))
  go_enter Try.func22, Try.ntmps22
  go_wp2_with (with_reducible refine wpList_alloc_sector rfl rfl ?_)
  refine HF.out.mono ?_
  rintro e w2 ⟨rfl, hB2⟩
  have h0 := (hB2.block w.heap.size (by simp)).trans (heap_alloc_new w _)
  go_wp2_with ((with_reducible refine wpList_store_sector rfl _ _ rfl w.heap.size (fillS 1 1) zsec ?_ ?_ h0 ?_); rfl; rfl)
  refine bodyPost_ret (results_sec1 rfl _ _ w.heap.size (fillS 1 1) rfl (setRow_heap _ _ _ _ _ _ h0)) rfl ⟨rfl, ?_⟩
  exact (hB1.trans (hB2.mono hB1.size)).trans ⟨rfl, rfl, rfl, by simp, fun k hk => setRow_other _ _ _ _ (by omega)⟩
set_option maxRecDepth 100000 in
theorem twos_any (w : World) : Calls Try.prog 23 #[] w fun e w' => e = .returned (.agg (sec secB)) ∧ Below w.heap.size w w' := by
  have hB1 : Below w.heap.size w (w.alloc (.cells (sec zsec) 31)) := (Below.refl _ _).alloc (Nat.le_refl _) _
  have HF := Lib.hid (filled_any 2 2 (w.alloc (.cells (sec zsec) 31)))
  go_enter Try.func23, Try.ntmps23
  go_wp2_with (with_reducible refine wpList_alloc_sector rfl rfl ?_)
  refine HF.out.mono ?_
  rintro e w2 ⟨rfl, hB2⟩
  have h0 := (hB2.block w.heap.size (by simp)).trans (heap_alloc_new w _)
  go_wp2_with ((with_reducible refine wpList_store_sector rfl _ _ rfl w.heap.size (fillS 2 2) zsec ?_ ?_ h0 ?_); rfl; rfl)
  refine bodyPost_ret (results_sec1 rfl _ _ w.heap.size (fillS 2 2) rfl (setRow_heap _ _ _ _ _ _ h0)) rfl ⟨rfl, ?_⟩
  exact (hB1.trans (hB2.mono hB1.size)).trans ⟨rfl, rfl, rfl, by simp, fun k hk => setRow_other _ _ _ _ (by omega)⟩
/-- the device of awake behind its writes -/
def awS (A B : Sector) : Dv := (((Dv.new 64).push 3 A).push 3 B).push 4 A
theorem new64_len : (Dv.new 64).st.length = 64 := by simp [Dv.new]
theorem aw1 (A : Sector) : (Dv.new 64).write 3 A = (Dv.new 64).push 3 A ∧ (Dv.new 64).writeE 3 = 0 := ⟨Dv.write_go (Dv.new_free 64) (by decide) (by rw [new64_len]; decide) _, Dv.writeE_go (Dv.new_free 64) (by decide) (by rw [new64_len]; decide)⟩
theorem aw1f (A : Sector) : ((Dv.new 64).push 3 A).Free := Dv.push_free (Dv.new_free 64) _ _ (by decide) (by decide) (by decide)
theorem aw1l (A : Sector) : ((Dv.new 64).push 3 A).st.length = 64 := new64_len
theorem aw2 (A B : Sector) : ((Dv.new 64).push 3 A).write 3 B = ((Dv.new 64).push 3 A).push 3 B ∧ ((Dv.new 64).push 3 A).writeE 3 = 0 := ⟨Dv.write_go (aw1f A) (by decide) (by rw [aw1l A]; decide) _, Dv.writeE_go (aw1f A) (by decide) (by rw [aw1l A]; decide)⟩
theorem aw2f (A B : Sector) : (((Dv.new 64).push 3 A).push 3 B).Free := Dv.push_free (aw1f A) _ _ (by simp [Dv.push, Dv.new]) (by simp [Dv.push, Dv.new]) (by simp [Dv.push, Dv.new])
theorem aw2l (A B : Sector) : (((Dv.new 64).push 3 A).push 3 B).st.length = 64 := new64_len
theorem aw3 (A B : Sector) : (((Dv.new 64).push 3 A).push 3 B).write 4 A = (awS A B) ∧ (((Dv.new 64).push 3 A).push 3 B).writeE 4 = 0 := ⟨Dv.write_go (aw2f A B) (by decide) (by rw [aw2l A B]; decide) _, Dv.writeE_go (aw2f A B) (by decide) (by rw [aw2l A B]; decide)⟩
theorem awl (A B : Sector) : (awS A B).st.length = 64 := new64_len
theorem awc (A B : Sector) : (awS A B).ca = [(3, A), (3, B), (4, A)] := rfl
theorem aw_read (A B : Sector) : (awS A B).readV 3 = .tuple #[.agg (sec B), .int .i64 0] := by
  have h : (awS A B).at 3 = 0 := Dv.at_ok rfl (by decide) (by rw [awl A B]; decide)
  have h2 : (awS A B).look 3 = B := rfl
  unfold Dv.readV; rw [h, if_pos rfl, h2]
def awT (A : Sector) : Dv := { st := ((List.replicate 64 zsec).set 3 A).set 4 A, ca := [], taken := 3, power := -1, off := false }
theorem aw_crashE (A B : Sector) : (awS A B).crashE [0, 2] = 0 := rfl
theorem aw_crash (A B : Sector) : (awS A B).crash [0, 2] = (awT A) := by
  unfold Dv.crash; rw [if_pos (aw_crashE A B)]; rfl
theorem awTl (A : Sector) : (awT A).st.length = 64 := by simp [awT]
theorem awT_read3 (A : Sector) : (awT A).readV 3 = .tuple #[.agg (sec A), .int .i64 0] := by
  have h : (awT A).at 3 = 0 := Dv.at_ok rfl (by decide) (by rw [awTl A]; decide)
  have h2 : (awT A).look 3 = A := by simp [Dv.look, awT, lastW_nil]
  unfold Dv.readV; rw [h, if_pos rfl, h2]
theorem awT_read4 (A : Sector) : (awT A).readV 4 = .tuple #[.agg (sec A), .int .i64 0] := by
  have h : (awT A).at 4 = 0 := Dv.at_ok rfl (by decide) (by rw [awTl A]; decide)
  have h2 : (awT A).look 4 = A := by simp [Dv.look, awT, lastW_nil]
  unfold Dv.readV; rw [h, if_pos rfl, h2]
theorem seqB_self' (s : Sector) : seqB s s = true := by simp [seqB]
/-- a row of ints that a walk made -/
theorem rdl_ints {W : World} {b : Nat} {l : List Int} {cs : Array Value} {t : TypeId} (h : W.heap[b]? = some (.cells cs t (0, 0))) (hc : ∀ (j : Nat) (v : Value), (flat intL l)[j]? = some v → cs[j]? = some v) (cap : Nat) : RdL W 1 intL (.slice (some ⟨b, 0, none⟩) l.length cap) l :=
  ⟨_, _, rfl, .inr ⟨b, 0, rfl, rangeAt_row h _ _ (fun j v hv => by rw [Nat.zero_add]; exact hc j v hv)⟩⟩
set_option maxRecDepth 100000 in
set_option maxHeartbeats 4000000 in
theorem awake_gen (A B : Sector) (H1 : ∀ w, Calls Try.prog 22 #[] w fun e w' => e = .returned (.agg (sec A)) ∧ Below w.heap.size w w') (H2 : ∀ w, Calls Try.prog 23 #[] w fun e w' => e = .returned (.agg (sec B)) ∧ Below w.heap.size w w') (w : World) : Calls Try.prog 11 #[] w fun e w' => e = .returned (.bool true) ∧ Below w.heap.size w w' := by
  have HA1 := Lib.hid H1
  have HA2 := Lib.hid H2
  clear H1 H2
  have h0 := Has.start w
  go_enter Try.func11, Try.ntmps11
  go_wp2_with fail
  refine (new_has h0 64 (by decide) (by decide)).mono ?_
  rintro e w1 ⟨g, rfl, h1⟩
  go_wp2_with fail
  refine (HA1.out w1).mono ?_
  rintro e w2 ⟨rfl, hB⟩
  have h2 := h1.below hB
  go_wp2_with fail
  refine (write_has h2 3 A).mono ?_
  rw [(aw1 A).1, (aw1 A).2]
  rintro e w3 ⟨rfl, h3⟩
  clear hB h1 h2
  go_wp2_with fail
  refine (HA2.out w3).mono ?_
  rintro e w4 ⟨rfl, hB⟩
  have h4 := h3.below hB
  go_wp2_with fail
  refine (write_has h4 3 B).mono ?_
  rw [(aw2 A B).1, (aw2 A B).2]
  rintro e w5 ⟨rfl, h5⟩
  clear hB h3 h4
  go_wp2_with fail
  refine (HA1.out w5).mono ?_
  rintro e w6 ⟨rfl, hB⟩
  have h6 := h5.below hB
  go_wp2_with fail
  refine (write_has h6 4 A).mono ?_
  rw [(aw3 A B).1, (aw3 A B).2]
  rintro e w7 ⟨rfl, h7⟩
  clear hB h5 h6
  go_wp2_with fail
  refine (read_has h7 (.head _) 3).mono ?_
  rw [aw_read A B]
  rintro e w8 ⟨rfl, h8⟩
  clear h7
  go_wp2_with (first | (with_reducible refine wpList_alloc_sector rfl rfl ?_) | ((with_reducible refine wpList_store_sector rfl _ _ rfl w8.heap.size B zsec ?_ ?_ ?_ ?_); rfl; rfl; exact heap_alloc_new _ _))
  have h9 := h8.alloc (.cells (sec B) 31)
  clear h8
  refine (pending_has h9 (.tail _ (.head _))).mono ?_
  rintro e w' ⟨rfl, rfl⟩
  rw [awc A B]
  go_wp2_with fail
  have h10 := (h9.alloc (.cells #[.int .i64 0, .int .i64 2] 3)).perm (rs' := [DevR _ g (awS A B), Blk _ (w8.heap.size + 1) (.cells #[.int .i64 0, .int .i64 2] 3), Blk _ w8.heap.size (.cells (sec B) 31)]) (by
    have e : (w8.alloc (.cells (sec B) 31)).heap.size = w8.heap.size + 1 := by simp
    rw [e]
    exact (List.perm_append_comm (l₁ := [Blk _ (w8.heap.size + 1) _, Blk _ w8.heap.size _]) (l₂ := [DevR _ g (awS A B)])).trans (.refl _))
  have hk := h10.blk 1 _ _ rfl
  refine (crash_has h10 (.slice (some ⟨w8.heap.size + 1, 0, none⟩) 2 2) [0, 2] (rdl_ints (l := [0, 2]) hk.1 (by intro j v hv; simpa [flat, intL] using hv) 2) (by decide) (fun k hk => ?_)).mono ?_
  · simp [blks, Value.ownBlock] at hk
    subst hk
    refine .inr ⟨_, .head _, ?_⟩
    rintro F2 ⟨rfl, _⟩
    simp
  rw [aw_crashE A B, aw_crash A B]
  rintro e w9 ⟨rfl, h11⟩
  clear hk h10 h9
  go_wp2_with fail
  refine (read_has h11 (.head _) 3).mono ?_
  rw [awT_read3 A]
  rintro e w10 ⟨rfl, h12⟩
  clear h11
  go_wp2_with (first | (with_reducible refine wpList_alloc_sector rfl rfl ?_) | ((with_reducible refine wpList_store_sector rfl _ _ rfl w10.heap.size A zsec ?_ ?_ ?_ ?_); rfl; rfl; exact heap_alloc_new _ _))
  have h13 := h12.alloc (.cells (sec A) 31)
  clear h12
  refine (read_has h13 (.tail _ (.head _)) 4).mono ?_
  rw [awT_read4 A]
  rintro e w11 ⟨rfl, h14⟩
  clear h13
  go_wp2_with (first | (with_reducible refine wpList_alloc_sector rfl rfl ?_) | ((with_reducible refine wpList_store_sector rfl _ _ rfl w11.heap.size A zsec ?_ ?_ ?_ ?_); rfl; rfl; exact heap_alloc_new _ _))
  have h15 := h14.alloc (.cells (sec A) 31)
  clear h14
  have b1 := h15.blk 4 _ _ rfl
  have b2 := h15.blk 1 _ _ rfl
  have b3 := h15.blk 0 _ _ rfl
  have q1 := seqB_self' A
  have q2 := seqB_self' B
  have hB := h15.hB
  have l1 : ∀ n : Near (w11.alloc (.cells (sec A) 31)), n.w.rangeAt w8.heap.size 0 (secL B) := fun n => n.range (rangeAt_row b1.1 _ _ (fun j v hv => by simpa [secL] using hv))
  have l2 : ∀ n : Near (w11.alloc (.cells (sec A) 31)), n.w.rangeAt w10.heap.size 0 (secL A) := fun n => n.range (rangeAt_row b2.1 _ _ (fun j v hv => by simpa [secL] using hv))
  have l3 : ∀ n : Near (w11.alloc (.cells (sec A) 31)), n.w.rangeAt w11.heap.size 0 (secL A) := fun n => n.range (rangeAt_row b3.1 _ _ (fun j v hv => by simpa [secL] using hv))
  have L1 := Lib.hid l1
  have L2 := Lib.hid l2
  have L3 := Lib.hid l3
  clear b1 b2 b3 h15 l1 l2 l3
  refine wp_region_near (by kernel_rfl) (by kernel_rfl) ?_
  repeat (first | go_big_quiet_skip | (go_big_quiet_want; first
    | ((with_reducible refine near_load _ _ rfl w8.heap.size 0 (secL B) _ ?_ L1.out Try.underlying31 rfl (secL_size B) ?_); rfl; simp only [Act.put, List.setIfInBounds_toArray, List.set_cons_zero, List.set_cons_succ, secL_arr]; go_big_quiet_on)
    | ((with_reducible refine near_load _ _ rfl w10.heap.size 0 (secL A) _ ?_ L2.out Try.underlying31 rfl (secL_size A) ?_); rfl; simp only [Act.put, List.setIfInBounds_toArray, List.set_cons_zero, List.set_cons_succ, secL_arr]; go_big_quiet_on)
    | ((with_reducible refine near_load _ _ rfl w11.heap.size 0 (secL A) _ ?_ L3.out Try.underlying31 rfl (secL_size A) ?_); rfl; simp only [Act.put, List.setIfInBounds_toArray, List.set_cons_zero, List.set_cons_succ, secL_arr]; go_big_quiet_on)
    | (go_big_quiet_op; first | go_big_quiet_on | go_big_quiet_call (first | (go_at_call 22; exact near_call _ (HA1.out _)) | (go_at_call 23; exact near_call _ (HA2.out _))))))
  refine wpQuiet_nil ?_
  rintro _ ⟨nq, rfl⟩
  go_wp2
  go_ret
  exact ⟨rfl, hB.trans (nq.h.mono hB.size)⟩
theorem awake_any (w : World) : Calls Try.prog 11 #[] w fun e w' => e = .returned (.bool true) ∧ Below w.heap.size w w' := awake_gen secA secB ones_any twos_any w
end Go.Proofs.Ytjbjhjlfcbhaiaa
