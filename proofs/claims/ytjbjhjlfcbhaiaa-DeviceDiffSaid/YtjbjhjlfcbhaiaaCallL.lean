/- Calls in memory; small. -/
import Derived.Test.YtjbjhjlfcbhaiaaStR
namespace Go.Proofs.Ytjbjhjlfcbhaiaa
open Go.RowKit
attribute [local go_sem] Oper.semAt_some
/-- a call; kv is its slice Keep as a value -/
structure CallD where
  what : UInt8
  at_ : Int
  n : Int
  b : UInt8
  kv : Value
  keep : List Int
def callL (x : CallD) : List Value := [.int .u8 (vb x.what), .int .i64 x.at_, .int .i64 x.n, .int .u8 (vb x.b), x.kv]
theorem callL_len (x : CallD) : (callL x).length = 5 := rfl
structure CallsIn (W : World) (v : Value) (l : List CallD) : Prop where
  hL : RdL W 5 callL v l
  hK : ∀ x ∈ l, RdL W 1 intL x.kv x.keep
  len : l.length ≤ 9223372036854775807
  klen : ∀ x ∈ l, x.keep.length ≤ 9223372036854775807
theorem CallsIn.below {W W' : World} {v : Value} {l : List CallD} (h : CallsIn W v l) (hB : Below W.heap.size W W') : CallsIn W' v l := ⟨h.hL.below hB, fun x hx => (h.hK x hx).below hB, h.len, h.klen⟩
def smallB (l : List CallD) : Bool := l.all (fun x => decide (x.keep.length ≤ 50)) && decide (l.length ≤ 100)
theorem call_kept {W : World} {v : Value} {l : List CallD} (h : CallsIn W v l) (k : Nat) (x : CallD) (hx : l[k]? = some x) : ∃ a cap, x.kv = .slice a x.keep.length cap := by
  obtain ⟨a, cap, h1, _⟩ := h.hK x (List.mem_of_getElem? hx)
  exact ⟨a, cap, h1⟩
set_option maxRecDepth 100000 in
set_option maxHeartbeats 1000000 in
theorem law_small {W : World} {v : Value} {l : List CallD} (h : CallsIn W v l) :
    Calls Try.prog 26 #[v] W fun e w' => e = .returned (.bool (smallB l)) ∧ Below W.heap.size W w' := by
  have HC := Lib.hid h
  have l1 := h.len
  obtain ⟨⟨a, cap, rfl, _⟩, _, _, _⟩ := h
  go_enter Try.func26, Try.ntmps26
  go_wp2
  go_loopw [3] (fun i wr => ∃ k : Nat, k ≤ l.length ∧ i = .int .i64 (k : Int) ∧ Hid ((l.take k).all (fun x => decide (x.keep.length ≤ 50)) = true) ∧ Below W.heap.size W wr) (fun i _ => l.length - (intOf i).toNat)
  case atStart => exact ⟨0, Nat.zero_le _, rfl, Lib.hid rfl, Below.refl _ _⟩
  case round =>
    obtain ⟨k, hk, rfl, HA, hB⟩ := hrel
    by_cases hlt : k < l.length
    · obtain ⟨x, hx⟩ : ∃ x, l[k]? = some x := ⟨_, List.getElem?_eq_getElem hlt⟩
      obtain ⟨b, o, cap2, hv, r⟩ := (HC.out.hL.below hB).elem callL_len k x hx
      obtain ⟨a3, cap3, hkv⟩ := call_kept HC.out k x hx
      injection hv with hv _ hcap
      subst hcap
      subst hv
      have ck := r 4 x.kv rfl
      rw [hkv] at ck
      have hk3 := HC.out.klen x (List.mem_of_getElem? hx)
      have hki : (k : Int) < (l.length : Int) := by omega
      have HX := Lib.hid hx
      have HB := Lib.hid hB
      by_cases h50 : x.keep.length ≤ 50
      · have h50' : ¬ (50 : Int) < (x.keep.length : Int) := by omega
        have HA' : Hid ((l.take (k + 1)).all (fun x => decide (x.keep.length ≤ 50)) = true) := Lib.hid (by
          rw [List.take_add_one, HX.out, List.all_append, HA.out]; simpa using h50)
        clear hx hB r hkv h50
        go_wp2
        go_roundw
        case rel => exact ⟨k + 1, by omega, by go_num, HA', HB.out⟩
        case measure => simp [intOf]; omega
      · have h50' : (50 : Int) < (x.keep.length : Int) := by omega
        have HV : Hid (smallB l = false) := Lib.hid (by
          unfold smallB
          rw [Bool.and_eq_false_iff]; left
          rw [List.all_eq_false]
          exact ⟨x, List.mem_of_getElem? HX.out, by simpa using h50⟩)
        clear hx hB r hkv h50
        go_wp2
        go_ret
        exact ⟨by rw [HV.out]; rfl, HB.out⟩
    · have hkk : k = l.length := by omega
      subst hkk
      have HV : Hid (smallB l = decide (l.length ≤ 100)) := Lib.hid (by
        have := HA.out; rw [List.take_length] at this; unfold smallB; rw [this, Bool.true_and])
      have HB := Lib.hid hB
      clear hB
      go_wp2
      go_ret
      refine ⟨?_, HB.out⟩
      rw [HV.out]
      show Ending.returned (.bool _) = _
      congr 2
      exact decide_eq_decide.2 (by omega)
end Go.Proofs.Ytjbjhjlfcbhaiaa
