/- The journal by definition, on a device that is its sectors, its cache and its power: what each call returns and what it leaves. The walks of the journal's small functions: Check, Costs, inside, most, short, broken, then. The walks of the journal's short, broken and Head. -/
import Derived.Test.YtfbkfdoekgnldaaDoorGetPut
namespace Go.Proofs.YtfbkfdoekgnldaaDoor
open Go.RowKit
/-- a frame that was read -/
structure Fr where
  k : Int
  q : BitVec 32
  d : ByteArray
def fr0F : Fr := ⟨0, 0#32, ⟨#[]⟩⟩
/-- a record -/
structure Rec where
  at_ : Int
  kind : Int
  data : ByteArray
instance recDec : DecidableEq Rec := fun a b => decidable_of_iff (a.at_ = b.at_ ∧ a.kind = b.kind ∧ a.data = b.data) (by
  constructor
  · rintro ⟨h1, h2, h3⟩; cases a; cases b; simp_all
  · rintro rfl; exact ⟨rfl, rfl, rfl⟩)
/-- a layout -/
structure Lay where
  first : Int
  size : Int
def openF (p : Int) (s : Sector) : Fr × Int := if 0 ≤ p ∧ p < 256 then (if openCode p.toNat s = 0 then (⟨vb (sat s 1), getN s 4, frData s⟩, 0) else (fr0F, openCode p.toNat s)) else (fr0F, 7)
/-- what Get returns -/
def Dv.get (S : Dv) (p : Int) : Fr × Int := if S.at p = 0 then openF p (S.look p) else (fr0F, S.at p)
def frFV (f : Fr) : Value := .agg #[.int .i64 f.k, .int .u32 (vu f.q), .string f.d]
theorem get_value (S : Dv) (p : Int) : getV (S.at p) p (if S.at p = 0 then S.look p else zsec) = .tuple #[.agg #[.int .i64 (S.get p).1.k, .int .u32 (vu (S.get p).1.q), .string (S.get p).1.d], .int .i64 (S.get p).2] := by
  unfold getV Dv.get
  by_cases h : S.at p = 0
  · rw [if_pos h, if_pos h, if_pos h]
    unfold openVI openF
    by_cases h1 : 0 ≤ p ∧ p < 256
    · rw [if_pos h1, if_pos h1]
      unfold openV
      by_cases h2 : openCode p.toNat (S.look p) = 0
      · rw [if_pos h2, if_pos h2, h2]; rfl
      · rw [if_neg h2, if_neg h2]; rfl
    · rw [if_neg h1, if_neg h1]; rfl
  · rw [if_neg h, if_neg h]; rfl
theorem get_ret {w W : World} {rs : List (Res w.heap.size)} {g : Nat} {S : Dv} (h : Has w W rs) (hr : DevR _ g S ∈ rs) (p : Int) (hh : HalfLaid w) :
    Calls Tryd.prog 43 #[pv g, .int .i64 p] W fun e w' => e = .returned (.tuple #[.agg #[.int .i64 (S.get p).1.k, .int .u32 (vu (S.get p).1.q), .string (S.get p).1.d], .int .i64 (S.get p).2]) ∧ Has w w' rs := by
  rw [← get_value]; exact get_has h hr p hh
/-- the bytes of content are few -/
theorem frData_len (s : Sector) : (frData s).size ≤ 120 := by
  show ((s.toList.drop 8).take (sat s 2).toNat).length ≤ 120
  simp; omega
theorem fr0F_size : fr0F.d.size ≤ 120 := by decide
theorem Dv.get_size (S : Dv) (p : Int) : (S.get p).1.d.size ≤ 120 := by
  unfold Dv.get openF
  split
  · split
    · split
      · exact frData_len _
      · exact fr0F_size
    · exact fr0F_size
  · exact fr0F_size
namespace Lay
def check (l : Lay) : Int := if l.size < 8 ∨ 96 < l.size ∨ l.first < 0 ∨ 256 - l.size < l.first then 7 else 0
def inside (l : Lay) (p : Int) : Bool := decide (l.first ≤ p) && decide (p < l.first + l.size)
def most (l : Lay) : Int := min (l.size - 2) 80
end Lay
theorem Lay.check_ok {l : Lay} (h : l.check = 0) : 8 ≤ l.size ∧ l.size ≤ 96 ∧ 0 ≤ l.first ∧ l.first ≤ 256 - l.size := by
  unfold Lay.check at h
  by_cases h0 : l.size < 8 ∨ 96 < l.size ∨ l.first < 0 ∨ 256 - l.size < l.first
  · rw [if_pos h0] at h; simp at h
  · omega
def costsE (n : Int) : Int := if n < 0 ∨ 80 < n then 12 else 0
/-- is an error one of the device? -/
def broken (e : Int) : Bool := e == 1 || e == 13 || e == 7
def two (n : Int) : ByteArray := ⟨#[UInt8.ofNat (n % 256).toNat, UInt8.ofNat (n / 256 % 256).toNat]⟩
def byteAt (d : ByteArray) (i : Nat) : UInt8 := at8 d.data.toList i
def recOf (d : ByteArray) : Rec := ⟨vb (byteAt d 0) + 256 * vb (byteAt d 1), vb (byteAt d 2), d.extract 3 d.size⟩
def recBytes (r : Rec) : ByteArray := two r.at_ ++ ⟨#[UInt8.ofNat (r.kind % 256).toNat]⟩ ++ r.data
def hasAt (l : List Rec) (p : Int) : Bool := l.any fun r => r.at_ == p
def headM (S : Dv) (l : Lay) : BitVec 32 × Int :=
  if l.check ≠ 0 then (0#32, l.check) else if (S.get l.first).2 ≠ 0 then (0#32, (S.get l.first).2)
  else if (S.get l.first).1.k ≠ 1 ∨ (S.get l.first).1.d ≠ ⟨#[]⟩ then (0#32, 6) else ((S.get l.first).1.q, 0)
/-- is it the record of a frame? -/
def isRec (S : Dv) (l : Lay) (f : Fr) : Bool :=
  f.k == 2 && decide (3 ≤ f.d.size) && decide (f.d.size ≤ 99) && decide ((recOf f.d).at_ < S.st.length) && !l.inside (recOf f.d).at_ && decide (0 < (recOf f.d).kind)
/-- is the frame of the number q? -/
def mine (x : Fr × Int) (q : BitVec 32) : Bool := x.2 == 0 && x.1.q == q
/-- may the record of a frame be taken behind others? -/
def takes (S : Dv) (l : Lay) (x : Fr × Int) (q : BitVec 32) (out : List Rec) : Bool :=
  mine x q && isRec S l x.1 && !hasAt out (recOf x.1.d).at_ && decide ((out.length : Int) < l.most)
def ends (x : Fr × Int) (q : BitVec 32) (out : List Rec) : Bool := mine x q && x.1.k == 3 && decide (x.1.d = two out.length)
def lookQ (S : Dv) (l : Lay) (q : BitVec 32) : Nat → Int → List Rec → List Rec × Bool × Int
  | 0, _, out => (out, false, 0)
  | n + 1, i, out =>
    if broken (S.get (l.first + i)).2 then ([], false, (S.get (l.first + i)).2)
    else if takes S l (S.get (l.first + i)) q out then lookQ S l q n (i + 1) (out ++ [recOf (S.get (l.first + i)).1.d])
    else (out, ends (S.get (l.first + i)) q out, 0)
theorem lookQ_succ (S : Dv) (l : Lay) (q : BitVec 32) (n : Nat) (i : Int) (out : List Rec) : lookQ S l q (n + 1) i out =
    if broken (S.get (l.first + i)).2 then ([], false, (S.get (l.first + i)).2)
    else if takes S l (S.get (l.first + i)) q out then lookQ S l q n (i + 1) (out ++ [recOf (S.get (l.first + i)).1.d])
    else (out, ends (S.get (l.first + i)) q out, 0) := rfl
theorem broken_zero : ¬ broken 0 = true := by decide
def lookM (S : Dv) (l : Lay) : List Rec × Bool × Int :=
  if (headM S l).2 ≠ 0 then ([], false, (headM S l).2) else lookQ S l ((headM S l).1 + 1#32) (l.size - 1).toNat 1 []
def isStale (x : Fr × Int) (q : BitVec 32) : Bool := mine x q && (x.1.k == 2 || x.1.k == 3)
def staleK (S : Dv) (l : Lay) (q : BitVec 32) : Nat → Int → Bool → Bool × Int
  | 0, _, is => (is, 0)
  | n + 1, i, is => if broken (S.get (l.first + i)).2 then (false, (S.get (l.first + i)).2) else staleK S l q n (i + 1) (is || isStale (S.get (l.first + i)) q)
def staleM (S : Dv) (l : Lay) (q : BitVec 32) : Bool × Int := staleK S l (q + 1#32) (l.size - 1).toNat 1 false
/-- the error of a record behind others -/
def recE (n : Nat) (l : Lay) (before : List Rec) (r : Rec) : Int :=
  if l.inside r.at_ then 2 else if r.at_ < 0 ∨ (n : Int) ≤ r.at_ ∨ r.kind < 1 ∨ 255 < r.kind then 7
  else if 96 < r.data.size then 3 else if hasAt before r.at_ then 8 else 0
def validK (n : Nat) (l : Lay) : List Rec → List Rec → Int
  | _, [] => 0
  | before, r :: rest => if recE n l before r ≠ 0 then recE n l before r else validK n l (before ++ [r]) rest
def validM (n : Nat) (l : Lay) (run : List Rec) : Int := if l.most < run.length then 12 else validK n l [] run
/-- puts, one after the other, as long as there is no error -/
structure PutA where
  p : Int
  kind : Int
  q : BitVec 32
  d : ByteArray
def Dv.putA (S : Dv) (a : PutA) : Dv := S.put a.p a.kind a.q a.d
def Dv.putAE (S : Dv) (a : PutA) : Int := S.putE a.p a.kind a.q a.d
def Dv.putAll (S : Dv) : List PutA → Dv × Int
  | [] => (S, 0)
  | a :: r => if S.putAE a ≠ 0 then (S.putA a, S.putAE a) else (S.putA a).putAll r
def Dv.done (x : Dv × Int) : Dv × Int := if x.2 ≠ 0 then x else (x.1.flush, x.1.flushE)
def logPuts (l : Lay) (q : BitVec 32) : Int → List Rec → List PutA
  | i, [] => [⟨l.first + i, 3, q, two (i - 1)⟩]
  | i, r :: rest => ⟨l.first + i, 2, q, recBytes r⟩ :: logPuts l q (i + 1) rest
def logM (S : Dv) (l : Lay) (run : List Rec) : Dv × Int :=
  if (headM S l).2 ≠ 0 then (S, (headM S l).2) else if validM S.st.length l run ≠ 0 then (S, validM S.st.length l run)
  else Dv.done (S.putAll (logPuts l ((headM S l).1 + 1#32) 1 run))
def appPuts (q : BitVec 32) (run : List Rec) : List PutA := run.map fun r => ⟨r.at_, r.kind, q, r.data⟩
def appM (S : Dv) (q : BitVec 32) (run : List Rec) : Dv × Int := Dv.done (S.putAll (appPuts q run))
/-- with how many, if there is no error -/
def many (x : Dv × Int) (n : Int) : Dv × Int × Int := if x.2 ≠ 0 then (x.1, 0, x.2) else (x.1, n, 0)
def applyM (S : Dv) (l : Lay) : Dv × Int × Int :=
  if (lookM S l).2.2 ≠ 0 then (S, 0, (lookM S l).2.2) else if (lookM S l).2.1 = false then (S, 0, 9)
  else many (appM S ((headM S l).1 + 1#32) (lookM S l).1) (lookM S l).1.length
def clearM (S : Dv) (l : Lay) : Dv × Int :=
  if (headM S l).2 ≠ 0 then (S, (headM S l).2) else Dv.done (S.putAll [⟨l.first, 1, (headM S l).1 + 1#32, ⟨#[]⟩⟩])
def commitM (S : Dv) (l : Lay) (run : List Rec) : Dv × Int :=
  if (logM S l run).2 ≠ 0 then logM S l run
  else if (applyM (logM S l run).1 l).2.2 ≠ 0 then ((applyM (logM S l run).1 l).1, (applyM (logM S l run).1 l).2.2)
  else clearM (applyM (logM S l run).1 l).1 l
def replayM (S : Dv) (l : Lay) : Dv × Int × Int :=
  if (lookM S l).2.2 ≠ 0 then (S, 0, (lookM S l).2.2)
  else if (lookM S l).2.1 then
    if (appM S ((headM S l).1 + 1#32) (lookM S l).1).2 ≠ 0 then ((appM S ((headM S l).1 + 1#32) (lookM S l).1).1, 0, (appM S ((headM S l).1 + 1#32) (lookM S l).1).2)
    else many (clearM (appM S ((headM S l).1 + 1#32) (lookM S l).1).1 l) (lookM S l).1.length
  else if (staleM S l (headM S l).1).2 ≠ 0 then (S, 0, (staleM S l (headM S l).1).2)
  else if (staleM S l (headM S l).1).1 then many (clearM S l) 0
  else (S, 0, 0)
def zerosK (l : Lay) (S : Dv) : Nat → Int → Dv × Int
  | 0, _ => (S, 0)
  | n + 1, i => if S.writeE (l.first + i) ≠ 0 then (S.write (l.first + i) zsec, S.writeE (l.first + i)) else zerosK l (S.write (l.first + i) zsec) n (i + 1)
def formatM (S : Dv) (l : Lay) : Dv × Int :=
  if l.check ≠ 0 then (S, l.check) else if S.putE l.first 1 0#32 ⟨#[]⟩ ≠ 0 then (S.put l.first 1 0#32 ⟨#[]⟩, S.putE l.first 1 0#32 ⟨#[]⟩)
  else Dv.done (zerosK l (S.put l.first 1 0#32 ⟨#[]⟩) (l.size - 1).toNat 1)
end Go.Proofs.YtfbkfdoekgnldaaDoor
namespace Go.Proofs.YtfbkfdoekgnldaaDoor
open Go.RowKit
open Lime
attribute [local go_sem] Oper.semAt_some setRow_alloc_at setRow_alloc_past setRow_drew
/-- a layout's numbers are numbers of the program -/
structure Lay.In (l : Lay) : Prop where
  f0 : -9223372036854775808 ≤ l.first
  f1 : l.first ≤ 9223372036854775807
  s0 : -9223372036854775808 ≤ l.size
  s1 : l.size ≤ 9223372036854775807
def layC (l : Lay) : Array Value := #[.int .i64 l.first, .int .i64 l.size]
set_option maxHeartbeats 1000000 in
theorem check_any (l : Lay) (w : World) :
    Calls Tryd.prog 29 #[.agg #[.int .i64 l.first, .int .i64 l.size]] w fun e w' => e = .returned (.int .i64 l.check) ∧ Below w.heap.size w w' := by
  obtain ⟨f, s⟩ := l
  have HB := Lib.hid ((Below.refl _ w).alloc (Nat.le_refl _) (.cells #[.int .i64 f, .int .i64 s] 27))
  unfold Lay.check
  dsimp only
  by_cases h1 : s < 8
  · rw [if_pos (.inl h1)]
    go_enter Tryd.func29, Tryd.ntmps29
    go_wp2_with fail
    go_ret
    exact ⟨rfl, HB.out⟩
  by_cases h2 : 96 < s
  · rw [if_pos (.inr (.inl h2))]
    go_enter Tryd.func29, Tryd.ntmps29
    go_wp2_with fail
    go_ret
    exact ⟨rfl, HB.out⟩
  by_cases h3 : f < 0
  · rw [if_pos (.inr (.inr (.inl h3)))]
    go_enter Tryd.func29, Tryd.ntmps29
    go_wp2_with fail
    go_ret
    exact ⟨rfl, HB.out⟩
  have hw : wrap64 (256 - s) = 256 - s := by unfold wrap64; omega
  by_cases h4 : 256 - s < f
  · rw [if_pos (.inr (.inr (.inr h4)))]
    go_enter Tryd.func29, Tryd.ntmps29
    go_wp2_with fail
    go_ret
    exact ⟨rfl, HB.out⟩
  · rw [if_neg (by omega)]
    go_enter Tryd.func29, Tryd.ntmps29
    go_wp2_with fail
    go_ret
    exact ⟨rfl, HB.out⟩
set_option maxHeartbeats 1000000 in
theorem costs_any (n : Int) (w : World) :
    Calls Tryd.prog 27 #[.int .i64 n] w fun e w' => e = .returned (if n < 0 ∨ 80 < n then .tuple #[.int .i64 0, .int .i64 0, .int .i64 12] else .tuple #[.int .i64 (2 * n + 2), .int .i64 3, .int .i64 0]) ∧ Below w.heap.size w w' := by
  by_cases h1 : n < 0
  · rw [if_pos (.inl h1)]
    go_enter Tryd.func27, Tryd.ntmps27
    go_wp2_with fail
    exact bodyPost_ret (results_tmp3 rfl _ _ _) rfl ⟨rfl, Below.refl _ _⟩
  by_cases h2 : 80 < n
  · rw [if_pos (.inr h2)]
    go_enter Tryd.func27, Tryd.ntmps27
    go_wp2_with fail
    exact bodyPost_ret (results_tmp3 rfl _ _ _) rfl ⟨rfl, Below.refl _ _⟩
  · rw [if_neg (by omega)]
    have hw : wrap64 (2 * n) = 2 * n := by unfold wrap64; omega
    have hw2 : wrap64 (2 * n + 2) = 2 * n + 2 := by unfold wrap64; omega
    go_enter Tryd.func27, Tryd.ntmps27
    go_wp2_with fail
    exact bodyPost_ret (results_tmp3 rfl _ _ _) rfl ⟨rfl, Below.refl _ _⟩
set_option maxHeartbeats 1000000 in
theorem inside_any (l : Lay) (p : Int) (w : World) (hc : l.check = 0) :
    Calls Tryd.prog 75 #[.agg #[.int .i64 l.first, .int .i64 l.size], .int .i64 p] w fun e w' => e = .returned (.bool (l.inside p)) ∧ Below w.heap.size w w' := by
  obtain ⟨c1, c2, c3, c4⟩ := Lay.check_ok hc
  obtain ⟨f, s⟩ := l
  have HB := Lib.hid ((Below.refl _ w).alloc (Nat.le_refl _) (.cells #[.int .i64 f, .int .i64 s] 27))
  unfold Lay.inside
  dsimp only at *
  have hw : wrap64 (f + s) = f + s := by unfold wrap64; omega
  by_cases h1 : f ≤ p
  · by_cases h2 : p < f + s
    · have e : (decide (f ≤ p) && decide (p < f + s)) = true := by simp [h1, h2]
      rw [e]
      clear e
      go_enter Tryd.func75, Tryd.ntmps75
      go_wp2_with fail
      go_ret
      exact ⟨rfl, HB.out⟩
    · have e : (decide (f ≤ p) && decide (p < f + s)) = false := by simp [h2]
      rw [e]
      clear e
      go_enter Tryd.func75, Tryd.ntmps75
      go_wp2_with fail
      go_ret
      exact ⟨rfl, HB.out⟩
  · have e : (decide (f ≤ p) && decide (p < f + s)) = false := by simp [h1]
    rw [e]
    clear e
    go_enter Tryd.func75, Tryd.ntmps75
    go_wp2_with fail
    go_ret
    exact ⟨rfl, HB.out⟩
set_option maxHeartbeats 1000000 in
theorem most_any (l : Lay) (w : World) (hc : l.check = 0) :
    Calls Tryd.prog 74 #[.agg #[.int .i64 l.first, .int .i64 l.size]] w fun e w' => e = .returned (.int .i64 l.most) ∧ Below w.heap.size w w' := by
  obtain ⟨c1, c2, c3, c4⟩ := Lay.check_ok hc
  obtain ⟨f, s⟩ := l
  have HB := Lib.hid ((Below.refl _ w).alloc (Nat.le_refl _) (.cells #[.int .i64 f, .int .i64 s] 27))
  unfold Lay.most
  dsimp only at *
  have hw : wrap64 (s - 2) = s - 2 := by unfold wrap64; omega
  by_cases h : s - 2 ≤ 80
  · rw [Int.min_eq_left (by omega)]
    go_enter Tryd.func74, Tryd.ntmps74
    go_wp2_with fail
    go_ret
    exact ⟨rfl, HB.out⟩
  · rw [Int.min_eq_right (by omega)]
    go_enter Tryd.func74, Tryd.ntmps74
    go_wp2_with fail
    go_ret
    exact ⟨rfl, HB.out⟩
end Go.Proofs.YtfbkfdoekgnldaaDoor
namespace Go.Proofs.YtfbkfdoekgnldaaDoor
open Go.RowKit
open Lime
attribute [local go_sem] Oper.semAt_some setRow_alloc_at setRow_alloc_past setRow_drew
set_option maxHeartbeats 1000000 in
theorem short_any (n : Int) (w : World) :
    Calls Tryd.prog 59 #[.int .i64 n] w fun e w' => e = .returned (.string (two n)) ∧ Below w.heap.size w w' := by
  obtain ⟨c0, hc0⟩ : ∃ c, c = UInt8.ofNat (n % 256).toNat := ⟨_, rfl⟩
  obtain ⟨c1, hc1⟩ : ∃ c, c = UInt8.ofNat (n / 256 % 256).toNat := ⟨_, rfl⟩
  have e : two n = ⟨#[c0, c1]⟩ := by rw [hc0, hc1]; rfl
  have hw0 : IntKind.u8.wrap n = vb c0 := by rw [hc0]; unfold IntKind.wrap vb; simp [IntKind.signed, IntKind.bits]; omega
  have hw1 : IntKind.u8.wrap (n / 256) = vb c1 := by rw [hc1]; unfold IntKind.wrap vb; simp [IntKind.signed, IntKind.bits]; omega
  have hsh : binOp .shr 3 (.int .i64 n) (.int .u64 8) = pure (.int .i64 (n / 256)) := by
    show Op.shift .shr .i64 n .u64 8 = _
    rw [shift_shr_any _ _ _ _ (by decide)]; rfl
  rw [e]
  have HB := Lib.hid ((Below.refl _ w).alloc (Nat.le_refl _) (.cells #[.int .u8 (vb c0), .int .u8 (vb c1)] 5))
  have hb : (w.alloc (.cells #[.int .u8 (vb c0), .int .u8 (vb c1)] 5)).heap[w.heap.size]? = some (.cells #[.int .u8 (vb c0), .int .u8 (vb c1)] 5 (0, 0)) := heap_alloc_new _ _
  have hcv : (convert 105 9 (.slice (some ⟨w.heap.size, 0, none⟩) 2 2)).run Tryd.prog (w.alloc (.cells #[.int .u8 (vb c0), .int .u8 (vb c1)] 5)) = .ok (.string ⟨#[c0, c1]⟩) (w.alloc (.cells #[.int .u8 (vb c0), .int .u8 (vb c1)] 5)) :=
    run_string_bytes _ ⟨w.heap.size, 0, none⟩ [c0, c1] 2 (fun i hi => by
      rw [Addr.add_lit, cell_of_row _ _ _ _ _ _ hb]
      match i, hi with
      | 0, _ => rfl
      | 1, _ => rfl)
  clear e hc0 hc1
  go_enter Tryd.func59, Tryd.ntmps59
  go_wp2_with fail
  go_ret
  exact ⟨rfl, HB.out⟩
set_option maxHeartbeats 1000000 in
theorem errs_index (b : Nat) (e : Int) (w : World) (h : w.heap[b]? = some (.cells #[.int .i64 1, .int .i64 13, .int .i64 7] 29 (0, 0))) :
    Calls Tryd.prog 84 #[.slice (some ⟨b, 0, none⟩) 3 3, .int .i64 e] w fun x w' => ∃ i : Int, x = .returned (.int .i64 i) ∧ (broken e = true ↔ 0 ≤ i) ∧ w' = w := by
  have c0 := cell_of_row w b 0 _ _ _ h
  have c1 := cell_of_row w b 1 _ _ _ h
  have c2 := cell_of_row w b 2 _ _ _ h
  go_enter Tryd.func84, Tryd.ntmps84
  go_wp2_with fail
  go_loopw [8] (fun i wr => wr = w ∧ (i = .int .i64 0 ∨ (i = .int .i64 1 ∧ ¬ e = 1) ∨ (i = .int .i64 2 ∧ ¬ e = 1 ∧ ¬ e = 13) ∨ (i = .int .i64 3 ∧ ¬ e = 1 ∧ ¬ e = 13 ∧ ¬ e = 7))) (fun i _ => 3 - (intOf i).toNat)
  case atStart => exact ⟨rfl, .inl rfl⟩
  case round =>
    obtain ⟨rfl, hI⟩ := hrel
    rcases hI with rfl | ⟨rfl, h1⟩ | ⟨rfl, h1, h2⟩ | ⟨rfl, h1, h2, h3⟩
    · by_cases q : e = 1
      · subst q
        go_wp2_with fail
        go_ret
        exact ⟨_, rfl, by decide, rfl⟩
      · go_wp2_with fail
        go_roundw
        case rel => exact ⟨trivial, .inr (.inl ⟨rfl, q⟩)⟩
        case measure => simp [intOf]
    · by_cases q : e = 13
      · subst q
        go_wp2_with fail
        go_ret
        exact ⟨_, rfl, by decide, rfl⟩
      · go_wp2_with fail
        go_roundw
        case rel => exact ⟨trivial, .inr (.inr (.inl ⟨rfl, h1, q⟩))⟩
        case measure => simp [intOf]
    · by_cases q : e = 7
      · subst q
        go_wp2_with fail
        go_ret
        exact ⟨_, rfl, by decide, rfl⟩
      · go_wp2_with fail
        go_roundw
        case rel => exact ⟨trivial, .inr (.inr (.inr ⟨rfl, h1, h2, q⟩))⟩
        case measure => simp [intOf]
    · go_wp2_with fail
      go_ret
      exact ⟨_, rfl, by unfold broken; simp [h1, h2, h3], rfl⟩
set_option maxHeartbeats 1000000 in
theorem errs_contains (b : Nat) (e : Int) (w : World) (h : w.heap[b]? = some (.cells #[.int .i64 1, .int .i64 13, .int .i64 7] 29 (0, 0))) :
    Calls Tryd.prog 80 #[.slice (some ⟨b, 0, none⟩) 3 3, .int .i64 e] w fun x w' => x = .returned (.bool (broken e)) ∧ w' = w := by
  have HI := Lib.hid (errs_index b e w h)
  clear h
  go_enter Tryd.func80, Tryd.ntmps80
  go_wp2_with fail
  refine HI.out.mono ?_
  rintro x w' ⟨i, rfl, hi, rfl⟩
  have e2 : broken e = decide (0 ≤ i) := by
    cases hb : broken e
    · rw [hb] at hi; simpa using hi
    · rw [hb] at hi; simpa using hi
  have HE := Lib.hid e2
  clear hi e2 HI
  go_wp2_with fail
  go_ret
  exact ⟨by rw [HE.out]; rfl, rfl⟩
set_option maxHeartbeats 1000000 in
theorem broken_any (e : Int) (w : World) : Calls Tryd.prog 72 #[.int .i64 e] w fun x w' => x = .returned (.bool (broken e)) ∧ Below w.heap.size w w' := by
  have HB := Lib.hid ((Below.refl _ w).alloc (Nat.le_refl _) (.cells #[.int .i64 1, .int .i64 13, .int .i64 7] 29))
  have HC := Lib.hid (errs_contains w.heap.size e (w.alloc (.cells #[.int .i64 1, .int .i64 13, .int .i64 7] 29)) (heap_alloc_new _ _))
  go_enter Tryd.func72, Tryd.ntmps72
  go_wp2_with fail
  refine HC.out.mono ?_
  rintro x w' ⟨rfl, rfl⟩
  go_wp2_with fail
  go_ret
  exact ⟨rfl, HB.out⟩
theorem bytes_loop (d : ByteArray) : ∀ (n i : Nat) (r : List UInt8), d.size - i = n → (ByteArray.toList.loop d i r).length = r.length + n := by
  intro n
  induction n with
  | zero => intro i r h; rw [ByteArray.toList.loop, if_neg (by omega)]; simp
  | succ n ih => intro i r h; rw [ByteArray.toList.loop, if_pos (by omega), ih _ _ (by omega)]; simp; omega
theorem bytes_none (d : ByteArray) (h : ¬ d = ⟨#[]⟩) : d.toList.isEmpty = false := by
  have hl : d.toList.length = d.size := by unfold ByteArray.toList; rw [bytes_loop d _ 0 [] rfl]; simp
  cases he : d.toList with
  | nil =>
    exfalso
    rw [he] at hl
    have h0 : d.data.size = 0 := hl.symm
    apply h
    exact ByteArray.ext (Array.eq_empty_of_size_eq_zero h0)
  | cons a l => rfl
set_option maxHeartbeats 2000000 in
theorem head_has {w W : World} {rs : List (Res w.heap.size)} {g : Nat} {S : Dv} (h : Has w W rs) (hr : DevR _ g S ∈ rs) (l : Lay) (hh : HalfLaid w) :
    Calls Tryd.prog 23 #[pv g, .agg #[.int .i64 l.first, .int .i64 l.size]] W fun e w' => e = .returned (.tuple #[.int .u32 (vu (headM S l).1), .int .i64 (headM S l).2]) ∧ Has w w' rs := by
  have h1 := h.alloc (.cells #[.int .i64 l.first, .int .i64 l.size] 27)
  have HC := Lib.hid (check_any l (W.alloc (.cells #[.int .i64 l.first, .int .i64 l.size] 27)))
  have H1 := Lib.hid h1
  obtain ⟨c, hcE⟩ : ∃ c, c = l.check := ⟨_, rfl⟩
  obtain ⟨x, hx⟩ : ∃ x, x = S.get l.first := ⟨_, rfl⟩
  have HGET : Hid (∀ W', Has w W' (Blk _ W.heap.size (.cells #[.int .i64 l.first, .int .i64 l.size] 27) :: rs) → Calls Tryd.prog 43 #[pv g, .int .i64 l.first] W' fun e w' => e = .returned (.tuple #[.agg #[.int .i64 x.1.k, .int .u32 (vu x.1.q), .string x.1.d], .int .i64 x.2]) ∧ Has w w' (Blk _ W.heap.size (.cells #[.int .i64 l.first, .int .i64 l.size] 27) :: rs)) :=
    fun W' h' => by rw [hx]; exact get_ret h' (.tail _ hr) l.first hh
  unfold headM
  rw [← hcE] at HC ⊢
  rw [← hx]
  obtain ⟨⟨fk, fq, fd⟩, fe⟩ := x
  dsimp only at HGET ⊢
  obtain ⟨R, hR⟩ : ∃ R : BitVec 32 × Int, R = if c ≠ 0 then (0#32, c) else if fe ≠ 0 then (0#32, fe) else if fk ≠ 1 ∨ fd ≠ ⟨#[]⟩ then (0#32, 6) else (fq, 0) := ⟨_, rfl⟩
  rw [← hR]
  have HR := Lib.hid hR
  clear h h1 hh hr hcE hx hR
  by_cases hc : c = 0
  · subst hc
    go_enter Tryd.func23, Tryd.ntmps23
    go_wp2_with fail
    refine HC.out.mono ?_
    clear HC
    rintro e w2 ⟨rfl, hB2⟩
    have h2 := H1.out.below hB2
    have c0 := h2.cell 0 _ _ _ rfl 0 _ rfl
    have c1 := h2.cell 0 _ _ _ rfl 1 _ rfl
    have HG := Lib.hid (HGET.out _ h2)
    clear h2 hB2 H1 HGET
    go_wp2_with fail
    refine HG.out.mono ?_
    clear HG
    rintro e w3 ⟨rfl, h3⟩
    have h4 := h3.alloc (.cells #[.int .i64 fk, .int .u32 (vu fq), .string fd] 76)
    have H4 := Lib.hid h4.drop.drop
    clear h3 h4 c0 c1
    by_cases he : fe = 0
    · subst he
      by_cases hk : fk = 1
      · subst hk
        by_cases hd : fd = ⟨#[]⟩
        · subst hd
          go_wp2_with fail
          go_ret2
          exact ⟨by rw [HR.out]; rfl, H4.out⟩
        · have hd2 := bytes_none fd hd
          have HE : Hid (R = (0#32, 6)) := by rw [HR.out, if_neg (by simp), if_neg (by simp), if_pos (.inr hd)]; exact Lib.hid rfl
          clear hd
          go_wp2_with fail
          go_ret2
          exact ⟨by rw [HE.out]; rfl, H4.out⟩
      · have hk2 : (fk != 1) = true := by simpa using hk
        have HE : Hid (R = (0#32, 6)) := by rw [HR.out, if_neg (by simp), if_neg (by simp), if_pos (.inl hk)]; exact Lib.hid rfl
        go_wp2_with fail
        go_ret2
        exact ⟨by rw [HE.out]; rfl, H4.out⟩
    · have he2 : (fe != 0) = true := by simpa using he
      have HE : Hid (R = (0#32, fe)) := by rw [HR.out, if_neg (by simp), if_pos he]; exact Lib.hid rfl
      clear he
      go_wp2_with fail
      go_ret2
      exact ⟨by rw [HE.out]; rfl, H4.out⟩
  · have hc2 : (c != 0) = true := by simpa using hc
    have HE : Hid (R = (0#32, c)) := by rw [HR.out, if_pos hc]; exact Lib.hid rfl
    clear hc
    go_enter Tryd.func23, Tryd.ntmps23
    go_wp2_with fail
    refine HC.out.mono ?_
    clear HC
    rintro e w2 ⟨rfl, hB2⟩
    have H2 := Lib.hid (H1.out.below hB2).drop
    clear hB2 H1
    go_wp2_with fail
    go_ret2
    exact ⟨by rw [HE.out]; rfl, H2.out⟩
end Go.Proofs.YtfbkfdoekgnldaaDoor
