/- The journal by definition, on a device that is its sectors, its cache and its power: what each call returns and what it leaves. The walks of the journal's small functions: Check, Costs, inside, most, short, broken, then. The walks of the journal's short, broken and Head. Maps from int to bool that the program made: what lookups and stores do. The walks of the journal's record and stale. The walk of the journal's stale. Records in memory: a slice of them that a walk owns, appended to; what is found in a journal as a value. The walk of the journal's look. The walk of the journal's then: steps that are function values, one after the other, as long as there is no error. The walks of the journal's Look and apply. The walk of the journal's valid. The walk of the journal's Log. The walk of the journal's Log, joined. -/
import Derived.Test.YtfbkfdoekgnldaaDoorGetPut
import Derived.Test.YtfbkfdoekgnldaaDoorMapI
import Derived.Test.YtfbkfdoekgnldaaDoorRefLim
import Derived.Test.YtfbkfdoekgnldaaDoorAppL
import Derived.Deep.DeepCutAuto
import Derived.Test.YtfbkfdoekgnldaaDoorHas
namespace Go.Proofs.YtfbkfdoekgnldaaDoor
open Go.RowKit
/-- a frame that was read -/
structure Fr where
  k : Int
  q : BitVec 32
  d : ByteArray
def fr0F : Fr := ⟨0, 0#32, ⟨#[]⟩⟩
/-- a record -/
structure Rec where
  at_ : Int
  kind : Int
  data : ByteArray
instance recDec : DecidableEq Rec := fun a b => decidable_of_iff (a.at_ = b.at_ ∧ a.kind = b.kind ∧ a.data = b.data) (by
  constructor
  · rintro ⟨h1, h2, h3⟩; cases a; cases b; simp_all
  · rintro rfl; exact ⟨rfl, rfl, rfl⟩)
/-- a layout -/
structure Lay where
  first : Int
  size : Int
def openF (p : Int) (s : Sector) : Fr × Int := if 0 ≤ p ∧ p < 256 then (if openCode p.toNat s = 0 then (⟨vb (sat s 1), getN s 4, frData s⟩, 0) else (fr0F, openCode p.toNat s)) else (fr0F, 7)
/-- what Get returns -/
def Dv.get (S : Dv) (p : Int) : Fr × Int := if S.at p = 0 then openF p (S.look p) else (fr0F, S.at p)
def frFV (f : Fr) : Value := .agg #[.int .i64 f.k, .int .u32 (vu f.q), .string f.d]
theorem get_value (S : Dv) (p : Int) : getV (S.at p) p (if S.at p = 0 then S.look p else zsec) = .tuple #[.agg #[.int .i64 (S.get p).1.k, .int .u32 (vu (S.get p).1.q), .string (S.get p).1.d], .int .i64 (S.get p).2] := by
  unfold getV Dv.get
  by_cases h : S.at p = 0
  · rw [if_pos h, if_pos h, if_pos h]
    unfold openVI openF
    by_cases h1 : 0 ≤ p ∧ p < 256
    · rw [if_pos h1, if_pos h1]
      unfold openV
      by_cases h2 : openCode p.toNat (S.look p) = 0
      · rw [if_pos h2, if_pos h2, h2]; rfl
      · rw [if_neg h2, if_neg h2]; rfl
    · rw [if_neg h1, if_neg h1]; rfl
  · rw [if_neg h, if_neg h]; rfl
theorem get_ret {w W : World} {rs : List (Res w.heap.size)} {g : Nat} {S : Dv} (h : Has w W rs) (hr : DevR _ g S ∈ rs) (p : Int) (hh : HalfLaid w) :
    Calls Tryd.prog 43 #[pv g, .int .i64 p] W fun e w' => e = .returned (.tuple #[.agg #[.int .i64 (S.get p).1.k, .int .u32 (vu (S.get p).1.q), .string (S.get p).1.d], .int .i64 (S.get p).2]) ∧ Has w w' rs := by
  rw [← get_value]; exact get_has h hr p hh
/-- the bytes of content are few -/
theorem frData_len (s : Sector) : (frData s).size ≤ 120 := by
  show ((s.toList.drop 8).take (sat s 2).toNat).length ≤ 120
  simp; omega
theorem fr0F_size : fr0F.d.size ≤ 120 := by decide
theorem Dv.get_size (S : Dv) (p : Int) : (S.get p).1.d.size ≤ 120 := by
  unfold Dv.get openF
  split
  · split
    · split
      · exact frData_len _
      · exact fr0F_size
    · exact fr0F_size
  · exact fr0F_size
namespace Lay
def check (l : Lay) : Int := if l.size < 8 ∨ 96 < l.size ∨ l.first < 0 ∨ 256 - l.size < l.first then 7 else 0
def inside (l : Lay) (p : Int) : Bool := decide (l.first ≤ p) && decide (p < l.first + l.size)
def most (l : Lay) : Int := min (l.size - 2) 80
end Lay
theorem Lay.check_ok {l : Lay} (h : l.check = 0) : 8 ≤ l.size ∧ l.size ≤ 96 ∧ 0 ≤ l.first ∧ l.first ≤ 256 - l.size := by
  unfold Lay.check at h
  by_cases h0 : l.size < 8 ∨ 96 < l.size ∨ l.first < 0 ∨ 256 - l.size < l.first
  · rw [if_pos h0] at h; simp at h
  · omega
def costsE (n : Int) : Int := if n < 0 ∨ 80 < n then 12 else 0
/-- is an error one of the device? -/
def broken (e : Int) : Bool := e == 1 || e == 13 || e == 7
def two (n : Int) : ByteArray := ⟨#[UInt8.ofNat (n % 256).toNat, UInt8.ofNat (n / 256 % 256).toNat]⟩
def byteAt (d : ByteArray) (i : Nat) : UInt8 := at8 d.data.toList i
def recOf (d : ByteArray) : Rec := ⟨vb (byteAt d 0) + 256 * vb (byteAt d 1), vb (byteAt d 2), d.extract 3 d.size⟩
def recBytes (r : Rec) : ByteArray := two r.at_ ++ ⟨#[UInt8.ofNat (r.kind % 256).toNat]⟩ ++ r.data
def hasAt (l : List Rec) (p : Int) : Bool := l.any fun r => r.at_ == p
def headM (S : Dv) (l : Lay) : BitVec 32 × Int :=
  if l.check ≠ 0 then (0#32, l.check) else if (S.get l.first).2 ≠ 0 then (0#32, (S.get l.first).2)
  else if (S.get l.first).1.k ≠ 1 ∨ (S.get l.first).1.d ≠ ⟨#[]⟩ then (0#32, 6) else ((S.get l.first).1.q, 0)
/-- is it the record of a frame? -/
def isRec (S : Dv) (l : Lay) (f : Fr) : Bool :=
  f.k == 2 && decide (3 ≤ f.d.size) && decide (f.d.size ≤ 99) && decide ((recOf f.d).at_ < S.st.length) && !l.inside (recOf f.d).at_ && decide (0 < (recOf f.d).kind)
/-- is the frame of the number q? -/
def mine (x : Fr × Int) (q : BitVec 32) : Bool := x.2 == 0 && x.1.q == q
/-- may the record of a frame be taken behind others? -/
def takes (S : Dv) (l : Lay) (x : Fr × Int) (q : BitVec 32) (out : List Rec) : Bool :=
  mine x q && isRec S l x.1 && !hasAt out (recOf x.1.d).at_ && decide ((out.length : Int) < l.most)
def ends (x : Fr × Int) (q : BitVec 32) (out : List Rec) : Bool := mine x q && x.1.k == 3 && decide (x.1.d = two out.length)
def lookQ (S : Dv) (l : Lay) (q : BitVec 32) : Nat → Int → List Rec → List Rec × Bool × Int
  | 0, _, out => (out, false, 0)
  | n + 1, i, out =>
    if broken (S.get (l.first + i)).2 then ([], false, (S.get (l.first + i)).2)
    else if takes S l (S.get (l.first + i)) q out then lookQ S l q n (i + 1) (out ++ [recOf (S.get (l.first + i)).1.d])
    else (out, ends (S.get (l.first + i)) q out, 0)
theorem lookQ_succ (S : Dv) (l : Lay) (q : BitVec 32) (n : Nat) (i : Int) (out : List Rec) : lookQ S l q (n + 1) i out =
    if broken (S.get (l.first + i)).2 then ([], false, (S.get (l.first + i)).2)
    else if takes S l (S.get (l.first + i)) q out then lookQ S l q n (i + 1) (out ++ [recOf (S.get (l.first + i)).1.d])
    else (out, ends (S.get (l.first + i)) q out, 0) := rfl
theorem broken_zero : ¬ broken 0 = true := by decide
def lookM (S : Dv) (l : Lay) : List Rec × Bool × Int :=
  if (headM S l).2 ≠ 0 then ([], false, (headM S l).2) else lookQ S l ((headM S l).1 + 1#32) (l.size - 1).toNat 1 []
def isStale (x : Fr × Int) (q : BitVec 32) : Bool := mine x q && (x.1.k == 2 || x.1.k == 3)
def staleK (S : Dv) (l : Lay) (q : BitVec 32) : Nat → Int → Bool → Bool × Int
  | 0, _, is => (is, 0)
  | n + 1, i, is => if broken (S.get (l.first + i)).2 then (false, (S.get (l.first + i)).2) else staleK S l q n (i + 1) (is || isStale (S.get (l.first + i)) q)
def staleM (S : Dv) (l : Lay) (q : BitVec 32) : Bool × Int := staleK S l (q + 1#32) (l.size - 1).toNat 1 false
/-- the error of a record behind others -/
def recE (n : Nat) (l : Lay) (before : List Rec) (r : Rec) : Int :=
  if l.inside r.at_ then 2 else if r.at_ < 0 ∨ (n : Int) ≤ r.at_ ∨ r.kind < 1 ∨ 255 < r.kind then 7
  else if 96 < r.data.size then 3 else if hasAt before r.at_ then 8 else 0
def validK (n : Nat) (l : Lay) : List Rec → List Rec → Int
  | _, [] => 0
  | before, r :: rest => if recE n l before r ≠ 0 then recE n l before r else validK n l (before ++ [r]) rest
def validM (n : Nat) (l : Lay) (run : List Rec) : Int := if l.most < run.length then 12 else validK n l [] run
/-- puts, one after the other, as long as there is no error -/
structure PutA where
  p : Int
  kind : Int
  q : BitVec 32
  d : ByteArray
def Dv.putA (S : Dv) (a : PutA) : Dv := S.put a.p a.kind a.q a.d
def Dv.putAE (S : Dv) (a : PutA) : Int := S.putE a.p a.kind a.q a.d
def Dv.putAll (S : Dv) : List PutA → Dv × Int
  | [] => (S, 0)
  | a :: r => if S.putAE a ≠ 0 then (S.putA a, S.putAE a) else (S.putA a).putAll r
def Dv.done (x : Dv × Int) : Dv × Int := if x.2 ≠ 0 then x else (x.1.flush, x.1.flushE)
def logPuts (l : Lay) (q : BitVec 32) : Int → List Rec → List PutA
  | i, [] => [⟨l.first + i, 3, q, two (i - 1)⟩]
  | i, r :: rest => ⟨l.first + i, 2, q, recBytes r⟩ :: logPuts l q (i + 1) rest
def logM (S : Dv) (l : Lay) (run : List Rec) : Dv × Int :=
  if (headM S l).2 ≠ 0 then (S, (headM S l).2) else if validM S.st.length l run ≠ 0 then (S, validM S.st.length l run)
  else Dv.done (S.putAll (logPuts l ((headM S l).1 + 1#32) 1 run))
def appPuts (q : BitVec 32) (run : List Rec) : List PutA := run.map fun r => ⟨r.at_, r.kind, q, r.data⟩
def appM (S : Dv) (q : BitVec 32) (run : List Rec) : Dv × Int := Dv.done (S.putAll (appPuts q run))
/-- with how many, if there is no error -/
def many (x : Dv × Int) (n : Int) : Dv × Int × Int := if x.2 ≠ 0 then (x.1, 0, x.2) else (x.1, n, 0)
def applyM (S : Dv) (l : Lay) : Dv × Int × Int :=
  if (lookM S l).2.2 ≠ 0 then (S, 0, (lookM S l).2.2) else if (lookM S l).2.1 = false then (S, 0, 9)
  else many (appM S ((headM S l).1 + 1#32) (lookM S l).1) (lookM S l).1.length
def clearM (S : Dv) (l : Lay) : Dv × Int :=
  if (headM S l).2 ≠ 0 then (S, (headM S l).2) else Dv.done (S.putAll [⟨l.first, 1, (headM S l).1 + 1#32, ⟨#[]⟩⟩])
def commitM (S : Dv) (l : Lay) (run : List Rec) : Dv × Int :=
  if (logM S l run).2 ≠ 0 then logM S l run
  else if (applyM (logM S l run).1 l).2.2 ≠ 0 then ((applyM (logM S l run).1 l).1, (applyM (logM S l run).1 l).2.2)
  else clearM (applyM (logM S l run).1 l).1 l
def replayM (S : Dv) (l : Lay) : Dv × Int × Int :=
  if (lookM S l).2.2 ≠ 0 then (S, 0, (lookM S l).2.2)
  else if (lookM S l).2.1 then
    if (appM S ((headM S l).1 + 1#32) (lookM S l).1).2 ≠ 0 then ((appM S ((headM S l).1 + 1#32) (lookM S l).1).1, 0, (appM S ((headM S l).1 + 1#32) (lookM S l).1).2)
    else many (clearM (appM S ((headM S l).1 + 1#32) (lookM S l).1).1 l) (lookM S l).1.length
  else if (staleM S l (headM S l).1).2 ≠ 0 then (S, 0, (staleM S l (headM S l).1).2)
  else if (staleM S l (headM S l).1).1 then many (clearM S l) 0
  else (S, 0, 0)
def zerosK (l : Lay) (S : Dv) : Nat → Int → Dv × Int
  | 0, _ => (S, 0)
  | n + 1, i => if S.writeE (l.first + i) ≠ 0 then (S.write (l.first + i) zsec, S.writeE (l.first + i)) else zerosK l (S.write (l.first + i) zsec) n (i + 1)
def formatM (S : Dv) (l : Lay) : Dv × Int :=
  if l.check ≠ 0 then (S, l.check) else if S.putE l.first 1 0#32 ⟨#[]⟩ ≠ 0 then (S.put l.first 1 0#32 ⟨#[]⟩, S.putE l.first 1 0#32 ⟨#[]⟩)
  else Dv.done (zerosK l (S.put l.first 1 0#32 ⟨#[]⟩) (l.size - 1).toNat 1)
end Go.Proofs.YtfbkfdoekgnldaaDoor
namespace Go.Proofs.YtfbkfdoekgnldaaDoor
open Go.RowKit
open Lime
attribute [local go_sem] Oper.semAt_some setRow_alloc_at setRow_alloc_past setRow_drew
/-- a layout's numbers are numbers of the program -/
structure Lay.In (l : Lay) : Prop where
  f0 : -9223372036854775808 ≤ l.first
  f1 : l.first ≤ 9223372036854775807
  s0 : -9223372036854775808 ≤ l.size
  s1 : l.size ≤ 9223372036854775807
def layC (l : Lay) : Array Value := #[.int .i64 l.first, .int .i64 l.size]
set_option maxHeartbeats 1000000 in
theorem check_any (l : Lay) (w : World) :
    Calls Tryd.prog 29 #[.agg #[.int .i64 l.first, .int .i64 l.size]] w fun e w' => e = .returned (.int .i64 l.check) ∧ Below w.heap.size w w' := by
  obtain ⟨f, s⟩ := l
  have HB := Lib.hid ((Below.refl _ w).alloc (Nat.le_refl _) (.cells #[.int .i64 f, .int .i64 s] 27))
  unfold Lay.check
  dsimp only
  by_cases h1 : s < 8
  · rw [if_pos (.inl h1)]
    go_enter Tryd.func29, Tryd.ntmps29
    go_wp2_with fail
    go_ret
    exact ⟨rfl, HB.out⟩
  by_cases h2 : 96 < s
  · rw [if_pos (.inr (.inl h2))]
    go_enter Tryd.func29, Tryd.ntmps29
    go_wp2_with fail
    go_ret
    exact ⟨rfl, HB.out⟩
  by_cases h3 : f < 0
  · rw [if_pos (.inr (.inr (.inl h3)))]
    go_enter Tryd.func29, Tryd.ntmps29
    go_wp2_with fail
    go_ret
    exact ⟨rfl, HB.out⟩
  have hw : wrap64 (256 - s) = 256 - s := by unfold wrap64; omega
  by_cases h4 : 256 - s < f
  · rw [if_pos (.inr (.inr (.inr h4)))]
    go_enter Tryd.func29, Tryd.ntmps29
    go_wp2_with fail
    go_ret
    exact ⟨rfl, HB.out⟩
  · rw [if_neg (by omega)]
    go_enter Tryd.func29, Tryd.ntmps29
    go_wp2_with fail
    go_ret
    exact ⟨rfl, HB.out⟩
set_option maxHeartbeats 1000000 in
theorem costs_any (n : Int) (w : World) :
    Calls Tryd.prog 27 #[.int .i64 n] w fun e w' => e = .returned (if n < 0 ∨ 80 < n then .tuple #[.int .i64 0, .int .i64 0, .int .i64 12] else .tuple #[.int .i64 (2 * n + 2), .int .i64 3, .int .i64 0]) ∧ Below w.heap.size w w' := by
  by_cases h1 : n < 0
  · rw [if_pos (.inl h1)]
    go_enter Tryd.func27, Tryd.ntmps27
    go_wp2_with fail
    exact bodyPost_ret (results_tmp3 rfl _ _ _) rfl ⟨rfl, Below.refl _ _⟩
  by_cases h2 : 80 < n
  · rw [if_pos (.inr h2)]
    go_enter Tryd.func27, Tryd.ntmps27
    go_wp2_with fail
    exact bodyPost_ret (results_tmp3 rfl _ _ _) rfl ⟨rfl, Below.refl _ _⟩
  · rw [if_neg (by omega)]
    have hw : wrap64 (2 * n) = 2 * n := by unfold wrap64; omega
    have hw2 : wrap64 (2 * n + 2) = 2 * n + 2 := by unfold wrap64; omega
    go_enter Tryd.func27, Tryd.ntmps27
    go_wp2_with fail
    exact bodyPost_ret (results_tmp3 rfl _ _ _) rfl ⟨rfl, Below.refl _ _⟩
set_option maxHeartbeats 1000000 in
theorem inside_any (l : Lay) (p : Int) (w : World) (hc : l.check = 0) :
    Calls Tryd.prog 75 #[.agg #[.int .i64 l.first, .int .i64 l.size], .int .i64 p] w fun e w' => e = .returned (.bool (l.inside p)) ∧ Below w.heap.size w w' := by
  obtain ⟨c1, c2, c3, c4⟩ := Lay.check_ok hc
  obtain ⟨f, s⟩ := l
  have HB := Lib.hid ((Below.refl _ w).alloc (Nat.le_refl _) (.cells #[.int .i64 f, .int .i64 s] 27))
  unfold Lay.inside
  dsimp only at *
  have hw : wrap64 (f + s) = f + s := by unfold wrap64; omega
  by_cases h1 : f ≤ p
  · by_cases h2 : p < f + s
    · have e : (decide (f ≤ p) && decide (p < f + s)) = true := by simp [h1, h2]
      rw [e]
      clear e
      go_enter Tryd.func75, Tryd.ntmps75
      go_wp2_with fail
      go_ret
      exact ⟨rfl, HB.out⟩
    · have e : (decide (f ≤ p) && decide (p < f + s)) = false := by simp [h2]
      rw [e]
      clear e
      go_enter Tryd.func75, Tryd.ntmps75
      go_wp2_with fail
      go_ret
      exact ⟨rfl, HB.out⟩
  · have e : (decide (f ≤ p) && decide (p < f + s)) = false := by simp [h1]
    rw [e]
    clear e
    go_enter Tryd.func75, Tryd.ntmps75
    go_wp2_with fail
    go_ret
    exact ⟨rfl, HB.out⟩
set_option maxHeartbeats 1000000 in
theorem most_any (l : Lay) (w : World) (hc : l.check = 0) :
    Calls Tryd.prog 74 #[.agg #[.int .i64 l.first, .int .i64 l.size]] w fun e w' => e = .returned (.int .i64 l.most) ∧ Below w.heap.size w w' := by
  obtain ⟨c1, c2, c3, c4⟩ := Lay.check_ok hc
  obtain ⟨f, s⟩ := l
  have HB := Lib.hid ((Below.refl _ w).alloc (Nat.le_refl _) (.cells #[.int .i64 f, .int .i64 s] 27))
  unfold Lay.most
  dsimp only at *
  have hw : wrap64 (s - 2) = s - 2 := by unfold wrap64; omega
  by_cases h : s - 2 ≤ 80
  · rw [Int.min_eq_left (by omega)]
    go_enter Tryd.func74, Tryd.ntmps74
    go_wp2_with fail
    go_ret
    exact ⟨rfl, HB.out⟩
  · rw [Int.min_eq_right (by omega)]
    go_enter Tryd.func74, Tryd.ntmps74
    go_wp2_with fail
    go_ret
    exact ⟨rfl, HB.out⟩
end Go.Proofs.YtfbkfdoekgnldaaDoor
namespace Go.Proofs.YtfbkfdoekgnldaaDoor
open Go.RowKit
open Lime
attribute [local go_sem] Oper.semAt_some setRow_alloc_at setRow_alloc_past setRow_drew
set_option maxHeartbeats 1000000 in
theorem short_any (n : Int) (w : World) :
    Calls Tryd.prog 59 #[.int .i64 n] w fun e w' => e = .returned (.string (two n)) ∧ Below w.heap.size w w' := by
  obtain ⟨c0, hc0⟩ : ∃ c, c = UInt8.ofNat (n % 256).toNat := ⟨_, rfl⟩
  obtain ⟨c1, hc1⟩ : ∃ c, c = UInt8.ofNat (n / 256 % 256).toNat := ⟨_, rfl⟩
  have e : two n = ⟨#[c0, c1]⟩ := by rw [hc0, hc1]; rfl
  have hw0 : IntKind.u8.wrap n = vb c0 := by rw [hc0]; unfold IntKind.wrap vb; simp [IntKind.signed, IntKind.bits]; omega
  have hw1 : IntKind.u8.wrap (n / 256) = vb c1 := by rw [hc1]; unfold IntKind.wrap vb; simp [IntKind.signed, IntKind.bits]; omega
  have hsh : binOp .shr 3 (.int .i64 n) (.int .u64 8) = pure (.int .i64 (n / 256)) := by
    show Op.shift .shr .i64 n .u64 8 = _
    rw [shift_shr_any _ _ _ _ (by decide)]; rfl
  rw [e]
  have HB := Lib.hid ((Below.refl _ w).alloc (Nat.le_refl _) (.cells #[.int .u8 (vb c0), .int .u8 (vb c1)] 5))
  have hb : (w.alloc (.cells #[.int .u8 (vb c0), .int .u8 (vb c1)] 5)).heap[w.heap.size]? = some (.cells #[.int .u8 (vb c0), .int .u8 (vb c1)] 5 (0, 0)) := heap_alloc_new _ _
  have hcv : (convert 105 9 (.slice (some ⟨w.heap.size, 0, none⟩) 2 2)).run Tryd.prog (w.alloc (.cells #[.int .u8 (vb c0), .int .u8 (vb c1)] 5)) = .ok (.string ⟨#[c0, c1]⟩) (w.alloc (.cells #[.int .u8 (vb c0), .int .u8 (vb c1)] 5)) :=
    run_string_bytes _ ⟨w.heap.size, 0, none⟩ [c0, c1] 2 (fun i hi => by
      rw [Addr.add_lit, cell_of_row _ _ _ _ _ _ hb]
      match i, hi with
      | 0, _ => rfl
      | 1, _ => rfl)
  clear e hc0 hc1
  go_enter Tryd.func59, Tryd.ntmps59
  go_wp2_with fail
  go_ret
  exact ⟨rfl, HB.out⟩
set_option maxHeartbeats 1000000 in
theorem errs_index (b : Nat) (e : Int) (w : World) (h : w.heap[b]? = some (.cells #[.int .i64 1, .int .i64 13, .int .i64 7] 29 (0, 0))) :
    Calls Tryd.prog 84 #[.slice (some ⟨b, 0, none⟩) 3 3, .int .i64 e] w fun x w' => ∃ i : Int, x = .returned (.int .i64 i) ∧ (broken e = true ↔ 0 ≤ i) ∧ w' = w := by
  have c0 := cell_of_row w b 0 _ _ _ h
  have c1 := cell_of_row w b 1 _ _ _ h
  have c2 := cell_of_row w b 2 _ _ _ h
  go_enter Tryd.func84, Tryd.ntmps84
  go_wp2_with fail
  go_loopw [8] (fun i wr => wr = w ∧ (i = .int .i64 0 ∨ (i = .int .i64 1 ∧ ¬ e = 1) ∨ (i = .int .i64 2 ∧ ¬ e = 1 ∧ ¬ e = 13) ∨ (i = .int .i64 3 ∧ ¬ e = 1 ∧ ¬ e = 13 ∧ ¬ e = 7))) (fun i _ => 3 - (intOf i).toNat)
  case atStart => exact ⟨rfl, .inl rfl⟩
  case round =>
    obtain ⟨rfl, hI⟩ := hrel
    rcases hI with rfl | ⟨rfl, h1⟩ | ⟨rfl, h1, h2⟩ | ⟨rfl, h1, h2, h3⟩
    · by_cases q : e = 1
      · subst q
        go_wp2_with fail
        go_ret
        exact ⟨_, rfl, by decide, rfl⟩
      · go_wp2_with fail
        go_roundw
        case rel => exact ⟨trivial, .inr (.inl ⟨rfl, q⟩)⟩
        case measure => simp [intOf]
    · by_cases q : e = 13
      · subst q
        go_wp2_with fail
        go_ret
        exact ⟨_, rfl, by decide, rfl⟩
      · go_wp2_with fail
        go_roundw
        case rel => exact ⟨trivial, .inr (.inr (.inl ⟨rfl, h1, q⟩))⟩
        case measure => simp [intOf]
    · by_cases q : e = 7
      · subst q
        go_wp2_with fail
        go_ret
        exact ⟨_, rfl, by decide, rfl⟩
      · go_wp2_with fail
        go_roundw
        case rel => exact ⟨trivial, .inr (.inr (.inr ⟨rfl, h1, h2, q⟩))⟩
        case measure => simp [intOf]
    · go_wp2_with fail
      go_ret
      exact ⟨_, rfl, by unfold broken; simp [h1, h2, h3], rfl⟩
set_option maxHeartbeats 1000000 in
theorem errs_contains (b : Nat) (e : Int) (w : World) (h : w.heap[b]? = some (.cells #[.int .i64 1, .int .i64 13, .int .i64 7] 29 (0, 0))) :
    Calls Tryd.prog 80 #[.slice (some ⟨b, 0, none⟩) 3 3, .int .i64 e] w fun x w' => x = .returned (.bool (broken e)) ∧ w' = w := by
  have HI := Lib.hid (errs_index b e w h)
  clear h
  go_enter Tryd.func80, Tryd.ntmps80
  go_wp2_with fail
  refine HI.out.mono ?_
  rintro x w' ⟨i, rfl, hi, rfl⟩
  have e2 : broken e = decide (0 ≤ i) := by
    cases hb : broken e
    · rw [hb] at hi; simpa using hi
    · rw [hb] at hi; simpa using hi
  have HE := Lib.hid e2
  clear hi e2 HI
  go_wp2_with fail
  go_ret
  exact ⟨by rw [HE.out]; rfl, rfl⟩
set_option maxHeartbeats 1000000 in
theorem broken_any (e : Int) (w : World) : Calls Tryd.prog 72 #[.int .i64 e] w fun x w' => x = .returned (.bool (broken e)) ∧ Below w.heap.size w w' := by
  have HB := Lib.hid ((Below.refl _ w).alloc (Nat.le_refl _) (.cells #[.int .i64 1, .int .i64 13, .int .i64 7] 29))
  have HC := Lib.hid (errs_contains w.heap.size e (w.alloc (.cells #[.int .i64 1, .int .i64 13, .int .i64 7] 29)) (heap_alloc_new _ _))
  go_enter Tryd.func72, Tryd.ntmps72
  go_wp2_with fail
  refine HC.out.mono ?_
  rintro x w' ⟨rfl, rfl⟩
  go_wp2_with fail
  go_ret
  exact ⟨rfl, HB.out⟩
theorem bytes_loop (d : ByteArray) : ∀ (n i : Nat) (r : List UInt8), d.size - i = n → (ByteArray.toList.loop d i r).length = r.length + n := by
  intro n
  induction n with
  | zero => intro i r h; rw [ByteArray.toList.loop, if_neg (by omega)]; simp
  | succ n ih => intro i r h; rw [ByteArray.toList.loop, if_pos (by omega), ih _ _ (by omega)]; simp; omega
theorem bytes_none (d : ByteArray) (h : ¬ d = ⟨#[]⟩) : d.toList.isEmpty = false := by
  have hl : d.toList.length = d.size := by unfold ByteArray.toList; rw [bytes_loop d _ 0 [] rfl]; simp
  cases he : d.toList with
  | nil =>
    exfalso
    rw [he] at hl
    have h0 : d.data.size = 0 := hl.symm
    apply h
    exact ByteArray.ext (Array.eq_empty_of_size_eq_zero h0)
  | cons a l => rfl
set_option maxHeartbeats 2000000 in
theorem head_has {w W : World} {rs : List (Res w.heap.size)} {g : Nat} {S : Dv} (h : Has w W rs) (hr : DevR _ g S ∈ rs) (l : Lay) (hh : HalfLaid w) :
    Calls Tryd.prog 23 #[pv g, .agg #[.int .i64 l.first, .int .i64 l.size]] W fun e w' => e = .returned (.tuple #[.int .u32 (vu (headM S l).1), .int .i64 (headM S l).2]) ∧ Has w w' rs := by
  have h1 := h.alloc (.cells #[.int .i64 l.first, .int .i64 l.size] 27)
  have HC := Lib.hid (check_any l (W.alloc (.cells #[.int .i64 l.first, .int .i64 l.size] 27)))
  have H1 := Lib.hid h1
  obtain ⟨c, hcE⟩ : ∃ c, c = l.check := ⟨_, rfl⟩
  obtain ⟨x, hx⟩ : ∃ x, x = S.get l.first := ⟨_, rfl⟩
  have HGET : Hid (∀ W', Has w W' (Blk _ W.heap.size (.cells #[.int .i64 l.first, .int .i64 l.size] 27) :: rs) → Calls Tryd.prog 43 #[pv g, .int .i64 l.first] W' fun e w' => e = .returned (.tuple #[.agg #[.int .i64 x.1.k, .int .u32 (vu x.1.q), .string x.1.d], .int .i64 x.2]) ∧ Has w w' (Blk _ W.heap.size (.cells #[.int .i64 l.first, .int .i64 l.size] 27) :: rs)) :=
    fun W' h' => by rw [hx]; exact get_ret h' (.tail _ hr) l.first hh
  unfold headM
  rw [← hcE] at HC ⊢
  rw [← hx]
  obtain ⟨⟨fk, fq, fd⟩, fe⟩ := x
  dsimp only at HGET ⊢
  obtain ⟨R, hR⟩ : ∃ R : BitVec 32 × Int, R = if c ≠ 0 then (0#32, c) else if fe ≠ 0 then (0#32, fe) else if fk ≠ 1 ∨ fd ≠ ⟨#[]⟩ then (0#32, 6) else (fq, 0) := ⟨_, rfl⟩
  rw [← hR]
  have HR := Lib.hid hR
  clear h h1 hh hr hcE hx hR
  by_cases hc : c = 0
  · subst hc
    go_enter Tryd.func23, Tryd.ntmps23
    go_wp2_with fail
    refine HC.out.mono ?_
    clear HC
    rintro e w2 ⟨rfl, hB2⟩
    have h2 := H1.out.below hB2
    have c0 := h2.cell 0 _ _ _ rfl 0 _ rfl
    have c1 := h2.cell 0 _ _ _ rfl 1 _ rfl
    have HG := Lib.hid (HGET.out _ h2)
    clear h2 hB2 H1 HGET
    go_wp2_with fail
    refine HG.out.mono ?_
    clear HG
    rintro e w3 ⟨rfl, h3⟩
    have h4 := h3.alloc (.cells #[.int .i64 fk, .int .u32 (vu fq), .string fd] 76)
    have H4 := Lib.hid h4.drop.drop
    clear h3 h4 c0 c1
    by_cases he : fe = 0
    · subst he
      by_cases hk : fk = 1
      · subst hk
        by_cases hd : fd = ⟨#[]⟩
        · subst hd
          go_wp2_with fail
          go_ret2
          exact ⟨by rw [HR.out]; rfl, H4.out⟩
        · have hd2 := bytes_none fd hd
          have HE : Hid (R = (0#32, 6)) := by rw [HR.out, if_neg (by simp), if_neg (by simp), if_pos (.inr hd)]; exact Lib.hid rfl
          clear hd
          go_wp2_with fail
          go_ret2
          exact ⟨by rw [HE.out]; rfl, H4.out⟩
      · have hk2 : (fk != 1) = true := by simpa using hk
        have HE : Hid (R = (0#32, 6)) := by rw [HR.out, if_neg (by simp), if_neg (by simp), if_pos (.inl hk)]; exact Lib.hid rfl
        go_wp2_with fail
        go_ret2
        exact ⟨by rw [HE.out]; rfl, H4.out⟩
    · have he2 : (fe != 0) = true := by simpa using he
      have HE : Hid (R = (0#32, fe)) := by rw [HR.out, if_neg (by simp), if_pos he]; exact Lib.hid rfl
      clear he
      go_wp2_with fail
      go_ret2
      exact ⟨by rw [HE.out]; rfl, H4.out⟩
  · have hc2 : (c != 0) = true := by simpa using hc
    have HE : Hid (R = (0#32, c)) := by rw [HR.out, if_pos hc]; exact Lib.hid rfl
    clear hc
    go_enter Tryd.func23, Tryd.ntmps23
    go_wp2_with fail
    refine HC.out.mono ?_
    clear HC
    rintro e w2 ⟨rfl, hB2⟩
    have H2 := Lib.hid (H1.out.below hB2).drop
    clear hB2 H1
    go_wp2_with fail
    go_ret2
    exact ⟨by rw [HE.out]; rfl, H2.out⟩
end Go.Proofs.YtfbkfdoekgnldaaDoor
namespace Go.Proofs.YtfbkfdoekgnldaaDoor
open Go.RowKit Go.ChangeMaps Go.MapKept
theorem plain_bool_inv {H : Type} {P : Program} {e : TypeId} (he : P.underlying e = some .bool) {v : Value} {z : DataW H × List MemPlace} (h : plainElem P e v = some z) : ∃ a, v = .bool a ∧ z = (.lit (.bool a), []) := by
  unfold plainElem at h
  rw [he] at h
  cases v <;> simp at h
  exact ⟨_, rfl, h.symm⟩
/-- block b is a map of at most n entries, in which those keys are true of which f says so -/
def MapB (W : World) (b n : Nat) (f : Int → Bool) : Prop :=
  ∃ D : DataW Unit, W.ownsMap Tryd.prog 3 (plainElem Tryd.prog 4) b n D ∧ Maps.IsMap D ∧
    ∀ k, (Lit.int .i64 k).wf = true → D.atKey (.int .i64 k) (.lit (.bool false)) = .lit (.bool (f k))
theorem MapB.lt {W : World} {b n : Nat} {f : Int → Bool} (h : MapB W b n f) : b < W.heap.size := by
  obtain ⟨D, h, _⟩ := h; exact h.lt
theorem MapB.stay {W W' : World} {b n : Nat} {f : Int → Bool} (h : MapB W b n f) (hb : W'.heap[b]? = W.heap[b]?) : MapB W' b n f := by
  obtain ⟨D, ⟨es, clock, h1, h2⟩, h3⟩ := h
  exact ⟨D, ⟨es, clock, hb.trans h1, h2⟩, h3⟩
theorem MapB.made (W : World) : MapB (W.alloc (.map #[] 0)) W.heap.size 0 (fun _ => false) :=
  ⟨.map [], World.ownsMap_made _ _ _ _, Maps.isMap_empty, fun _ _ => rfl⟩
theorem zero_bool (w : World) : (zeroValue 4).run Tryd.prog w = .ok (.bool false) w := by kernel_rfl
theorem MapB.look {W : World} {b n : Nat} {f : Int → Bool} (h : MapB W b n f) (k : Int) (hk : (Lit.int .i64 k).wf = true) :
    (Instr.lookup 117 (.map (some b)) (.int .i64 k) false).run Tryd.prog W = .ok (.bool (f k)) W := by
  obtain ⟨D, h1, _, h3⟩ := h
  have e2 := h3 k hk
  obtain ⟨v, ps, hrun, hv⟩ := h1.lookup (Maps.int_keyed Tryd.underlying3) Tryd.underlying117 (zero_bool W) (plainElem_bool Tryd.underlying4 false) (Maps.keyOf_int_mk Tryd.underlying3 hk)
  rw [e2] at hv
  obtain ⟨c, rfl, hc⟩ := plain_bool_inv Tryd.underlying4 hv
  have hcc : f k = c := by
    have h : (DataW.lit (Lit.bool (f k)) : DataW Unit) = .lit (.bool c) := congrArg Prod.fst hc
    simpa using h
  rw [hrun, hcc]
theorem MapB.store {W : World} {b n : Nat} {f : Int → Bool} (h : MapB W b n f) (hn : n < maxLen) (k : Int) (hk : (Lit.int .i64 k).wf = true) :
    ∃ W', (Instr.mapUpdate 117 (.map (some b)) (.int .i64 k) (.bool true)).run Tryd.prog W = .ok () W' ∧ MapB W' b (n + 1) (fun j => if j = k then true else f j) ∧ Only [b] W W' := by
  obtain ⟨D, h1, h2, h3⟩ := h
  obtain ⟨W', hrun, h4, hg⟩ := h1.update (Maps.int_keyed Tryd.underlying3) Tryd.underlying117 hn (Maps.keyOf_int_mk Tryd.underlying3 hk) (plainElem_bool Tryd.underlying4 true)
  refine ⟨W', hrun, ⟨_, h4, h2.put _ _, fun j hj => ?_⟩, (Only.refl _ _).grown hg (by simp)⟩
  by_cases e : j = k
  · subst e
    dsimp only
    rw [if_pos rfl, Maps.atKey_put_same h2 (isKey_int j)]
  · have hne : (Lit.int .i64 j) ≠ .int .i64 k := by intro e'; injection e' with _ e'; exact e e'
    dsimp only
    rw [if_neg e, Maps.atKey_put_other hne]
    exact h3 j hj
def MapR (B b n : Nat) (f : Int → Bool) : Res B where
  P W F := F = [b] ∧ MapB W b n f
  lt W F h k hk := by obtain ⟨rfl, h⟩ := h; simp at hk; subst hk; exact h.lt
  stay W W' F h _ h1 := by obtain ⟨rfl, h⟩ := h; exact ⟨rfl, h.stay (h1 b (by simp))⟩
theorem Has.madeMap {w W : World} {rs : List (Res w.heap.size)} (h : Has w W rs) : Has w (W.alloc (.map #[] 0)) (MapR _ W.heap.size 0 (fun _ => false) :: rs) :=
  h.more ((Below.refl _ _).alloc (Nat.le_refl _) _) _ [W.heap.size] ⟨rfl, MapB.made W⟩ (by simp)
theorem Has.lookMap {w W : World} {rs : List (Res w.heap.size)} {b n : Nat} {f : Int → Bool} (h : Has w W rs) (hr : MapR _ b n f ∈ rs) (k : Int) (hk : (Lit.int .i64 k).wf = true) :
    (Instr.lookup 117 (.map (some b)) (.int .i64 k) false).run Tryd.prog W = .ok (.bool (f k)) W := by
  obtain ⟨F, ⟨_, hM⟩, _⟩ := h.mem hr
  exact hM.look k hk
theorem Has.storeMap {w W : World} (l1 : List (Res w.heap.size)) {l2 : List (Res w.heap.size)} {b n : Nat} {f : Int → Bool} (h : Has w W (l1 ++ MapR _ b n f :: l2)) (hn : n < maxLen) (k : Int) (hk : (Lit.int .i64 k).wf = true) :
    ∃ W', (Instr.mapUpdate 117 (.map (some b)) (.int .i64 k) (.bool true)).run Tryd.prog W = .ok () W' ∧ Has w W' (l1 ++ MapR _ b (n + 1) (fun j => if j = k then true else f j) :: l2) := by
  obtain ⟨F, ⟨rfl, hM⟩, hF⟩ := h.mem (r := MapR _ b n f) (by simp)
  obtain ⟨W', hrun, hM', hO⟩ := hM.store hn k hk
  exact ⟨W', hrun, h.turnAt l1 (fun F hP _ => by
    obtain ⟨rfl, _⟩ := hP
    exact ⟨hO, [b], ⟨rfl, hM'⟩, by simp⟩)⟩
end Go.Proofs.YtfbkfdoekgnldaaDoor
namespace Go.Proofs.YtfbkfdoekgnldaaDoor
open Go.RowKit
open Lime
attribute [local go_sem] Oper.semAt_some setRow_alloc_at setRow_alloc_past setRow_drew
def recC (r : Rec) : Array Value := #[.int .i64 r.at_, .int .i64 r.kind, .string r.data]
theorem wp_region_ordJ {P : Program} {Q : Exit → Act → World → Prop} {id : Nat} {a : Act} {w : World} {l : List Oper} (S : World → Prop) (t : OrdT) (hm : P.follows .mixedOrders = true)
    (hs : (Region.noSelect l.toArray && ordT .any l.toArray (t.lst l.length) t (Array.replicate l.length false) && decide (t.size ≤ l.length)) = true) (hS : S w.drew) (h : ∀ wz, wz = w.drew → wpT P l.toArray S (NoPanic Q) t a wz) : (Code.region id l.toArray true).wp P Q a w :=
  wp_region_ordT S t hm hs hS (h _ rfl)
theorem Has.store3 {w W : World} (l1 : List (Res w.heap.size)) {l2 : List (Res w.heap.size)} {b : Nat} {x0 x1 x2 : Value} {t : TypeId} (h : Has w W (l1 ++ Blk _ b (.cells #[x0, x1, x2] t (0, 0)) :: l2)) (y0 y1 y2 : Value) :
    Has w (((W.setCell ⟨b, 0, none⟩ y0).setCell ⟨b, 1, none⟩ y1).setCell ⟨b, 2, none⟩ y2) (l1 ++ Blk _ b (.cells #[y0, y1, y2] t (0, 0)) :: l2) :=
  ((h.setCell l1 0 y0).setCell l1 1 y1).setCell l1 2 y2
theorem rec_size : (Tryd.prog.info? 67).map (·.size) = some 3 := by kernel_rfl
/-- two results: a record in a cell, and a value -/
theorem results_rec2 {fn : Func} {p q : Tmp} (h : fn.results = #[.cell p 67, .tmp q]) (tmps : Array Value) (w : World) (g : Nat) (cs : Array Value)
    (hp : tmps.getD p undef = .pointer (some ⟨g, 0, none⟩)) (hg : w.heap[g]? = some (.cells cs 67 (0, 0))) (hc : cs.size = 3) :
    (results fn tmps).run Tryd.prog w = .ok (.tuple #[.agg cs, tmps.getD q undef]) w := by
  have hp' : tmps[p]?.getD undef = .pointer (some ⟨g, 0, none⟩) := by simpa using hp
  have hl := run_loadVar_row (P := Tryd.prog) w g _ _ _ _ _ hg Tryd.underlying67 rfl (by rw [hc]; exact rec_size)
  simp [results, h, hp', asAddr, hl]
theorem byte_at (d : ByteArray) (k : Nat) (h : k < d.size) : ((d[k]).toNat : Int) = vb (byteAt d k) := (str_at d k h).symm
theorem wrap_byte (b : UInt8) : IntKind.i64.wrap (vb b) = vb b := byte_int b
theorem wrap_byte2 (b : UInt8) : IntKind.i64.wrap (vb b * 256) = vb b * 256 := IntWalk.i64_in _ (by have := vb_nonneg b; have := vb_lt b; omega)
theorem or_bytes (a b : UInt8) : bits .or .i64 (vb a) (vb b * 256) = vb a + 256 * vb b := by
  have h1 : (BitVec.ofInt 64 (vb a)).toNat = a.toNat := by
    unfold vb; rw [BitVec.ofInt_natCast, BitVec.toNat_ofNat]; exact Nat.mod_eq_of_lt (by have := a.toNat_lt; omega)
  have h2 : (BitVec.ofInt 64 (vb b * 256)).toNat = b.toNat <<< 8 := by
    have e : (vb b * (256 : Int) : Int) = Int.ofNat (b.toNat <<< 8) := by unfold vb; rw [Nat.shiftLeft_eq]; show _ = ((b.toNat * 2 ^ 8 : Nat) : Int); omega
    rw [e, show Int.ofNat (b.toNat <<< 8) = ((b.toNat <<< 8 : Nat) : Int) from rfl, BitVec.ofInt_natCast, BitVec.toNat_ofNat]; exact Nat.mod_eq_of_lt (by have := b.toNat_lt; rw [Nat.shiftLeft_eq]; omega)
  have h3 := Nat.shiftLeft_add_eq_or_of_lt (i := 8) (b := a.toNat) (by have := a.toNat_lt; omega) b.toNat
  show IntKind.i64.wrap ((BitVec.ofInt 64 (vb a) ||| BitVec.ofInt 64 (vb b * 256)).toNat : Int) = _
  rw [BitVec.toNat_or, h1, h2, Nat.or_comm, ← h3, Nat.shiftLeft_eq]
  have ha := a.toNat_lt
  have hb := b.toNat_lt
  unfold vb
  rw [show ((b.toNat * 2 ^ 8 + a.toNat : Nat) : Int) = (a.toNat : Int) + 256 * b.toNat by omega]
  exact IntWalk.i64_in _ (by omega)
set_option maxRecDepth 100000 in
set_option maxHeartbeats 4000000 in
theorem record_has {w W : World} {rs : List (Res w.heap.size)} {g : Nat} {S : Dv} (h : Has w W rs) (hr : DevR _ g S ∈ rs) (l : Lay) (hc : l.check = 0) (f : Fr) (hf : f.d.size ≤ 120) :
    Calls Tryd.prog 73 #[pv g, .agg #[.int .i64 l.first, .int .i64 l.size], .agg #[.int .i64 f.k, .int .u32 (vu f.q), .string f.d]] W fun e w' => ∃ r : Rec, e = .returned (.tuple #[.agg #[.int .i64 r.at_, .int .i64 r.kind, .string r.data], .bool (isRec S l f)]) ∧ (isRec S l f = true → r = recOf f.d) ∧ Has w w' rs := by
  obtain ⟨fk, fq, fd⟩ := f
  dsimp only at hf ⊢
  obtain ⟨B, hB⟩ : ∃ B, B = isRec S l ⟨fk, fq, fd⟩ := ⟨_, rfl⟩
  rw [← hB]
  have HB := Lib.hid hB
  have h3 := ((h.alloc (.cells #[.int .i64 l.first, .int .i64 l.size] 27)).allocAt (.cells #[.int .i64 fk, .int .u32 (vu fq), .string fd] 76) (W.heap.size + 1) (by simp)).allocAt (.cells #[.int .i64 0, .int .i64 0, .string ⟨#[]⟩] 67) (W.heap.size + 1 + 1) (by simp)
  have H3 := Lib.hid h3
  clear hB h3
  by_cases q : fk = 2 ∧ 3 ≤ fd.size ∧ fd.size ≤ 99
  · obtain ⟨rfl, q2, q3⟩ := q
    have i0 := byte_at fd 0 (by omega)
    have i1 := byte_at fd 1 (by omega)
    have i2 := byte_at fd 2 (by omega)
    obtain ⟨b0, hb0⟩ : ∃ b, b = byteAt fd 0 := ⟨_, rfl⟩
    obtain ⟨b1, hb1⟩ : ∃ b, b = byteAt fd 1 := ⟨_, rfl⟩
    obtain ⟨b2, hb2⟩ : ∃ b, b = byteAt fd 2 := ⟨_, rfl⟩
    rw [← hb0] at i0
    rw [← hb1] at i1
    rw [← hb2] at i2
    have z0 : 0 < fd.size := by omega
    have z1 : 1 < fd.size := by omega
    have z2 : 2 < fd.size := by omega
    have y1 : 1 < (fd.size : Int) := by omega
    have y2 : 2 < (fd.size : Int) := by omega
    have y3 : 3 ≤ (fd.size : Int) := by omega
    have HB0 := Lib.hid hb0
    have HB1 := Lib.hid hb1
    have HB2 := Lib.hid hb2
    clear hb0 hb1 hb2
    have w0 := wrap_byte b0
    have w1 := wrap_byte b1
    have w2 := wrap_byte b2
    have w3 := wrap_byte2 b1
    have w4 := or_bytes b0 b1
    obtain ⟨p, hp⟩ : ∃ p : Int, p = vb b0 + 256 * vb b1 := ⟨_, rfl⟩
    obtain ⟨k, hk⟩ : ∃ k : Int, k = vb b2 := ⟨_, rfl⟩
    rw [← hp] at w4
    have HP := Lib.hid hp
    have HK := Lib.hid hk
    rw [← hk] at i2 w2
    have d4 : decide ((fd.size : Int) < 3) = false := by simp; omega
    have d5 : decide (99 < (fd.size : Int)) = false := by simp; omega
    clear hp hk
    go_enter Tryd.func73, Tryd.ntmps73
    go_wp2_with fail
    refine wp_region_ordT (fun w' => w'.cell? ⟨W.heap.size + 1, 2, none⟩ = some (.string fd) ∧ True ∧ True) (OrdT.takes [0, 1, 2, 3, 4, 5, 6, 7, 8, 9, 10, 11, 12, 13, 14, 15, 16, 17] (.last 18)) (by kernel_rfl) (by kernel_rfl) ⟨H3.out.drew.cell 1 _ _ _ rfl 2 _ rfl, trivial, trivial⟩ ?_
    unfold OrdT.takes
    --ordt yyyyyyyyyyyyyyyyyy
    iterate 18 (refine' t_yield _ rfl rfl rfl _ _; rotate_left; (intro w' hSw; obtain ⟨s0, s1, s2⟩ := hSw; go_simp; with_reducible rfl); simp only [Act.put, List.setIfInBounds_toArray, List.set_cons_zero, List.set_cons_succ])
    --end
    refine t_last rfl rfl (fun K hK => ?_)
    go_simp
    refine hK _ _ (NoPanic.normal ?_)
    clear hK
    have h4 := ((h.alloc (.cells #[.int .i64 l.first, .int .i64 l.size] 27)).allocAt (.cells #[.int .i64 2, .int .u32 (vu fq), .string fd] 76) (W.heap.size + 1) (by simp)).allocAt (.cells #[.int .i64 p, .int .i64 k, .string (fd.extract 3 fd.size)] 67) (W.heap.size + 1 + 1) (by simp)
    have H4 := Lib.hid h4
    have HC := Lib.hid hc
    have HR := Lib.hid hr
    clear h h4 hc hr H3
    obtain ⟨n, hn⟩ : ∃ n : Nat, n = S.st.length := ⟨_, rfl⟩
    have HSZ : Hid (∀ W', Has w W' (Blk _ (W.heap.size + 1 + 1) (.cells #[.int .i64 p, .int .i64 k, .string (fd.extract 3 fd.size)] 67) :: Blk _ (W.heap.size + 1) (.cells #[.int .i64 2, .int .u32 (vu fq), .string fd] 76) :: Blk _ W.heap.size (.cells #[.int .i64 l.first, .int .i64 l.size] 27) :: rs) → (W'.cell? ⟨W.heap.size, 0, none⟩ = some (.int .i64 l.first) ∧ W'.cell? ⟨W.heap.size, 1, none⟩ = some (.int .i64 l.size)) ∧ (W'.cell? ⟨W.heap.size + 1 + 1, 0, none⟩ = some (.int .i64 p) ∧ W'.cell? ⟨W.heap.size + 1 + 1, 1, none⟩ = some (.int .i64 k) ∧ W'.cell? ⟨W.heap.size + 1 + 1, 2, none⟩ = some (.string (fd.extract 3 fd.size))) ∧ True) :=
      fun W' h => ⟨⟨h.cell 2 _ _ _ rfl 0 _ rfl, h.cell 2 _ _ _ rfl 1 _ rfl⟩, ⟨h.cell 0 _ _ _ rfl 0 _ rfl, h.cell 0 _ _ _ rfl 1 _ rfl, h.cell 0 _ _ _ rfl 2 _ rfl⟩, trivial⟩
    have HSEC : Hid (∀ W', Has w W' (Blk _ (W.heap.size + 1 + 1) (.cells #[.int .i64 p, .int .i64 k, .string (fd.extract 3 fd.size)] 67) :: Blk _ (W.heap.size + 1) (.cells #[.int .i64 2, .int .u32 (vu fq), .string fd] 76) :: Blk _ W.heap.size (.cells #[.int .i64 l.first, .int .i64 l.size] 27) :: rs) → Calls Tryd.prog 76 #[pv g] W' fun e w' => e = .returned (.int .i64 (n : Int)) ∧ w' = W') := fun W' h => by rw [hn]; exact sectors_has h (.tail _ (.tail _ (.tail _ HR.out)))
    have hB : B = (decide (p < (n : Int)) && !l.inside p && decide (0 < k)) := by
      rw [HB.out]
      unfold isRec
      have e : recOf fd = ⟨p, k, fd.extract 3 fd.size⟩ := by unfold recOf; rw [HP.out, HK.out, HB0.out, HB1.out, HB2.out]
      rw [e, ← hn]
      simp [q2, q3]
    have HBB := Lib.hid hB
    have HRC : Hid (recOf fd = ⟨p, k, fd.extract 3 fd.size⟩) := by unfold recOf; rw [HP.out, HK.out, HB0.out, HB1.out, HB2.out]; exact Lib.hid rfl
    have HIN := Lib.hid (fun W' => inside_any l p W' HC.out)
    obtain ⟨ins, hins⟩ : ∃ b, b = l.inside p := ⟨_, rfl⟩
    rw [← hins] at HIN HBB
    clear hn hB hins HB HB0 HB1 HB2 HP HK HC i0 i1 i2 z0 z1 z2 y1 y2 y3 w0 w1 w2 w3 w4 d4 d5
    go_wp2_with fail
    by_cases hlt : p < (n : Int)
    · cases ins
      · refine wp_region_ordJ (fun W' => (W'.cell? ⟨W.heap.size, 0, none⟩ = some (.int .i64 l.first) ∧ W'.cell? ⟨W.heap.size, 1, none⟩ = some (.int .i64 l.size)) ∧ (W'.cell? ⟨W.heap.size + 1 + 1, 0, none⟩ = some (.int .i64 p) ∧ W'.cell? ⟨W.heap.size + 1 + 1, 1, none⟩ = some (.int .i64 k) ∧ W'.cell? ⟨W.heap.size + 1 + 1, 2, none⟩ = some (.string (fd.extract 3 fd.size))) ∧ True) (OrdT.takes [0, 1, 2, 3] (.one 4 (OrdT.takes [5, 6, 7, 8, 9] (.one 10 (OrdT.takes [11, 12, 13, 14, 15, 16, 17] (.one 18 (.take 19 .done))))))) (by kernel_rfl) (by kernel_rfl) (HSZ.out _ H4.out.drew.drew) (fun wz hz => ?_)
        have h6 := H4.out.drew.drew
        rw [← hz] at h6
        have H6 := Lib.hid h6
        clear hz h6 H4
        unfold OrdT.takes
        --ordt yyym
        iterate 3 (refine' t_yield _ rfl rfl rfl _ _; rotate_left; (intro w' hSw; obtain ⟨s0, s1, s2⟩ := hSw; go_simp; with_reducible rfl); simp only [Act.put, List.setIfInBounds_toArray, List.set_cons_zero, List.set_cons_succ])
        (refine' t_move _ _ rfl rfl rfl rfl _ _; rotate_left; (go_simp; with_reducible rfl); simp only [Act.put, List.setIfInBounds_toArray, List.set_cons_zero, List.set_cons_succ])
        --end
        refine t_one rfl rfl (fun K hK => ?_)
        go_simp
        refine (HSEC.out _ H6.out).mono ?_
        rintro e w7 ⟨rfl, rfl⟩
        dsimp only
        refine hK _ _ (HSZ.out _ H6.out) ?_
        clear hK
        unfold OrdT.takes
        --ordt ym yyy
        (refine' t_yield _ rfl rfl rfl _ _; rotate_left; (intro w' hSw; obtain ⟨s0, s1, s2⟩ := hSw; go_simp; with_reducible rfl); simp only [Act.put, List.setIfInBounds_toArray, List.set_cons_zero, List.set_cons_succ])
        (refine' t_move _ _ rfl rfl rfl rfl _ _; rotate_left; (go_simp; with_reducible rfl); simp only [Act.put, List.setIfInBounds_toArray, List.set_cons_zero, List.set_cons_succ])
        iterate 3 (refine' t_yield _ rfl rfl rfl _ _; rotate_left; (intro w' hSw; obtain ⟨s0, s1, s2⟩ := hSw; go_simp; with_reducible rfl); simp only [Act.put, List.setIfInBounds_toArray, List.set_cons_zero, List.set_cons_succ])
        --end
        refine t_one rfl rfl (fun K hK => ?_)
        go_simp
        refine (HIN.out _).mono ?_
        rintro e w8 ⟨rfl, hB8⟩
        have h8 := H6.out.below hB8
        have H8 := Lib.hid h8
        clear h8 hB8 H6
        dsimp only
        refine hK _ _ (HSZ.out _ H8.out) ?_
        clear hK
        unfold OrdT.takes
        --ordt yym yyy y
        iterate 2 (refine' t_yield _ rfl rfl rfl _ _; rotate_left; (intro w' hSw; obtain ⟨s0, s1, s2⟩ := hSw; go_simp; with_reducible rfl); simp only [Act.put, List.setIfInBounds_toArray, List.set_cons_zero, List.set_cons_succ])
        (refine' t_move _ _ rfl rfl rfl rfl _ _; rotate_left; (go_simp; with_reducible rfl); simp only [Act.put, List.setIfInBounds_toArray, List.set_cons_zero, List.set_cons_succ])
        iterate 4 (refine' t_yield _ rfl rfl rfl _ _; rotate_left; (intro w' hSw; obtain ⟨s0, s1, s2⟩ := hSw; go_simp; with_reducible rfl); simp only [Act.put, List.setIfInBounds_toArray, List.set_cons_zero, List.set_cons_succ])
        --end
        have c0 := H8.out.cell 0 _ _ _ rfl 0 _ rfl
        have c1 := H8.out.cell 0 _ _ _ rfl 1 _ rfl
        have c2 := H8.out.cell 0 _ _ _ rfl 2 _ rfl
        have f0 := H8.out.frozen 0 _ _ _ rfl 0
        have f1 := H8.out.frozen 0 _ _ _ rfl 1
        have f2 := H8.out.frozen 0 _ _ _ rfl 2
        have H9 := Lib.hid (Has.store3 [] H8.out (.int .i64 p) (.int .i64 k) (.string (fd.extract 3 fd.size)))
        refine t_one rfl rfl (fun K hK => ?_)
        go_simp
        refine hK _ _ (HSZ.out _ H9.out) ?_
        clear hK c0 c1 c2 f0 f1 f2
        --ordt y
        (refine' t_yield _ rfl rfl rfl _ _; rotate_left; (intro w' hSw; obtain ⟨s0, s1, s2⟩ := hSw; go_simp; with_reducible rfl); simp only [Act.put, List.setIfInBounds_toArray, List.set_cons_zero, List.set_cons_succ])
        --end
        refine t_done ?_
        go_wp2_with fail
        exact bodyPost_ret (results_rec2 rfl _ _ (W.heap.size + 1 + 1) _ rfl (H9.out.blk 0 _ _ rfl).1 rfl) rfl ⟨⟨p, k, fd.extract 3 fd.size⟩, by rw [HBB.out]; simp [hlt], fun _ => HRC.out.symm, H9.out.drop.drop.drop⟩
      · refine wp_region_ordJ (fun W' => (W'.cell? ⟨W.heap.size, 0, none⟩ = some (.int .i64 l.first) ∧ W'.cell? ⟨W.heap.size, 1, none⟩ = some (.int .i64 l.size)) ∧ (W'.cell? ⟨W.heap.size + 1 + 1, 0, none⟩ = some (.int .i64 p) ∧ W'.cell? ⟨W.heap.size + 1 + 1, 1, none⟩ = some (.int .i64 k) ∧ W'.cell? ⟨W.heap.size + 1 + 1, 2, none⟩ = some (.string (fd.extract 3 fd.size))) ∧ True) (OrdT.takes [0, 1, 2, 3] (.one 4 (OrdT.takes [5, 6, 7, 8, 9] (.one 10 (OrdT.takes [11, 12, 13, 14, 15, 16, 17] (.one 18 (.take 19 .done))))))) (by kernel_rfl) (by kernel_rfl) (HSZ.out _ H4.out.drew.drew) (fun wz hz => ?_)
        have h6 := H4.out.drew.drew
        rw [← hz] at h6
        have H6 := Lib.hid h6
        clear hz h6 H4
        unfold OrdT.takes
        --ordt yyym
        iterate 3 (refine' t_yield _ rfl rfl rfl _ _; rotate_left; (intro w' hSw; obtain ⟨s0, s1, s2⟩ := hSw; go_simp; with_reducible rfl); simp only [Act.put, List.setIfInBounds_toArray, List.set_cons_zero, List.set_cons_succ])
        (refine' t_move _ _ rfl rfl rfl rfl _ _; rotate_left; (go_simp; with_reducible rfl); simp only [Act.put, List.setIfInBounds_toArray, List.set_cons_zero, List.set_cons_succ])
        --end
        refine t_one rfl rfl (fun K hK => ?_)
        go_simp
        refine (HSEC.out _ H6.out).mono ?_
        rintro e w7 ⟨rfl, rfl⟩
        dsimp only
        refine hK _ _ (HSZ.out _ H6.out) ?_
        clear hK
        unfold OrdT.takes
        --ordt ym yyy
        (refine' t_yield _ rfl rfl rfl _ _; rotate_left; (intro w' hSw; obtain ⟨s0, s1, s2⟩ := hSw; go_simp; with_reducible rfl); simp only [Act.put, List.setIfInBounds_toArray, List.set_cons_zero, List.set_cons_succ])
        (refine' t_move _ _ rfl rfl rfl rfl _ _; rotate_left; (go_simp; with_reducible rfl); simp only [Act.put, List.setIfInBounds_toArray, List.set_cons_zero, List.set_cons_succ])
        iterate 3 (refine' t_yield _ rfl rfl rfl _ _; rotate_left; (intro w' hSw; obtain ⟨s0, s1, s2⟩ := hSw; go_simp; with_reducible rfl); simp only [Act.put, List.setIfInBounds_toArray, List.set_cons_zero, List.set_cons_succ])
        --end
        refine t_one rfl rfl (fun K hK => ?_)
        go_simp
        refine (HIN.out _).mono ?_
        rintro e w8 ⟨rfl, hB8⟩
        have h8 := H6.out.below hB8
        have H8 := Lib.hid h8
        clear h8 hB8 H6
        dsimp only
        refine hK _ _ (HSZ.out _ H8.out) ?_
        clear hK
        unfold OrdT.takes
        --ordt yymsssy
        iterate 2 (refine' t_yield _ rfl rfl rfl _ _; rotate_left; (intro w' hSw; obtain ⟨s0, s1, s2⟩ := hSw; go_simp; with_reducible rfl); simp only [Act.put, List.setIfInBounds_toArray, List.set_cons_zero, List.set_cons_succ])
        (refine' t_move _ _ rfl rfl rfl rfl _ _; rotate_left; (go_simp; with_reducible rfl); simp only [Act.put, List.setIfInBounds_toArray, List.set_cons_zero, List.set_cons_succ])
        iterate 3 (refine t_skip rfl rfl rfl ?_; simp only [Act.put, List.setIfInBounds_toArray, List.set_cons_zero, List.set_cons_succ])
        (refine' t_yield _ rfl rfl rfl _ _; rotate_left; (intro w' hSw; obtain ⟨s0, s1, s2⟩ := hSw; go_simp; with_reducible rfl); simp only [Act.put, List.setIfInBounds_toArray, List.set_cons_zero, List.set_cons_succ])
        --end
        have c0 := H8.out.cell 0 _ _ _ rfl 0 _ rfl
        have c1 := H8.out.cell 0 _ _ _ rfl 1 _ rfl
        have c2 := H8.out.cell 0 _ _ _ rfl 2 _ rfl
        have f0 := H8.out.frozen 0 _ _ _ rfl 0
        have f1 := H8.out.frozen 0 _ _ _ rfl 1
        have f2 := H8.out.frozen 0 _ _ _ rfl 2
        have H9 := Lib.hid (Has.store3 [] H8.out (.int .i64 p) (.int .i64 k) (.string (fd.extract 3 fd.size)))
        refine t_one rfl rfl (fun K hK => ?_)
        go_simp
        refine hK _ _ (HSZ.out _ H9.out) ?_
        clear hK c0 c1 c2 f0 f1 f2
        --ordt y
        (refine' t_yield _ rfl rfl rfl _ _; rotate_left; (intro w' hSw; obtain ⟨s0, s1, s2⟩ := hSw; go_simp; with_reducible rfl); simp only [Act.put, List.setIfInBounds_toArray, List.set_cons_zero, List.set_cons_succ])
        --end
        refine t_done ?_
        go_wp2_with fail
        exact bodyPost_ret (results_rec2 rfl _ _ (W.heap.size + 1 + 1) _ rfl (H9.out.blk 0 _ _ rfl).1 rfl) rfl ⟨⟨p, k, fd.extract 3 fd.size⟩, by rw [HBB.out]; simp, fun _ => HRC.out.symm, H9.out.drop.drop.drop⟩
    · refine wp_region_ordJ (fun W' => (W'.cell? ⟨W.heap.size, 0, none⟩ = some (.int .i64 l.first) ∧ W'.cell? ⟨W.heap.size, 1, none⟩ = some (.int .i64 l.size)) ∧ (W'.cell? ⟨W.heap.size + 1 + 1, 0, none⟩ = some (.int .i64 p) ∧ W'.cell? ⟨W.heap.size + 1 + 1, 1, none⟩ = some (.int .i64 k) ∧ W'.cell? ⟨W.heap.size + 1 + 1, 2, none⟩ = some (.string (fd.extract 3 fd.size))) ∧ True) (OrdT.takes [0, 1, 2, 3] (.one 4 (OrdT.takes [5, 6, 7, 8, 9, 10, 11, 12, 13, 14, 15, 16, 17] (.one 18 (.take 19 .done))))) (by kernel_rfl) (by kernel_rfl) (HSZ.out _ H4.out.drew.drew) (fun wz hz => ?_)
      have h6 := H4.out.drew.drew
      rw [← hz] at h6
      have H6 := Lib.hid h6
      clear hz h6 H4
      unfold OrdT.takes
      --ordt yyym
      iterate 3 (refine' t_yield _ rfl rfl rfl _ _; rotate_left; (intro w' hSw; obtain ⟨s0, s1, s2⟩ := hSw; go_simp; with_reducible rfl); simp only [Act.put, List.setIfInBounds_toArray, List.set_cons_zero, List.set_cons_succ])
      (refine' t_move _ _ rfl rfl rfl rfl _ _; rotate_left; (go_simp; with_reducible rfl); simp only [Act.put, List.setIfInBounds_toArray, List.set_cons_zero, List.set_cons_succ])
      --end
      refine t_one rfl rfl (fun K hK => ?_)
      go_simp
      refine (HSEC.out _ H6.out).mono ?_
      rintro e w7 ⟨rfl, rfl⟩
      dsimp only
      refine hK _ _ (HSZ.out _ H6.out) ?_
      clear hK
      unfold OrdT.takes
      --ordt ymsssssymsssy
      (refine' t_yield _ rfl rfl rfl _ _; rotate_left; (intro w' hSw; obtain ⟨s0, s1, s2⟩ := hSw; go_simp; with_reducible rfl); simp only [Act.put, List.setIfInBounds_toArray, List.set_cons_zero, List.set_cons_succ])
      (refine' t_move _ _ rfl rfl rfl rfl _ _; rotate_left; (go_simp; with_reducible rfl); simp only [Act.put, List.setIfInBounds_toArray, List.set_cons_zero, List.set_cons_succ])
      iterate 5 (refine t_skip rfl rfl rfl ?_; simp only [Act.put, List.setIfInBounds_toArray, List.set_cons_zero, List.set_cons_succ])
      (refine' t_yield _ rfl rfl rfl _ _; rotate_left; (intro w' hSw; obtain ⟨s0, s1, s2⟩ := hSw; go_simp; with_reducible rfl); simp only [Act.put, List.setIfInBounds_toArray, List.set_cons_zero, List.set_cons_succ])
      (refine' t_move _ _ rfl rfl rfl rfl _ _; rotate_left; (go_simp; with_reducible rfl); simp only [Act.put, List.setIfInBounds_toArray, List.set_cons_zero, List.set_cons_succ])
      iterate 3 (refine t_skip rfl rfl rfl ?_; simp only [Act.put, List.setIfInBounds_toArray, List.set_cons_zero, List.set_cons_succ])
      (refine' t_yield _ rfl rfl rfl _ _; rotate_left; (intro w' hSw; obtain ⟨s0, s1, s2⟩ := hSw; go_simp; with_reducible rfl); simp only [Act.put, List.setIfInBounds_toArray, List.set_cons_zero, List.set_cons_succ])
      --end
      have c0 := H6.out.cell 0 _ _ _ rfl 0 _ rfl
      have c1 := H6.out.cell 0 _ _ _ rfl 1 _ rfl
      have c2 := H6.out.cell 0 _ _ _ rfl 2 _ rfl
      have f0 := H6.out.frozen 0 _ _ _ rfl 0
      have f1 := H6.out.frozen 0 _ _ _ rfl 1
      have f2 := H6.out.frozen 0 _ _ _ rfl 2
      have H9 := Lib.hid (Has.store3 [] H6.out (.int .i64 p) (.int .i64 k) (.string (fd.extract 3 fd.size)))
      refine t_one rfl rfl (fun K hK => ?_)
      go_simp
      refine hK _ _ (HSZ.out _ H9.out) ?_
      clear hK c0 c1 c2 f0 f1 f2
      --ordt y
      (refine' t_yield _ rfl rfl rfl _ _; rotate_left; (intro w' hSw; obtain ⟨s0, s1, s2⟩ := hSw; go_simp; with_reducible rfl); simp only [Act.put, List.setIfInBounds_toArray, List.set_cons_zero, List.set_cons_succ])
      --end
      refine t_done ?_
      go_wp2_with fail
      exact bodyPost_ret (results_rec2 rfl _ _ (W.heap.size + 1 + 1) _ rfl (H9.out.blk 0 _ _ rfl).1 rfl) rfl ⟨⟨p, k, fd.extract 3 fd.size⟩, by rw [HBB.out, show decide (p < (n : Int)) = false by simpa using hlt]; rfl, fun _ => HRC.out.symm, H9.out.drop.drop.drop⟩
  · have hb : Hid (B = false) := by
      rw [HB.out]; unfold isRec
      apply Lib.hid
      simp only [Bool.and_eq_false_imp, Bool.and_eq_true, beq_iff_eq, decide_eq_true_eq, Bool.not_eq_true', decide_eq_false_iff_not]
      intros
      omega
    by_cases q1 : fk = 2
    · subst q1
      by_cases q2 : fd.size < 3
      · go_enter Tryd.func73, Tryd.ntmps73
        go_wp2_with fail
        exact bodyPost_ret (results_rec2 rfl _ _ (W.heap.size + 1 + 1) _ rfl (H3.out.blk 0 _ _ rfl).1 rfl) rfl ⟨⟨0, 0, ⟨#[]⟩⟩, by rw [hb.out]; rfl, fun e => absurd (hb.out.symm.trans e) (by simp), H3.out.drop.drop.drop⟩
      · have q3 : 99 < fd.size := by omega
        go_enter Tryd.func73, Tryd.ntmps73
        go_wp2_with fail
        exact bodyPost_ret (results_rec2 rfl _ _ (W.heap.size + 1 + 1) _ rfl (H3.out.blk 0 _ _ rfl).1 rfl) rfl ⟨⟨0, 0, ⟨#[]⟩⟩, by rw [hb.out]; rfl, fun e => absurd (hb.out.symm.trans e) (by simp), H3.out.drop.drop.drop⟩
    · have q2 : (fk != 2) = true := by simpa using q1
      go_enter Tryd.func73, Tryd.ntmps73
      go_wp2_with fail
      exact bodyPost_ret (results_rec2 rfl _ _ (W.heap.size + 1 + 1) _ rfl (H3.out.blk 0 _ _ rfl).1 rfl) rfl ⟨⟨0, 0, ⟨#[]⟩⟩, by rw [hb.out]; rfl, fun e => absurd (hb.out.symm.trans e) (by simp), H3.out.drop.drop.drop⟩
end Go.Proofs.YtfbkfdoekgnldaaDoor
namespace Go.Proofs.YtfbkfdoekgnldaaDoor
open Go.RowKit
open Lime
attribute [local go_sem] Oper.semAt_some setRow_alloc_at setRow_alloc_past setRow_drew g_add32 g_same32 g_eq32 g_ne32
set_option maxRecDepth 100000 in
set_option maxHeartbeats 4000000 in
theorem stale_has {w W : World} {rs : List (Res w.heap.size)} {g : Nat} {S : Dv} (h : Has w W rs) (hr : DevR _ g S ∈ rs) (l : Lay) (hc : l.check = 0) (q : BitVec 32) (hh : HalfLaid w) :
    Calls Tryd.prog 54 #[pv g, .agg #[.int .i64 l.first, .int .i64 l.size], .int .u32 (vu q)] W fun e w' => e = .returned (.tuple #[.bool (staleM S l q).1, .int .i64 (staleM S l q).2]) ∧ Has w w' rs := by
  obtain ⟨c1, c2, c3, c4⟩ := Lay.check_ok hc
  obtain ⟨Q, hQ⟩ : ∃ Q, Q = q + 1#32 := ⟨_, rfl⟩
  obtain ⟨R, hR⟩ : ∃ R, R = staleM S l q := ⟨_, rfl⟩
  rw [← hR]
  have hR2 : R = staleK S l Q (l.size.toNat - 1) ((1 : Nat) : Int) false := by
    rw [hR]; unfold staleM; rw [hQ, show (l.size - 1).toNat = l.size.toNat - 1 by omega]; rfl
  have HR2 := Lib.hid hR2
  have HGET : Hid (∀ W' (k : Nat), Has w W' (Blk _ W.heap.size (.cells #[.int .i64 l.first, .int .i64 l.size] 27) :: rs) → Calls Tryd.prog 43 #[pv g, .int .i64 (l.first + (k : Int))] W' fun e w' => e = .returned (.tuple #[.agg #[.int .i64 (S.get (l.first + (k : Int))).1.k, .int .u32 (vu (S.get (l.first + (k : Int))).1.q), .string (S.get (l.first + (k : Int))).1.d], .int .i64 (S.get (l.first + (k : Int))).2]) ∧ Has w w' (Blk _ W.heap.size (.cells #[.int .i64 l.first, .int .i64 l.size] 27) :: rs)) :=
    fun W' k h' => get_ret h' (.tail _ hr) _ hh
  have H1 := Lib.hid (h.alloc (.cells #[.int .i64 l.first, .int .i64 l.size] 27))
  have hw1 : IntKind.u32.wrap (vu q + 1) = vu Q := by rw [hQ]; exact g_add32 q 1#32
  clear h hr hh hR hR2 hc hQ
  go_enter Tryd.func54, Tryd.ntmps54
  go_wp2_with fail
  go_loopw [6, 8] (fun is i wr => ∃ (b : Bool) (k : Nat), is = .bool b ∧ i = .int .i64 (k : Int) ∧ (k : Int) ≤ l.size ∧ R = staleK S l Q (l.size.toNat - k) (k : Int) b ∧ Has w wr (Blk _ W.heap.size (.cells #[.int .i64 l.first, .int .i64 l.size] 27) :: rs)) (fun _ i _ => l.size.toNat - (intOf i).toNat)
  case atStart => exact ⟨false, 1, rfl, rfl, by omega, HR2.out, H1.out⟩
  case round =>
    obtain ⟨b, k, rfl, rfl, hk, hRk, hH⟩ := hrel
    clear H1 HR2
    have d0 := hH.cell 0 _ _ _ rfl 0 _ rfl
    have d1 := hH.cell 0 _ _ _ rfl 1 _ rfl
    by_cases hlt : (k : Int) < l.size
    · have hw : wrap64 (l.first + (k : Int)) = l.first + (k : Int) := by unfold wrap64; omega
      have e1 : l.size.toNat - k = (l.size.toNat - (k + 1)) + 1 := by omega
      rw [e1] at hRk
      unfold staleK at hRk
      have HG := HGET.out wr k hH
      obtain ⟨x, hx⟩ : ∃ x, x = S.get (l.first + (k : Int)) := ⟨_, rfl⟩
      rw [← hx] at HG hRk
      obtain ⟨⟨fk, fq, fd⟩, fe⟩ := x
      dsimp only at HG hRk
      have HG2 := Lib.hid HG
      have HRK := Lib.hid hRk
      have HH := Lib.hid hH
      clear HG hx hRk HGET e1
      go_wp2_with fail
      refine HG2.out.mono ?_
      clear HG2
      rintro e w3 ⟨rfl, h3⟩
      have z := block_lt_of_cell (h3.cell 0 _ _ _ rfl 0 _ rfl)
      dsimp only at z
      have H4 := Lib.hid (h3.alloc (.cells #[.int .i64 fk, .int .u32 (vu fq), .string fd] 76))
      clear h3 d0 d1 hH
      go_wp2_with fail
      refine (broken_any fe _).mono ?_
      rintro e w4 ⟨rfl, hB4⟩
      have h5 := H4.out.below hB4
      have f0 := h5.cell 0 _ _ _ rfl 0 _ rfl
      have f1 := h5.cell 0 _ _ _ rfl 1 _ rfl
      have d0 := h5.cell 1 _ _ _ rfl 0 _ rfl
      have d1 := h5.cell 1 _ _ _ rfl 1 _ rfl
      have H5 := Lib.hid h5.drop
      clear h5 hB4 H4 z
      cases hb : broken fe
      · have hn : R = staleK S l Q (l.size.toNat - (k + 1)) ((k : Int) + 1) (b || isStale (⟨fk, fq, fd⟩, fe) Q) := by rw [HRK.out, hb, if_neg (by simp)]
        have HN := Lib.hid hn
        clear hn hb HRK
        have fin : Hid (∀ b' : Bool, b' = (b || isStale (⟨fk, fq, fd⟩, fe) Q) → ∃ (b2 : Bool) (k2 : Nat), Value.bool b' = .bool b2 ∧ Value.int .i64 ((k : Int) + 1) = .int .i64 (k2 : Int) ∧ (k2 : Int) ≤ l.size ∧ R = staleK S l Q (l.size.toNat - k2) (k2 : Int) b2 ∧ Has w w4 (Blk _ W.heap.size (.cells #[.int .i64 l.first, .int .i64 l.size] 27) :: rs)) :=
          fun b' e => ⟨b', k + 1, rfl, rfl, by omega, by rw [e]; exact HN.out, H5.out⟩
        clear HN H5
        cases b
        · by_cases h0 : fe = 0
          · subst h0
            by_cases h1 : fq = Q
            · subst h1
              by_cases h2 : fk = 2
              · subst h2
                go_wp2_with fail
                go_roundw
                case rel => exact fin.out true (by simp [isStale, mine])
                case measure => simp [intOf]; omega
              · by_cases h3 : fk = 3
                · subst h3
                  go_wp2_with fail
                  go_roundw
                  case rel => exact fin.out true (by simp [isStale, mine])
                  case measure => simp [intOf]; omega
                · have g2 : (fk == 2) = false := by simpa using h2
                  have g3 : (fk == 3) = false := by simpa using h3
                  have E : Hid (isStale (⟨fk, fq, fd⟩, 0) fq = false) := by unfold isStale; rw [g2, g3]; exact Lib.hid (by simp)
                  clear h2 h3
                  go_wp2_with fail
                  go_roundw
                  case rel => exact fin.out false (by rw [E.out]; rfl)
                  case measure => simp [intOf]; omega
            · have g1 : (fq == Q) = false := by simpa using h1
              have E : Hid (isStale (⟨fk, fq, fd⟩, 0) Q = false) := by unfold isStale mine; rw [g1]; exact Lib.hid (by simp)
              clear h1
              go_wp2_with fail
              go_roundw
              case rel => exact fin.out false (by rw [E.out]; rfl)
              case measure => simp [intOf]; omega
          · have g0 : (fe == 0) = false := by simpa using h0
            have E : Hid (isStale (⟨fk, fq, fd⟩, fe) Q = false) := by unfold isStale mine; rw [g0]; exact Lib.hid (by simp)
            clear h0
            go_wp2_with fail
            go_roundw
            case rel => exact fin.out false (by rw [E.out]; rfl)
            case measure => simp [intOf]; omega
        · go_wp2_with fail
          go_roundw
          case rel => exact fin.out true rfl
          case measure => simp [intOf]; omega
      · have hn : R = (false, fe) := by rw [HRK.out, hb, if_pos rfl]
        have HN := Lib.hid hn
        clear hn hb HRK
        go_wp2_with fail
        go_ret2
        exact ⟨by rw [HN.out]; rfl, H5.out.drop⟩
    · have e1 : l.size.toNat - k = 0 := by omega
      rw [e1] at hRk
      have HN : Hid (R = (b, 0)) := hRk
      have HH := Lib.hid hH
      clear hRk e1 hH HGET
      go_wp2_with fail
      go_ret2
      exact ⟨by rw [HN.out]; rfl, HH.out.drop⟩
end Go.Proofs.YtfbkfdoekgnldaaDoor
namespace Go.Proofs.YtfbkfdoekgnldaaDoor
open Go.RowKit
def recL (r : Rec) : List Value := [.int .i64 r.at_, .int .i64 r.kind, .string r.data]
theorem recL_len (r : Rec) : (recL r).length = 3 := rfl
theorem recL_one (r : Rec) : ∀ u ∈ recL r, u.oneCell' = true := by
  intro u hu
  simp only [recL, List.mem_cons, List.not_mem_nil, or_false] at hu
  rcases hu with rfl | rfl | rfl <;> rfl
theorem rec_info : (Tryd.prog.info? 67).map (fun i => (i.zero, i.size, i.bytes)) = some (some (.agg #[.int .i64 0, .int .i64 0, .string ⟨#[]⟩]), 3, 32) := by kernel_rfl
abbrev RecsR (B : Nat) (v : Value) (l : List Rec) : Res B := OwnR B 67 3 recL v l
/-- 'append(v, x)' of records, x in a row of its own that was just made -/
theorem Has.pushRec {w W : World} (l1 : List (Res w.heap.size)) {l2 : List (Res w.heap.size)} {v : Value} {l : List Rec} (h : Has w W (l1 ++ RecsR _ v l :: l2)) (x : Rec) (hl : l.length ≤ 100000) :
    ∃ a cap W', (Builtin.append_ #[22, 22] 22 #[v, .slice (some ⟨W.heap.size, 0, none⟩) 1 1]).run Tryd.prog (W.alloc (.cells #[.int .i64 x.at_, .int .i64 x.kind, .string x.data] 67)) = .ok (.slice a (l.length + 1) cap) W' ∧ Has w W' (l1 ++ RecsR _ (.slice a (l.length + 1) cap) (l ++ [x]) :: l2) := by
  have h1 := (h.perm List.perm_middle).below ((Below.refl _ _).alloc (Nat.le_refl _) (.cells #[.int .i64 x.at_, .int .i64 x.kind, .string x.data] 67))
  obtain ⟨F, ⟨hO, rfl⟩, hF, _, hT⟩ := h1.focus
  have hx : (W.alloc (.cells #[.int .i64 x.at_, .int .i64 x.kind, .string x.data] 67)).rangeAt W.heap.size 0 (recL x) := rangeAt_row (heap_alloc_new W _) _ _ (fun j u hu => by rw [Nat.zero_add]; simpa [recL] using hu)
  obtain ⟨v', W', hrun, hO2, hf, hOn⟩ := own_append_one recL_len recL_one 22 67 (.agg #[.int .i64 0, .int .i64 0, .string ⟨#[]⟩]) 32 Tryd.underlying22 rec_info rfl (by decide) (by decide) _ v l 22 hO x W.heap.size 0 1 hx (by omega)
  have hh := (hT W' (RecsR _ v' (l ++ [x])) _ hOn ⟨hO2, rfl⟩ (fun k hk => by
    rcases hf k hk with h | h
    · exact .inl h
    · right; omega)).perm List.perm_middle.symm
  obtain ⟨a, cap, rfl, _⟩ := hO2.shape
  rw [List.length_append] at hrun hh
  exact ⟨a, cap, W', hrun, hh⟩
theorem found_size : (Tryd.prog.info? 95).map (·.size) = some 3 := by kernel_rfl
/-- two results: what was found in a cell, and a value -/
theorem results_found2 {fn : Func} {p q : Tmp} (h : fn.results = #[.cell p 95, .tmp q]) (tmps : Array Value) (w : World) (g : Nat) (cs : Array Value)
    (hp : tmps.getD p undef = .pointer (some ⟨g, 0, none⟩)) (hg : w.heap[g]? = some (.cells cs 95 (0, 0))) (hc : cs.size = 3) :
    (results fn tmps).run Tryd.prog w = .ok (.tuple #[.agg cs, tmps.getD q undef]) w := by
  have hp' : tmps[p]?.getD undef = .pointer (some ⟨g, 0, none⟩) := by simpa using hp
  have hl := run_loadVar_row (P := Tryd.prog) w g _ _ _ _ _ hg Tryd.underlying95 rfl (by rw [hc]; exact found_size)
  simp [results, h, hp', asAddr, hl]
theorem hasAt_snoc (l : List Rec) (r : Rec) (p : Int) : hasAt (l ++ [r]) p = if p = r.at_ then true else hasAt l p := by
  unfold hasAt
  rw [List.any_append]
  by_cases e : p = r.at_
  · subst e; simp
  · rw [if_neg e]
    have e2 : ¬ r.at_ = p := fun h => e h.symm
    simp [e2]
theorem recOf_wf (d : ByteArray) : (Lit.int .i64 (recOf d).at_).wf = true := by
  unfold recOf
  have h0 := vb_nonneg (byteAt d 0)
  have h1 := vb_lt (byteAt d 0)
  have h2 := vb_nonneg (byteAt d 1)
  have h3 := vb_lt (byteAt d 1)
  simp only [Lit.wf, Bool.and_eq_true, decide_eq_true_eq]
  have m0 : IntKind.i64.min = -9223372036854775808 := by decide
  have m1 : IntKind.i64.max = 9223372036854775807 := by decide
  omega
theorem loop_eq (d : ByteArray) : ∀ (n i : Nat) (r : List UInt8), d.size - i = n → ByteArray.toList.loop d i r = r.reverse ++ d.data.toList.drop i := by
  intro n
  induction n with
  | zero =>
    intro i r h
    have h2 : d.data.toList.length ≤ i := by show d.data.size ≤ i; have : d.data.size = d.size := rfl; omega
    rw [ByteArray.toList.loop, if_neg (by omega), List.drop_eq_nil_of_le h2, List.append_nil]
  | succ n ih =>
    intro i r h
    have hi : i < d.size := by omega
    have hi2 : i < d.data.toList.length := hi
    rw [ByteArray.toList.loop, if_pos hi, ih _ _ (by omega), List.drop_eq_getElem_cons hi2]
    have e : d.get! i = d.data.toList[i] := by
      show d.data[i]! = _
      rw [getElem!_pos d.data i hi]; simp
    rw [e]; simp
theorem bytes_toList (d : ByteArray) : d.toList = d.data.toList := by
  unfold ByteArray.toList
  rw [loop_eq d _ 0 [] rfl]; rfl
theorem bytes_same (a b : ByteArray) : (a.toList == b.toList) = decide (a = b) := by
  rw [bytes_toList, bytes_toList, Bool.eq_iff_iff]
  simp only [beq_iff_eq, decide_eq_true_eq]
  constructor
  · intro h; exact ByteArray.ext (Array.toList_inj.1 h)
  · rintro rfl; rfl
theorem OwnL.slice {W : World} {e : TypeId} {m : Nat} {α : Type} {c : α → List Value} {v : Value} {l : List α} (h : OwnL W e m c v l) : ∃ a cap, v = .slice a l.length cap := by
  obtain ⟨a, cap, h, _⟩ := h.shape
  exact ⟨a, cap, h⟩
end Go.Proofs.YtfbkfdoekgnldaaDoor
namespace Go.Proofs.YtfbkfdoekgnldaaDoor
open Go.RowKit
open Lime
attribute [local go_sem] Oper.semAt_some setRow_alloc_at setRow_alloc_past setRow_drew g_same32 g_eq32 g_ne32
theorem takes_no {S : Dv} {l : Lay} {x : Fr × Int} {q : BitVec 32} {out : List Rec} (h : mine x q = false) : takes S l x q out = false := by unfold takes; rw [h]; rfl
set_option maxRecDepth 100000 in
set_option maxHeartbeats 8000000 in
theorem look_has {w W : World} {rs : List (Res w.heap.size)} {g : Nat} {S : Dv} (h : Has w W rs) (hr : DevR _ g S ∈ rs) (l : Lay) (hh : HalfLaid w) :
    Calls Tryd.prog 52 #[pv g, .agg #[.int .i64 l.first, .int .i64 l.size]] W fun e w' => ∃ (q : BitVec 32) (a : Option Addr) (cap : Nat), e = .returned (.tuple #[.agg #[.int .u32 (vu q), .slice a (lookM S l).1.length cap, .bool (lookM S l).2.1], .int .i64 (lookM S l).2.2]) ∧ ((lookM S l).2.2 = 0 → q = (headM S l).1) ∧ Has w w' (RecsR _ (.slice a (lookM S l).1.length cap) (lookM S l).1 :: rs) := by
  have h2 := (h.alloc (.cells #[.int .i64 l.first, .int .i64 l.size] 27)).allocAt (.cells #[.int .u32 0, .slice none 0 0, .bool false] 95) (W.heap.size + 1) (by simp)
  have HHD := Lib.hid (head_has h2 (.tail _ (.tail _ hr)) l hh)
  have HR := Lib.hid hr
  have HHL := Lib.hid hh
  obtain ⟨R, hR⟩ : ∃ R, R = lookM S l := ⟨_, rfl⟩
  rw [← hR]
  have hRd : R = if (headM S l).2 ≠ 0 then ([], false, (headM S l).2) else lookQ S l ((headM S l).1 + 1#32) (l.size - 1).toNat 1 [] := by rw [hR]; rfl
  have hck : (headM S l).2 = 0 → l.check = 0 := by
    intro h0
    unfold headM at h0
    by_cases hc : l.check = 0
    · exact hc
    · rw [if_pos hc] at h0; exact h0
  obtain ⟨⟨q, c⟩, hq⟩ : ∃ x, x = headM S l := ⟨_, rfl⟩
  rw [← hq] at HHD hRd hck ⊢
  dsimp only at HHD hRd hck ⊢
  have HRD := Lib.hid hRd
  have H2 := Lib.hid h2
  have HCK := Lib.hid hck
  clear h h2 hr hh hR hq hRd hck
  go_enter Tryd.func52, Tryd.ntmps52
  go_wp2_with fail
  refine HHD.out.mono ?_
  clear HHD H2
  rintro e w1 ⟨rfl, h1⟩
  have f0 := h1.cell 0 _ _ _ rfl 0 _ rfl
  have f1 := h1.cell 0 _ _ _ rfl 1 _ rfl
  have f2 := h1.cell 0 _ _ _ rfl 2 _ rfl
  have g0 := h1.frozen 0 _ _ _ rfl 0
  have g1 := h1.frozen 0 _ _ _ rfl 1
  have g2 := h1.frozen 0 _ _ _ rfl 2
  by_cases hc : c = 0
  · subst hc
    have c4 := Lay.check_ok (HCK.out rfl)
    obtain ⟨c1, c2, c3, c5⟩ := c4
    have HR2 : Hid (R = lookQ S l (q + 1#32) (l.size.toNat - 1) ((1 : Nat) : Int) []) := by rw [HRD.out, if_neg (by simp), show (l.size - 1).toNat = l.size.toNat - 1 by omega]; exact Lib.hid rfl
    have h3 := (h1.setCell [] 0 (.int .u32 (vu q))).madeMap
    rw [show (w1.setCell ⟨W.heap.size + 1, 0, none⟩ (.int .u32 (vu q))).heap.size = w1.heap.size by simp] at h3
    have h4 := OwnR.nil h3 67 3 recL
    have H4 := Lib.hid h4
    clear HRD h1 h3 h4
    obtain ⟨Q, hQ⟩ : ∃ Q, Q = q + 1#32 := ⟨_, rfl⟩
    have hw1 : IntKind.u32.wrap (vu q + 1) = vu Q := by rw [hQ]; exact g_add32 q 1#32
    rw [← hQ] at HR2
    clear hQ
    have hmm := @run_makeMap Tryd.prog
    have H5 := Lib.hid (H4.out.perm ((List.Perm.cons _ (List.Perm.swap _ _ _)).trans (List.Perm.swap _ _ _)))
    clear H4
    go_wp2_with fail
    go_loopw [7] (fun i wr => ∃ (k : Nat) (out : List Rec) (a : Option Addr) (cap : Nat), i = .int .i64 (k : Int) ∧ (k : Int) ≤ l.size ∧ 1 ≤ k ∧ (out.length : Int) ≤ l.most ∧ R = lookQ S l Q (l.size.toNat - k) (k : Int) out ∧ Has w wr (Blk _ (W.heap.size + 1) (.cells #[.int .u32 (vu q), .slice a out.length cap, .bool false] 95) :: RecsR _ (.slice a out.length cap) out :: MapR _ w1.heap.size out.length (hasAt out) :: Blk _ W.heap.size (.cells #[.int .i64 l.first, .int .i64 l.size] 27) :: rs)) (fun i _ => l.size.toNat - (intOf i).toNat)
    case atStart => exact ⟨1, [], none, 0, rfl, by omega, by omega, by unfold Lay.most; simp; omega, HR2.out, H5.out⟩
    case round =>
      obtain ⟨k, out, a, cap, rfl, hk, hk1, hom, hRk, hH⟩ := hrel
      clear H5 HR2 f0 f1 f2 g0 g1 g2 hmm
      have d0 := hH.cell 3 _ _ _ rfl 0 _ rfl
      have d1 := hH.cell 3 _ _ _ rfl 1 _ rfl
      have f0 := hH.cell 0 _ _ _ rfl 0 _ rfl
      have f1 := hH.cell 0 _ _ _ rfl 1 _ rfl
      have f2 := hH.cell 0 _ _ _ rfl 2 _ rfl
      have g0 := hH.frozen 0 _ _ _ rfl 0
      have g1 := hH.frozen 0 _ _ _ rfl 1
      have g2 := hH.frozen 0 _ _ _ rfl 2
      by_cases hlt : (k : Int) < l.size
      · have hw : wrap64 (l.first + (k : Int)) = l.first + (k : Int) := by unfold wrap64; omega
        have e1 : l.size.toNat - k = (l.size.toNat - (k + 1)) + 1 := by omega
        rw [e1, lookQ_succ] at hRk
        have HG := get_ret hH (.tail _ (.tail _ (.tail _ (.tail _ HR.out)))) (l.first + (k : Int)) HHL.out
        have hsz := Dv.get_size S (l.first + (k : Int))
        obtain ⟨x, hx⟩ : ∃ x, x = S.get (l.first + (k : Int)) := ⟨_, rfl⟩
        rw [← hx] at HG hRk hsz
        obtain ⟨⟨fk, fq, fd⟩, fe⟩ := x
        dsimp only at HG hRk hsz
        have HG2 := Lib.hid HG
        have HRK := Lib.hid hRk
        have HSZD := Lib.hid hsz
        have HOM := Lib.hid hom
        clear HG hx hRk e1 hH hsz hom f0 f1 f2 g0 g1 g2
        go_wp2_with fail
        refine HG2.out.mono ?_
        clear HG2
        rintro e w3 ⟨rfl, h3⟩
        have H4 := Lib.hid (h3.alloc (.cells #[.int .i64 fk, .int .u32 (vu fq), .string fd] 76))
        clear h3 d0 d1
        go_wp2_with fail
        refine (broken_any fe _).mono ?_
        rintro e w4 ⟨rfl, hB4⟩
        have h5 := H4.out.below hB4
        have x0 := h5.cell 0 _ _ _ rfl 0 _ rfl
        have x1 := h5.cell 0 _ _ _ rfl 1 _ rfl
        have x2 := h5.cell 0 _ _ _ rfl 2 _ rfl
        have f0 := h5.cell 1 _ _ _ rfl 0 _ rfl
        have f1 := h5.cell 1 _ _ _ rfl 1 _ rfl
        have f2 := h5.cell 1 _ _ _ rfl 2 _ rfl
        have g0 := h5.frozen 1 _ _ _ rfl 0
        have g1 := h5.frozen 1 _ _ _ rfl 1
        have g2 := h5.frozen 1 _ _ _ rfl 2
        have d0 := h5.cell 4 _ _ _ rfl 0 _ rfl
        have d1 := h5.cell 4 _ _ _ rfl 1 _ rfl
        have H5 := Lib.hid h5
        clear h5 hB4 H4
        cases hb : broken fe
        · have hn : R = if takes S l (⟨fk, fq, fd⟩, fe) Q out = true then lookQ S l Q (l.size.toNat - (k + 1)) ((k : Int) + 1) (out ++ [recOf fd]) else (out, ends (⟨fk, fq, fd⟩, fe) Q out, 0) := by rw [HRK.out, hb, if_neg (by simp)]
          have HN := Lib.hid hn
          clear hn hb HRK
          obtain ⟨M, hM⟩ : ∃ M, M = mine (⟨fk, fq, fd⟩, fe) Q := ⟨_, rfl⟩
          have HM := Lib.hid hM
          clear hM
          have hrec := record_has H5.out (.tail _ (.tail _ (.tail _ (.tail _ (.tail _ HR.out))))) l (HCK.out trivial) ⟨fk, fq, fd⟩ HSZD.out
          obtain ⟨I, hI⟩ : ∃ I, I = isRec S l ⟨fk, fq, fd⟩ := ⟨_, rfl⟩
          rw [← hI] at hrec
          have HI := Lib.hid hI
          have HREC := Lib.hid hrec
          clear hrec hI
          have eW : Hid (∀ M', M' = mine (⟨fk, fq, fd⟩, fe) Q → Value.bool M' = .bool M) := fun M' e => by rw [e, HM.out]
          go_upto_region 11 with fail
          go_cut [10] (fun m wx => m = .bool M ∧ wx = w4)
          case first =>
            by_cases h0 : fe = 0
            · subst h0
              by_cases h1 : fq = Q
              · subst h1
                go_wp2_with fail
                go_meet
                exact ⟨eW.out true (by simp [mine]), rfl⟩
              · have g1 : (fq == Q) = false := by simpa using h1
                have E : Hid (mine (⟨fk, fq, fd⟩, 0) Q = false) := by unfold mine; rw [g1]; exact Lib.hid (by simp)
                clear h1
                go_wp2_with fail
                go_meet
                exact ⟨eW.out false E.out.symm, rfl⟩
            · have g0 : (fe == 0) = false := by simpa using h0
              have E : Hid (mine (⟨fk, fq, fd⟩, fe) Q = false) := by unfold mine; rw [g0]; exact Lib.hid (by simp)
              clear h0
              go_wp2_with fail
              go_meet
              exact ⟨eW.out false E.out.symm, rfl⟩
          case rest =>
            obtain ⟨rfl, rfl⟩ := hcut
            go_upto_region 13 with (go_at_call 73; refine HREC.out.mono ?_; rintro e w5 ⟨r, rfl, hr1, h6⟩)
            have HR1 := Lib.hid hr1
            have H7 := Lib.hid (h6.alloc (.cells #[.int .i64 r.at_, .int .i64 r.kind, .string r.data] 67))
            have HSZ : Hid (∀ W', Has w W' (Blk _ w5.heap.size (.cells #[.int .i64 r.at_, .int .i64 r.kind, .string r.data] 67) :: Blk _ w3.heap.size (.cells #[.int .i64 fk, .int .u32 (vu fq), .string fd] 76) :: Blk _ (W.heap.size + 1) (.cells #[.int .u32 (vu q), .slice a out.length cap, .bool false] 95) :: RecsR _ (.slice a out.length cap) out :: MapR _ w1.heap.size out.length (hasAt out) :: Blk _ W.heap.size (.cells #[.int .i64 l.first, .int .i64 l.size] 27) :: rs) → ((W'.cell? ⟨W.heap.size, 0, none⟩ = some (.int .i64 l.first) ∧ W'.cell? ⟨W.heap.size, 1, none⟩ = some (.int .i64 l.size)) ∧ (W'.cell? ⟨W.heap.size + 1, 1, none⟩ = some (.slice a out.length cap) ∧ W'.cell? ⟨w5.heap.size, 0, none⟩ = some (.int .i64 r.at_)) ∧ (W'.cell? ⟨w3.heap.size, 0, none⟩ = some (.int .i64 fk) ∧ W'.cell? ⟨w3.heap.size, 2, none⟩ = some (.string fd) ∧ (I = true → (Instr.lookup 117 (.map (some w1.heap.size)) (.int .i64 r.at_) false).run Tryd.prog W' = .ok (.bool (hasAt out r.at_)) W')))) :=
              fun W' h => ⟨⟨h.cell 5 _ _ _ rfl 0 _ rfl, h.cell 5 _ _ _ rfl 1 _ rfl⟩, ⟨h.cell 2 _ _ _ rfl 1 _ rfl, h.cell 0 _ _ _ rfl 0 _ rfl⟩, ⟨h.cell 1 _ _ _ rfl 0 _ rfl, h.cell 1 _ _ _ rfl 2 _ rfl, fun e => h.lookMap (b := w1.heap.size) (n := out.length) (f := hasAt out) (by simp) r.at_ (by rw [HR1.out e]; exact recOf_wf fd)⟩⟩
            clear hr1 h6 HREC H5 d0 d1 f0 f1 f2 g0 g1 g2 x0 x1 x2
            obtain ⟨T, hT⟩ : ∃ T, T = takes S l (⟨fk, fq, fd⟩, fe) Q out := ⟨_, rfl⟩
            rw [← hT] at HN
            have HT := Lib.hid hT
            clear hT
            go_cut [80] (fun c wx => c = .bool (!T) ∧ Has w wx (Blk _ w5.heap.size (.cells #[.int .i64 r.at_, .int .i64 r.kind, .string r.data] 67) :: Blk _ w3.heap.size (.cells #[.int .i64 fk, .int .u32 (vu fq), .string fd] 76) :: Blk _ (W.heap.size + 1) (.cells #[.int .u32 (vu q), .slice a out.length cap, .bool false] 95) :: RecsR _ (.slice a out.length cap) out :: MapR _ w1.heap.size out.length (hasAt out) :: Blk _ W.heap.size (.cells #[.int .i64 l.first, .int .i64 l.size] 27) :: rs))
            case first =>
              have HMO : Hid (∀ W', Calls Tryd.prog 74 #[.agg #[.int .i64 l.first, .int .i64 l.size]] W' fun e w' => e = .returned (.int .i64 l.most) ∧ Below W'.heap.size W' w') := fun W' => most_any l W' (HCK.out trivial)
              obtain ⟨P, hP⟩ : ∃ P, P = hasAt out r.at_ := ⟨_, rfl⟩
              rw [← hP] at HSZ
              have HP := Lib.hid hP
              clear hP
              cases M
              · have E : Hid (T = false) := by rw [HT.out]; exact takes_no HM.out.symm
                refine wp_region_ordJ (fun W' => (W'.cell? ⟨W.heap.size, 0, none⟩ = some (.int .i64 l.first) ∧ W'.cell? ⟨W.heap.size, 1, none⟩ = some (.int .i64 l.size)) ∧ (W'.cell? ⟨W.heap.size + 1, 1, none⟩ = some (.slice a out.length cap) ∧ W'.cell? ⟨w5.heap.size, 0, none⟩ = some (.int .i64 r.at_)) ∧ (W'.cell? ⟨w3.heap.size, 0, none⟩ = some (.int .i64 fk) ∧ W'.cell? ⟨w3.heap.size, 2, none⟩ = some (.string fd) ∧ (I = true → (Instr.lookup 117 (.map (some w1.heap.size)) (.int .i64 r.at_) false).run Tryd.prog W' = .ok (.bool P) W'))) (OrdT.takes [0, 1, 2, 3, 4, 5, 6, 7, 8, 9, 10, 11, 12, 13, 14, 15, 16, 17, 18, 19] .done) (by kernel_rfl) (by kernel_rfl) (HSZ.out _ H7.out.drew) (fun wz hz => ?_)
                have h8 := H7.out.drew
                rw [← hz] at h8
                have H8 := Lib.hid h8
                clear hz h8 H7
                unfold OrdT.takes
                --ordt mymssymssssymssssssy
                (refine' t_move _ _ rfl rfl rfl rfl _ _; rotate_left; (go_simp; with_reducible rfl); simp only [Act.put, List.setIfInBounds_toArray, List.set_cons_zero, List.set_cons_succ])
                (refine' t_yield _ rfl rfl rfl _ _; rotate_left; (intro w' hSw; obtain ⟨s0, s1, s2⟩ := hSw; go_simp; with_reducible rfl); simp only [Act.put, List.setIfInBounds_toArray, List.set_cons_zero, List.set_cons_succ])
                (refine' t_move _ _ rfl rfl rfl rfl _ _; rotate_left; (go_simp; with_reducible rfl); simp only [Act.put, List.setIfInBounds_toArray, List.set_cons_zero, List.set_cons_succ])
                iterate 2 (refine t_skip rfl rfl rfl ?_; simp only [Act.put, List.setIfInBounds_toArray, List.set_cons_zero, List.set_cons_succ])
                (refine' t_yield _ rfl rfl rfl _ _; rotate_left; (intro w' hSw; obtain ⟨s0, s1, s2⟩ := hSw; go_simp; with_reducible rfl); simp only [Act.put, List.setIfInBounds_toArray, List.set_cons_zero, List.set_cons_succ])
                (refine' t_move _ _ rfl rfl rfl rfl _ _; rotate_left; (go_simp; with_reducible rfl); simp only [Act.put, List.setIfInBounds_toArray, List.set_cons_zero, List.set_cons_succ])
                iterate 4 (refine t_skip rfl rfl rfl ?_; simp only [Act.put, List.setIfInBounds_toArray, List.set_cons_zero, List.set_cons_succ])
                (refine' t_yield _ rfl rfl rfl _ _; rotate_left; (intro w' hSw; obtain ⟨s0, s1, s2⟩ := hSw; go_simp; with_reducible rfl); simp only [Act.put, List.setIfInBounds_toArray, List.set_cons_zero, List.set_cons_succ])
                (refine' t_move _ _ rfl rfl rfl rfl _ _; rotate_left; (go_simp; with_reducible rfl); simp only [Act.put, List.setIfInBounds_toArray, List.set_cons_zero, List.set_cons_succ])
                iterate 6 (refine t_skip rfl rfl rfl ?_; simp only [Act.put, List.setIfInBounds_toArray, List.set_cons_zero, List.set_cons_succ])
                (refine' t_yield _ rfl rfl rfl _ _; rotate_left; (intro w' hSw; obtain ⟨s0, s1, s2⟩ := hSw; go_simp; with_reducible rfl); simp only [Act.put, List.setIfInBounds_toArray, List.set_cons_zero, List.set_cons_succ])
                --end
                refine t_done ?_
                go_wp2_with fail
                go_meet
                exact ⟨by rw [E.out]; rfl, H8.out⟩
              · cases I
                · have E : Hid (T = false) := by rw [HT.out]; unfold takes; rw [← HI.out]; exact Lib.hid (by simp)
                  refine wp_region_ordJ (fun W' => (W'.cell? ⟨W.heap.size, 0, none⟩ = some (.int .i64 l.first) ∧ W'.cell? ⟨W.heap.size, 1, none⟩ = some (.int .i64 l.size)) ∧ (W'.cell? ⟨W.heap.size + 1, 1, none⟩ = some (.slice a out.length cap) ∧ W'.cell? ⟨w5.heap.size, 0, none⟩ = some (.int .i64 r.at_)) ∧ (W'.cell? ⟨w3.heap.size, 0, none⟩ = some (.int .i64 fk) ∧ W'.cell? ⟨w3.heap.size, 2, none⟩ = some (.string fd) ∧ (false = true → (Instr.lookup 117 (.map (some w1.heap.size)) (.int .i64 r.at_) false).run Tryd.prog W' = .ok (.bool P) W'))) (OrdT.takes [0, 1, 2, 3, 4, 5, 6, 7, 8, 9, 10, 11, 12, 13, 14, 15, 16, 17, 18, 19] .done) (by kernel_rfl) (by kernel_rfl) (HSZ.out _ H7.out.drew) (fun wz hz => ?_)
                  have h8 := H7.out.drew
                  rw [← hz] at h8
                  have H8 := Lib.hid h8
                  clear hz h8 H7
                  unfold OrdT.takes
                  --ordt mymmyymssssymssssssy
                  (refine' t_move _ _ rfl rfl rfl rfl _ _; rotate_left; (go_simp; with_reducible rfl); simp only [Act.put, List.setIfInBounds_toArray, List.set_cons_zero, List.set_cons_succ])
                  (refine' t_yield _ rfl rfl rfl _ _; rotate_left; (intro w' hSw; obtain ⟨s0, s1, s2⟩ := hSw; go_simp; with_reducible rfl); simp only [Act.put, List.setIfInBounds_toArray, List.set_cons_zero, List.set_cons_succ])
                  iterate 2 (refine' t_move _ _ rfl rfl rfl rfl _ _; rotate_left; (go_simp; with_reducible rfl); simp only [Act.put, List.setIfInBounds_toArray, List.set_cons_zero, List.set_cons_succ])
                  iterate 2 (refine' t_yield _ rfl rfl rfl _ _; rotate_left; (intro w' hSw; obtain ⟨s0, s1, s2⟩ := hSw; go_simp; with_reducible rfl); simp only [Act.put, List.setIfInBounds_toArray, List.set_cons_zero, List.set_cons_succ])
                  (refine' t_move _ _ rfl rfl rfl rfl _ _; rotate_left; (go_simp; with_reducible rfl); simp only [Act.put, List.setIfInBounds_toArray, List.set_cons_zero, List.set_cons_succ])
                  iterate 4 (refine t_skip rfl rfl rfl ?_; simp only [Act.put, List.setIfInBounds_toArray, List.set_cons_zero, List.set_cons_succ])
                  (refine' t_yield _ rfl rfl rfl _ _; rotate_left; (intro w' hSw; obtain ⟨s0, s1, s2⟩ := hSw; go_simp; with_reducible rfl); simp only [Act.put, List.setIfInBounds_toArray, List.set_cons_zero, List.set_cons_succ])
                  (refine' t_move _ _ rfl rfl rfl rfl _ _; rotate_left; (go_simp; with_reducible rfl); simp only [Act.put, List.setIfInBounds_toArray, List.set_cons_zero, List.set_cons_succ])
                  iterate 6 (refine t_skip rfl rfl rfl ?_; simp only [Act.put, List.setIfInBounds_toArray, List.set_cons_zero, List.set_cons_succ])
                  (refine' t_yield _ rfl rfl rfl _ _; rotate_left; (intro w' hSw; obtain ⟨s0, s1, s2⟩ := hSw; go_simp; with_reducible rfl); simp only [Act.put, List.setIfInBounds_toArray, List.set_cons_zero, List.set_cons_succ])
                  --end
                  refine t_done ?_
                  go_wp2_with fail
                  go_meet
                  exact ⟨by rw [E.out]; rfl, H8.out⟩
                · cases P
                  · have E : Hid (T = decide ((out.length : Int) < l.most)) := by rw [HT.out]; unfold takes; dsimp only; rw [← HI.out, ← HM.out, ← HR1.out rfl, ← HP.out]; exact Lib.hid (by simp)
                    refine wp_region_ordJ (fun W' => (W'.cell? ⟨W.heap.size, 0, none⟩ = some (.int .i64 l.first) ∧ W'.cell? ⟨W.heap.size, 1, none⟩ = some (.int .i64 l.size)) ∧ (W'.cell? ⟨W.heap.size + 1, 1, none⟩ = some (.slice a out.length cap) ∧ W'.cell? ⟨w5.heap.size, 0, none⟩ = some (.int .i64 r.at_)) ∧ (W'.cell? ⟨w3.heap.size, 0, none⟩ = some (.int .i64 fk) ∧ W'.cell? ⟨w3.heap.size, 2, none⟩ = some (.string fd) ∧ (true = true → (Instr.lookup 117 (.map (some w1.heap.size)) (.int .i64 r.at_) false).run Tryd.prog W' = .ok (.bool false) W'))) (OrdT.takes [0, 1, 2, 3, 4, 5, 6, 7, 8, 9, 10, 11, 12, 13, 14, 15, 16] (.one 17 (OrdT.takes [18, 19] .done))) (by kernel_rfl) (by kernel_rfl) (HSZ.out _ H7.out.drew) (fun wz hz => ?_)
                    have h8 := H7.out.drew
                    rw [← hz] at h8
                    have H8 := Lib.hid h8
                    clear hz h8 H7
                    unfold OrdT.takes
                    --ordt mymmyymmyyyymyyyy
                    (refine' t_move _ _ rfl rfl rfl rfl _ _; rotate_left; (go_simp; with_reducible rfl); simp only [Act.put, List.setIfInBounds_toArray, List.set_cons_zero, List.set_cons_succ])
                    (refine' t_yield _ rfl rfl rfl _ _; rotate_left; (intro w' hSw; obtain ⟨s0, s1, s2⟩ := hSw; go_simp; with_reducible rfl); simp only [Act.put, List.setIfInBounds_toArray, List.set_cons_zero, List.set_cons_succ])
                    iterate 2 (refine' t_move _ _ rfl rfl rfl rfl _ _; rotate_left; (go_simp; with_reducible rfl); simp only [Act.put, List.setIfInBounds_toArray, List.set_cons_zero, List.set_cons_succ])
                    iterate 2 (refine' t_yield _ rfl rfl rfl _ _; rotate_left; (intro w' hSw; obtain ⟨s0, s1, s2⟩ := hSw; go_simp; with_reducible rfl); simp only [Act.put, List.setIfInBounds_toArray, List.set_cons_zero, List.set_cons_succ])
                    iterate 2 (refine' t_move _ _ rfl rfl rfl rfl _ _; rotate_left; (go_simp; with_reducible rfl); simp only [Act.put, List.setIfInBounds_toArray, List.set_cons_zero, List.set_cons_succ])
                    iterate 4 (refine' t_yield _ rfl rfl rfl _ _; rotate_left; (intro w' hSw; obtain ⟨s0, s1, s2⟩ := hSw; go_simp; with_reducible rfl); simp only [Act.put, List.setIfInBounds_toArray, List.set_cons_zero, List.set_cons_succ])
                    (refine' t_move _ _ rfl rfl rfl rfl _ _; rotate_left; (go_simp; with_reducible rfl); simp only [Act.put, List.setIfInBounds_toArray, List.set_cons_zero, List.set_cons_succ])
                    iterate 4 (refine' t_yield _ rfl rfl rfl _ _; rotate_left; (intro w' hSw; obtain ⟨s0, s1, s2⟩ := hSw; go_simp; with_reducible rfl); simp only [Act.put, List.setIfInBounds_toArray, List.set_cons_zero, List.set_cons_succ])
                    --end
                    refine t_one rfl rfl (fun K hK => ?_)
                    go_simp
                    refine (HMO.out _).mono ?_
                    rintro e w8 ⟨rfl, hB8⟩
                    have h9 := H8.out.below hB8
                    have H9 := Lib.hid h9
                    clear h9 hB8 H8
                    dsimp only
                    refine hK _ _ (by have := HSZ.out _ H9.out; simpa using this) ?_
                    clear hK
                    unfold OrdT.takes
                    --ordt yy
                    iterate 2 (refine' t_yield _ rfl rfl rfl _ _; rotate_left; (intro w' hSw; obtain ⟨s0, s1, s2⟩ := hSw; go_simp; with_reducible rfl); simp only [Act.put, List.setIfInBounds_toArray, List.set_cons_zero, List.set_cons_succ])
                    --end
                    refine t_done ?_
                    go_wp2_with fail
                    go_meet
                    refine ⟨?_, H9.out⟩
                    rw [E.out]
                    have := HOM.out
                    by_cases hl : (out.length : Int) < l.most
                    · have hl2 : ((out.length : Int) == l.most) = false := by simp; omega
                      simp [hl, hl2]
                    · have hl2 : ((out.length : Int) == l.most) = true := by simp; omega
                      simp [hl, hl2]
                  · have E : Hid (T = false) := by rw [HT.out]; unfold takes; dsimp only; rw [← HR1.out rfl, ← HP.out]; exact Lib.hid (by simp)
                    refine wp_region_ordJ (fun W' => (W'.cell? ⟨W.heap.size, 0, none⟩ = some (.int .i64 l.first) ∧ W'.cell? ⟨W.heap.size, 1, none⟩ = some (.int .i64 l.size)) ∧ (W'.cell? ⟨W.heap.size + 1, 1, none⟩ = some (.slice a out.length cap) ∧ W'.cell? ⟨w5.heap.size, 0, none⟩ = some (.int .i64 r.at_)) ∧ (W'.cell? ⟨w3.heap.size, 0, none⟩ = some (.int .i64 fk) ∧ W'.cell? ⟨w3.heap.size, 2, none⟩ = some (.string fd) ∧ (true = true → (Instr.lookup 117 (.map (some w1.heap.size)) (.int .i64 r.at_) false).run Tryd.prog W' = .ok (.bool true) W'))) (OrdT.takes [0, 1, 2, 3, 4, 5, 6, 7, 8, 9, 10, 11, 12, 13, 14, 15, 16, 17, 18, 19] .done) (by kernel_rfl) (by kernel_rfl) (HSZ.out _ H7.out.drew) (fun wz hz => ?_)
                    have h8 := H7.out.drew
                    rw [← hz] at h8
                    have H8 := Lib.hid h8
                    clear hz h8 H7
                    unfold OrdT.takes
                    --ordt mymmyymmyyyymssssssy
                    (refine' t_move _ _ rfl rfl rfl rfl _ _; rotate_left; (go_simp; with_reducible rfl); simp only [Act.put, List.setIfInBounds_toArray, List.set_cons_zero, List.set_cons_succ])
                    (refine' t_yield _ rfl rfl rfl _ _; rotate_left; (intro w' hSw; obtain ⟨s0, s1, s2⟩ := hSw; go_simp; with_reducible rfl); simp only [Act.put, List.setIfInBounds_toArray, List.set_cons_zero, List.set_cons_succ])
                    iterate 2 (refine' t_move _ _ rfl rfl rfl rfl _ _; rotate_left; (go_simp; with_reducible rfl); simp only [Act.put, List.setIfInBounds_toArray, List.set_cons_zero, List.set_cons_succ])
                    iterate 2 (refine' t_yield _ rfl rfl rfl _ _; rotate_left; (intro w' hSw; obtain ⟨s0, s1, s2⟩ := hSw; go_simp; with_reducible rfl); simp only [Act.put, List.setIfInBounds_toArray, List.set_cons_zero, List.set_cons_succ])
                    iterate 2 (refine' t_move _ _ rfl rfl rfl rfl _ _; rotate_left; (go_simp; with_reducible rfl); simp only [Act.put, List.setIfInBounds_toArray, List.set_cons_zero, List.set_cons_succ])
                    iterate 4 (refine' t_yield _ rfl rfl rfl _ _; rotate_left; (intro w' hSw; obtain ⟨s0, s1, s2⟩ := hSw; go_simp; with_reducible rfl); simp only [Act.put, List.setIfInBounds_toArray, List.set_cons_zero, List.set_cons_succ])
                    (refine' t_move _ _ rfl rfl rfl rfl _ _; rotate_left; (go_simp; with_reducible rfl); simp only [Act.put, List.setIfInBounds_toArray, List.set_cons_zero, List.set_cons_succ])
                    iterate 6 (refine t_skip rfl rfl rfl ?_; simp only [Act.put, List.setIfInBounds_toArray, List.set_cons_zero, List.set_cons_succ])
                    (refine' t_yield _ rfl rfl rfl _ _; rotate_left; (intro w' hSw; obtain ⟨s0, s1, s2⟩ := hSw; go_simp; with_reducible rfl); simp only [Act.put, List.setIfInBounds_toArray, List.set_cons_zero, List.set_cons_succ])
                    --end
                    refine t_done ?_
                    go_wp2_with fail
                    go_meet
                    exact ⟨by rw [E.out]; rfl, H8.out⟩
            case rest =>
              obtain ⟨rfl, h7⟩ := hcut
              clear H7 HSZ
              have H7 := Lib.hid h7
              cases T
              · have HN2 : Hid (R = (out, ends (⟨fk, fq, fd⟩, fe) Q out, 0)) := by rw [HN.out, if_neg (by simp)]; exact Lib.hid rfl
                have HSZ : Hid (∀ (W' : World) (z : Bool), Has w W' (Blk _ w5.heap.size (.cells #[.int .i64 r.at_, .int .i64 r.kind, .string r.data] 67) :: Blk _ w3.heap.size (.cells #[.int .i64 fk, .int .u32 (vu fq), .string fd] 76) :: Blk _ (W.heap.size + 1) (.cells #[.int .u32 (vu q), .slice a out.length cap, .bool z] 95) :: RecsR _ (.slice a out.length cap) out :: MapR _ w1.heap.size out.length (hasAt out) :: Blk _ W.heap.size (.cells #[.int .i64 l.first, .int .i64 l.size] 27) :: rs) → ((W'.cell? ⟨w3.heap.size, 0, none⟩ = some (.int .i64 fk) ∧ W'.cell? ⟨w3.heap.size, 2, none⟩ = some (.string fd)) ∧ W'.cell? ⟨W.heap.size + 1, 1, none⟩ = some (.slice a out.length cap) ∧ True)) := fun W' z h => ⟨⟨h.cell 1 _ _ _ rfl 0 _ rfl, h.cell 1 _ _ _ rfl 2 _ rfl⟩, h.cell 2 _ _ _ rfl 1 _ rfl, trivial⟩
                clear HN h7
                cases M
                · have HN3 : Hid (R = (out, false, 0)) := by rw [HN2.out]; unfold ends; rw [← HM.out]; exact Lib.hid rfl
                  go_wp2_with fail
                  refine wp_region_ordJ (fun W' => (W'.cell? ⟨w3.heap.size, 0, none⟩ = some (.int .i64 fk) ∧ W'.cell? ⟨w3.heap.size, 2, none⟩ = some (.string fd)) ∧ W'.cell? ⟨W.heap.size + 1, 1, none⟩ = some (.slice a out.length cap) ∧ True) (OrdT.takes [0, 1, 2, 3, 4, 5, 6, 7, 8, 9, 10, 11, 12, 13, 14, 15] (.one 16 .done)) (by kernel_rfl) (by kernel_rfl) (HSZ.out _ _ H7.out.drew) (fun wz hz => ?_)
                  have h8 := H7.out.drew
                  rw [← hz] at h8
                  have H8 := Lib.hid h8
                  clear hz h8 H7
                  unfold OrdT.takes
                  --ordt mmsssymsssssssyy
                  iterate 2 (refine' t_move _ _ rfl rfl rfl rfl _ _; rotate_left; (go_simp; with_reducible rfl); simp only [Act.put, List.setIfInBounds_toArray, List.set_cons_zero, List.set_cons_succ])
                  iterate 3 (refine t_skip rfl rfl rfl ?_; simp only [Act.put, List.setIfInBounds_toArray, List.set_cons_zero, List.set_cons_succ])
                  (refine' t_yield _ rfl rfl rfl _ _; rotate_left; (intro w' hSw; obtain ⟨s0, s1, s2⟩ := hSw; go_simp; with_reducible rfl); simp only [Act.put, List.setIfInBounds_toArray, List.set_cons_zero, List.set_cons_succ])
                  (refine' t_move _ _ rfl rfl rfl rfl _ _; rotate_left; (go_simp; with_reducible rfl); simp only [Act.put, List.setIfInBounds_toArray, List.set_cons_zero, List.set_cons_succ])
                  iterate 7 (refine t_skip rfl rfl rfl ?_; simp only [Act.put, List.setIfInBounds_toArray, List.set_cons_zero, List.set_cons_succ])
                  iterate 2 (refine' t_yield _ rfl rfl rfl _ _; rotate_left; (intro w' hSw; obtain ⟨s0, s1, s2⟩ := hSw; go_simp; with_reducible rfl); simp only [Act.put, List.setIfInBounds_toArray, List.set_cons_zero, List.set_cons_succ])
                  --end
                  have H9 : Hid (Has w _ (Blk _ w5.heap.size (.cells #[.int .i64 r.at_, .int .i64 r.kind, .string r.data] 67) :: Blk _ w3.heap.size (.cells #[.int .i64 fk, .int .u32 (vu fq), .string fd] 76) :: Blk _ (W.heap.size + 1) (.cells #[.int .u32 (vu q), .slice a out.length cap, .bool false] 95) :: RecsR _ (.slice a out.length cap) out :: MapR _ w1.heap.size out.length (hasAt out) :: Blk _ W.heap.size (.cells #[.int .i64 l.first, .int .i64 l.size] 27) :: rs)) := H8.out.setCell [_, _] 2 (.bool false)
                  have k2 := H8.out.cell 2 _ _ _ rfl 2 _ rfl
                  have l2 := H8.out.frozen 2 _ _ _ rfl 2
                  refine t_one rfl rfl (fun K hK => ?_)
                  go_simp
                  refine hK _ _ (HSZ.out _ _ H9.out) ?_
                  clear hK k2 l2
                  refine t_done ?_
                  have f0 := H9.out.cell 2 _ _ _ rfl 0 _ rfl
                  have f1 := H9.out.cell 2 _ _ _ rfl 1 _ rfl
                  have f2 := H9.out.cell 2 _ _ _ rfl 2 _ rfl
                  have g0 := H9.out.frozen 2 _ _ _ rfl 0
                  have g1 := H9.out.frozen 2 _ _ _ rfl 1
                  have g2 := H9.out.frozen 2 _ _ _ rfl 2
                  have H10 := Lib.hid (Has.store3 [_, _] H9.out (.int .u32 (vu q)) (.slice a out.length cap) (.bool false))
                  clear H8 H9
                  go_wp2_with fail
                  refine bodyPost_ret (results_found2 rfl _ _ (W.heap.size + 1) _ rfl (H10.out.blk 2 _ _ rfl).1 rfl) rfl ⟨q, a, cap, by rw [HN3.out]; rfl, fun _ => rfl, ?_⟩
                  rw [HN3.out]
                  exact (((((H10.out.drop.drop.drop).perm (List.Perm.swap _ _ _)).drop).perm (List.Perm.swap _ _ _)).drop)
                · by_cases h3 : fk = 3
                  · have g3 : (fk == 3) = true := by simpa using h3
                    obtain ⟨z, hz⟩ : ∃ z, z = decide (fd = two out.length) := ⟨_, rfl⟩
                    have HZ := Lib.hid hz
                    clear hz
                    have HN3 : Hid (R = (out, z, 0)) := by rw [HN2.out]; unfold ends; rw [← HM.out, HZ.out, g3]; exact Lib.hid (by simp)
                    have hz2 : (fd.toList == (two (out.length : Int)).toList) = z := by rw [HZ.out]; exact bytes_same _ _
                    go_wp2_with fail
                    refine wp_region_ordJ (fun W' => (W'.cell? ⟨w3.heap.size, 0, none⟩ = some (.int .i64 fk) ∧ W'.cell? ⟨w3.heap.size, 2, none⟩ = some (.string fd)) ∧ W'.cell? ⟨W.heap.size + 1, 1, none⟩ = some (.slice a out.length cap) ∧ True) (OrdT.takes [0, 1, 2, 3, 4, 5, 6, 7, 8, 9, 10, 11] (.one 12 (OrdT.takes [13, 14, 15] (.one 16 .done)))) (by kernel_rfl) (by kernel_rfl) (HSZ.out _ _ H7.out.drew) (fun wz hz => ?_)
                    have h8 := H7.out.drew
                    rw [← hz] at h8
                    have H8 := Lib.hid h8
                    clear hz h8 H7
                    unfold OrdT.takes
                    --ordt mmyyyymyyyyy
                    iterate 2 (refine' t_move _ _ rfl rfl rfl rfl _ _; rotate_left; (go_simp; with_reducible rfl); simp only [Act.put, List.setIfInBounds_toArray, List.set_cons_zero, List.set_cons_succ])
                    iterate 4 (refine' t_yield _ rfl rfl rfl _ _; rotate_left; (intro w' hSw; obtain ⟨s0, s1, s2⟩ := hSw; go_simp; with_reducible rfl); simp only [Act.put, List.setIfInBounds_toArray, List.set_cons_zero, List.set_cons_succ])
                    (refine' t_move _ _ rfl rfl rfl rfl _ _; rotate_left; (go_simp; with_reducible rfl); simp only [Act.put, List.setIfInBounds_toArray, List.set_cons_zero, List.set_cons_succ])
                    iterate 5 (refine' t_yield _ rfl rfl rfl _ _; rotate_left; (intro w' hSw; obtain ⟨s0, s1, s2⟩ := hSw; go_simp; with_reducible rfl); simp only [Act.put, List.setIfInBounds_toArray, List.set_cons_zero, List.set_cons_succ])
                    --end
                    refine t_one rfl rfl (fun K hK => ?_)
                    go_simp
                    refine (short_any _ _).mono ?_
                    rintro e w8 ⟨rfl, hB8⟩
                    have h9 := H8.out.below hB8
                    clear H8
                    have H8 := Lib.hid h9
                    clear h9 hB8
                    dsimp only
                    refine hK _ _ (HSZ.out _ _ H8.out) ?_
                    clear hK
                    unfold OrdT.takes
                    --ordt yyy
                    iterate 3 (refine' t_yield _ rfl rfl rfl _ _; rotate_left; (intro w' hSw; obtain ⟨s0, s1, s2⟩ := hSw; go_simp; with_reducible rfl); simp only [Act.put, List.setIfInBounds_toArray, List.set_cons_zero, List.set_cons_succ])
                    --end
                    have H9 : Hid (Has w _ (Blk _ w5.heap.size (.cells #[.int .i64 r.at_, .int .i64 r.kind, .string r.data] 67) :: Blk _ w3.heap.size (.cells #[.int .i64 fk, .int .u32 (vu fq), .string fd] 76) :: Blk _ (W.heap.size + 1) (.cells #[.int .u32 (vu q), .slice a out.length cap, .bool z] 95) :: RecsR _ (.slice a out.length cap) out :: MapR _ w1.heap.size out.length (hasAt out) :: Blk _ W.heap.size (.cells #[.int .i64 l.first, .int .i64 l.size] 27) :: rs)) := H8.out.setCell [_, _] 2 (.bool z)
                    have k2 := H8.out.cell 2 _ _ _ rfl 2 _ rfl
                    have l2 := H8.out.frozen 2 _ _ _ rfl 2
                    refine t_one rfl rfl (fun K hK => ?_)
                    go_simp
                    refine hK _ _ (HSZ.out _ _ H9.out) ?_
                    clear hK k2 l2
                    refine t_done ?_
                    have f0 := H9.out.cell 2 _ _ _ rfl 0 _ rfl
                    have f1 := H9.out.cell 2 _ _ _ rfl 1 _ rfl
                    have f2 := H9.out.cell 2 _ _ _ rfl 2 _ rfl
                    have g0 := H9.out.frozen 2 _ _ _ rfl 0
                    have g1 := H9.out.frozen 2 _ _ _ rfl 1
                    have g2 := H9.out.frozen 2 _ _ _ rfl 2
                    have H10 := Lib.hid (Has.store3 [_, _] H9.out (.int .u32 (vu q)) (.slice a out.length cap) (.bool z))
                    clear H8 H9
                    go_wp2_with fail
                    refine bodyPost_ret (results_found2 rfl _ _ (W.heap.size + 1) _ rfl (H10.out.blk 2 _ _ rfl).1 rfl) rfl ⟨q, a, cap, by rw [HN3.out]; rfl, fun _ => rfl, ?_⟩
                    rw [HN3.out]
                    exact (((((H10.out.drop.drop.drop).perm (List.Perm.swap _ _ _)).drop).perm (List.Perm.swap _ _ _)).drop)
                  · have HN3 : Hid (R = (out, false, 0)) := by rw [HN2.out]; unfold ends; rw [← HM.out, show (fk == 3) = false by simpa using h3]; exact Lib.hid (by simp)
                    have g3 : (fk == 3) = false := by simpa using h3
                    clear h3
                    go_wp2_with fail
                    refine wp_region_ordJ (fun W' => (W'.cell? ⟨w3.heap.size, 0, none⟩ = some (.int .i64 fk) ∧ W'.cell? ⟨w3.heap.size, 2, none⟩ = some (.string fd)) ∧ W'.cell? ⟨W.heap.size + 1, 1, none⟩ = some (.slice a out.length cap) ∧ True) (OrdT.takes [0, 1, 2, 3, 4, 5, 6, 7, 8, 9, 10, 11, 12, 13, 14, 15] (.one 16 .done)) (by kernel_rfl) (by kernel_rfl) (HSZ.out _ _ H7.out.drew) (fun wz hz => ?_)
                    have h8 := H7.out.drew
                    rw [← hz] at h8
                    have H8 := Lib.hid h8
                    clear hz h8 H7
                    unfold OrdT.takes
                    --ordt mmyyyymsssssssyy
                    iterate 2 (refine' t_move _ _ rfl rfl rfl rfl _ _; rotate_left; (go_simp; with_reducible rfl); simp only [Act.put, List.setIfInBounds_toArray, List.set_cons_zero, List.set_cons_succ])
                    iterate 4 (refine' t_yield _ rfl rfl rfl _ _; rotate_left; (intro w' hSw; obtain ⟨s0, s1, s2⟩ := hSw; go_simp; with_reducible rfl); simp only [Act.put, List.setIfInBounds_toArray, List.set_cons_zero, List.set_cons_succ])
                    (refine' t_move _ _ rfl rfl rfl rfl _ _; rotate_left; (go_simp; with_reducible rfl); simp only [Act.put, List.setIfInBounds_toArray, List.set_cons_zero, List.set_cons_succ])
                    iterate 7 (refine t_skip rfl rfl rfl ?_; simp only [Act.put, List.setIfInBounds_toArray, List.set_cons_zero, List.set_cons_succ])
                    iterate 2 (refine' t_yield _ rfl rfl rfl _ _; rotate_left; (intro w' hSw; obtain ⟨s0, s1, s2⟩ := hSw; go_simp; with_reducible rfl); simp only [Act.put, List.setIfInBounds_toArray, List.set_cons_zero, List.set_cons_succ])
                    --end
                    have H9 : Hid (Has w _ (Blk _ w5.heap.size (.cells #[.int .i64 r.at_, .int .i64 r.kind, .string r.data] 67) :: Blk _ w3.heap.size (.cells #[.int .i64 fk, .int .u32 (vu fq), .string fd] 76) :: Blk _ (W.heap.size + 1) (.cells #[.int .u32 (vu q), .slice a out.length cap, .bool false] 95) :: RecsR _ (.slice a out.length cap) out :: MapR _ w1.heap.size out.length (hasAt out) :: Blk _ W.heap.size (.cells #[.int .i64 l.first, .int .i64 l.size] 27) :: rs)) := H8.out.setCell [_, _] 2 (.bool false)
                    have k2 := H8.out.cell 2 _ _ _ rfl 2 _ rfl
                    have l2 := H8.out.frozen 2 _ _ _ rfl 2
                    refine t_one rfl rfl (fun K hK => ?_)
                    go_simp
                    refine hK _ _ (HSZ.out _ _ H9.out) ?_
                    clear hK k2 l2
                    refine t_done ?_
                    have f0 := H9.out.cell 2 _ _ _ rfl 0 _ rfl
                    have f1 := H9.out.cell 2 _ _ _ rfl 1 _ rfl
                    have f2 := H9.out.cell 2 _ _ _ rfl 2 _ rfl
                    have g0 := H9.out.frozen 2 _ _ _ rfl 0
                    have g1 := H9.out.frozen 2 _ _ _ rfl 1
                    have g2 := H9.out.frozen 2 _ _ _ rfl 2
                    have H10 := Lib.hid (Has.store3 [_, _] H9.out (.int .u32 (vu q)) (.slice a out.length cap) (.bool false))
                    clear H8 H9
                    go_wp2_with fail
                    refine bodyPost_ret (results_found2 rfl _ _ (W.heap.size + 1) _ rfl (H10.out.blk 2 _ _ rfl).1 rfl) rfl ⟨q, a, cap, by rw [HN3.out]; rfl, fun _ => rfl, ?_⟩
                    rw [HN3.out]
                    exact (((((H10.out.drop.drop.drop).perm (List.Perm.swap _ _ _)).drop).perm (List.Perm.swap _ _ _)).drop)
              · have hI1 : I = true := by
                  have := HT.out
                  unfold takes at this
                  rw [← HI.out] at this
                  cases I
                  · simp at this
                  · rfl
                have hre := HR1.out hI1
                have HN2 : Hid (R = lookQ S l Q (l.size.toNat - (k + 1)) ((k : Int) + 1) (out ++ [r])) := by rw [HN.out, if_pos rfl, hre]; exact Lib.hid rfl
                have hlm : (out.length : Int) < l.most := by
                  have := HT.out
                  unfold takes at this
                  by_cases h : (out.length : Int) < l.most
                  · exact h
                  · rw [show decide ((out.length : Int) < l.most) = false by simpa using h, Bool.and_false] at this; cases this
                have hwf : (Lit.int .i64 r.at_).wf = true := by rw [hre]; exact recOf_wf fd
                have hml : l.most ≤ 80 := by unfold Lay.most; omega
                obtain ⟨Wm, hrun1, hm⟩ := Has.storeMap [_, _, _, _] H7.out (by unfold maxLen; omega) r.at_ hwf
                obtain ⟨a2, cap2, Wp, hrun2, hp⟩ := Has.pushRec [_, _, _] hm r (by omega)
                have x0 := H7.out.cell 0 _ _ _ rfl 0 _ rfl
                have m0 := hm.cell 0 _ _ _ rfl 0 _ rfl
                have m1 := hm.cell 0 _ _ _ rfl 1 _ rfl
                have m2 := hm.cell 0 _ _ _ rfl 2 _ rfl
                have v1 := hm.cell 2 _ _ _ rfl 1 _ rfl
                have p1 := hp.cell 2 _ _ _ rfl 1 _ rfl
                have pf := hp.frozen 2 _ _ _ rfl 1
                have h9 := Has.setCell [_, _] hp 1 (.slice a2 (out.length + 1) cap2)
                have e2 : (fun j => if j = r.at_ then true else hasAt out j) = hasAt (out ++ [r]) := by funext j; rw [hasAt_snoc]
                rw [e2] at h9
                have H9 := Lib.hid h9
                have HLM := Lib.hid hlm
                clear h9 hm hp h7 HN hI1 hre hlm hml hwf e2
                go_wp2_with (at_builtin; (with_reducible refine wpList_append_eq rfl _ _ _ rfl _ _ _ _ ?_ ?_ hrun2 ?_); rfl; rfl)
                go_roundw
                case rel => exact ⟨k + 1, out ++ [r], a2, cap2, by go_num, by omega, by omega, by have := HLM.out; simp; omega, HN2.out, by rw [List.length_append]; exact H9.out.drop.drop⟩
                case measure => simp [intOf]; omega
        · have hn : R = ([], false, fe) := by rw [HRK.out, hb, if_pos rfl]
          have HN := Lib.hid hn
          have hfe : ¬ fe = 0 := by rintro rfl; revert hb; decide
          have HFE := Lib.hid hfe
          have H6 := Lib.hid (H5.out.drop.store3 [] (.int .u32 0) (.slice none 0 0) (.bool false))
          clear hn hb HRK hfe
          go_wp2_with fail
          refine bodyPost_ret (results_found2 rfl _ _ (W.heap.size + 1) _ rfl (H6.out.blk 0 _ _ rfl).1 rfl) rfl ⟨0#32, none, 0, by rw [HN.out]; rfl, fun e => absurd (by rw [HN.out] at e; exact e) HFE.out, ?_⟩
          rw [HN.out]
          exact OwnR.nil H6.out.drop.drop.drop.drop _ _ _
      · have e1 : l.size.toNat - k = 0 := by omega
        rw [e1] at hRk
        have HN : Hid (R = (out, false, 0)) := hRk
        have H3 := Lib.hid (hH.store3 [] (.int .u32 (vu q)) (.slice a out.length cap) (.bool false))
        clear hRk e1 hH
        go_wp2_with fail
        refine bodyPost_ret (results_found2 rfl _ _ (W.heap.size + 1) _ rfl (H3.out.blk 0 _ _ rfl).1 rfl) rfl ⟨q, a, cap, by rw [HN.out]; rfl, fun _ => rfl, ?_⟩
        rw [HN.out]
        exact H3.out.drop.perm (List.Perm.swap _ _ _) |>.drop.perm (List.Perm.swap _ _ _) |>.drop
  · have HN : Hid (R = ([], false, c)) := by rw [HRD.out, if_pos hc]; exact Lib.hid rfl
    have hc2 : (c != 0) = true := by simpa using hc
    have h3 := Has.store3 [] (h1.setCell [] 0 (.int .u32 (vu q))) (.int .u32 0) (.slice none 0 0) (.bool false)
    have H3 := Lib.hid h3
    have HCN : Hid (¬ c = 0) := hc
    clear hc h1 h3 HRD
    go_wp2_with fail
    refine bodyPost_ret (results_found2 rfl _ _ (W.heap.size + 1) _ rfl (H3.out.blk 0 _ _ rfl).1 rfl) rfl ⟨0#32, none, 0, by rw [HN.out]; rfl, fun e => absurd (by rw [HN.out] at e; exact e) HCN.out, ?_⟩
    rw [HN.out]
    exact OwnR.nil H3.out.drop.drop _ _ _
end Go.Proofs.YtfbkfdoekgnldaaDoor
namespace Go.Proofs.YtfbkfdoekgnldaaDoor
open Go.RowKit
attribute [local go_sem] Oper.semAt_some
/-- a function value -/
structure FunD where
  k : Nat
  first : Array Value
  cap : Array Value
def FunD.v (f : FunD) : Value := .func (.func f.k) f.first f.cap
theorem run_index_fun (b n cap i : Nat) (h : i < n) (w : World) : (Instr.indexAt 111 (.slice (some ⟨b, 0, none⟩) n cap) (.int .i64 (i : Int))).run Tryd.prog w = .ok (.pointer (some ⟨b, i, none⟩)) w := by
  have h1 : (0 : Int) ≤ i ∧ (i : Int) < n := by omega
  have hs : (sizeOf 82).run Tryd.prog w = .ok 1 w := by kernel_rfl
  simp only [Instr.indexAt, asIntOf, Sem.run_bind, Sem.run_pure, Result.andThen_ok, run_underlying Tryd.underlying111, if_pos h1, hs, Addr.add_lit, Int.toNat_natCast]
  simp
theorem enter_fn {k : Nat} {fn : Func} {c : Code} (hf : Tryd.prog.funcs[k]? = some fn) (hn : (fn.name == "runtime.NumGoroutine") = false) (hb : fn.body = some c) (args : Array Value) (w : World) : (callFunc k args).run Tryd.prog w = .ok (.enter k args) w := by
  have h1 : fn.name ≠ "runtime.NumGoroutine" := by simpa using hn
  simp [callFunc, hf, h1, hb]
set_option maxHeartbeats 1000000 in
theorem then_any (fs : List FunD) (b cap : Nat) (I : Nat → World → Prop) (Q : Int → World → Prop) (W : World) (hlen : fs.length ≤ 1000) (h0 : I 0 W)
    (hcell : ∀ k W' f, I k W' → fs[k]? = some f → W'.cell? ⟨b, k, none⟩ = some (.func (.func f.k) f.first f.cap))
    (hstep : ∀ k f, fs[k]? = some f → ∀ W', I k W' → Calls Tryd.prog f.k (f.first ++ f.cap) W' fun e w' => ∃ c, e = .returned (.int .i64 c) ∧ (c = 0 → I (k + 1) w') ∧ (c ≠ 0 → Q c w'))
    (hent : ∀ (k : Nat) (f : FunD), fs[k]? = some f → ∀ (args : Array Value) (w : World), (callFunc f.k args).run Tryd.prog w = .ok (.enter f.k args) w) (hend : ∀ (W' : World), I fs.length W' → Q 0 W') :
    Calls Tryd.prog 36 #[.slice (some ⟨b, 0, none⟩) fs.length cap] W fun e w' => ∃ c, e = .returned (.int .i64 c) ∧ Q c w' := by
  have HC := Lib.hid hcell
  have HS := Lib.hid hstep
  have HE := Lib.hid hend
  have HN := Lib.hid hent
  have H0 := Lib.hid h0
  clear hcell hstep hend h0 hent
  go_enter Tryd.func36, Tryd.ntmps36
  go_wp2_with fail
  go_loopw [8] (fun i wr => ∃ k : Nat, k ≤ fs.length ∧ i = .int .i64 k ∧ I k wr) (fun i _ => fs.length - (intOf i).toNat)
  case atStart => exact ⟨0, Nat.zero_le _, rfl, H0.out⟩
  case round =>
    obtain ⟨k, hk, rfl, hI⟩ := hrel
    clear H0
    by_cases hlt : k < fs.length
    · obtain ⟨f, hf⟩ : ∃ f, fs[k]? = some f := ⟨_, List.getElem?_eq_getElem hlt⟩
      have hc := HC.out k _ f hI hf
      have HST := Lib.hid (HS.out k f hf _ hI)
      have hix := fun w => run_index_fun b fs.length cap k hlt w
      have hki : (k : Int) < (fs.length : Int) := by omega
      have hent := HN.out k f hf
      clear HC HS HE HN hI hf
      go_wp2_with fail
      refine HST.out.mono ?_
      rintro e w2 ⟨c, rfl, h1, h2⟩
      have H1 := Lib.hid h1
      have H2 := Lib.hid h2
      clear h1 h2 HST hc
      by_cases hc0 : c = 0
      · subst hc0
        go_wp2_with fail
        go_roundw
        case rel => exact ⟨k + 1, by omega, by go_num, H1.out trivial⟩
        case measure => simp [intOf]; omega
      · have hne : (c != 0) = true := by simpa using hc0
        go_wp2_with fail
        go_ret
        exact ⟨_, rfl, H2.out hc0⟩
    · obtain rfl : k = fs.length := by omega
      have HQ := Lib.hid (HE.out _ hI)
      clear HC HS HE HN hI
      go_wp2_with fail
      go_ret
      exact ⟨_, rfl, HQ.out⟩
end Go.Proofs.YtfbkfdoekgnldaaDoor
namespace Go.Proofs.YtfbkfdoekgnldaaDoor
open Go.RowKit
open Lime
attribute [local go_sem] Oper.semAt_some setRow_alloc_at setRow_alloc_past setRow_drew g_same32 g_eq32 g_ne32
abbrev RunR (B : Nat) (v : Value) (l : List Rec) : Res B := RdR B 3 recL v l
set_option maxRecDepth 100000 in
set_option maxHeartbeats 4000000 in
theorem lookE_has {w W : World} {rs : List (Res w.heap.size)} {g : Nat} {S : Dv} (h : Has w W rs) (hr : DevR _ g S ∈ rs) (l : Lay) (hh : HalfLaid w) :
    Calls Tryd.prog 19 #[pv g, .agg #[.int .i64 l.first, .int .i64 l.size]] W fun e w' => ∃ (a : Option Addr) (cap : Nat), e = .returned (.tuple #[.slice a (lookM S l).1.length cap, .bool (lookM S l).2.1, .int .i64 (lookM S l).2.2]) ∧ Has w w' (RecsR _ (.slice a (lookM S l).1.length cap) (lookM S l).1 :: rs) := by
  have h1 := h.alloc (.cells #[.int .i64 l.first, .int .i64 l.size] 27)
  have HL := Lib.hid (look_has h1 (.tail _ hr) l hh)
  obtain ⟨R, hR⟩ : ∃ R, R = lookM S l := ⟨_, rfl⟩
  rw [← hR] at HL ⊢
  obtain ⟨out, wh, c⟩ := R
  dsimp only at HL ⊢
  clear h h1 hr hh hR
  go_enter Tryd.func19, Tryd.ntmps19
  go_wp2_with fail
  refine HL.out.mono ?_
  clear HL
  rintro e w1 ⟨q, a, cap, rfl, -, h2⟩
  have H3 := Lib.hid (h2.alloc (.cells #[.int .u32 (vu q), .slice a out.length cap, .bool wh] 95))
  clear h2
  go_wp2_with fail
  refine wp_region_ordJ (fun W' => W'.cell? ⟨w1.heap.size, 1, none⟩ = some (.slice a out.length cap) ∧ W'.cell? ⟨w1.heap.size, 2, none⟩ = some (.bool wh) ∧ True) (OrdT.takes [0, 1, 2, 3, 4, 5, 6, 7] .done) (by kernel_rfl) (by kernel_rfl) ⟨H3.out.drew.cell 0 _ _ _ rfl 1 _ rfl, H3.out.drew.cell 0 _ _ _ rfl 2 _ rfl, trivial⟩ (fun wz hz => ?_)
  have h4 := H3.out.drew
  rw [← hz] at h4
  have H4 := Lib.hid h4
  clear hz h4 H3
  unfold OrdT.takes
  --ordt yyyymyyy
  iterate 4 (refine' t_yield _ rfl rfl rfl _ _; rotate_left; (intro w' hSw; obtain ⟨s0, s1, s2⟩ := hSw; go_simp; with_reducible rfl); simp only [Act.put, List.setIfInBounds_toArray, List.set_cons_zero, List.set_cons_succ])
  (refine' t_move _ _ rfl rfl rfl rfl _ _; rotate_left; (go_simp; with_reducible rfl); simp only [Act.put, List.setIfInBounds_toArray, List.set_cons_zero, List.set_cons_succ])
  iterate 3 (refine' t_yield _ rfl rfl rfl _ _; rotate_left; (intro w' hSw; obtain ⟨s0, s1, s2⟩ := hSw; go_simp; with_reducible rfl); simp only [Act.put, List.setIfInBounds_toArray, List.set_cons_zero, List.set_cons_succ])
  --end
  refine t_done ?_
  go_wp2_with fail
  exact bodyPost_ret (results_tmp3 rfl _ _ _) rfl ⟨a, cap, rfl, ((H4.out.drop).perm (List.Perm.swap _ _ _)).drop⟩
theorem rec_sz (w : World) : (sizeOf 67).run Tryd.prog w = .ok 3 w := by kernel_rfl
theorem run_index_rec (sb o n cap i : Nat) (h : i < n) (w : World) : (Instr.indexAt 22 (.slice (some ⟨sb, o, none⟩) n cap) (.int .i64 (i : Int))).run Tryd.prog w = .ok (.pointer (some ⟨sb, o + i * 3, none⟩)) w := by
  have h1 : (0 : Int) ≤ i ∧ (i : Int) < n := by omega
  simp only [Instr.indexAt, asIntOf, Sem.run_bind, Sem.run_pure, Result.andThen_ok, run_underlying Tryd.underlying22, if_pos h1, rec_sz, Addr.add_lit, Int.toNat_natCast]
/-- puts up to one of them -/
theorem putAll_split (ps : List PutA) : ∀ (S : Dv) (k : Nat) (a : PutA), ps[k]? = some a → S.putAll (ps.take k) = ((S.putAll (ps.take k)).1, 0) →
    S.putAll ps = if ((S.putAll (ps.take k)).1).putAE a ≠ 0 then (((S.putAll (ps.take k)).1).putA a, ((S.putAll (ps.take k)).1).putAE a) else (((S.putAll (ps.take k)).1).putA a).putAll (ps.drop (k + 1)) := by
  induction ps with
  | nil => intro S k a h; simp at h
  | cons b r ih =>
    intro S k a h h0
    cases k with
    | zero =>
      simp at h
      subst h
      rfl
    | succ k =>
      simp only [List.getElem?_cons_succ] at h
      rw [List.take_succ_cons] at h0 ⊢
      rw [Dv.putAll] at h0 ⊢
      by_cases hb : S.putAE b ≠ 0
      · rw [if_pos hb] at h0
        have := congrArg Prod.snd h0
        exact absurd this hb
      · rw [if_neg hb] at h0 ⊢
        rw [Dv.putAll, if_neg hb]
        exact ih _ k a h h0
theorem put_at {w W : World} (l1 : List (Res w.heap.size)) {l2 : List (Res w.heap.size)} {g : Nat} {S : Dv} (h : Has w W (l1 ++ DevR _ g S :: l2)) (a : PutA) (hd : a.d.size ≤ 9223372036854775807) (hh : HalfLaid w) :
    Calls Tryd.prog 39 #[pv g, .int .i64 a.p, .int .i64 a.kind, .int .u32 (vu a.q), .string a.d] W fun e w' => e = .returned (.int .i64 (S.putAE a)) ∧ Has w w' (l1 ++ DevR _ g (S.putA a) :: l2) := put_has l1 h a.p a.kind a.q a.d hd hh
theorem flush_at {w W : World} (l1 : List (Res w.heap.size)) {l2 : List (Res w.heap.size)} {g : Nat} {S : Dv} (h : Has w W (l1 ++ DevR _ g S :: l2)) :
    Calls Tryd.prog 41 #[pv g] W fun e w' => e = .returned (.int .i64 S.flushE) ∧ Has w w' (l1 ++ DevR _ g S.flush :: l2) :=
  (flush_has (h.perm List.perm_middle)).mono fun _ _ ⟨he, h'⟩ => ⟨he, h'.perm List.perm_middle.symm⟩
set_option maxRecDepth 100000 in
set_option maxHeartbeats 4000000 in
theorem apply_at {w W : World} (l1 : List (Res w.heap.size)) {l2 : List (Res w.heap.size)} {g : Nat} {S : Dv} {a : Option Addr} {cap : Nat} {run : List Rec} (h : Has w W (l1 ++ DevR _ g S :: l2)) (hv : RunR _ (.slice a run.length cap) run ∈ l1 ++ l2) (q : BitVec 32) (wh : Bool)
    (hd : ∀ r ∈ run, r.data.size ≤ 9223372036854775807) (hl : run.length ≤ 1000000) (hh : HalfLaid w) :
    Calls Tryd.prog 53 #[pv g, .agg #[.int .u32 (vu q), .slice a run.length cap, .bool wh]] W fun e w' => e = .returned (.int .i64 (appM S (q + 1#32) run).2) ∧ Has w w' (l1 ++ DevR _ g (appM S (q + 1#32) run).1 :: l2) := by
  obtain ⟨R, hR⟩ : ∃ R, R = appM S (q + 1#32) run := ⟨_, rfl⟩
  rw [← hR]
  obtain ⟨Q, hQ⟩ : ∃ Q, Q = q + 1#32 := ⟨_, rfl⟩
  have hw1 : IntKind.u32.wrap (vu q + 1) = vu Q := by rw [hQ]; exact g_add32 q 1#32
  rw [← hQ] at hR
  have HRR := Lib.hid hR
  have HV : Hid (∀ (S' : Dv), RunR _ (.slice a run.length cap) run ∈ l1 ++ DevR _ g S' :: l2) := fun S' => by
    rcases List.mem_append.1 hv with h | h
    · exact List.mem_append_left _ h
    · exact List.mem_append_right _ (.tail _ h)
  have HD := Lib.hid hd
  have HHL := Lib.hid hh
  have H1 := Lib.hid (h.alloc (.cells #[.int .u32 (vu q), .slice a run.length cap, .bool wh] 95))
  clear h hR hQ hd hh hv
  go_enter Tryd.func53, Tryd.ntmps53
  go_wp2_with fail
  go_loopw [11] (fun i wr => ∃ (k : Nat), i = .int .i64 (k : Int) ∧ k ≤ run.length ∧ (S.putAll ((appPuts Q run).take k)).2 = 0 ∧ Has w wr (Blk _ W.heap.size (.cells #[.int .u32 (vu q), .slice a run.length cap, .bool wh] 95) :: (l1 ++ DevR _ g (S.putAll ((appPuts Q run).take k)).1 :: l2))) (fun i _ => run.length - (intOf i).toNat)
  case atStart => exact ⟨0, rfl, Nat.zero_le _, rfl, H1.out⟩
  case round =>
    obtain ⟨k, rfl, hk, hz, hH⟩ := hrel
    clear H1
    have f0 := hH.cell 0 _ _ _ rfl 0 _ rfl
    have f1 := hH.cell 0 _ _ _ rfl 1 _ rfl
    by_cases hlt : k < run.length
    · obtain ⟨r, hr⟩ : ∃ r, run[k]? = some r := ⟨_, List.getElem?_eq_getElem hlt⟩
      obtain ⟨ba, oa, cap2, hv2, rr⟩ := (hH.drop.rd (HV.out _)).elem recL_len k r hr
      injection hv2 with hv2 _ hcap
      subst hcap
      subst hv2
      have r0 : wr.cell? ⟨ba, oa + k * 3, none⟩ = some (.int .i64 r.at_) := rr 0 _ rfl
      have r1 : wr.cell? ⟨ba, oa + k * 3 + 1, none⟩ = some (.int .i64 r.kind) := rr 1 _ rfl
      have r2 : wr.cell? ⟨ba, oa + k * 3 + 2, none⟩ = some (.string r.data) := rr 2 _ rfl
      have hix := fun w => run_index_rec ba oa run.length cap k hlt w
      have hki : (k : Int) < (run.length : Int) := by omega
      have hpk : (appPuts Q run)[k]? = some ⟨r.at_, r.kind, Q, r.data⟩ := by unfold appPuts; rw [List.getElem?_map, hr]; rfl
      have hsp := putAll_split (appPuts Q run) S k _ hpk (by rw [← hz])
      have hd1 := HD.out r (List.mem_of_getElem? hr)
      obtain ⟨D, hD⟩ : ∃ D, D = (S.putAll ((appPuts Q run).take k)).1 := ⟨_, rfl⟩
      rw [← hD] at hH hsp
      have hnext : (S.putAll ((appPuts Q run).take (k + 1))) = if D.putAE ⟨r.at_, r.kind, Q, r.data⟩ ≠ 0 then (D.putA ⟨r.at_, r.kind, Q, r.data⟩, D.putAE ⟨r.at_, r.kind, Q, r.data⟩) else (D.putA ⟨r.at_, r.kind, Q, r.data⟩, 0) := by
        have h1 : ((appPuts Q run).take (k + 1))[k]? = some ⟨r.at_, r.kind, Q, r.data⟩ := by rw [List.getElem?_take, if_pos (by omega)]; exact hpk
        have h2 : ((appPuts Q run).take (k + 1)).take k = (appPuts Q run).take k := by rw [List.take_take, Nat.min_eq_left (by omega)]
        have h3 : ((appPuts Q run).take (k + 1)).drop (k + 1) = [] := List.drop_eq_nil_of_le (by rw [List.length_take]; omega)
        have := putAll_split ((appPuts Q run).take (k + 1)) S k _ h1 (by rw [h2, ← hz])
        rw [h2, h3, ← hD] at this
        rw [this]; rfl
      have h2 := hH.alloc (.cells #[.int .i64 r.at_, .int .i64 r.kind, .string r.data] 67)
      have HP := Lib.hid (put_at (_ :: _ :: l1) h2 ⟨r.at_, r.kind, Q, r.data⟩ hd1 HHL.out)
      have HSP := Lib.hid hsp
      have HNX := Lib.hid hnext
      have zb := block_lt_of_cell f0
      have zc := block_lt_of_cell r0
      dsimp only at zb zc HP
      clear hr hpk hsp hD hH h2 rr hnext hz hd1
      go_wp2_with fail
      refine HP.out.mono ?_
      rintro e w3 ⟨rfl, h3⟩
      obtain ⟨E, hE⟩ : ∃ E, E = D.putAE ⟨r.at_, r.kind, Q, r.data⟩ := ⟨_, rfl⟩
      rw [← hE] at HSP HNX ⊢
      have H3 := Lib.hid h3.drop
      clear h3 HP f0 f1 r0 r1 r2 hE zb zc
      by_cases he : E = 0
      · subst he
        have HN2 : Hid (S.putAll ((appPuts Q run).take (k + 1)) = (D.putA ⟨r.at_, r.kind, Q, r.data⟩, 0)) := by rw [HNX.out, if_neg (by simp)]; exact Lib.hid rfl
        go_wp2_with fail
        go_roundw
        case rel => exact ⟨k + 1, by go_num, by omega, by rw [HN2.out], by rw [HN2.out]; exact H3.out⟩
        case measure => simp [intOf]; omega
      · have he2 : (E != 0) = true := by simpa using he
        have HN2 : Hid (R = (D.putA ⟨r.at_, r.kind, Q, r.data⟩, E)) := by rw [HRR.out]; unfold appM Dv.done; rw [HSP.out, if_pos he]; exact Lib.hid (if_pos he)
        clear he
        go_wp2_with fail
        go_ret
        exact ⟨by rw [HN2.out]; rfl, by rw [HN2.out]; exact H3.out.drop⟩
    · obtain rfl : k = run.length := by omega
      have htk : (appPuts Q run).take run.length = appPuts Q run := List.take_of_length_le (by unfold appPuts; simp)
      rw [htk] at hz hH
      have HN2 : Hid (R = ((S.putAll (appPuts Q run)).1.flush, (S.putAll (appPuts Q run)).1.flushE)) := by rw [HRR.out]; unfold appM Dv.done; rw [if_neg (by rw [hz]; simp)]; exact Lib.hid rfl
      have HF := Lib.hid (flush_at (_ :: l1) hH)
      clear hz hH htk f0 f1
      go_wp2_with fail
      refine HF.out.mono ?_
      rintro e w3 ⟨rfl, h3⟩
      have H3 := Lib.hid h3.drop
      clear h3 HF
      go_wp2_with fail
      go_ret
      exact ⟨by rw [HN2.out]; rfl, by rw [HN2.out]; exact H3.out⟩
end Go.Proofs.YtfbkfdoekgnldaaDoor
namespace Go.Proofs.YtfbkfdoekgnldaaDoor
open Go.RowKit
open Lime
attribute [local go_sem] Oper.semAt_some setRow_alloc_at setRow_alloc_past setRow_drew
theorem validQ_step (n : Nat) (l : Lay) (run : List Rec) (k : Nat) (r : Rec) (hr : run[k]? = some r) :
    validK n l (run.take k) (run.drop k) = if recE n l (run.take k) r ≠ 0 then recE n l (run.take k) r else validK n l (run.take (k + 1)) (run.drop (k + 1)) := by
  have hk := (List.getElem?_eq_some_iff.1 hr).1
  have he : run[k] = r := (List.getElem?_eq_some_iff.1 hr).2
  rw [List.drop_eq_getElem_cons hk, he, validK, List.take_add_one, hr]
  rfl
set_option maxRecDepth 100000 in
set_option maxHeartbeats 8000000 in
theorem valid_has {w W : World} {rs : List (Res w.heap.size)} {g : Nat} {S : Dv} (h : Has w W rs) (hr : DevR _ g S ∈ rs) (l : Lay) (hc : l.check = 0) {a : Option Addr} {cap : Nat} {run : List Rec} (hv : RunR _ (.slice a run.length cap) run ∈ rs) (hd : ∀ r ∈ run, r.data.size ≤ 9223372036854775807)
    (_hlen : run.length ≤ 9223372036854775807) :
    Calls Tryd.prog 57 #[pv g, .agg #[.int .i64 l.first, .int .i64 l.size], .slice a run.length cap] W fun e w' => e = .returned (.int .i64 (validM S.st.length l run)) ∧ Has w w' rs := by
  have h1 := h.alloc (.cells #[.int .i64 l.first, .int .i64 l.size] 27)
  obtain ⟨n, hn⟩ : ∃ n, n = S.st.length := ⟨_, rfl⟩
  have hok := (ok_has h hr).s2
  rw [← hn] at hok ⊢
  obtain ⟨R, hR⟩ : ∃ R, R = validM n l run := ⟨_, rfl⟩
  rw [← hR]
  have HR := Lib.hid hR
  have HD := Lib.hid hd
  have HC := Lib.hid hc
  have HDV := Lib.hid hr
  have HV := Lib.hid hv
  have HSEC : Hid (∀ W' (x y z : Res w.heap.size), Has w W' (x :: y :: z :: rs) → Calls Tryd.prog 76 #[pv g] W' fun e w' => e = .returned (.int .i64 (n : Int)) ∧ w' = W') := fun W' x y z h => by rw [hn]; exact sectors_has h (.tail _ (.tail _ (.tail _ hr)))
  have HMO := Lib.hid (most_any l (W.alloc (.cells #[.int .i64 l.first, .int .i64 l.size] 27)) hc)
  have H1 := Lib.hid h1
  obtain ⟨m, hm⟩ : ∃ m, m = l.most := ⟨_, rfl⟩
  rw [← hm] at HMO
  have HM := Lib.hid hm
  have hm2 : m ≤ 80 := by rw [hm]; unfold Lay.most; omega
  clear h h1 hR hd hc hr hv hn hm
  by_cases hbig : m < (run.length : Int)
  · have HE : Hid (R = 12) := by rw [HR.out]; unfold validM; rw [← HM.out]; exact Lib.hid (if_pos hbig)
    go_enter Tryd.func57, Tryd.ntmps57
    go_wp2_with fail
    refine HMO.out.mono ?_
    clear HMO
    rintro e w2 ⟨rfl, hB2⟩
    have H2 := Lib.hid (H1.out.below hB2).drop
    clear hB2 H1
    go_wp2_with fail
    go_ret
    exact ⟨by rw [HE.out]; rfl, H2.out⟩
  · have HE : Hid (R = validK n l (run.take 0) (run.drop 0)) := by rw [HR.out]; unfold validM; rw [← HM.out]; exact Lib.hid (if_neg hbig)
    clear HR HM
    have hmm := @run_makeMap Tryd.prog
    go_enter Tryd.func57, Tryd.ntmps57
    go_wp2_with fail
    refine HMO.out.mono ?_
    clear HMO
    rintro e w2 ⟨rfl, hB2⟩
    have H2 := Lib.hid (H1.out.below hB2).madeMap
    clear hB2 H1
    go_wp2_with fail
    go_loopw [18] (fun i wr => ∃ (k : Nat), i = .int .i64 (k : Int) ∧ k ≤ run.length ∧ R = validK n l (run.take k) (run.drop k) ∧ Has w wr (MapR _ w2.heap.size k (hasAt (run.take k)) :: Blk _ W.heap.size (.cells #[.int .i64 l.first, .int .i64 l.size] 27) :: rs)) (fun i _ => run.length - (intOf i).toNat)
    case atStart => exact ⟨0, rfl, Nat.zero_le _, HE.out, H2.out⟩
    case round =>
      obtain ⟨k, rfl, hk, hRk, hH⟩ := hrel
      clear H2 HE hmm
      by_cases hlt : k < run.length
      · obtain ⟨r, hr⟩ : ∃ r, run[k]? = some r := ⟨_, List.getElem?_eq_getElem hlt⟩
        obtain ⟨ba, oa, cap2, hv2, rr⟩ := (hH.rd (.tail _ (.tail _ HV.out))).elem recL_len k r hr
        injection hv2 with hv2 _ hcap
        subst hcap
        subst hv2
        have r0 : wr.cell? ⟨ba, oa + k * 3, none⟩ = some (.int .i64 r.at_) := rr 0 _ rfl
        have r1 : wr.cell? ⟨ba, oa + k * 3 + 1, none⟩ = some (.int .i64 r.kind) := rr 1 _ rfl
        have r2 : wr.cell? ⟨ba, oa + k * 3 + 2, none⟩ = some (.string r.data) := rr 2 _ rfl
        have hix := fun w => run_index_rec ba oa run.length cap k hlt w
        have hki : (k : Int) < (run.length : Int) := by omega
        rw [validQ_step n l run k r hr] at hRk
        have hd1 := HD.out r (List.mem_of_getElem? hr)
        obtain ⟨bf, hbf⟩ : ∃ bf, bf = run.take k := ⟨_, rfl⟩
        have hnx : run.take (k + 1) = bf ++ [r] := by rw [hbf, List.take_add_one, hr]; rfl
        rw [← hbf] at hRk hH
        rw [hnx] at hRk
        have HNX := Lib.hid hnx
        have HRK := Lib.hid hRk
        have d0 := hH.cell 1 _ _ _ rfl 0 _ rfl
        have d1 := hH.cell 1 _ _ _ rfl 1 _ rfl
        have zb := block_lt_of_cell d0
        have zc := block_lt_of_cell r0
        dsimp only at zb zc
        have H2 := Lib.hid (hH.alloc (.cells #[.int .i64 r.at_, .int .i64 r.kind, .string r.data] 67))
        have HIN := Lib.hid (inside_any l r.at_ (wr.alloc (.cells #[.int .i64 r.at_, .int .i64 r.kind, .string r.data] 67)) HC.out)
        obtain ⟨ins, hins⟩ : ∃ b, b = l.inside r.at_ := ⟨_, rfl⟩
        rw [← hins] at HIN
        have HINS := Lib.hid hins
        clear hbf hnx hRk hH rr hr hins
        go_wp2_with fail
        refine HIN.out.mono ?_
        clear HIN
        rintro e w3 ⟨rfl, hB3⟩
        have h3 := H2.out.below hB3
        have x0 := h3.cell 0 _ _ _ rfl 0 _ rfl
        have x1 := h3.cell 0 _ _ _ rfl 1 _ rfl
        have x2 := h3.cell 0 _ _ _ rfl 2 _ rfl
        have H3 := Lib.hid h3
        clear h3 hB3 H2 r0 r1 r2 d0 d1 zb zc
        cases ins
        · have HSZ : Hid (∀ (W' : World), Has w W' (Blk _ wr.heap.size (.cells #[.int .i64 r.at_, .int .i64 r.kind, .string r.data] 67) :: MapR _ w2.heap.size k (hasAt bf) :: Blk _ W.heap.size (.cells #[.int .i64 l.first, .int .i64 l.size] 27) :: rs) → (W'.cell? ⟨wr.heap.size, 0, none⟩ = some (.int .i64 r.at_) ∧ W'.cell? ⟨wr.heap.size, 1, none⟩ = some (.int .i64 r.kind) ∧ True)) := fun W' h => ⟨h.cell 0 _ _ _ rfl 0 _ rfl, h.cell 0 _ _ _ rfl 1 _ rfl, trivial⟩
          obtain ⟨B, hB⟩ : ∃ B, B = decide (r.at_ < 0 ∨ (n : Int) ≤ r.at_ ∨ r.kind < 1 ∨ 255 < r.kind) := ⟨_, rfl⟩
          have HB := Lib.hid hB
          clear hB
          go_upto_region 9 with fail
          go_cut [27] (fun c wx => c = .bool B ∧ Has w wx (Blk _ wr.heap.size (.cells #[.int .i64 r.at_, .int .i64 r.kind, .string r.data] 67) :: MapR _ w2.heap.size k (hasAt bf) :: Blk _ W.heap.size (.cells #[.int .i64 l.first, .int .i64 l.size] 27) :: rs))
          case first =>
            clear x0 x1 x2
            by_cases q1 : r.at_ < 0
            · have e1 : decide (r.at_ < 0) = true := by simpa using q1
              have HBV : Hid (B = true) := by rw [HB.out]; exact Lib.hid (by simp; omega)
              refine wp_region_ordJ (fun W' => W'.cell? ⟨wr.heap.size, 0, none⟩ = some (.int .i64 r.at_) ∧ W'.cell? ⟨wr.heap.size, 1, none⟩ = some (.int .i64 r.kind) ∧ True) (OrdT.takes [0, 1, 2, 3, 4, 5, 6, 7, 8, 9, 10, 11, 12, 13, 14, 15, 16, 17, 18, 19, 20] .done) (by kernel_rfl) (by kernel_rfl) (HSZ.out _ H3.out.drew) (fun wz hz => ?_)
              have h8 := H3.out.drew
              rw [← hz] at h8
              have H8 := Lib.hid h8
              clear hz h8 H3
              unfold OrdT.takes
              --ordt yyymsssssymsssymsssyy
              iterate 3 (refine' t_yield _ rfl rfl rfl _ _; rotate_left; (intro w' hSw; obtain ⟨s0, s1, s2⟩ := hSw; go_simp; with_reducible rfl); simp only [Act.put, List.setIfInBounds_toArray, List.set_cons_zero, List.set_cons_succ])
              (refine' t_move _ _ rfl rfl rfl rfl _ _; rotate_left; (go_simp; with_reducible rfl); simp only [Act.put, List.setIfInBounds_toArray, List.set_cons_zero, List.set_cons_succ])
              iterate 5 (refine t_skip rfl rfl rfl ?_; simp only [Act.put, List.setIfInBounds_toArray, List.set_cons_zero, List.set_cons_succ])
              (refine' t_yield _ rfl rfl rfl _ _; rotate_left; (intro w' hSw; obtain ⟨s0, s1, s2⟩ := hSw; go_simp; with_reducible rfl); simp only [Act.put, List.setIfInBounds_toArray, List.set_cons_zero, List.set_cons_succ])
              (refine' t_move _ _ rfl rfl rfl rfl _ _; rotate_left; (go_simp; with_reducible rfl); simp only [Act.put, List.setIfInBounds_toArray, List.set_cons_zero, List.set_cons_succ])
              iterate 3 (refine t_skip rfl rfl rfl ?_; simp only [Act.put, List.setIfInBounds_toArray, List.set_cons_zero, List.set_cons_succ])
              (refine' t_yield _ rfl rfl rfl _ _; rotate_left; (intro w' hSw; obtain ⟨s0, s1, s2⟩ := hSw; go_simp; with_reducible rfl); simp only [Act.put, List.setIfInBounds_toArray, List.set_cons_zero, List.set_cons_succ])
              (refine' t_move _ _ rfl rfl rfl rfl _ _; rotate_left; (go_simp; with_reducible rfl); simp only [Act.put, List.setIfInBounds_toArray, List.set_cons_zero, List.set_cons_succ])
              iterate 3 (refine t_skip rfl rfl rfl ?_; simp only [Act.put, List.setIfInBounds_toArray, List.set_cons_zero, List.set_cons_succ])
              iterate 2 (refine' t_yield _ rfl rfl rfl _ _; rotate_left; (intro w' hSw; obtain ⟨s0, s1, s2⟩ := hSw; go_simp; with_reducible rfl); simp only [Act.put, List.setIfInBounds_toArray, List.set_cons_zero, List.set_cons_succ])
              --end
              refine t_done ?_
              go_wp2_with fail
              go_meet
              exact ⟨by rw [HBV.out], H8.out⟩
            have e1 : decide (r.at_ < 0) = false := by simpa using q1
            by_cases q2 : (n : Int) ≤ r.at_
            · have e2 : decide ((n : Int) ≤ r.at_) = true := by simpa using q2
              have HBV : Hid (B = true) := by rw [HB.out]; exact Lib.hid (by simp; omega)
              refine wp_region_ordJ (fun W' => W'.cell? ⟨wr.heap.size, 0, none⟩ = some (.int .i64 r.at_) ∧ W'.cell? ⟨wr.heap.size, 1, none⟩ = some (.int .i64 r.kind) ∧ True) (OrdT.takes [0, 1, 2, 3, 4, 5, 6] (.one 7 (OrdT.takes [8, 9, 10, 11, 12, 13, 14, 15, 16, 17, 18, 19, 20] .done))) (by kernel_rfl) (by kernel_rfl) (HSZ.out _ H3.out.drew) (fun wz hz => ?_)
              have h8 := H3.out.drew
              rw [← hz] at h8
              have H8 := Lib.hid h8
              clear hz h8 H3
              unfold OrdT.takes
              --ordt yyymyym
              iterate 3 (refine' t_yield _ rfl rfl rfl _ _; rotate_left; (intro w' hSw; obtain ⟨s0, s1, s2⟩ := hSw; go_simp; with_reducible rfl); simp only [Act.put, List.setIfInBounds_toArray, List.set_cons_zero, List.set_cons_succ])
              (refine' t_move _ _ rfl rfl rfl rfl _ _; rotate_left; (go_simp; with_reducible rfl); simp only [Act.put, List.setIfInBounds_toArray, List.set_cons_zero, List.set_cons_succ])
              iterate 2 (refine' t_yield _ rfl rfl rfl _ _; rotate_left; (intro w' hSw; obtain ⟨s0, s1, s2⟩ := hSw; go_simp; with_reducible rfl); simp only [Act.put, List.setIfInBounds_toArray, List.set_cons_zero, List.set_cons_succ])
              (refine' t_move _ _ rfl rfl rfl rfl _ _; rotate_left; (go_simp; with_reducible rfl); simp only [Act.put, List.setIfInBounds_toArray, List.set_cons_zero, List.set_cons_succ])
              --end
              refine t_one rfl rfl (fun K hK => ?_)
              go_simp
              refine (HSEC.out _ _ _ _ H8.out).mono ?_
              rintro e w8 ⟨rfl, rfl⟩
              dsimp only
              refine hK _ _ (HSZ.out _ H8.out) ?_
              clear hK
              unfold OrdT.takes
              --ordt yymsssymsssyy
              iterate 2 (refine' t_yield _ rfl rfl rfl _ _; rotate_left; (intro w' hSw; obtain ⟨s0, s1, s2⟩ := hSw; go_simp; with_reducible rfl); simp only [Act.put, List.setIfInBounds_toArray, List.set_cons_zero, List.set_cons_succ])
              (refine' t_move _ _ rfl rfl rfl rfl _ _; rotate_left; (go_simp; with_reducible rfl); simp only [Act.put, List.setIfInBounds_toArray, List.set_cons_zero, List.set_cons_succ])
              iterate 3 (refine t_skip rfl rfl rfl ?_; simp only [Act.put, List.setIfInBounds_toArray, List.set_cons_zero, List.set_cons_succ])
              (refine' t_yield _ rfl rfl rfl _ _; rotate_left; (intro w' hSw; obtain ⟨s0, s1, s2⟩ := hSw; go_simp; with_reducible rfl); simp only [Act.put, List.setIfInBounds_toArray, List.set_cons_zero, List.set_cons_succ])
              (refine' t_move _ _ rfl rfl rfl rfl _ _; rotate_left; (go_simp; with_reducible rfl); simp only [Act.put, List.setIfInBounds_toArray, List.set_cons_zero, List.set_cons_succ])
              iterate 3 (refine t_skip rfl rfl rfl ?_; simp only [Act.put, List.setIfInBounds_toArray, List.set_cons_zero, List.set_cons_succ])
              iterate 2 (refine' t_yield _ rfl rfl rfl _ _; rotate_left; (intro w' hSw; obtain ⟨s0, s1, s2⟩ := hSw; go_simp; with_reducible rfl); simp only [Act.put, List.setIfInBounds_toArray, List.set_cons_zero, List.set_cons_succ])
              --end
              refine t_done ?_
              go_wp2_with fail
              go_meet
              exact ⟨by rw [HBV.out], H8.out⟩
            have e2 : decide ((n : Int) ≤ r.at_) = false := by simpa using q2
            by_cases q3 : r.kind < 1
            · have e3 : decide (r.kind < 1) = true := by simpa using q3
              have HBV : Hid (B = true) := by rw [HB.out]; exact Lib.hid (by simp; omega)
              refine wp_region_ordJ (fun W' => W'.cell? ⟨wr.heap.size, 0, none⟩ = some (.int .i64 r.at_) ∧ W'.cell? ⟨wr.heap.size, 1, none⟩ = some (.int .i64 r.kind) ∧ True) (OrdT.takes [0, 1, 2, 3, 4, 5, 6] (.one 7 (OrdT.takes [8, 9, 10, 11, 12, 13, 14, 15, 16, 17, 18, 19, 20] .done))) (by kernel_rfl) (by kernel_rfl) (HSZ.out _ H3.out.drew) (fun wz hz => ?_)
              have h8 := H3.out.drew
              rw [← hz] at h8
              have H8 := Lib.hid h8
              clear hz h8 H3
              unfold OrdT.takes
              --ordt yyymyym
              iterate 3 (refine' t_yield _ rfl rfl rfl _ _; rotate_left; (intro w' hSw; obtain ⟨s0, s1, s2⟩ := hSw; go_simp; with_reducible rfl); simp only [Act.put, List.setIfInBounds_toArray, List.set_cons_zero, List.set_cons_succ])
              (refine' t_move _ _ rfl rfl rfl rfl _ _; rotate_left; (go_simp; with_reducible rfl); simp only [Act.put, List.setIfInBounds_toArray, List.set_cons_zero, List.set_cons_succ])
              iterate 2 (refine' t_yield _ rfl rfl rfl _ _; rotate_left; (intro w' hSw; obtain ⟨s0, s1, s2⟩ := hSw; go_simp; with_reducible rfl); simp only [Act.put, List.setIfInBounds_toArray, List.set_cons_zero, List.set_cons_succ])
              (refine' t_move _ _ rfl rfl rfl rfl _ _; rotate_left; (go_simp; with_reducible rfl); simp only [Act.put, List.setIfInBounds_toArray, List.set_cons_zero, List.set_cons_succ])
              --end
              refine t_one rfl rfl (fun K hK => ?_)
              go_simp
              refine (HSEC.out _ _ _ _ H8.out).mono ?_
              rintro e w8 ⟨rfl, rfl⟩
              dsimp only
              refine hK _ _ (HSZ.out _ H8.out) ?_
              clear hK
              unfold OrdT.takes
              --ordt yymyyyymsssyy
              iterate 2 (refine' t_yield _ rfl rfl rfl _ _; rotate_left; (intro w' hSw; obtain ⟨s0, s1, s2⟩ := hSw; go_simp; with_reducible rfl); simp only [Act.put, List.setIfInBounds_toArray, List.set_cons_zero, List.set_cons_succ])
              (refine' t_move _ _ rfl rfl rfl rfl _ _; rotate_left; (go_simp; with_reducible rfl); simp only [Act.put, List.setIfInBounds_toArray, List.set_cons_zero, List.set_cons_succ])
              iterate 4 (refine' t_yield _ rfl rfl rfl _ _; rotate_left; (intro w' hSw; obtain ⟨s0, s1, s2⟩ := hSw; go_simp; with_reducible rfl); simp only [Act.put, List.setIfInBounds_toArray, List.set_cons_zero, List.set_cons_succ])
              (refine' t_move _ _ rfl rfl rfl rfl _ _; rotate_left; (go_simp; with_reducible rfl); simp only [Act.put, List.setIfInBounds_toArray, List.set_cons_zero, List.set_cons_succ])
              iterate 3 (refine t_skip rfl rfl rfl ?_; simp only [Act.put, List.setIfInBounds_toArray, List.set_cons_zero, List.set_cons_succ])
              iterate 2 (refine' t_yield _ rfl rfl rfl _ _; rotate_left; (intro w' hSw; obtain ⟨s0, s1, s2⟩ := hSw; go_simp; with_reducible rfl); simp only [Act.put, List.setIfInBounds_toArray, List.set_cons_zero, List.set_cons_succ])
              --end
              refine t_done ?_
              go_wp2_with fail
              go_meet
              exact ⟨by rw [HBV.out], H8.out⟩
            have e3 : decide (r.kind < 1) = false := by simpa using q3
            by_cases q4 : 255 < r.kind
            · have e4 : decide (255 < r.kind) = true := by simpa using q4
              have HBV : Hid (B = true) := by rw [HB.out]; exact Lib.hid (by simp; omega)
              refine wp_region_ordJ (fun W' => W'.cell? ⟨wr.heap.size, 0, none⟩ = some (.int .i64 r.at_) ∧ W'.cell? ⟨wr.heap.size, 1, none⟩ = some (.int .i64 r.kind) ∧ True) (OrdT.takes [0, 1, 2, 3, 4, 5, 6] (.one 7 (OrdT.takes [8, 9, 10, 11, 12, 13, 14, 15, 16, 17, 18, 19, 20] .done))) (by kernel_rfl) (by kernel_rfl) (HSZ.out _ H3.out.drew) (fun wz hz => ?_)
              have h8 := H3.out.drew
              rw [← hz] at h8
              have H8 := Lib.hid h8
              clear hz h8 H3
              unfold OrdT.takes
              --ordt yyymyym
              iterate 3 (refine' t_yield _ rfl rfl rfl _ _; rotate_left; (intro w' hSw; obtain ⟨s0, s1, s2⟩ := hSw; go_simp; with_reducible rfl); simp only [Act.put, List.setIfInBounds_toArray, List.set_cons_zero, List.set_cons_succ])
              (refine' t_move _ _ rfl rfl rfl rfl _ _; rotate_left; (go_simp; with_reducible rfl); simp only [Act.put, List.setIfInBounds_toArray, List.set_cons_zero, List.set_cons_succ])
              iterate 2 (refine' t_yield _ rfl rfl rfl _ _; rotate_left; (intro w' hSw; obtain ⟨s0, s1, s2⟩ := hSw; go_simp; with_reducible rfl); simp only [Act.put, List.setIfInBounds_toArray, List.set_cons_zero, List.set_cons_succ])
              (refine' t_move _ _ rfl rfl rfl rfl _ _; rotate_left; (go_simp; with_reducible rfl); simp only [Act.put, List.setIfInBounds_toArray, List.set_cons_zero, List.set_cons_succ])
              --end
              refine t_one rfl rfl (fun K hK => ?_)
              go_simp
              refine (HSEC.out _ _ _ _ H8.out).mono ?_
              rintro e w8 ⟨rfl, rfl⟩
              dsimp only
              refine hK _ _ (HSZ.out _ H8.out) ?_
              clear hK
              unfold OrdT.takes
              --ordt yymyyyymyyyyy
              iterate 2 (refine' t_yield _ rfl rfl rfl _ _; rotate_left; (intro w' hSw; obtain ⟨s0, s1, s2⟩ := hSw; go_simp; with_reducible rfl); simp only [Act.put, List.setIfInBounds_toArray, List.set_cons_zero, List.set_cons_succ])
              (refine' t_move _ _ rfl rfl rfl rfl _ _; rotate_left; (go_simp; with_reducible rfl); simp only [Act.put, List.setIfInBounds_toArray, List.set_cons_zero, List.set_cons_succ])
              iterate 4 (refine' t_yield _ rfl rfl rfl _ _; rotate_left; (intro w' hSw; obtain ⟨s0, s1, s2⟩ := hSw; go_simp; with_reducible rfl); simp only [Act.put, List.setIfInBounds_toArray, List.set_cons_zero, List.set_cons_succ])
              (refine' t_move _ _ rfl rfl rfl rfl _ _; rotate_left; (go_simp; with_reducible rfl); simp only [Act.put, List.setIfInBounds_toArray, List.set_cons_zero, List.set_cons_succ])
              iterate 5 (refine' t_yield _ rfl rfl rfl _ _; rotate_left; (intro w' hSw; obtain ⟨s0, s1, s2⟩ := hSw; go_simp; with_reducible rfl); simp only [Act.put, List.setIfInBounds_toArray, List.set_cons_zero, List.set_cons_succ])
              --end
              refine t_done ?_
              go_wp2_with fail
              go_meet
              exact ⟨by rw [HBV.out], H8.out⟩
            · have e4 : decide (255 < r.kind) = false := by simpa using q4
              have HBV : Hid (B = false) := by rw [HB.out]; exact Lib.hid (by simp; omega)
              refine wp_region_ordJ (fun W' => W'.cell? ⟨wr.heap.size, 0, none⟩ = some (.int .i64 r.at_) ∧ W'.cell? ⟨wr.heap.size, 1, none⟩ = some (.int .i64 r.kind) ∧ True) (OrdT.takes [0, 1, 2, 3, 4, 5, 6] (.one 7 (OrdT.takes [8, 9, 10, 11, 12, 13, 14, 15, 16, 17, 18, 19, 20] .done))) (by kernel_rfl) (by kernel_rfl) (HSZ.out _ H3.out.drew) (fun wz hz => ?_)
              have h8 := H3.out.drew
              rw [← hz] at h8
              have H8 := Lib.hid h8
              clear hz h8 H3
              unfold OrdT.takes
              --ordt yyymyym
              iterate 3 (refine' t_yield _ rfl rfl rfl _ _; rotate_left; (intro w' hSw; obtain ⟨s0, s1, s2⟩ := hSw; go_simp; with_reducible rfl); simp only [Act.put, List.setIfInBounds_toArray, List.set_cons_zero, List.set_cons_succ])
              (refine' t_move _ _ rfl rfl rfl rfl _ _; rotate_left; (go_simp; with_reducible rfl); simp only [Act.put, List.setIfInBounds_toArray, List.set_cons_zero, List.set_cons_succ])
              iterate 2 (refine' t_yield _ rfl rfl rfl _ _; rotate_left; (intro w' hSw; obtain ⟨s0, s1, s2⟩ := hSw; go_simp; with_reducible rfl); simp only [Act.put, List.setIfInBounds_toArray, List.set_cons_zero, List.set_cons_succ])
              (refine' t_move _ _ rfl rfl rfl rfl _ _; rotate_left; (go_simp; with_reducible rfl); simp only [Act.put, List.setIfInBounds_toArray, List.set_cons_zero, List.set_cons_succ])
              --end
              refine t_one rfl rfl (fun K hK => ?_)
              go_simp
              refine (HSEC.out _ _ _ _ H8.out).mono ?_
              rintro e w8 ⟨rfl, rfl⟩
              dsimp only
              refine hK _ _ (HSZ.out _ H8.out) ?_
              clear hK
              unfold OrdT.takes
              --ordt yymyyyymyyyyy
              iterate 2 (refine' t_yield _ rfl rfl rfl _ _; rotate_left; (intro w' hSw; obtain ⟨s0, s1, s2⟩ := hSw; go_simp; with_reducible rfl); simp only [Act.put, List.setIfInBounds_toArray, List.set_cons_zero, List.set_cons_succ])
              (refine' t_move _ _ rfl rfl rfl rfl _ _; rotate_left; (go_simp; with_reducible rfl); simp only [Act.put, List.setIfInBounds_toArray, List.set_cons_zero, List.set_cons_succ])
              iterate 4 (refine' t_yield _ rfl rfl rfl _ _; rotate_left; (intro w' hSw; obtain ⟨s0, s1, s2⟩ := hSw; go_simp; with_reducible rfl); simp only [Act.put, List.setIfInBounds_toArray, List.set_cons_zero, List.set_cons_succ])
              (refine' t_move _ _ rfl rfl rfl rfl _ _; rotate_left; (go_simp; with_reducible rfl); simp only [Act.put, List.setIfInBounds_toArray, List.set_cons_zero, List.set_cons_succ])
              iterate 5 (refine' t_yield _ rfl rfl rfl _ _; rotate_left; (intro w' hSw; obtain ⟨s0, s1, s2⟩ := hSw; go_simp; with_reducible rfl); simp only [Act.put, List.setIfInBounds_toArray, List.set_cons_zero, List.set_cons_succ])
              --end
              refine t_done ?_
              go_wp2_with fail
              go_meet
              exact ⟨by rw [HBV.out], H8.out⟩
          case rest =>
            obtain ⟨rfl, h4⟩ := hcut
            clear H3 HSZ x0 x1 x2
            have x0 := h4.cell 0 _ _ _ rfl 0 _ rfl
            have x1 := h4.cell 0 _ _ _ rfl 1 _ rfl
            have x2 := h4.cell 0 _ _ _ rfl 2 _ rfl
            have H4 := Lib.hid h4
            have HR0 : Hid (recE n l bf r = if B = true then 7 else if 96 < r.data.size then 3 else if hasAt bf r.at_ then 8 else 0) := by unfold recE; rw [← HINS.out, HB.out]; exact Lib.hid (by simp)
            clear h4 HINS
            cases B
            · have hq : ¬ (r.at_ < 0 ∨ (n : Int) ≤ r.at_ ∨ r.kind < 1 ∨ 255 < r.kind) := by have := HB.out; simpa using this.symm
              clear HB
              by_cases q5 : 96 < (r.data.size : Int)
              · have hx : recE n l bf r = 3 := by rw [HR0.out, if_neg (by simp), if_pos (by omega)]
                have HE : Hid (R = 3) := by rw [HRK.out, hx]; exact Lib.hid rfl
                clear hx
                go_wp2_with fail
                go_ret
                exact ⟨by rw [HE.out]; rfl, H4.out.drop.drop.drop⟩
              · have hwf : (Lit.int .i64 r.at_).wf = true := by
                  simp only [Lit.wf, Bool.and_eq_true, decide_eq_true_eq]
                  have m0 : IntKind.i64.min = -9223372036854775808 := by decide
                  have m1 : IntKind.i64.max = 9223372036854775807 := by decide
                  omega
                have hlk := H4.out.lookMap (b := w2.heap.size) (n := k) (f := hasAt bf) (by simp) r.at_ hwf
                obtain ⟨P, hP⟩ : ∃ P, P = hasAt bf r.at_ := ⟨_, rfl⟩
                rw [← hP] at hlk HR0
                have HR1 : Hid (recE n l bf r = if P = true then 8 else 0) := by rw [HR0.out, if_neg (by simp), if_neg (by omega)]; exact Lib.hid rfl
                clear hP HR0 hq
                cases P
                · obtain ⟨Wm, hrun1, hm⟩ := Has.storeMap [_] H4.out (by unfold maxLen; omega) r.at_ hwf
                  have e2 : (fun j => if j = r.at_ then true else hasAt bf j) = hasAt (bf ++ [r]) := by funext j; rw [hasAt_snoc]
                  rw [e2] at hm
                  have H5 := Lib.hid hm.drop
                  have HN : Hid (R = validK n l (bf ++ [r]) (run.drop (k + 1))) := by rw [HRK.out, HR1.out]; exact Lib.hid (if_neg (by simp))
                  clear hm e2 hwf HRK HR1
                  go_wp2_with fail
                  go_roundw
                  case rel => exact ⟨k + 1, by go_num, by omega, by rw [HNX.out]; exact HN.out, by rw [HNX.out]; exact H5.out⟩
                  case measure => simp [intOf]; omega
                · have HE : Hid (R = 8) := by rw [HRK.out, HR1.out]; exact Lib.hid rfl
                  clear hwf
                  go_wp2_with fail
                  go_ret
                  exact ⟨by rw [HE.out]; rfl, H4.out.drop.drop.drop⟩
            · have HE : Hid (R = 7) := by rw [HRK.out, HR0.out]; exact Lib.hid rfl
              go_wp2_with fail
              go_ret
              exact ⟨by rw [HE.out]; rfl, H4.out.drop.drop.drop⟩
        · have HE : Hid (R = 2) := by rw [HRK.out]; unfold recE; rw [← HINS.out]; exact Lib.hid rfl
          go_wp2_with fail
          go_ret
          exact ⟨by rw [HE.out]; rfl, H3.out.drop.drop.drop⟩
      · obtain rfl : k = run.length := by omega
        have HE : Hid (R = 0) := by rw [hRk, List.drop_length]; exact Lib.hid rfl
        have H3 := Lib.hid hH.drop.drop
        clear hRk hH
        go_wp2_with fail
        go_ret
        exact ⟨by rw [HE.out]; rfl, H3.out⟩
end Go.Proofs.YtfbkfdoekgnldaaDoor
namespace Go.Proofs.YtfbkfdoekgnldaaDoor
open Go.RowKit
open Lime
attribute [local go_sem] Oper.semAt_some setRow_alloc_at setRow_alloc_past setRow_drew g_same32 g_eq32 g_ne32
theorem run_store_fn (P : Program) (w : World) (a : Addr) (m : Mode) (f : Fn) (x y : Array Value) : (store a (.func f x y) m).run P w = stored P w a (.func f x y) m := run_store P w a _ m rfl
theorem conv1 (w : World) (b : Nat) (c : UInt8) (h : w.heap[b]? = some (.cells #[.int .u8 (vb c)] 5 (0, 0))) :
    (convert 105 9 (.slice (some ⟨b, 0, none⟩) 1 1)).run Tryd.prog w = .ok (.string ⟨#[c]⟩) w :=
  run_string_bytes _ ⟨b, 0, none⟩ [c] 1 (fun i hi => by
    rw [Addr.add_lit, cell_of_row _ _ _ _ _ _ h]
    match i, hi with
    | 0, _ => rfl)
set_option maxRecDepth 100000 in
set_option maxHeartbeats 2000000 in
/-- the put of Log: the next place, and a frame there -/
theorem log1_at {w W : World} {ba bd bs : Nat} {p : Int} {q : BitVec 32} (l1 : List (Res w.heap.size)) {l2 : List (Res w.heap.size)} {g : Nat} {S : Dv} (h : Has w W (Blk _ ba (.cells #[.int .i64 p] 3) :: Blk _ bd (.cells #[pv g] 28) :: Blk _ bs (.cells #[.int .u32 (vu q)] 53) :: (l1 ++ DevR _ g S :: l2)))
    (kind : Int) (d : ByteArray) (hd : d.size ≤ 9223372036854775807) (hp0 : 0 ≤ p) (hp : p ≤ 1000) (hh : HalfLaid w) :
    Calls Tryd.prog 58 #[.int .i64 kind, .string d, .pointer (some ⟨ba, 0, none⟩), .pointer (some ⟨bd, 0, none⟩), .pointer (some ⟨bs, 0, none⟩)] W fun e w' => e = .returned (.int .i64 (S.putAE ⟨p + 1, kind, q + 1#32, d⟩)) ∧
      Has w w' (Blk _ ba (.cells #[.int .i64 (p + 1)] 3) :: Blk _ bd (.cells #[pv g] 28) :: Blk _ bs (.cells #[.int .u32 (vu q)] 53) :: (l1 ++ DevR _ g (S.putA ⟨p + 1, kind, q + 1#32, d⟩) :: l2)) := by
  obtain ⟨Q, hQ⟩ : ∃ Q, Q = q + 1#32 := ⟨_, rfl⟩
  have hw1 : IntKind.u32.wrap (vu q + 1) = vu Q := by rw [hQ]; exact g_add32 q 1#32
  have hw2 : wrap64 (p + 1) = p + 1 := by unfold wrap64; omega
  rw [← hQ]
  have a0 := h.cell 0 _ _ _ rfl 0 _ rfl
  have a1 := h.frozen 0 _ _ _ rfl 0
  have b0 := h.cell 1 _ _ _ rfl 0 _ rfl
  have c0 := h.cell 2 _ _ _ rfl 0 _ rfl
  have h2 := Has.setCell [] h 0 (.int .i64 (p + 1))
  have b2 := h2.cell 1 _ _ _ rfl 0 _ rfl
  have c2 := h2.cell 2 _ _ _ rfl 0 _ rfl
  have a2 := h2.cell 0 _ _ _ rfl 0 _ rfl
  have HP := Lib.hid (put_at (_ :: _ :: _ :: l1) h2 ⟨p + 1, kind, Q, d⟩ hd hh)
  dsimp only at HP
  clear h h2 hQ hh hd
  go_enter Tryd.func58, Tryd.ntmps58
  go_wp2_with fail
  refine HP.out.mono ?_
  clear HP
  rintro e w3 ⟨rfl, h3⟩
  have H3 := Lib.hid h3
  clear h3 a0 a1 b0 c0 b2 c2 a2
  go_wp2_with fail
  go_ret
  exact ⟨rfl, H3.out⟩
abbrev putF (ba bd bs : Nat) : Value := .func (.func 58) #[] #[.pointer (some ⟨ba, 0, none⟩), .pointer (some ⟨bd, 0, none⟩), .pointer (some ⟨bs, 0, none⟩)]
set_option maxRecDepth 100000 in
set_option maxHeartbeats 2000000 in
/-- the last put of Log -/
theorem log2_at {w W : World} {ba bd bs bp br : Nat} {p : Int} {q : BitVec 32} {a : Option Addr} {cap n : Nat} (l1 : List (Res w.heap.size)) {l2 : List (Res w.heap.size)} {g : Nat} {S : Dv} (h : Has w W (Blk _ bp (.cells #[putF ba bd bs] 103) :: Blk _ br (.cells #[.slice a n cap] 22) :: Blk _ ba (.cells #[.int .i64 p] 3) :: Blk _ bd (.cells #[pv g] 28) :: Blk _ bs (.cells #[.int .u32 (vu q)] 53) :: (l1 ++ DevR _ g S :: l2)))
    (hp0 : 0 ≤ p) (hp : p ≤ 1000) (hh : HalfLaid w) :
    Calls Tryd.prog 60 #[.pointer (some ⟨bp, 0, none⟩), .pointer (some ⟨br, 0, none⟩)] W fun e w' => e = .returned (.int .i64 (S.putAE ⟨p + 1, 3, q + 1#32, two n⟩)) ∧
      Has w w' (Blk _ ba (.cells #[.int .i64 (p + 1)] 3) :: Blk _ bd (.cells #[pv g] 28) :: Blk _ bs (.cells #[.int .u32 (vu q)] 53) :: (Blk _ bp (.cells #[putF ba bd bs] 103) :: Blk _ br (.cells #[.slice a n cap] 22) :: l1 ++ DevR _ g (S.putA ⟨p + 1, 3, q + 1#32, two n⟩) :: l2)) := by
  have h0 : Has w W (Blk _ ba (.cells #[.int .i64 p] 3) :: Blk _ bd (.cells #[pv g] 28) :: Blk _ bs (.cells #[.int .u32 (vu q)] 53) :: (Blk _ bp (.cells #[putF ba bd bs] 103) :: Blk _ br (.cells #[.slice a n cap] 22) :: l1 ++ DevR _ g S :: l2)) :=
    h.perm (List.perm_append_comm (l₁ := [_, _]) (l₂ := [_, _, _]) |>.append_right _)
  have H0 := Lib.hid h0
  have HS : Hid (∀ W', Has w W' (Blk _ ba (.cells #[.int .i64 p] 3) :: Blk _ bd (.cells #[pv g] 28) :: Blk _ bs (.cells #[.int .u32 (vu q)] 53) :: (Blk _ bp (.cells #[putF ba bd bs] 103) :: Blk _ br (.cells #[.slice a n cap] 22) :: l1 ++ DevR _ g S :: l2)) → (W'.cell? ⟨bp, 0, none⟩ = some (putF ba bd bs) ∧ W'.cell? ⟨br, 0, none⟩ = some (.slice a n cap) ∧ True)) :=
    fun W' h => ⟨h.cell 3 _ _ _ rfl 0 _ rfl, h.cell 4 _ _ _ rfl 0 _ rfl, trivial⟩
  have HL : Hid (∀ W', Has w W' (Blk _ ba (.cells #[.int .i64 p] 3) :: Blk _ bd (.cells #[pv g] 28) :: Blk _ bs (.cells #[.int .u32 (vu q)] 53) :: (Blk _ bp (.cells #[putF ba bd bs] 103) :: Blk _ br (.cells #[.slice a n cap] 22) :: l1 ++ DevR _ g S :: l2)) → _) := fun W' h => log1_at (_ :: _ :: l1) h 3 (two n) (show 2 ≤ 9223372036854775807 by decide) hp0 hp hh
  have HK : Hid (∀ W', Has w W' (Blk _ ba (.cells #[.int .i64 (p + 1)] 3) :: Blk _ bd (.cells #[pv g] 28) :: Blk _ bs (.cells #[.int .u32 (vu q)] 53) :: (Blk _ bp (.cells #[putF ba bd bs] 103) :: Blk _ br (.cells #[.slice a n cap] 22) :: l1 ++ DevR _ g (S.putA ⟨p + 1, 3, q + 1#32, two n⟩) :: l2)) → (W'.cell? ⟨bp, 0, none⟩ = some (putF ba bd bs) ∧ W'.cell? ⟨br, 0, none⟩ = some (.slice a n cap) ∧ True)) :=
    fun W' h => ⟨h.cell 3 _ _ _ rfl 0 _ rfl, h.cell 4 _ _ _ rfl 0 _ rfl, trivial⟩
  clear h h0 hh
  go_enter Tryd.func60, Tryd.ntmps60
  go_wp2_with fail
  refine wp_region_ordJ (fun W' => W'.cell? ⟨bp, 0, none⟩ = some (putF ba bd bs) ∧ W'.cell? ⟨br, 0, none⟩ = some (.slice a n cap) ∧ True) (OrdT.takes [0, 1, 2] (.one 3 (.one 4 (OrdT.takes [5] .done)))) (by kernel_rfl) (by kernel_rfl) (HS.out _ H0.out.drew) (fun wz hz => ?_)
  have h8 := H0.out.drew
  rw [← hz] at h8
  have H8 := Lib.hid h8
  clear hz h8 H0
  unfold OrdT.takes
  --ordt yyy
  iterate 3 (refine' t_yield _ rfl rfl rfl _ _; rotate_left; (intro w' hSw; obtain ⟨s0, s1, s2⟩ := hSw; go_simp; with_reducible rfl); simp only [Act.put, List.setIfInBounds_toArray, List.set_cons_zero, List.set_cons_succ])
  --end
  refine t_one rfl rfl (fun K hK => ?_)
  go_simp
  refine (short_any _ _).mono ?_
  rintro e w8 ⟨rfl, hB8⟩
  have H9 := Lib.hid (H8.out.below hB8)
  clear hB8 H8
  dsimp only
  refine hK _ _ (HS.out _ H9.out) ?_
  clear hK
  refine t_one rfl rfl (fun K hK => ?_)
  go_simp
  refine (HL.out _ H9.out).mono ?_
  rintro e w9 ⟨rfl, h10⟩
  have H10 := Lib.hid h10
  clear h10 H9
  dsimp only
  refine hK _ _ (HK.out _ H10.out) ?_
  clear hK
  unfold OrdT.takes
  --ordt y
  (refine' t_yield _ rfl rfl rfl _ _; rotate_left; (intro w' hSw; obtain ⟨s0, s1, s2⟩ := hSw; go_simp; with_reducible rfl); simp only [Act.put, List.setIfInBounds_toArray, List.set_cons_zero, List.set_cons_succ])
  --end
  refine t_done ?_
  go_wp2_with fail
  go_ret
  exact ⟨rfl, H10.out⟩
end Go.Proofs.YtfbkfdoekgnldaaDoor
namespace Go.Proofs.YtfbkfdoekgnldaaDoor
open Go.RowKit
open Lime
attribute [local go_sem] Oper.semAt_some setRow_alloc_at setRow_alloc_past setRow_drew g_same32 g_eq32 g_ne32 run_store_fn
theorem logP_get (l : Lay) (q : BitVec 32) (run : List Rec) : ∀ (i : Int) (k : Nat), (logPuts l q i run)[k]? = if h : k < run.length then some ⟨l.first + (i + k), 2, q, recBytes run[k]⟩ else if k = run.length then some ⟨l.first + (i + k), 3, q, two (i + k - 1)⟩ else none := by
  induction run with
  | nil =>
    intro i k
    cases k with
    | zero => simp [logPuts]
    | succ k => simp [logPuts]
  | cons r rest ih =>
    intro i k
    cases k with
    | zero => simp [logPuts]
    | succ k =>
      rw [logPuts, List.getElem?_cons_succ, ih (i + 1) k]
      have e : i + 1 + (k : Int) = i + ((k + 1 : Nat) : Int) := by omega
      rw [e]
      simp only [List.length_cons, Nat.add_lt_add_iff_right, Nat.add_right_cancel_iff, List.getElem_cons_succ]
theorem logP_len (l : Lay) (q : BitVec 32) (run : List Rec) : ∀ (i : Int), (logPuts l q i run).length = run.length + 1 := by
  induction run with
  | nil => intro i; rfl
  | cons r rest ih => intro i; rw [logPuts, List.length_cons, ih, List.length_cons]
theorem putAll_next (ps : List PutA) (S : Dv) (k : Nat) (a : PutA) (ha : ps[k]? = some a) (hz : (S.putAll (ps.take k)).2 = 0) :
    S.putAll (ps.take (k + 1)) = if ((S.putAll (ps.take k)).1).putAE a ≠ 0 then (((S.putAll (ps.take k)).1).putA a, ((S.putAll (ps.take k)).1).putAE a) else (((S.putAll (ps.take k)).1).putA a, 0) := by
  have h1 : (ps.take (k + 1))[k]? = some a := by rw [List.getElem?_take, if_pos (by omega)]; exact ha
  have h2 : (ps.take (k + 1)).take k = ps.take k := by rw [List.take_take, Nat.min_eq_left (by omega)]
  have h3 : (ps.take (k + 1)).drop (k + 1) = [] := List.drop_eq_nil_of_le (by rw [List.length_take]; omega)
  have := putAll_split (ps.take (k + 1)) S k _ h1 (by rw [h2, ← hz])
  rw [h2, h3] at this
  rw [this]; rfl
theorem valid_len {n : Nat} {l : Lay} {run : List Rec} (h : validM n l run = 0) : run.length ≤ 80 := by
  unfold validM at h
  by_cases h0 : l.most < run.length
  · rw [if_pos h0] at h; simp at h
  · unfold Lay.most at h0; omega
theorem valid_kind {n : Nat} {l : Lay} (run : List Rec) : ∀ before, validK n l before run = 0 → ∀ r ∈ run, r.data.size ≤ 96 := by
  induction run with
  | nil => intro _ _ r h; simp at h
  | cons x rest ih =>
    intro before h r hr
    unfold validK at h
    by_cases h0 : recE n l before x = 0
    · rw [if_neg (by simp [h0])] at h
      rcases List.mem_cons.1 hr with rfl | hr
      · unfold recE at h0
        split at h0
        · simp at h0
        · split at h0
          · simp at h0
          · split at h0
            · simp at h0
            · omega
      · exact ih _ h r hr
    · rw [if_pos h0] at h; exact absurd h h0
theorem u8_kind (k : Int) : IntKind.u8.wrap k = vb (UInt8.ofNat (k % 256).toNat) := by
  unfold IntKind.wrap vb; simp [IntKind.signed, IntKind.bits]; omega
theorem perm6 {α : Type} (a b c d e f : α) (t : List α) : (a :: b :: c :: d :: e :: f :: t).Perm (b :: f :: c :: a :: d :: e :: t) :=
  (List.perm_middle (l₁ := [a]) (a := b) (l₂ := c :: d :: e :: f :: t)).trans (.cons b ((List.perm_middle (l₁ := [a, c, d, e]) (a := f) (l₂ := t)).trans (.cons f (List.perm_middle (l₁ := [a]) (a := c) (l₂ := d :: e :: t)))))
theorem perm7 {α : Type} (s a b c d e f : α) (t : List α) : (s :: a :: b :: c :: d :: e :: f :: t).Perm (d :: e :: a :: b :: c :: s :: f :: t) :=
  (List.perm_middle (l₁ := [s, a, b, c]) (a := d) (l₂ := e :: f :: t)).trans (.cons d ((List.perm_middle (l₁ := [s, a, b, c]) (a := e) (l₂ := f :: t)).trans (.cons e (List.perm_middle (l₁ := [a, b, c]) (a := s) (l₂ := f :: t)).symm)))
set_option maxRecDepth 100000 in
set_option maxHeartbeats 8000000 in
theorem log_at {w W : World} (l1 : List (Res w.heap.size)) {l2 : List (Res w.heap.size)} {g : Nat} {S : Dv} {a : Option Addr} {cap : Nat} {run : List Rec} (h : Has w W (l1 ++ DevR _ g S :: l2)) (l : Lay) (hv : RunR _ (.slice a run.length cap) run ∈ l1 ++ l2)
    (hd : ∀ r ∈ run, r.data.size ≤ 9223372036854775807) (hlen : run.length ≤ 9223372036854775807) (hh : HalfLaid w) :
    Calls Tryd.prog 24 #[pv g, .agg #[.int .i64 l.first, .int .i64 l.size], .slice a run.length cap] W fun e w' => e = .returned (.int .i64 (logM S l run).2) ∧ Has w w' (l1 ++ DevR _ g (logM S l run).1 :: l2) := by
  have hmem : ∀ S' : Dv, DevR w.heap.size g S' ∈ l1 ++ DevR _ g S' :: l2 := fun S' => by simp
  have hvm : ∀ S' : Dv, RunR _ (.slice a run.length cap) run ∈ l1 ++ DevR _ g S' :: l2 := fun S' => by
    rcases List.mem_append.1 hv with h | h
    · exact List.mem_append_left _ h
    · exact List.mem_append_right _ (.tail _ h)
  have h1 := ((h.alloc (.cells #[pv g] 28)).allocAt (.cells #[.int .i64 l.first, .int .i64 l.size] 27) (W.heap.size + 1) (by simp)).allocAt (.cells #[.slice a run.length cap] 22) (W.heap.size + 1 + 1) (by simp)
  have HHD := Lib.hid (head_has h1 (.tail _ (.tail _ (.tail _ (hmem S)))) l hh)
  obtain ⟨R, hR⟩ : ∃ R, R = logM S l run := ⟨_, rfl⟩
  rw [← hR]
  have hRd : R = if (headM S l).2 ≠ 0 then (S, (headM S l).2) else if validM S.st.length l run ≠ 0 then (S, validM S.st.length l run) else Dv.done (S.putAll (logPuts l ((headM S l).1 + 1#32) 1 run)) := hR
  have hck : (headM S l).2 = 0 → l.check = 0 := by
    intro h0
    unfold headM at h0
    by_cases hc : l.check = 0
    · exact hc
    · rw [if_pos hc] at h0; exact h0
  obtain ⟨⟨q, c⟩, hq⟩ : ∃ x, x = headM S l := ⟨_, rfl⟩
  rw [← hq] at HHD hRd hck
  dsimp only at HHD hRd hck
  have HVL : Hid (c = 0 → ∀ W' (x y z t : Res w.heap.size), Has w W' (x :: y :: z :: t :: (l1 ++ DevR _ g S :: l2)) → Calls Tryd.prog 57 #[pv g, .agg #[.int .i64 l.first, .int .i64 l.size], .slice a run.length cap] W' fun e w' => e = .returned (.int .i64 (validM S.st.length l run)) ∧ Has w w' (x :: y :: z :: t :: (l1 ++ DevR _ g S :: l2))) :=
    fun hc W' x y z t h => valid_has h (.tail _ (.tail _ (.tail _ (.tail _ (hmem S))))) l (hck hc) (.tail _ (.tail _ (.tail _ (.tail _ (hvm S))))) hd hlen
  obtain ⟨V, hV⟩ : ∃ V, V = validM S.st.length l run := ⟨_, rfl⟩
  rw [← hV] at HVL hRd
  have HRD := Lib.hid hRd
  have HV := Lib.hid hV
  have HVM := Lib.hid hvm
  have HHL := Lib.hid hh
  have HCK := Lib.hid hck
  clear h h1 hh hR hRd hq hV hvm hmem hv hd hck
  go_enter Tryd.func24, Tryd.ntmps24
  go_wp2_with fail
  refine HHD.out.mono ?_
  clear HHD
  rintro e w2 ⟨rfl, h2⟩
  have d0 := h2.cell 2 _ _ _ rfl 0 _ rfl
  have y0 := h2.cell 1 _ _ _ rfl 0 _ rfl
  have y1 := h2.cell 1 _ _ _ rfl 1 _ rfl
  have v0 := h2.cell 0 _ _ _ rfl 0 _ rfl
  have zz := block_lt_of_cell v0
  have zd := block_lt_of_cell d0
  have zy := block_lt_of_cell y0
  dsimp only at zz zd zy
  have H3 := Lib.hid (h2.alloc (.cells #[.int .u32 (vu q)] 53))
  clear h2
  by_cases hc : c = 0
  · subst hc
    have HVL2 := Lib.hid (HVL.out rfl _ _ _ _ _ H3.out)
    have hc2 := HCK.out rfl
    obtain ⟨k1, k2, k3, k4⟩ := Lay.check_ok hc2
    clear HVL hc2 HCK
    go_wp2_with fail
    refine HVL2.out.mono ?_
    clear HVL2 d0 y0 y1 v0 zz zd zy H3
    rintro e w4 ⟨rfl, h4⟩
    by_cases hv0 : V = 0
    · subst hv0
      have hl80 := valid_len HV.out.symm
      have hdl : ∀ r ∈ run, r.data.size ≤ 96 := valid_kind run [] (by have := HV.out.symm; unfold validM at this; by_cases h0 : l.most < run.length; rw [if_pos h0] at this; simp at this; rw [if_neg h0] at this; exact this)
      have HDL := Lib.hid hdl
      have HR2 : Hid (R = Dv.done (S.putAll (logPuts l (q + 1#32) 1 run))) := by rw [HRD.out, if_neg (by simp), if_neg (by simp)]; exact Lib.hid rfl
      have y0 := h4.cell 2 _ _ _ rfl 0 _ rfl
      have y1 := h4.cell 2 _ _ _ rfl 1 _ rfl
      have v0 := h4.cell 1 _ _ _ rfl 0 _ rfl
      have zv := block_lt_of_cell v0
      dsimp only at zv
      have zv2 : W.heap.size + 1 + 1 < w4.heap.size + 1 := by omega
      have h5 := (h4.alloc (.cells #[.int .i64 l.first] 3)).allocAt (.cells #[putF w4.heap.size W.heap.size w2.heap.size] 103) (w4.heap.size + 1) (by simp)
      have H5 := Lib.hid h5
      clear h4 h5 hdl HRD
      go_wp2_with fail
      have h6 := H5.out.perm (perm6 _ _ _ _ _ _ _)
      have H6 : Hid (Has w ((w4.alloc (.cells #[.int .i64 l.first] 3)).alloc (.cells #[putF w4.heap.size W.heap.size w2.heap.size] 103)) (Blk _ w4.heap.size (.cells #[.int .i64 (l.first + 0)] 3) :: Blk _ W.heap.size (.cells #[pv g] 28) :: Blk _ w2.heap.size (.cells #[.int .u32 (vu q)] 53) :: (Blk _ (w4.heap.size + 1) (.cells #[putF w4.heap.size W.heap.size w2.heap.size] 103) :: Blk _ (W.heap.size + 1 + 1) (.cells #[.slice a run.length cap] 22) :: Blk _ (W.heap.size + 1) (.cells #[.int .i64 l.first, .int .i64 l.size] 27) :: l1 ++ DevR _ g S :: l2))) := by rw [Int.add_zero]; exact Lib.hid h6
      clear h6 H5 y0 y1 v0 zv zv2
      obtain ⟨LP, hLP⟩ : ∃ LP, LP = logPuts l (q + 1#32) 1 run := ⟨_, rfl⟩
      rw [← hLP] at HR2
      have HLP := Lib.hid hLP
      clear hLP
      go_loopw [36] (fun i wr => ∃ (k : Nat), i = .int .i64 (k : Int) ∧ k ≤ run.length ∧ (S.putAll (LP.take k)).2 = 0 ∧ Has w wr (Blk _ w4.heap.size (.cells #[.int .i64 (l.first + (k : Int))] 3) :: Blk _ W.heap.size (.cells #[pv g] 28) :: Blk _ w2.heap.size (.cells #[.int .u32 (vu q)] 53) :: (Blk _ (w4.heap.size + 1) (.cells #[putF w4.heap.size W.heap.size w2.heap.size] 103) :: Blk _ (W.heap.size + 1 + 1) (.cells #[.slice a run.length cap] 22) :: Blk _ (W.heap.size + 1) (.cells #[.int .i64 l.first, .int .i64 l.size] 27) :: l1 ++ DevR _ g (S.putAll (LP.take k)).1 :: l2))) (fun i _ => run.length - (intOf i).toNat)
      case atStart => exact ⟨0, rfl, Nat.zero_le _, rfl, H6.out⟩
      case round =>
        obtain ⟨k, rfl, hk, hz, hH⟩ := hrel
        clear H6
        obtain ⟨D, hD⟩ : ∃ D, D = (S.putAll (LP.take k)).1 := ⟨_, rfl⟩
        rw [← hD] at hH
        by_cases hlt : k < run.length
        · obtain ⟨r, hr⟩ : ∃ r, run[k]? = some r := ⟨_, List.getElem?_eq_getElem hlt⟩
          have hre : run[k] = r := (List.getElem?_eq_some_iff.1 hr).2
          obtain ⟨ba, oa, cap2, hv2, rr⟩ := (hH.rd (.tail _ (.tail _ (.tail _ (.tail _ (.tail _ (.tail _ (HVM.out D))))))) ).elem recL_len k r hr
          injection hv2 with hv2 _ hcap
          subst hcap
          subst hv2
          have r0 : wr.cell? ⟨ba, oa + k * 3, none⟩ = some (.int .i64 r.at_) := rr 0 _ rfl
          have r1 : wr.cell? ⟨ba, oa + k * 3 + 1, none⟩ = some (.int .i64 r.kind) := rr 1 _ rfl
          have r2 : wr.cell? ⟨ba, oa + k * 3 + 2, none⟩ = some (.string r.data) := rr 2 _ rfl
          have hix := fun w => run_index_rec ba oa run.length cap k hlt w
          have hki : (k : Int) < (run.length : Int) := by omega
          have hpk : LP[k]? = some ⟨l.first + (k : Int) + 1, 2, q + 1#32, recBytes r⟩ := by
            rw [HLP.out, logP_get, dif_pos hlt, hre, show l.first + (1 + (k : Int)) = l.first + (k : Int) + 1 by omega]
          have hsp := putAll_split LP S k _ hpk (by rw [← hz])
          have hnx := putAll_next LP S k _ hpk hz
          rw [← hD] at hsp hnx
          have hd1 : (recBytes r).size ≤ 9223372036854775807 := by
            have h1 := HDL.out r (List.mem_of_getElem? hr)
            have h2 : (recBytes r).size = 3 + r.data.size := by
              unfold recBytes two
              simp [ByteArray.size_append]
              rfl
            omega
          have hd96 := HDL.out r (List.mem_of_getElem? hr)
          have t2 : (two r.at_).size = 2 := rfl
          have n1 : ¬ 9223372036854775807 < (two r.at_).size + 1 := by omega
          have n2 : ¬ 9223372036854775807 < (two r.at_).size + 1 + r.data.size := by omega
          obtain ⟨C, hC⟩ : ∃ C, C = UInt8.ofNat (r.kind % 256).toNat := ⟨_, rfl⟩
          have hcv0 : IntKind.u8.wrap r.kind = vb C := by rw [hC]; exact u8_kind r.kind
          have hrb : recBytes r = two r.at_ ++ ⟨#[C]⟩ ++ r.data := by rw [hC]; rfl
          rw [hrb] at hd1 hsp hnx
          have HSP := Lib.hid hsp
          have HNX := Lib.hid hnx
          have h2 := hH.alloc (.cells #[.int .i64 r.at_, .int .i64 r.kind, .string r.data] 67)
          have h3 : Has w (wr.alloc (.cells #[.int .i64 r.at_, .int .i64 r.kind, .string r.data] 67)) (Blk _ w4.heap.size (.cells #[.int .i64 (l.first + (k : Int))] 3) :: Blk _ W.heap.size (.cells #[pv g] 28) :: Blk _ w2.heap.size (.cells #[.int .u32 (vu q)] 53) :: (Blk _ wr.heap.size (.cells #[.int .i64 r.at_, .int .i64 r.kind, .string r.data] 67) :: Blk _ (w4.heap.size + 1) (.cells #[putF w4.heap.size W.heap.size w2.heap.size] 103) :: Blk _ (W.heap.size + 1 + 1) (.cells #[.slice (some ⟨ba, oa, none⟩) run.length cap] 22) :: Blk _ (W.heap.size + 1) (.cells #[.int .i64 l.first, .int .i64 l.size] 27) :: l1 ++ DevR _ g D :: l2)) := h2.perm (List.perm_middle (l₁ := [_, _, _])).symm
          have H3 := Lib.hid h3
          have HSZ : Hid (∀ W', Has w W' (Blk _ w4.heap.size (.cells #[.int .i64 (l.first + (k : Int))] 3) :: Blk _ W.heap.size (.cells #[pv g] 28) :: Blk _ w2.heap.size (.cells #[.int .u32 (vu q)] 53) :: (Blk _ wr.heap.size (.cells #[.int .i64 r.at_, .int .i64 r.kind, .string r.data] 67) :: Blk _ (w4.heap.size + 1) (.cells #[putF w4.heap.size W.heap.size w2.heap.size] 103) :: Blk _ (W.heap.size + 1 + 1) (.cells #[.slice (some ⟨ba, oa, none⟩) run.length cap] 22) :: Blk _ (W.heap.size + 1) (.cells #[.int .i64 l.first, .int .i64 l.size] 27) :: l1 ++ DevR _ g D :: l2)) → ((W'.cell? ⟨wr.heap.size, 0, none⟩ = some (.int .i64 r.at_) ∧ W'.cell? ⟨wr.heap.size, 1, none⟩ = some (.int .i64 r.kind)) ∧ (W'.cell? ⟨wr.heap.size, 2, none⟩ = some (.string r.data) ∧ W'.cell? ⟨w4.heap.size + 1, 0, none⟩ = some (putF w4.heap.size W.heap.size w2.heap.size)) ∧ True)) := fun W' h => ⟨⟨h.cell 3 _ _ _ rfl 0 _ rfl, h.cell 3 _ _ _ rfl 1 _ rfl⟩, ⟨h.cell 3 _ _ _ rfl 2 _ rfl, h.cell 4 _ _ _ rfl 0 _ rfl⟩, trivial⟩
          have HSN : Hid (∀ W' S', Has w W' (Blk _ w4.heap.size (.cells #[.int .i64 (l.first + (k : Int) + 1)] 3) :: Blk _ W.heap.size (.cells #[pv g] 28) :: Blk _ w2.heap.size (.cells #[.int .u32 (vu q)] 53) :: (Blk _ wr.heap.size (.cells #[.int .i64 r.at_, .int .i64 r.kind, .string r.data] 67) :: Blk _ (w4.heap.size + 1) (.cells #[putF w4.heap.size W.heap.size w2.heap.size] 103) :: Blk _ (W.heap.size + 1 + 1) (.cells #[.slice (some ⟨ba, oa, none⟩) run.length cap] 22) :: Blk _ (W.heap.size + 1) (.cells #[.int .i64 l.first, .int .i64 l.size] 27) :: l1 ++ DevR _ g S' :: l2)) → ((W'.cell? ⟨wr.heap.size, 0, none⟩ = some (.int .i64 r.at_) ∧ W'.cell? ⟨wr.heap.size, 1, none⟩ = some (.int .i64 r.kind)) ∧ (W'.cell? ⟨wr.heap.size, 2, none⟩ = some (.string r.data) ∧ W'.cell? ⟨w4.heap.size + 1, 0, none⟩ = some (putF w4.heap.size W.heap.size w2.heap.size)) ∧ True)) := fun W' S' h => ⟨⟨h.cell 3 _ _ _ rfl 0 _ rfl, h.cell 3 _ _ _ rfl 1 _ rfl⟩, ⟨h.cell 3 _ _ _ rfl 2 _ rfl, h.cell 4 _ _ _ rfl 0 _ rfl⟩, trivial⟩
          have HL : Hid (∀ W', Has w W' (Blk _ w4.heap.size (.cells #[.int .i64 (l.first + (k : Int))] 3) :: Blk _ W.heap.size (.cells #[pv g] 28) :: Blk _ w2.heap.size (.cells #[.int .u32 (vu q)] 53) :: (Blk _ wr.heap.size (.cells #[.int .i64 r.at_, .int .i64 r.kind, .string r.data] 67) :: Blk _ (w4.heap.size + 1) (.cells #[putF w4.heap.size W.heap.size w2.heap.size] 103) :: Blk _ (W.heap.size + 1 + 1) (.cells #[.slice (some ⟨ba, oa, none⟩) run.length cap] 22) :: Blk _ (W.heap.size + 1) (.cells #[.int .i64 l.first, .int .i64 l.size] 27) :: l1 ++ DevR _ g D :: l2)) → _) := fun W' h => log1_at (_ :: _ :: _ :: _ :: l1) h 2 (two r.at_ ++ ⟨#[C]⟩ ++ r.data) hd1 (by omega) (by omega) HHL.out
          have zb := block_lt_of_cell r0
          dsimp only at zb
          clear hr hre hpk hsp hnx hD hH h2 h3 rr hz hd1 hC hrb hd96 t2
          go_wp2_with fail
          refine wp_region_ordJ (fun W' => (W'.cell? ⟨wr.heap.size, 0, none⟩ = some (.int .i64 r.at_) ∧ W'.cell? ⟨wr.heap.size, 1, none⟩ = some (.int .i64 r.kind)) ∧ (W'.cell? ⟨wr.heap.size, 2, none⟩ = some (.string r.data) ∧ W'.cell? ⟨w4.heap.size + 1, 0, none⟩ = some (putF w4.heap.size W.heap.size w2.heap.size)) ∧ True) (OrdT.takes [0, 1, 2, 4, 5, 6, 10, 11] (.two 3 (.one 7 (.one 8 (OrdT.takes [9, 12] (.one 13 (OrdT.takes [14] .done))))) 7 (.two 3 (.one 8 (OrdT.takes [9, 12] (.one 13 (OrdT.takes [14] .done)))) 8 (.one 3 (OrdT.takes [9, 12] (.one 13 (OrdT.takes [14] .done))))))) (by kernel_rfl) (by kernel_rfl) (HSZ.out _ H3.out.drew) (fun wz hz => ?_)
          have h8 := H3.out.drew
          rw [← hz] at h8
          have H8 := Lib.hid h8
          clear hz h8 H3 r0 r1 r2 zb
          have HFIN : Hid (∀ W', Has w W' (Blk _ w4.heap.size (.cells #[.int .i64 (l.first + (k : Int) + 1)] 3) :: Blk _ W.heap.size (.cells #[pv g] 28) :: Blk _ w2.heap.size (.cells #[.int .u32 (vu q)] 53) :: (Blk _ (w4.heap.size + 1) (.cells #[putF w4.heap.size W.heap.size w2.heap.size] 103) :: Blk _ (W.heap.size + 1 + 1) (.cells #[.slice (some ⟨ba, oa, none⟩) run.length cap] 22) :: Blk _ (W.heap.size + 1) (.cells #[.int .i64 l.first, .int .i64 l.size] 27) :: l1 ++ DevR _ g (D.putA ⟨l.first + (k : Int) + 1, 2, q + 1#32, two r.at_ ++ ⟨#[C]⟩ ++ r.data⟩) :: l2)) → True) := fun _ _ => trivial
          clear HFIN
          unfold OrdT.takes
          --ordt yyyyyyyy
          iterate 8 (refine' t_yield _ rfl rfl rfl _ _; rotate_left; (intro w' hSw; obtain ⟨s0, s1, s2⟩ := hSw; go_simp; with_reducible rfl); simp only [Act.put, List.setIfInBounds_toArray, List.set_cons_zero, List.set_cons_succ])
          --end
          refine t_two rfl rfl rfl rfl (fun K hK => ?_) (fun K hK => ?_)
          · go_simp
            refine (short_any _ _).mono ?_
            rintro e w8 ⟨rfl, hB8⟩
            have h9 := H8.out.below hB8
            have H9 := Lib.hid h9
            dsimp only
            refine hK _ _ (HSZ.out _ H9.out) ?_
            clear hK
            clear h9 hB8 H8
            have ha := H9.out.alloc (.cells #[.int .u8 (vb C)] 5)
            have hcv := conv1 (w8.alloc (.cells #[.int .u8 (vb C)] 5)) w8.heap.size C (heap_alloc_new _ _)
            have H12 := Lib.hid ha.drop
            clear ha H9
            refine t_one rfl rfl (fun K hK => ?_)
            go_simp
            refine hK _ _ (HSZ.out _ H12.out) ?_
            clear hK
            refine t_one rfl rfl (fun K hK => ?_)
            go_simp
            refine hK _ _ (HSZ.out _ H12.out) ?_
            clear hK hcv
            unfold OrdT.takes
            --ordt yy
            iterate 2 (refine' t_yield _ rfl rfl rfl _ _; rotate_left; (intro w' hSw; obtain ⟨s0, s1, s2⟩ := hSw; go_simp; with_reducible rfl); simp only [Act.put, List.setIfInBounds_toArray, List.set_cons_zero, List.set_cons_succ])
            --end
            refine t_one rfl rfl (fun K hK => ?_)
            go_simp
            refine (HL.out _ H12.out).mono ?_
            rintro e w9 ⟨rfl, h10⟩
            have H10 := Lib.hid h10
            clear h10 H12
            dsimp only
            refine hK _ _ (HSN.out _ _ H10.out) ?_
            clear hK
            unfold OrdT.takes
            --ordt y
            (refine' t_yield _ rfl rfl rfl _ _; rotate_left; (intro w' hSw; obtain ⟨s0, s1, s2⟩ := hSw; go_simp; with_reducible rfl); simp only [Act.put, List.setIfInBounds_toArray, List.set_cons_zero, List.set_cons_succ])
            --end
            refine t_done ?_
            have H11 : Hid (Has w w9 (Blk _ w4.heap.size (.cells #[.int .i64 (l.first + (k : Int) + 1)] 3) :: Blk _ W.heap.size (.cells #[pv g] 28) :: Blk _ w2.heap.size (.cells #[.int .u32 (vu q)] 53) :: (Blk _ (w4.heap.size + 1) (.cells #[putF w4.heap.size W.heap.size w2.heap.size] 103) :: Blk _ (W.heap.size + 1 + 1) (.cells #[.slice (some ⟨ba, oa, none⟩) run.length cap] 22) :: Blk _ (W.heap.size + 1) (.cells #[.int .i64 l.first, .int .i64 l.size] 27) :: l1 ++ DevR _ g (D.putA ⟨l.first + (k : Int) + 1, 2, q + 1#32, two r.at_ ++ ⟨#[C]⟩ ++ r.data⟩) :: l2))) := (H10.out.perm (List.perm_middle (l₁ := [_, _, _]))).drop
            clear H10
            obtain ⟨E, hE⟩ : ∃ E, E = D.putAE ⟨l.first + (k : Int) + 1, 2, q + 1#32, two r.at_ ++ ⟨#[C]⟩ ++ r.data⟩ := ⟨_, rfl⟩
            rw [← hE] at HSP HNX ⊢
            clear hE
            by_cases he : E = 0
            · subst he
              have HN2 : Hid (S.putAll (LP.take (k + 1)) = (D.putA ⟨l.first + (k : Int) + 1, 2, q + 1#32, two r.at_ ++ ⟨#[C]⟩ ++ r.data⟩, 0)) := by rw [HNX.out, if_neg (by simp)]; exact Lib.hid rfl
              go_wp2_with fail
              go_roundw
              case rel => exact ⟨k + 1, by go_num, by omega, by rw [HN2.out], by rw [HN2.out, show l.first + ((k + 1 : Nat) : Int) = l.first + (k : Int) + 1 by omega]; exact H11.out⟩
              case measure => simp [intOf]; omega
            · have he2 : (E != 0) = true := by simpa using he
              have HN2 : Hid (R = (D.putA ⟨l.first + (k : Int) + 1, 2, q + 1#32, two r.at_ ++ ⟨#[C]⟩ ++ r.data⟩, E)) := by rw [HR2.out]; unfold Dv.done; rw [HSP.out, if_pos he]; exact Lib.hid (if_pos he)
              clear he
              go_wp2_with fail
              go_ret
              exact ⟨by rw [HN2.out]; rfl, by rw [HN2.out]; exact H11.out.drop.drop.drop.drop.drop.drop⟩
          · have ha := H8.out.alloc (.cells #[.int .u8 (vb C)] 5)
            have hb := (ha.blk 0 _ _ rfl).1
            have H12 := Lib.hid ha
            have hzb : wz.heap.size < (wz.alloc (.cells #[.int .u8 (vb C)] 5)).heap.size := by simp
            have HB := Lib.hid hb
            clear ha H8 hb
            go_simp
            refine hK _ _ (HSZ.out _ H12.out.drop) ?_
            clear hK
            refine t_two rfl rfl rfl rfl (fun K hK => ?_) (fun K hK => ?_)
            · go_simp
              refine (short_any _ _).mono ?_
              rintro e w8 ⟨rfl, hB8⟩
              have h9 := H12.out.below hB8
              have H9 := Lib.hid h9
              dsimp only
              refine hK _ _ (HSZ.out _ H9.out.drop) ?_
              clear hK
              have hcv := conv1 w8 wz.heap.size C (H9.out.blk 0 _ _ rfl).1
              have H13 := Lib.hid H9.out.drop
              clear h9 hB8 H12 H9
              refine t_one rfl rfl (fun K hK => ?_)
              go_simp
              refine hK _ _ (HSZ.out _ H13.out) ?_
              clear hK hcv
              unfold OrdT.takes
              --ordt yy
              iterate 2 (refine' t_yield _ rfl rfl rfl _ _; rotate_left; (intro w' hSw; obtain ⟨s0, s1, s2⟩ := hSw; go_simp; with_reducible rfl); simp only [Act.put, List.setIfInBounds_toArray, List.set_cons_zero, List.set_cons_succ])
              --end
              refine t_one rfl rfl (fun K hK => ?_)
              go_simp
              refine (HL.out _ H13.out).mono ?_
              rintro e w9 ⟨rfl, h10⟩
              have H10 := Lib.hid h10
              clear h10 H13
              dsimp only
              refine hK _ _ (HSN.out _ _ H10.out) ?_
              clear hK
              unfold OrdT.takes
              --ordt y
              (refine' t_yield _ rfl rfl rfl _ _; rotate_left; (intro w' hSw; obtain ⟨s0, s1, s2⟩ := hSw; go_simp; with_reducible rfl); simp only [Act.put, List.setIfInBounds_toArray, List.set_cons_zero, List.set_cons_succ])
              --end
              refine t_done ?_
              have H11 : Hid (Has w w9 (Blk _ w4.heap.size (.cells #[.int .i64 (l.first + (k : Int) + 1)] 3) :: Blk _ W.heap.size (.cells #[pv g] 28) :: Blk _ w2.heap.size (.cells #[.int .u32 (vu q)] 53) :: (Blk _ (w4.heap.size + 1) (.cells #[putF w4.heap.size W.heap.size w2.heap.size] 103) :: Blk _ (W.heap.size + 1 + 1) (.cells #[.slice (some ⟨ba, oa, none⟩) run.length cap] 22) :: Blk _ (W.heap.size + 1) (.cells #[.int .i64 l.first, .int .i64 l.size] 27) :: l1 ++ DevR _ g (D.putA ⟨l.first + (k : Int) + 1, 2, q + 1#32, two r.at_ ++ ⟨#[C]⟩ ++ r.data⟩) :: l2))) := (H10.out.perm (List.perm_middle (l₁ := [_, _, _]))).drop
              clear H10
              obtain ⟨E, hE⟩ : ∃ E, E = D.putAE ⟨l.first + (k : Int) + 1, 2, q + 1#32, two r.at_ ++ ⟨#[C]⟩ ++ r.data⟩ := ⟨_, rfl⟩
              rw [← hE] at HSP HNX ⊢
              clear hE
              by_cases he : E = 0
              · subst he
                have HN2 : Hid (S.putAll (LP.take (k + 1)) = (D.putA ⟨l.first + (k : Int) + 1, 2, q + 1#32, two r.at_ ++ ⟨#[C]⟩ ++ r.data⟩, 0)) := by rw [HNX.out, if_neg (by simp)]; exact Lib.hid rfl
                go_wp2_with fail
                go_roundw
                case rel => exact ⟨k + 1, by go_num, by omega, by rw [HN2.out], by rw [HN2.out, show l.first + ((k + 1 : Nat) : Int) = l.first + (k : Int) + 1 by omega]; exact H11.out⟩
                case measure => simp [intOf]; omega
              · have he2 : (E != 0) = true := by simpa using he
                have HN2 : Hid (R = (D.putA ⟨l.first + (k : Int) + 1, 2, q + 1#32, two r.at_ ++ ⟨#[C]⟩ ++ r.data⟩, E)) := by rw [HR2.out]; unfold Dv.done; rw [HSP.out, if_pos he]; exact Lib.hid (if_pos he)
                clear he
                go_wp2_with fail
                go_ret
                exact ⟨by rw [HN2.out]; rfl, by rw [HN2.out]; exact H11.out.drop.drop.drop.drop.drop.drop⟩
            · have hcv := conv1 (wz.alloc (.cells #[.int .u8 (vb C)] 5)) wz.heap.size C HB.out
              go_simp
              refine hK _ _ (HSZ.out _ H12.out.drop) ?_
              clear hK hcv
              have H14 := Lib.hid H12.out.drop
              clear H12
              refine t_one rfl rfl (fun K hK => ?_)
              go_simp
              refine (short_any _ _).mono ?_
              rintro e w8 ⟨rfl, hB8⟩
              have h9 := H14.out.below hB8
              have H9 := Lib.hid h9
              dsimp only
              refine hK _ _ (HSZ.out _ H9.out) ?_
              clear hK
              clear h9 hB8 H14
              unfold OrdT.takes
              --ordt yy
              iterate 2 (refine' t_yield _ rfl rfl rfl _ _; rotate_left; (intro w' hSw; obtain ⟨s0, s1, s2⟩ := hSw; go_simp; with_reducible rfl); simp only [Act.put, List.setIfInBounds_toArray, List.set_cons_zero, List.set_cons_succ])
              --end
              refine t_one rfl rfl (fun K hK => ?_)
              go_simp
              refine (HL.out _ H9.out).mono ?_
              rintro e w9 ⟨rfl, h10⟩
              have H10 := Lib.hid h10
              clear h10 H9
              dsimp only
              refine hK _ _ (HSN.out _ _ H10.out) ?_
              clear hK
              unfold OrdT.takes
              --ordt y
              (refine' t_yield _ rfl rfl rfl _ _; rotate_left; (intro w' hSw; obtain ⟨s0, s1, s2⟩ := hSw; go_simp; with_reducible rfl); simp only [Act.put, List.setIfInBounds_toArray, List.set_cons_zero, List.set_cons_succ])
              --end
              refine t_done ?_
              have H11 : Hid (Has w w9 (Blk _ w4.heap.size (.cells #[.int .i64 (l.first + (k : Int) + 1)] 3) :: Blk _ W.heap.size (.cells #[pv g] 28) :: Blk _ w2.heap.size (.cells #[.int .u32 (vu q)] 53) :: (Blk _ (w4.heap.size + 1) (.cells #[putF w4.heap.size W.heap.size w2.heap.size] 103) :: Blk _ (W.heap.size + 1 + 1) (.cells #[.slice (some ⟨ba, oa, none⟩) run.length cap] 22) :: Blk _ (W.heap.size + 1) (.cells #[.int .i64 l.first, .int .i64 l.size] 27) :: l1 ++ DevR _ g (D.putA ⟨l.first + (k : Int) + 1, 2, q + 1#32, two r.at_ ++ ⟨#[C]⟩ ++ r.data⟩) :: l2))) := (H10.out.perm (List.perm_middle (l₁ := [_, _, _]))).drop
              clear H10
              obtain ⟨E, hE⟩ : ∃ E, E = D.putAE ⟨l.first + (k : Int) + 1, 2, q + 1#32, two r.at_ ++ ⟨#[C]⟩ ++ r.data⟩ := ⟨_, rfl⟩
              rw [← hE] at HSP HNX ⊢
              clear hE
              by_cases he : E = 0
              · subst he
                have HN2 : Hid (S.putAll (LP.take (k + 1)) = (D.putA ⟨l.first + (k : Int) + 1, 2, q + 1#32, two r.at_ ++ ⟨#[C]⟩ ++ r.data⟩, 0)) := by rw [HNX.out, if_neg (by simp)]; exact Lib.hid rfl
                go_wp2_with fail
                go_roundw
                case rel => exact ⟨k + 1, by go_num, by omega, by rw [HN2.out], by rw [HN2.out, show l.first + ((k + 1 : Nat) : Int) = l.first + (k : Int) + 1 by omega]; exact H11.out⟩
                case measure => simp [intOf]; omega
              · have he2 : (E != 0) = true := by simpa using he
                have HN2 : Hid (R = (D.putA ⟨l.first + (k : Int) + 1, 2, q + 1#32, two r.at_ ++ ⟨#[C]⟩ ++ r.data⟩, E)) := by rw [HR2.out]; unfold Dv.done; rw [HSP.out, if_pos he]; exact Lib.hid (if_pos he)
                clear he
                go_wp2_with fail
                go_ret
                exact ⟨by rw [HN2.out]; rfl, by rw [HN2.out]; exact H11.out.drop.drop.drop.drop.drop.drop⟩
        · obtain rfl : k = run.length := by omega
          have hpk : LP[run.length]? = some ⟨l.first + (run.length : Int) + 1, 3, q + 1#32, two run.length⟩ := by
            rw [HLP.out, logP_get, dif_neg (by omega), if_pos rfl, show l.first + (1 + (run.length : Int)) = l.first + (run.length : Int) + 1 by omega, show 1 + (run.length : Int) - 1 = run.length by omega]
          have hsp := putAll_split LP S run.length _ hpk (by rw [← hz])
          have hdr : LP.drop (run.length + 1) = [] := List.drop_eq_nil_of_le (by rw [HLP.out, logP_len]; omega)
          rw [← hD, hdr] at hsp
          obtain ⟨E, hE⟩ : ∃ E, E = D.putAE ⟨l.first + (run.length : Int) + 1, 3, q + 1#32, two run.length⟩ := ⟨_, rfl⟩
          obtain ⟨D1, hD1⟩ : ∃ D1, D1 = D.putA ⟨l.first + (run.length : Int) + 1, 3, q + 1#32, two run.length⟩ := ⟨_, rfl⟩
          rw [← hE, ← hD1] at hsp
          have hRE : R = if E ≠ 0 then (D1, E) else (D1.flush, D1.flushE) := by
            rw [HR2.out, hsp]
            unfold Dv.done
            by_cases he : E ≠ 0
            · rw [if_pos he, if_pos he]
            · rw [if_neg he, if_neg he]; rfl
          have d0 := hH.cell 1 _ _ _ rfl 0 _ rfl
          have h2 := hH.alloc (.cells #[.func (.func 60) #[] #[.pointer (some ⟨w4.heap.size + 1, 0, none⟩), .pointer (some ⟨W.heap.size + 1 + 1, 0, none⟩)], .func (.func 41) #[pv g] #[]] 82)
          have h3 : Has w (wr.alloc (.cells #[.func (.func 60) #[] #[.pointer (some ⟨w4.heap.size + 1, 0, none⟩), .pointer (some ⟨W.heap.size + 1 + 1, 0, none⟩)], .func (.func 41) #[pv g] #[]] 82)) (Blk _ (w4.heap.size + 1) (.cells #[putF w4.heap.size W.heap.size w2.heap.size] 103) :: Blk _ (W.heap.size + 1 + 1) (.cells #[.slice a run.length cap] 22) :: Blk _ w4.heap.size (.cells #[.int .i64 (l.first + (run.length : Int))] 3) :: Blk _ W.heap.size (.cells #[pv g] 28) :: Blk _ w2.heap.size (.cells #[.int .u32 (vu q)] 53) :: (Blk _ wr.heap.size (.cells #[.func (.func 60) #[] #[.pointer (some ⟨w4.heap.size + 1, 0, none⟩), .pointer (some ⟨W.heap.size + 1 + 1, 0, none⟩)], .func (.func 41) #[pv g] #[]] 82) :: Blk _ (W.heap.size + 1) (.cells #[.int .i64 l.first, .int .i64 l.size] 27) :: l1 ++ DevR _ g D :: l2)) := h2.perm (perm7 _ _ _ _ _ _ _ _)
          have HT : Hid (Calls Tryd.prog 36 #[.slice (some ⟨wr.heap.size, 0, none⟩) 2 2] (wr.alloc (.cells #[.func (.func 60) #[] #[.pointer (some ⟨w4.heap.size + 1, 0, none⟩), .pointer (some ⟨W.heap.size + 1 + 1, 0, none⟩)], .func (.func 41) #[pv g] #[]] 82)) fun e w' => ∃ c, e = .returned (.int .i64 c) ∧ (c = R.2 ∧ Has w w' (l1 ++ DevR _ g R.1 :: l2))) := by
            refine then_any [⟨60, #[], #[.pointer (some ⟨w4.heap.size + 1, 0, none⟩), .pointer (some ⟨W.heap.size + 1 + 1, 0, none⟩)]⟩, ⟨41, #[pv g], #[]⟩] wr.heap.size 2 (fun k W' => (k = 0 → Has w W' (Blk _ (w4.heap.size + 1) (.cells #[putF w4.heap.size W.heap.size w2.heap.size] 103) :: Blk _ (W.heap.size + 1 + 1) (.cells #[.slice a run.length cap] 22) :: Blk _ w4.heap.size (.cells #[.int .i64 (l.first + (run.length : Int))] 3) :: Blk _ W.heap.size (.cells #[pv g] 28) :: Blk _ w2.heap.size (.cells #[.int .u32 (vu q)] 53) :: (Blk _ wr.heap.size (.cells #[.func (.func 60) #[] #[.pointer (some ⟨w4.heap.size + 1, 0, none⟩), .pointer (some ⟨W.heap.size + 1 + 1, 0, none⟩)], .func (.func 41) #[pv g] #[]] 82) :: Blk _ (W.heap.size + 1) (.cells #[.int .i64 l.first, .int .i64 l.size] 27) :: l1 ++ DevR _ g D :: l2))) ∧ (k = 1 → E = 0 ∧ Has w W' (Blk _ w4.heap.size (.cells #[.int .i64 (l.first + (run.length : Int) + 1)] 3) :: Blk _ W.heap.size (.cells #[pv g] 28) :: Blk _ w2.heap.size (.cells #[.int .u32 (vu q)] 53) :: (Blk _ (w4.heap.size + 1) (.cells #[putF w4.heap.size W.heap.size w2.heap.size] 103) :: Blk _ (W.heap.size + 1 + 1) (.cells #[.slice a run.length cap] 22) :: Blk _ wr.heap.size (.cells #[.func (.func 60) #[] #[.pointer (some ⟨w4.heap.size + 1, 0, none⟩), .pointer (some ⟨W.heap.size + 1 + 1, 0, none⟩)], .func (.func 41) #[pv g] #[]] 82) :: Blk _ (W.heap.size + 1) (.cells #[.int .i64 l.first, .int .i64 l.size] 27) :: l1 ++ DevR _ g D1 :: l2))) ∧ (k = 2 → E = 0 ∧ D1.flushE = 0 ∧ Has w W' (Blk _ w4.heap.size (.cells #[.int .i64 (l.first + (run.length : Int) + 1)] 3) :: Blk _ W.heap.size (.cells #[pv g] 28) :: Blk _ w2.heap.size (.cells #[.int .u32 (vu q)] 53) :: (Blk _ (w4.heap.size + 1) (.cells #[putF w4.heap.size W.heap.size w2.heap.size] 103) :: Blk _ (W.heap.size + 1 + 1) (.cells #[.slice a run.length cap] 22) :: Blk _ wr.heap.size (.cells #[.func (.func 60) #[] #[.pointer (some ⟨w4.heap.size + 1, 0, none⟩), .pointer (some ⟨W.heap.size + 1 + 1, 0, none⟩)], .func (.func 41) #[pv g] #[]] 82) :: Blk _ (W.heap.size + 1) (.cells #[.int .i64 l.first, .int .i64 l.size] 27) :: l1 ++ DevR _ g D1.flush :: l2)))) _ _ (by simp) ⟨fun _ => h3, fun h => absurd h (by decide), fun h => absurd h (by decide)⟩ ?_ ?_ ?_ ?_
            · intro k W' f hI hf
              match k, hf with
              | 0, hf => injection hf with hf; subst hf; exact (hI.1 rfl).cell 5 _ _ _ rfl 0 _ rfl
              | 1, hf => injection hf with hf; subst hf; exact (hI.2.1 rfl).2.cell 5 _ _ _ rfl 1 _ rfl
              | (n + 2), hf => simp at hf
            · intro k f hf W' hI
              match k, hf with
              | 0, hf =>
                injection hf with hf; subst hf
                refine (log2_at (Blk _ wr.heap.size (.cells #[.func (.func 60) #[] #[.pointer (some ⟨w4.heap.size + 1, 0, none⟩), .pointer (some ⟨W.heap.size + 1 + 1, 0, none⟩)], .func (.func 41) #[pv g] #[]] 82) :: Blk _ (W.heap.size + 1) (.cells #[.int .i64 l.first, .int .i64 l.size] 27) :: l1) (hI.1 rfl) (by omega) (by omega) HHL.out).mono ?_
                rintro e w' ⟨rfl, h'⟩
                rw [← hE]
                rw [← hD1] at h'
                refine ⟨E, rfl, fun h0 => ⟨fun h => absurd h (by decide), fun _ => ⟨h0, h'⟩, fun h => absurd h (by decide)⟩, fun h0 => ?_⟩
                rw [hRE, if_pos h0]
                exact ⟨rfl, h'.drop.drop.drop.drop.drop.drop.drop⟩
              | 1, hf =>
                injection hf with hf; subst hf
                obtain ⟨he0, h1⟩ := hI.2.1 rfl
                refine (flush_at (_ :: _ :: _ :: _ :: _ :: _ :: _ :: l1) h1).mono ?_
                rintro e w' ⟨rfl, h'⟩
                refine ⟨_, rfl, fun h0 => ⟨fun h => absurd h (by decide), fun h => absurd h (by decide), fun _ => ⟨he0, h0, h'⟩⟩, fun h0 => ?_⟩
                rw [hRE, if_neg (by rw [he0]; simp)]
                exact ⟨rfl, h'.drop.drop.drop.drop.drop.drop.drop⟩
              | (n + 2), hf => simp at hf
            · intro k f hf
              match k, hf with
              | 0, hf => injection hf with hf; subst hf; exact fun args w => enter_fn Tryd.func60 (by kernel_rfl) rfl args w
              | 1, hf => injection hf with hf; subst hf; exact fun args w => enter_fn Tryd.func41 (by kernel_rfl) rfl args w
              | (n + 2), hf => simp at hf
            · intro W' hI
              obtain ⟨he0, hf0, h'⟩ := hI.2.2 rfl
              rw [hRE, if_neg (by rw [he0]; simp)]
              exact ⟨hf0.symm, h'.drop.drop.drop.drop.drop.drop.drop⟩
          clear h2 h3 hH hz hpk hsp hdr hRE hE hD1 hD
          go_wp2_with fail
          refine HT.out.mono ?_
          clear HT
          rintro e w5 ⟨c, rfl, rfl, h5⟩
          have H5 := Lib.hid h5
          clear h5
          go_wp2_with fail
          go_ret
          exact ⟨rfl, H5.out⟩
    · have hv1 : (V != 0) = true := by simpa using hv0
      have HE : Hid (R = (S, V)) := by rw [HRD.out, if_neg (by simp), if_pos hv0]; exact Lib.hid rfl
      have H4 := Lib.hid h4.drop.drop.drop.drop
      clear hv0 h4 HRD
      go_wp2_with fail
      go_ret
      exact ⟨by rw [HE.out]; rfl, by rw [HE.out]; exact H4.out⟩
  · have hc2 : (c != 0) = true := by simpa using hc
    have HE : Hid (R = (S, c)) := by rw [HRD.out, if_pos hc]; exact Lib.hid rfl
    have H4 := Lib.hid H3.out.drop.drop.drop.drop
    clear hc HRD H3 d0 y0 y1 v0 HCK
    go_wp2_with fail
    go_ret
    exact ⟨by rw [HE.out]; rfl, by rw [HE.out]; exact H4.out⟩
end Go.Proofs.YtfbkfdoekgnldaaDoor
