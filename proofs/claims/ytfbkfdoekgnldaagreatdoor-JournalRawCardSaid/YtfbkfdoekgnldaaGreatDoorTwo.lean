/- A map of two entries with int keys: how it is made and ranged over, whatever order the tape gives. -/
import Derived.Test.YtfbkfdoekgnldaaGreatDoorBase
namespace Go.Proofs.YtfbkfdoekgnldaaGreatDoor
open Go.RowKit
/-- a block of another kind than cells, put anew -/
def putO (w : World) (r : Nat) (o : Obj) : World := { w with heap := w.heap.setIfInBounds r o }
theorem putO_same (w : World) (r : Nat) (o : Obj) (h : r < w.heap.size) : (putO w r o).heap[r]? = some o := by simp [putO, h]
theorem putO_other (w : World) (r k : Nat) (o : Obj) (h : k ≠ r) : (putO w r o).heap[k]? = w.heap[k]? := by
  simp only [putO, Array.getElem?_setIfInBounds]
  rw [if_neg (fun e => h e.symm)]
theorem putO_size (w : World) (r : Nat) (o : Obj) : (putO w r o).heap.size = w.heap.size := by simp [putO]
theorem putO_below {B r : Nat} {w0 w : World} (h : Below B w0 w) (hr : B ≤ r) (o : Obj) : Below B w0 (putO w r o) :=
  h.trans ⟨rfl, rfl, rfl, by simp [putO], fun k hk => putO_other _ _ _ _ (by omega)⟩
theorem putO_alloc (w : World) (o o' : Obj) : putO (w.alloc o) w.heap.size o' = w.alloc o' := by
  simp only [putO, World.alloc]
  congr 1
  apply Array.ext_getElem?
  intro i
  simp [Array.getElem?_setIfInBounds, Array.getElem?_push]
  by_cases h : w.heap.size = i
  · subst h; simp
  · have h' : ¬ i = w.heap.size := fun e => h e.symm
    simp [h, h']
section
variable {P : Program} {T K E : TypeId} (hT : P.underlying T = some (.map K E)) (hK : P.underlying K = some (.int .i64))
theorem run_getO (w : World) (r : Nat) (o : Obj) (h : w.heap[r]? = some o) (hc : ∀ c t f, o ≠ .cells c t f) : (getObj r).run P w = .ok o w := by
  cases o <;> simp_all [getObj, Sem.run]
theorem run_setO (w : World) (r : Nat) (o o' : Obj) (h : w.heap[r]? = some o) (hc : ∀ c t f, o ≠ .cells c t f) : (setObj r o').run P w = .ok () (putO w r o') := by
  cases o <;> simp_all [setObj, Sem.run, putO]
include hK in
theorem run_checkInt (e : Bool) (n : Nat) (a : Int) (w : World) : (Instr.checkKey e (n + 1) K (.int .i64 a)).run P w = .ok () w := by
  simp [Instr.checkKey, run_underlying hK]
include hK in
theorem run_checkInt' (e : Bool) (a : Int) (w : World) : (Instr.checkKey e 10000 K (.int .i64 a)).run P w = .ok () w := run_checkInt hK e 9999 a w
include hT hK
theorem run_insert_first (w : World) (a : Int) (v : Value) :
    (Instr.mapUpdate T (.map (some w.heap.size)) (.int .i64 a) v).run P (w.alloc (.map #[] 0)) = .ok () (w.alloc (.map #[⟨.int .i64 a, v, 0⟩] 1)) := by
  have hg : (w.alloc (.map #[] 0)).heap[w.heap.size]? = some (.map #[] 0) := heap_alloc_new _ _
  have h1 := run_getO (P := P) _ _ _ hg (by simp)
  have h2 := fun o => run_setO (P := P) _ _ _ o hg (by simp)
  simp [Instr.mapUpdate, run_underlying hT, run_underlying hK, run_checkInt' hK, Instr.findKey, Instr.findNow, h1, h2, putO_alloc]
theorem run_insert_second (w : World) (a b : Int) (u v : Value) (hab : (b == a) = false) :
    (Instr.mapUpdate T (.map (some w.heap.size)) (.int .i64 b) v).run P (w.alloc (.map #[⟨.int .i64 a, u, 0⟩] 1)) = .ok () (w.alloc (.map #[⟨.int .i64 a, u, 0⟩, ⟨.int .i64 b, v, 1⟩] 2)) := by
  have hg : (w.alloc (.map #[⟨.int .i64 a, u, 0⟩] 1)).heap[w.heap.size]? = some (.map #[⟨.int .i64 a, u, 0⟩] 1) := heap_alloc_new _ _
  have h1 := run_getO (P := P) _ _ _ hg (by simp)
  have h2 := fun o => run_setO (P := P) _ _ _ o hg (by simp)
  simp [Instr.mapUpdate, run_underlying hT, run_underlying hK, run_checkInt' hK, Instr.findKey, Instr.findNow, Instr.sameNow, hab, h1, h2, putO_alloc]
omit hK
theorem run_range_two (w : World) (n c : Nat) (es : Array MapEntry) (hn : w.heap[n]? = some (.map es c)) :
    (Instr.range T (.map (some n))).run P w = .ok (.pointer (some ⟨w.heap.size, 0, none⟩)) (w.alloc (.mapIter (some n) c #[] c)) := by
  have h1 := run_getO (P := P) _ _ _ hn (by simp)
  simp [Instr.range, run_underlying hT, h1]
omit hT
/-- the first step: one of the two -/
theorem run_next_first (w : World) (ib mb : Nat) (x y : MapEntry) (hx : x.born = 0) (hy : y.born = 1) (hm : w.heap[mb]? = some (.map #[x, y] 2)) (hi : w.heap[ib]? = some (.mapIter (some mb) 2 #[] 2)) (ty : TypeId) :
    (Instr.next (.pointer (some ⟨ib, 0, none⟩)) false ty).run P w = .ok (.tuple #[.bool true, x.key, x.val]) (putO w.drew ib (.mapIter (some mb) 2 #[0] 2)) ∨
    (Instr.next (.pointer (some ⟨ib, 0, none⟩)) false ty).run P w = .ok (.tuple #[.bool true, y.key, y.val]) (putO w.drew ib (.mapIter (some mb) 2 #[1] 2)) := by
  have h1 := run_getO (P := P) _ _ _ hm (by simp)
  have h2 := run_getO (P := P) _ _ _ hi (by simp)
  have h3 := fun o => run_setO (P := P) w.drew _ _ o (show w.drew.heap[ib]? = _ from hi) (by simp)
  rcases Nat.mod_two_eq_zero_or_one (w.tape w.drawn (.mapNext 2)) with h | h
  · left
    simp [Instr.next, h1, h2, hx, hy, Question.forced, Question.cut, h, h3]
  · right
    simp [Instr.next, h1, h2, hx, hy, Question.forced, Question.cut, h, h3]
/-- the second step: the other one -/
theorem run_next_second (w : World) (ib mb : Nat) (x y : MapEntry) (hx : x.born = 0) (hy : y.born = 1) (hm : w.heap[mb]? = some (.map #[x, y] 2)) (hi : w.heap[ib]? = some (.mapIter (some mb) 2 #[0] 2)) (ty : TypeId) :
    (Instr.next (.pointer (some ⟨ib, 0, none⟩)) false ty).run P w = .ok (.tuple #[.bool true, y.key, y.val]) (putO w ib (.mapIter (some mb) 2 #[0, 1] 2)) := by
  have h1 := run_getO (P := P) _ _ _ hm (by simp)
  have h2 := run_getO (P := P) _ _ _ hi (by simp)
  have h3 := fun o => run_setO (P := P) w _ _ o hi (by simp)
  simp [Instr.next, h1, h2, hx, hy, Question.forced, h3]
  exact ⟨0, by simp, by simp [hx]⟩
theorem run_next_second' (w : World) (ib mb : Nat) (x y : MapEntry) (hx : x.born = 0) (hy : y.born = 1) (hm : w.heap[mb]? = some (.map #[x, y] 2)) (hi : w.heap[ib]? = some (.mapIter (some mb) 2 #[1] 2)) (ty : TypeId) :
    (Instr.next (.pointer (some ⟨ib, 0, none⟩)) false ty).run P w = .ok (.tuple #[.bool true, x.key, x.val]) (putO w ib (.mapIter (some mb) 2 #[1, 0] 2)) := by
  have h1 := run_getO (P := P) _ _ _ hm (by simp)
  have h2 := run_getO (P := P) _ _ _ hi (by simp)
  have h3 := fun o => run_setO (P := P) w _ _ o hi (by simp)
  simp [Instr.next, h1, h2, hx, hy, Question.forced, h3]
  exact ⟨0, by simp, by simp [hx]⟩
/-- the end -/
theorem run_next_over (w : World) (ib mb : Nat) (x y : MapEntry) (hx : x.born = 0) (hy : y.born = 1) (hm : w.heap[mb]? = some (.map #[x, y] 2)) (seen : Array Nat) (hs : seen = #[0, 1] ∨ seen = #[1, 0])
    (hi : w.heap[ib]? = some (.mapIter (some mb) 2 seen 2)) (ty : TypeId) :
    (Instr.next (.pointer (some ⟨ib, 0, none⟩)) false ty).run P w = .ok (.tuple #[.bool false]) w := by
  have h1 := run_getO (P := P) _ _ _ hm (by simp)
  have h2 := run_getO (P := P) _ _ _ hi (by simp)
  rcases hs with rfl | rfl <;> (simp [Instr.next, h1, h2, hx, hy, Question.forced]; exact ⟨0, by simp, by simp [hx]⟩)
theorem run_entry_at (w : World) (ib mb : Nat) (x y z : MapEntry) (hm : w.heap[mb]? = some (.map #[x, y] 2)) (seen : Array Nat) (b : Nat) (hb : seen.back? = some b) (hz : #[x, y].find? (·.born == b) = some z)
    (hi : w.heap[ib]? = some (.mapIter (some mb) 2 seen 2)) :
    (Instr.entry (.pointer (some ⟨ib, 0, none⟩))).run P w = .ok (.tuple #[z.key, z.val]) w := by
  have h1 := run_getO (P := P) _ _ _ hm (by simp)
  have h2 := run_getO (P := P) _ _ _ hi (by simp)
  simp [Instr.entry, h1, h2, hb, hz]
end
end Go.Proofs.YtfbkfdoekgnldaaGreatDoor
