/- Frames that are put one after the other on a device with so much power: what was taken, and what a crash leaves of it. What a journal reads as: an empty one, one with a part of a transaction, one with the whole of it. What Look and Replay find in an empty journal, in one with a part of a transaction, in one with the whole of it. What frames that are put and flushed, or cut off and kept in part, leave on a device. The states of a journal between and behind its calls: nothing of a transaction, a part of it, the whole of it; what is at the places outside. What Commit and Replay do to a journal, also where the power goes and some of the writes are lost. What Format makes of a new device. -/
import Derived.Test.YtfbkfdoekgnldaaDoorJnBase
namespace Go.Proofs.YtfbkfdoekgnldaaDoor
open Go.RowKit
/-- a frame that may be put on a device of so many sectors -/
structure PutA.Ok (n : Nat) (a : PutA) : Prop where
  p0 : 0 ≤ a.p
  p1 : a.p < n
  p2 : a.p < 256
  k0 : 1 ≤ a.kind
  k1 : a.kind ≤ 255
  d1 : a.d.size ≤ 112
def PutA.sec (a : PutA) : Sector := (sealS a.p a.kind a.q a.d).1
def PutA.wr (a : PutA) : Wr := (a.p, a.sec)
theorem PutA.Ok.sealed {n : Nat} {a : PutA} (h : a.Ok n) : sealS a.p a.kind a.q a.d = (a.sec, 0) := by
  have h1 : ¬ (a.p < 0 ∨ 256 ≤ a.p ∨ a.kind < 1 ∨ 255 < a.kind) := by have := h.p0; have := h.p2; have := h.k0; have := h.k1; omega
  have h2 : ¬ 112 < a.d.size := by have := h.d1; omega
  unfold PutA.sec sealS
  rw [if_neg h1, if_neg h2]
theorem PutA.Ok.opened {n : Nat} {a : PutA} (h : a.Ok n) : openF a.p a.sec = (⟨a.kind, a.q, a.d⟩, 0) := by
  have h1 : ¬ (a.p < 0 ∨ 256 ≤ a.p ∨ a.kind < 1 ∨ 255 < a.kind) := by have := h.p0; have := h.p2; have := h.k0; have := h.k1; omega
  have h2 : ¬ 112 < a.d.size := by have := h.d1; omega
  obtain ⟨m, kb, lb, hm, hkb, hm2, hk1, hlb, he⟩ := seal_args a.p a.kind a.q a.d h1 h2
  have e : a.sec = sealOf kb lb a.d.data.toList a.q m := by unfold PutA.sec; rw [he]
  have hd : a.d.data.toList.length = a.d.size := by simp
  have hl : a.d.data.toList.length ≤ 112 := by omega
  have hb : lb.toNat = a.d.data.toList.length := by unfold vb at hlb; omega
  have hk : kb ≠ 0 := by rintro rfl; revert hk1; decide
  rw [e]
  unfold openF
  have hmp : a.p.toNat = m := by omega
  have hc : openCode m (sealOf kb lb a.d.data.toList a.q m) = 0 := by rw [open_seal kb lb _ a.q m m hl hb hk hm2]; simp
  rw [if_pos ⟨h.p0, h.p2⟩, hmp, if_pos hc, seal_at1 _ _ _ _ _ hl, seal_seq _ _ _ _ _ hl, open_seal_data _ _ _ _ _ hl hb, hkb]
theorem PutA.Ok.put {n : Nat} {a : PutA} (h : a.Ok n) (S : Dv) : S.putA a = S.write a.p a.sec ∧ S.putAE a = S.writeE a.p := by
  unfold Dv.putA Dv.putAE Dv.put Dv.putE
  rw [h.sealed, if_pos rfl, if_pos rfl]
  exact ⟨rfl, rfl⟩
/-- a device behind writes that it took -/
def Dv.ran (S : Dv) (ws : List Wr) : Dv := { S with ca := S.ca ++ ws, taken := S.taken + ws.length, power := if 0 ≤ S.power then S.power - ws.length else S.power }
theorem Dv.ran_nil (S : Dv) : S.ran [] = S := by
  unfold Dv.ran
  cases S
  simp
theorem Dv.ran_cons (S : Dv) (x : Wr) (ws : List Wr) (h : S.power ≠ 0) : (S.push x.1 x.2).ran ws = S.ran (x :: ws) := by
  unfold Dv.ran Dv.push
  simp only [List.append_assoc, List.cons_append, List.nil_append, List.length_cons, Dv.mk.injEq, true_and, and_true]
  refine ⟨by omega, ?_⟩
  by_cases h1 : 0 < S.power
  · rw [if_pos h1, if_pos (by omega), if_pos (by omega)]; omega
  · rw [if_neg h1, if_neg (by omega), if_neg (by omega)]
/-- room and numbers for so many writes more -/
structure Dv.Fit (S : Dv) (n : Nat) : Prop where
  on : S.off = false
  rm : S.ca.length + n < 400
  tk : S.taken + n < 1000000000000
theorem Dv.putAll_go (ps : List PutA) : ∀ (S : Dv), S.Fit ps.length → (∀ a ∈ ps, a.Ok S.st.length) → (S.power < 0 ∨ (ps.length : Int) ≤ S.power) → S.putAll ps = (S.ran (ps.map PutA.wr), 0) := by
  induction ps with
  | nil => intro S _ _ _; rw [List.map_nil, Dv.ran_nil]; rfl
  | cons a r ih =>
    intro S hf hok hp
    have ha := hok a (.head _)
    simp only [List.length_cons] at hf hp
    have h1 := hf.on
    have h2 := hf.rm
    have h3 := hf.tk
    have hfree : S.Free := ⟨hf.on, by omega, by omega, by omega⟩
    obtain ⟨e1, e2⟩ := ha.put S
    unfold Dv.putAll
    rw [e1, e2, Dv.writeE_go hfree ha.p0 ha.p1, Dv.write_go hfree ha.p0 ha.p1, if_neg (by simp)]
    rw [ih (S.push a.p a.sec) ⟨hf.on, by simp [Dv.push]; omega, by simp only [Dv.push]; omega⟩ (fun b hb => hok b (.tail _ hb)) (by simp only [Dv.push]; split <;> omega)]
    rw [show S.push a.p a.sec = S.push a.wr.1 a.wr.2 from rfl, Dv.ran_cons S a.wr _ (by omega)]
    rfl
theorem Dv.putAll_stop (ps : List PutA) : ∀ (S : Dv), S.Fit ps.length → (∀ a ∈ ps, a.Ok S.st.length) → 0 ≤ S.power → S.power < (ps.length : Int) → S.putAll ps = ({ S.ran ((ps.take S.power.toNat).map PutA.wr) with off := true }, 13) := by
  induction ps with
  | nil => intro S _ _ h1 h2; simp at h2; omega
  | cons a r ih =>
    intro S hf hok hp hp2
    have ha := hok a (.head _)
    simp only [List.length_cons] at hf hp2
    have h1 := hf.on
    have h2 := hf.rm
    have h3 := hf.tk
    obtain ⟨e1, e2⟩ := ha.put S
    unfold Dv.putAll
    rw [e1, e2]
    by_cases h0 : S.power = 0
    · have hat : S.at a.p = 0 := Dv.at_ok hf.on ha.p0 ha.p1
      have w1 : S.writeE a.p = 13 := by unfold Dv.writeE; rw [if_neg (by simp [hat]), if_pos (.inl h0)]
      have w2 : S.write a.p a.sec = { S with off := true } := by unfold Dv.write; rw [if_neg (by simp [hat]), if_pos (.inl h0)]
      have e3 : S.power.toNat = 0 := by omega
      rw [w1, w2, if_pos (by decide), e3]
      show _ = ({ S.ran ([] : List Wr) with off := true }, (13 : Int))
      rw [Dv.ran_nil]
    · have hfree : S.Free := ⟨hf.on, by omega, by omega, by omega⟩
      rw [Dv.writeE_go hfree ha.p0 ha.p1, Dv.write_go hfree ha.p0 ha.p1, if_neg (by simp)]
      have hpw : (S.push a.p a.sec).power = S.power - 1 := by simp only [Dv.push]; rw [if_pos (by omega)]
      rw [ih (S.push a.p a.sec) ⟨hf.on, by simp [Dv.push]; omega, by simp only [Dv.push]; omega⟩ (fun b hb => hok b (.tail _ hb)) (by omega) (by omega), hpw]
      have e3 : S.power.toNat = (S.power - 1).toNat + 1 := by omega
      rw [e3, List.take_succ_cons, List.map_cons, ← Dv.ran_cons S a.wr _ h0]
      rfl
/-- what the last of some writes to a sector is, is one of them -/
theorem lastW_mem {ws : List Wr} {n : Int} {x : Sector} (h : lastW ws n = some x) : (n, x) ∈ ws := by
  unfold lastW at h
  have : ∀ l : List Wr, lastR l n = some x → (n, x) ∈ l := by
    intro l
    induction l with
    | nil => intro h; simp [lastR] at h
    | cons y r ih =>
      intro h
      unfold lastR at h
      split at h
      · rename_i e
        cases h
        rw [← e]; exact .head _
      · exact .tail _ (ih h)
  simpa using this _ h
theorem lastW_some {ws : List Wr} {n : Int} {x : Sector} (h : (n, x) ∈ ws) : ∃ y, lastW ws n = some y := by
  unfold lastW
  have : ∀ l : List Wr, (n, x) ∈ l → ∃ y, lastR l n = some y := by
    intro l
    induction l with
    | nil => intro h; simp at h
    | cons y r ih =>
      intro h
      unfold lastR
      split
      · exact ⟨_, rfl⟩
      · rename_i e
        rcases List.mem_cons.1 h with h | h
        · subst h; exact absurd rfl e
        · exact ih h
  exact this _ (by simpa using h)
/-- what is in the sectors that are kept -/
theorem Dv.keep_look {S : Dv} (ok : S.Ok) (keep : List Int) (hk : S.crashE keep = 0) (m : Int) (hm : 0 ≤ m) :
    (S.crash keep).look m = S.st.getD m.toNat zsec ∨ ∃ x, (m, x) ∈ S.ca ∧ (S.crash keep).look m = x := by
  have hodd : ∀ i ∈ keep, 0 ≤ i ∧ i < S.ca.length := by
    intro i hi
    unfold Dv.crashE at hk
    by_cases h : keep.any S.odd = true
    · rw [if_pos h] at hk; simp at hk
    · have : S.odd i = false := by
        cases ho : S.odd i
        · rfl
        · exact absurd (List.any_eq_true.2 ⟨i, hi, ho⟩) h
      simp [Dv.odd] at this
      omega
  have hmem : ∀ x ∈ keep.map (fun i => S.ca.getD i.toNat (0, zsec)), x ∈ S.ca := by
    intro x hx
    obtain ⟨i, hi, rfl⟩ := List.mem_map.1 hx
    have := hodd i hi
    rw [List.getD_eq_getElem?_getD, List.getElem?_eq_getElem (show i.toNat < S.ca.length by omega)]
    exact List.getElem_mem _
  have e : (S.crash keep).look m = (lastW (keep.map fun i => S.ca.getD i.toNat (0, zsec)) m).getD (S.st.getD m.toNat zsec) := by
    unfold Dv.crash
    rw [if_pos hk]
    exact flushL_getD _ _ (fun x hx => ok.c2 x (hmem x hx)) m hm
  rw [e]
  cases hl : lastW (keep.map fun i => S.ca.getD i.toNat (0, zsec)) m with
  | none => exact .inl rfl
  | some x => exact .inr ⟨x, hmem _ (lastW_mem hl), rfl⟩
theorem Dv.crash_parts {S : Dv} (keep : List Int) (hk : S.crashE keep = 0) : (S.crash keep).st.length = S.st.length ∧ (S.crash keep).ca = [] ∧ (S.crash keep).taken = S.taken ∧ (S.crash keep).power = -1 ∧ (S.crash keep).off = false := by
  unfold Dv.crash
  rw [if_pos hk]
  exact ⟨by simp [Dv.keepL, flushL_length], rfl, rfl, rfl, rfl⟩
/-- the number of writes that it takes to do all -/
theorem Dv.look_ran (S : Dv) (ws : List Wr) (m : Int) : (S.ran ws).look m = (lastW ws m).getD (S.look m) := by
  have e : ws = ws.reverse.reverse := by simp
  revert e; generalize ws.reverse = l
  intro e; subst e
  unfold Dv.look Dv.ran
  dsimp only
  unfold lastW
  rw [List.reverse_append, List.reverse_reverse]
  induction l with
  | nil => simp [lastR]
  | cons x r ih =>
    simp only [List.cons_append, lastR]
    split
    · rfl
    · exact ih
end Go.Proofs.YtfbkfdoekgnldaaDoor
namespace Go.Proofs.YtfbkfdoekgnldaaDoor
open Go.RowKit
theorem Dv.get_on {S : Dv} (h : S.off = false) {p : Int} (h0 : 0 ≤ p) (h1 : p < S.st.length) : S.get p = openF p (S.look p) := by
  unfold Dv.get; rw [Dv.at_ok h h0 h1, if_pos rfl]
/-- a number as the program has it -/
def q32 (m : Nat) : BitVec 32 := BitVec.ofNat 32 m
theorem q32_toNat {m : Nat} (h : m < 4294967296) : (q32 m).toNat = m := by unfold q32; simp; omega
theorem q32_succ (m : Nat) : q32 m + 1#32 = q32 (m + 1) := by unfold q32; apply BitVec.eq_of_toNat_eq; simp
/-- the journal's head -/
def HeadIs (S : Dv) (l : Lay) (m : Nat) : Prop := S.get l.first = (⟨1, q32 m, ⟨#[]⟩⟩, 0)
theorem head_of {S : Dv} {l : Lay} {m : Nat} (hc : l.check = 0) (h : HeadIs S l m) : headM S l = (q32 m, 0) := by
  unfold headM
  rw [if_neg (by rw [hc]; simp), h, if_neg (by simp), if_neg (by simp)]
/-- a sector that no transaction behind the number m wrote -/
structure OldF (m : Nat) (x : Fr × Int) : Prop where
  nb : broken x.2 = false
  lo : x.2 = 0 → x.1.q.toNat ≤ m
theorem OldF.mine {m : Nat} {x : Fr × Int} (h : OldF m x) (hm : m + 1 < 4294967296) : mine x (q32 (m + 1)) = false := by
  unfold Go.Proofs.YtfbkfdoekgnldaaDoor.mine
  by_cases h0 : x.2 = 0
  · have := h.lo h0
    have hq : ¬ x.1.q = q32 (m + 1) := by
      intro e; rw [e, q32_toNat hm] at this; omega
    simp [hq]
  · simp [h0]
theorem OldF.mono {m k : Nat} {x : Fr × Int} (h : OldF m x) (hk : m ≤ k) : OldF k x := ⟨h.nb, fun h0 => Nat.le_trans (h.lo h0) hk⟩
/-- nothing of a transaction -/
structure T0 (S : Dv) (l : Lay) (m : Nat) : Prop where
  hd : HeadIs S l m
  old : ∀ i : Nat, 1 ≤ i → (i : Int) < l.size → OldF m (S.get (l.first + i))
/-- a part of a transaction -/
structure T1 (S : Dv) (l : Lay) (m : Nat) (run : List Rec) : Prop where
  hd : HeadIs S l m
  part : ∀ i : Nat, 1 ≤ i → (i : Int) < l.size → OldF m (S.get (l.first + i)) ∨ ∃ a, (logPuts l (q32 (m + 1)) 1 run)[i - 1]? = some a ∧ S.get (l.first + i) = (⟨a.kind, a.q, a.d⟩, 0)
/-- the whole of it -/
structure T2 (S : Dv) (l : Lay) (m : Nat) (run : List Rec) : Prop where
  t1 : T1 S l m run
  all : ∀ k a, (logPuts l (q32 (m + 1)) 1 run)[k]? = some a → S.get (l.first + (k + 1 : Nat)) = (⟨a.kind, a.q, a.d⟩, 0)
theorem T0.t1 {S : Dv} {l : Lay} {m : Nat} (h : T0 S l m) (run : List Rec) : T1 S l m run := ⟨h.hd, fun i h1 h2 => .inl (h.old i h1 h2)⟩
theorem logPuts_get (l : Lay) (q : BitVec 32) (run : List Rec) : ∀ (i : Int) (k : Nat), (logPuts l q i run)[k]? = if h : k < run.length then some ⟨l.first + (i + k), 2, q, recBytes run[k]⟩ else if k = run.length then some ⟨l.first + (i + k), 3, q, two (i + k - 1)⟩ else none := by
  induction run with
  | nil =>
    intro i k
    cases k with
    | zero => simp [logPuts]
    | succ k => simp [logPuts]
  | cons r rest ih =>
    intro i k
    cases k with
    | zero => simp [logPuts]
    | succ k =>
      rw [logPuts, List.getElem?_cons_succ, ih (i + 1) k]
      have e : i + 1 + (k : Int) = i + ((k + 1 : Nat) : Int) := by omega
      rw [e]
      simp only [List.length_cons, Nat.add_lt_add_iff_right, Nat.add_right_cancel_iff, List.getElem_cons_succ]
theorem logPuts_length (l : Lay) (q : BitVec 32) (run : List Rec) : ∀ (i : Int), (logPuts l q i run).length = run.length + 1 := by
  induction run with
  | nil => intro i; rfl
  | cons r rest ih => intro i; rw [logPuts, List.length_cons, ih, List.length_cons]
/-- what is known of each record of a transaction that is one -/
structure RunOk (n : Nat) (l : Lay) (run : List Rec) : Prop where
  len : (run.length : Int) ≤ l.most
  recs : ∀ k (h : k < run.length), recE n l (run.take k) run[k] = 0
theorem validK_ok (n : Nat) (l : Lay) (rest : List Rec) : ∀ before, validK n l before rest = 0 → ∀ k (h : k < rest.length), recE n l (before ++ rest.take k) rest[k] = 0 := by
  induction rest with
  | nil => intro before _ k h; simp at h
  | cons r rest ih =>
    intro before h k hk
    unfold validK at h
    by_cases h0 : recE n l before r = 0
    · rw [if_neg (by simp [h0])] at h
      cases k with
      | zero => simpa using h0
      | succ k =>
        have := ih _ h k (by simpa using hk)
        simpa using this
    · rw [if_pos h0] at h; exact absurd h h0
theorem valid_ok {n : Nat} {l : Lay} {run : List Rec} (h : validM n l run = 0) : RunOk n l run := by
  unfold validM at h
  by_cases h0 : l.most < run.length
  · rw [if_pos h0] at h; simp at h
  · rw [if_neg h0] at h
    exact ⟨by omega, fun k hk => by simpa using validK_ok n l run [] h k hk⟩
structure RecOk (n : Nat) (l : Lay) (before : List Rec) (r : Rec) : Prop where
  out : l.inside r.at_ = false
  a0 : 0 ≤ r.at_
  a1 : r.at_ < n
  k0 : 1 ≤ r.kind
  k1 : r.kind ≤ 255
  d1 : r.data.size ≤ 96
  new : hasAt before r.at_ = false
theorem recE_ok {n : Nat} {l : Lay} {before : List Rec} {r : Rec} (h : recE n l before r = 0) : RecOk n l before r := by
  unfold recE at h
  by_cases h1 : l.inside r.at_ = true
  · rw [if_pos h1] at h; simp at h
  rw [if_neg h1] at h
  by_cases h2 : r.at_ < 0 ∨ (n : Int) ≤ r.at_ ∨ r.kind < 1 ∨ 255 < r.kind
  · rw [if_pos h2] at h; simp at h
  rw [if_neg h2] at h
  by_cases h3 : 96 < r.data.size
  · rw [if_pos h3] at h; simp at h
  rw [if_neg h3] at h
  by_cases h4 : hasAt before r.at_ = true
  · rw [if_pos h4] at h; simp at h
  exact ⟨by simpa using h1, by omega, by omega, by omega, by omega, by omega, by simpa using h4⟩
theorem two_size (n : Int) : (two n).size = 2 := rfl
theorem recBytes_list (r : Rec) : (recBytes r).data.toList = UInt8.ofNat (r.at_ % 256).toNat :: UInt8.ofNat (r.at_ / 256 % 256).toNat :: UInt8.ofNat (r.kind % 256).toNat :: r.data.data.toList := by
  unfold recBytes two
  simp
theorem recBytes_size (r : Rec) : (recBytes r).size = 3 + r.data.size := by
  have h := congrArg List.length (recBytes_list r)
  simp at h
  have e : (recBytes r).data.size = (recBytes r).size := rfl
  have e2 : r.data.data.size = r.data.size := rfl
  omega
theorem ofNat_vb (n : Nat) (h : n < 256) : vb (UInt8.ofNat n) = n := by unfold vb; simp; omega
theorem recOf_bytes {r : Rec} (h0 : 0 ≤ r.at_) (h1 : r.at_ < 65536) (h2 : 0 ≤ r.kind) (h3 : r.kind ≤ 255) : recOf (recBytes r) = r := by
  unfold recOf byteAt
  have e0 : at8 (recBytes r).data.toList 0 = UInt8.ofNat (r.at_ % 256).toNat := by rw [recBytes_list]; rfl
  have e1 : at8 (recBytes r).data.toList 1 = UInt8.ofNat (r.at_ / 256 % 256).toNat := by rw [recBytes_list]; rfl
  have e2 : at8 (recBytes r).data.toList 2 = UInt8.ofNat (r.kind % 256).toNat := by rw [recBytes_list]; rfl
  have e3 : (recBytes r).extract 3 (recBytes r).size = r.data := by
    apply ByteArray.ext
    apply Array.toList_inj.1
    rw [ByteArray.data_extract, Array.toList_extract]
    simp only [List.extract, recBytes_list]
    have : (recBytes r).size - 3 = r.data.data.toList.length := by rw [recBytes_size]; simp
    rw [this]
    show List.take r.data.data.toList.length r.data.data.toList = _
    rw [List.take_length]
  rw [e0, e1, e2, e3, ofNat_vb _ (by omega), ofNat_vb _ (by omega), ofNat_vb _ (by omega)]
  cases r
  simp only [Rec.mk.injEq, and_true] at *
  omega
theorem isRec_bytes {S : Dv} {l : Lay} {before : List Rec} {r : Rec} (h : RecOk S.st.length l before r) (hn : S.st.length ≤ 256) (q : BitVec 32) : isRec S l ⟨2, q, recBytes r⟩ = true := by
  have h1 := h.a0
  have h2 := h.a1
  have h3 := h.k0
  have h4 := h.k1
  have h5 := h.d1
  unfold isRec
  rw [recOf_bytes h1 (by omega) (by omega) h4, h.out]
  simp [recBytes_size]
  omega
end Go.Proofs.YtfbkfdoekgnldaaDoor
namespace Go.Proofs.YtfbkfdoekgnldaaDoor
open Go.RowKit
/-- a journal on a device of n sectors -/
structure Fits (S : Dv) (l : Lay) : Prop where
  on : S.off = false
  chk : l.check = 0
  end_ : l.first + l.size ≤ S.st.length
  n256 : S.st.length ≤ 256
theorem hasAt_take {n : Nat} {l : Lay} {run : List Rec} (h : RunOk n l run) (k : Nat) (hk : k < run.length) : RecOk n l (run.take k) run[k] := recE_ok (h.recs k hk)
theorem most_le (l : Lay) : l.most ≤ l.size - 2 ∧ l.most ≤ 80 := by unfold Lay.most; omega
section
variable {S : Dv} {l : Lay} {m : Nat} {run : List Rec}
/-- the look at the frame behind k records that were found -/
theorem look_step (hf : Fits S l) (hm : m + 1 < 4294967296) (hr : RunOk S.st.length l run) (k : Nat) (hk : k ≤ run.length) (n : Nat) (hn : (k : Int) + 1 + (n + 1 : Nat) = l.size)
    (h : OldF m (S.get (l.first + (k + 1 : Nat))) ∨ ∃ a, (logPuts l (q32 (m + 1)) 1 run)[k]? = some a ∧ S.get (l.first + (k + 1 : Nat)) = (⟨a.kind, a.q, a.d⟩, 0)) :
    (OldF m (S.get (l.first + (k + 1 : Nat))) ∧ lookQ S l (q32 (m + 1)) (n + 1) ((k + 1 : Nat) : Int) (run.take k) = (run.take k, false, 0)) ∨
    (k = run.length ∧ (∃ a, (logPuts l (q32 (m + 1)) 1 run)[k]? = some a ∧ S.get (l.first + (k + 1 : Nat)) = (⟨a.kind, a.q, a.d⟩, 0)) ∧ lookQ S l (q32 (m + 1)) (n + 1) ((k + 1 : Nat) : Int) (run.take k) = (run, true, 0)) ∨
    (k < run.length ∧ (∃ a, (logPuts l (q32 (m + 1)) 1 run)[k]? = some a ∧ S.get (l.first + (k + 1 : Nat)) = (⟨a.kind, a.q, a.d⟩, 0)) ∧ lookQ S l (q32 (m + 1)) (n + 1) ((k + 1 : Nat) : Int) (run.take k) = lookQ S l (q32 (m + 1)) n ((k + 1 + 1 : Nat) : Int) (run.take (k + 1))) := by
  rcases h with h | ⟨a, ha, hg⟩
  · left
    refine ⟨h, ?_⟩
    rw [lookQ_succ]
    rw [if_neg (by rw [h.nb]; simp), if_neg (by unfold takes; rw [h.mine hm]; simp)]
    unfold ends
    rw [h.mine hm]; simp
  · right
    have hpre : ∃ a, (logPuts l (q32 (m + 1)) 1 run)[k]? = some a ∧ S.get (l.first + (k + 1 : Nat)) = (⟨a.kind, a.q, a.d⟩, 0) := ⟨a, ha, hg⟩
    rw [logPuts_get] at ha
    by_cases hlt : k < run.length
    · right
      refine ⟨hlt, hpre, ?_⟩
      rw [dif_pos hlt] at ha
      injection ha with ha
      subst ha
      dsimp only at hg
      have ok := hasAt_take hr k hlt
      rw [lookQ_succ]
      have hl := most_le l
      have hlen := hr.len
      rw [hg, if_neg broken_zero, if_pos]
      · rw [recOf_bytes ok.a0 (by have := ok.a1; have := hf.n256; omega) (by have := ok.k0; omega) ok.k1]
        rw [List.take_add_one, List.getElem?_eq_getElem hlt]
        rfl
      · unfold takes mine
        rw [isRec_bytes ok hf.n256, recOf_bytes ok.a0 (by have := ok.a1; have := hf.n256; omega) (by have := ok.k0; omega) ok.k1, ok.new]
        simp
        omega
    · left
      have e : k = run.length := by omega
      refine ⟨e, hpre, ?_⟩
      rw [dif_neg hlt, if_pos e] at ha
      injection ha with ha
      subst ha
      dsimp only at hg
      subst e
      rw [lookQ_succ]
      rw [hg, if_neg broken_zero, if_neg (by unfold takes isRec; simp), List.take_length]
      unfold ends mine
      have : (1 : Int) + (run.length : Int) - 1 = run.length := by omega
      rw [this]
      simp
/-- what Look finds: the records up to the first one that is not there -/
theorem look_parts (hf : Fits S l) (hm : m + 1 < 4294967296) (hr : RunOk S.st.length l run) (ht : T1 S l m run) :
    ∀ (n k : Nat), k ≤ run.length → (k : Int) + 1 + (n : Int) = l.size → (∀ i, i < k → ∃ a, (logPuts l (q32 (m + 1)) 1 run)[i]? = some a ∧ S.get (l.first + (i + 1 : Nat)) = (⟨a.kind, a.q, a.d⟩, 0)) →
    (∃ j, j ≤ run.length ∧ k ≤ j ∧ OldF m (S.get (l.first + (j + 1 : Nat))) ∧ (∀ i, i < j → ∃ a, (logPuts l (q32 (m + 1)) 1 run)[i]? = some a ∧ S.get (l.first + (i + 1 : Nat)) = (⟨a.kind, a.q, a.d⟩, 0)) ∧ lookQ S l (q32 (m + 1)) n ((k + 1 : Nat) : Int) (run.take k) = (run.take j, false, 0)) ∨
    (T2 S l m run ∧ lookQ S l (q32 (m + 1)) n ((k + 1 : Nat) : Int) (run.take k) = (run, true, 0)) := by
  intro n
  induction n with
  | zero =>
    intro k hk hn _
    have := (most_le l).1
    have := hr.len
    omega
  | succ n ih =>
    intro k hk hn hpre
    have hpt := ht.part (k + 1) (by omega) (by omega)
    rw [Nat.add_sub_cancel] at hpt
    rcases look_step hf hm hr k hk n (by omega) hpt with ⟨h1, h2⟩ | ⟨h1, hp, h2⟩ | ⟨h1, hp, h2⟩
    · exact .inl ⟨k, hk, Nat.le_refl _, h1, hpre, h2⟩
    · right
      refine ⟨⟨ht, fun i a ha => ?_⟩, h2⟩
      have hi : i ≤ run.length := by
        have := (List.getElem?_eq_some_iff.1 ha).1
        rw [logPuts_length] at this; omega
      have : ∃ a', (logPuts l (q32 (m + 1)) 1 run)[i]? = some a' ∧ S.get (l.first + (i + 1 : Nat)) = (⟨a'.kind, a'.q, a'.d⟩, 0) := by
        by_cases hik : i < k
        · exact hpre i hik
        · have e : i = k := by omega
          subst e; exact hp
      obtain ⟨a', ha', hg⟩ := this
      rw [ha] at ha'; injection ha' with e; rw [e]; exact hg
    · rw [h2]
      exact (ih (k + 1) (by omega) (by omega) (fun i hi => by
          by_cases hik : i < k
          · exact hpre i hik
          · have e : i = k := by omega
            subst e; exact hp)).imp (fun ⟨j, a, b, c⟩ => ⟨j, a, by omega, c⟩) id
/-- what Look finds in all -/
theorem look_T1 (hf : Fits S l) (hm : m + 1 < 4294967296) (hr : RunOk S.st.length l run) (ht : T1 S l m run) :
    (∃ j, j ≤ run.length ∧ OldF m (S.get (l.first + (j + 1 : Nat))) ∧ (∀ i, i < j → ∃ a, (logPuts l (q32 (m + 1)) 1 run)[i]? = some a ∧ S.get (l.first + (i + 1 : Nat)) = (⟨a.kind, a.q, a.d⟩, 0)) ∧ lookM S l = (run.take j, false, 0)) ∨
    (T2 S l m run ∧ lookM S l = (run, true, 0)) := by
  have hc := Lay.check_ok hf.chk
  have e : lookM S l = lookQ S l (q32 (m + 1)) (l.size - 1).toNat ((0 + 1 : Nat) : Int) (run.take 0) := by
    unfold lookM
    rw [head_of hf.chk ht.hd, if_neg (by simp), q32_succ]
    rfl
  rw [e]
  exact (look_parts hf hm hr ht (l.size - 1).toNat 0 (by omega) (by omega) (fun i hi => by omega)).imp (fun ⟨j, a, _, c⟩ => ⟨j, a, c⟩) id
theorem look_T2 (hf : Fits S l) (hm : m + 1 < 4294967296) (hr : RunOk S.st.length l run) (ht : T2 S l m run) : lookM S l = (run, true, 0) := by
  rcases look_T1 hf hm hr ht.t1 with ⟨j, hj, ho, _, _⟩ | ⟨_, h⟩
  · exfalso
    have hx : (logPuts l (q32 (m + 1)) 1 run)[j]? = some ((logPuts l (q32 (m + 1)) 1 run)[j]'(by rw [logPuts_length]; omega)) := List.getElem?_eq_getElem _
    have hg := ht.all j _ hx
    have hq : ((logPuts l (q32 (m + 1)) 1 run)[j]'(by rw [logPuts_length]; omega)).q = q32 (m + 1) := by
      rw [logPuts_get] at hx
      split at hx
      · injection hx with hx; rw [← hx]
      · split at hx
        · injection hx with hx; rw [← hx]
        · simp at hx
    have := ho.lo (by rw [hg])
    rw [hg] at this
    dsimp only at this
    rw [hq, q32_toNat hm] at this
    omega
  · exact h
theorem look_T0 (hf : Fits S l) (hm : m + 1 < 4294967296) (ht : T0 S l m) : lookM S l = ([], false, 0) := by
  have hc := Lay.check_ok hf.chk
  have hl : (([] : List Rec).length : Int) ≤ l.most := by unfold Lay.most; simp; omega
  rcases look_T1 (run := []) hf hm ⟨hl, fun k h => by simp at h⟩ (ht.t1 []) with ⟨j, hj, _, _, h⟩ | ⟨h2, _⟩
  · simpa using h
  · exfalso
    have h3 := h2.all 0 ⟨l.first + (1 + (0 : Nat)), 3, q32 (m + 1), two (1 + (0 : Nat) - 1)⟩ (by rw [logPuts_get]; simp)
    have ho := (ht.old 1 (by omega) (by omega)).lo
    rw [h3] at ho
    have := ho rfl
    dsimp only at this
    rw [q32_toNat hm] at this
    omega
/-- is there any frame of the transaction? -/
theorem stale_look (hon : ∀ i : Nat, 1 ≤ i → (i : Int) < l.size → broken (S.get (l.first + i)).2 = false) (q : BitVec 32) :
    ∀ (n i : Nat) (b : Bool), 1 ≤ i → (i : Int) + (n : Int) = l.size → (staleK S l q n i b).2 = 0 ∧ ((staleK S l q n i b).1 = true ↔ b = true ∨ ∃ j : Nat, i ≤ j ∧ (j : Int) < l.size ∧ isStale (S.get (l.first + j)) q = true) := by
  intro n
  induction n with
  | zero =>
    intro i b _ hn
    refine ⟨rfl, fun h => .inl h, ?_⟩
    rintro (h | ⟨j, h1, h2, _⟩)
    · exact h
    · omega
  | succ n ih =>
    intro i b h1 hn
    unfold staleK
    rw [if_neg (by rw [hon i h1 (by omega)]; simp)]
    have := ih (i + 1) (b || isStale (S.get (l.first + i)) q) (by omega) (by omega)
    rw [show ((i : Int) + 1) = ((i + 1 : Nat) : Int) by omega]
    refine ⟨this.1, this.2.trans ⟨?_, ?_⟩⟩
    · rintro (h | ⟨j, h2, h3, h4⟩)
      · rcases Bool.or_eq_true _ _ ▸ h with h | h
        · exact .inl h
        · exact .inr ⟨i, Nat.le_refl _, by omega, h⟩
      · exact .inr ⟨j, by omega, h3, h4⟩
    · rintro (h | ⟨j, h2, h3, h4⟩)
      · exact .inl (by rw [h]; rfl)
      · by_cases e : j = i
        · subst e; exact .inl (by rw [h4, Bool.or_true])
        · exact .inr ⟨j, by omega, h3, h4⟩
end
end Go.Proofs.YtfbkfdoekgnldaaDoor
namespace Go.Proofs.YtfbkfdoekgnldaaDoor
open Go.RowKit
/-- a device on which nothing waits -/
structure Calm (S : Dv) (l : Lay) : Prop where
  f : Fits S l
  ca : S.ca = []
  ok : S.Ok
/-- each sector is as before, or that of a put -/
structure Parts (S Y : Dv) (ps : List PutA) : Prop where
  len : Y.st.length = S.st.length
  each : ∀ p : Int, 0 ≤ p → Y.look p = S.look p ∨ ∃ a ∈ ps, a.p = p ∧ Y.look p = a.sec
structure AllIn (S Y : Dv) (ps : List PutA) : Prop where
  parts : Parts S Y ps
  all : ∀ a ∈ ps, Y.look a.p = a.sec
def Apart (ps : List PutA) : Prop := ∀ a ∈ ps, ∀ b ∈ ps, a.p = b.p → a = b
theorem Dv.putA_ok {S : Dv} (h : S.Ok) (a : PutA) : (S.putA a).Ok := by
  unfold Dv.putA Dv.put
  split
  · exact Dv.write_ok h _ _
  · exact h
theorem Dv.putAll_ok (ps : List PutA) : ∀ {S : Dv}, S.Ok → (S.putAll ps).1.Ok := by
  induction ps with
  | nil => intro S h; exact h
  | cons a r ih =>
    intro S h
    unfold Dv.putAll
    split
    · exact Dv.putA_ok h a
    · exact ih (Dv.putA_ok h a)
theorem calm_look {S : Dv} (h : S.ca = []) (m : Int) : S.look m = S.st.getD m.toNat zsec := by
  unfold Dv.look; rw [h, lastW_nil]; rfl
theorem mem_wr {ps : List PutA} {m : Int} {x : Sector} (h : (m, x) ∈ ps.map PutA.wr) : ∃ a ∈ ps, a.p = m ∧ x = a.sec := by
  obtain ⟨a, ha, e⟩ := List.mem_map.1 h
  unfold PutA.wr at e
  injection e with e1 e2
  exact ⟨a, ha, e1, e2.symm⟩
/-- what comes of puts and a flush: all of them; or the power goes, and a crash leaves some of them -/
theorem done_puts {S : Dv} {l : Lay} (h : Calm S l) (ps : List PutA) (hok : ∀ a ∈ ps, a.Ok S.st.length) (hd : Apart ps) (hl : ps.length ≤ 200) (ht : S.taken ≤ 1000000) :
    ((Dv.done (S.putAll ps)).2 = 0 ∧ Calm (Dv.done (S.putAll ps)).1 l ∧ AllIn S (Dv.done (S.putAll ps)).1 ps ∧ (Dv.done (S.putAll ps)).1.taken = S.taken + ps.length ∧ (S.power < 0 → (Dv.done (S.putAll ps)).1.power = S.power)) ∨
    ((Dv.done (S.putAll ps)).2 = 13 ∧ 0 ≤ S.power ∧ (Dv.done (S.putAll ps)).1.ca.length ≤ 200 ∧ (Dv.done (S.putAll ps)).1.taken ≤ S.taken + ps.length ∧
      ∀ keep, (Dv.done (S.putAll ps)).1.crashE keep = 0 → Calm ((Dv.done (S.putAll ps)).1.crash keep) l ∧ ((Dv.done (S.putAll ps)).1.crash keep).power = -1 ∧ ((Dv.done (S.putAll ps)).1.crash keep).taken ≤ S.taken + ps.length ∧ Parts S ((Dv.done (S.putAll ps)).1.crash keep) ps) := by
  have hfit : S.Fit ps.length := ⟨h.f.on, by rw [h.ca]; simp; omega, by omega⟩
  have hOk := Dv.putAll_ok ps h.ok
  by_cases hp : S.power < 0 ∨ (ps.length : Int) ≤ S.power
  · left
    have e := Dv.putAll_go ps S hfit hok hp
    rw [e] at hOk ⊢
    have hon : (S.ran (ps.map PutA.wr)).off = false := h.f.on
    obtain ⟨ef, ee⟩ := Dv.flush_go hon
    have ed : Dv.done (S.ran (ps.map PutA.wr), 0) = ((S.ran (ps.map PutA.wr)).stable, 0) := by
      unfold Dv.done; rw [if_neg (by simp), ef, ee]
    rw [ed]
    have hlen : (S.ran (ps.map PutA.wr)).stable.st.length = S.st.length := by simp [Dv.stable, flushL_length, Dv.ran]
    have hlook : ∀ p : Int, 0 ≤ p → (S.ran (ps.map PutA.wr)).stable.look p = (lastW (ps.map PutA.wr) p).getD (S.look p) := fun p hp => by
      rw [Dv.look_stable hOk p hp, Dv.look_ran]
    refine ⟨rfl, ⟨⟨hon, h.f.chk, by rw [hlen]; exact h.f.end_, by rw [hlen]; exact h.f.n256⟩, rfl, Dv.stable_ok hOk⟩, ⟨⟨hlen, fun p hp0 => ?_⟩, fun a ha => ?_⟩, by simp [Dv.stable, Dv.ran], fun hneg => by simp only [Dv.stable, Dv.ran]; rw [if_neg (by omega)]⟩
    · rw [hlook p hp0]
      cases hw : lastW (ps.map PutA.wr) p with
      | none => exact .inl rfl
      | some x =>
        obtain ⟨a, ha, hap, rfl⟩ := mem_wr (lastW_mem hw)
        exact .inr ⟨a, ha, hap, rfl⟩
    · have h0 := (hok a ha).p0
      rw [hlook a.p h0]
      obtain ⟨y, hy⟩ := lastW_some (List.mem_map_of_mem (f := PutA.wr) ha : (a.p, a.sec) ∈ ps.map PutA.wr)
      rw [hy]
      obtain ⟨b, hb, hbp, rfl⟩ := mem_wr (lastW_mem hy)
      rw [hd b hb a ha hbp]; rfl
  · right
    have h0 : 0 ≤ S.power := by omega
    have e := Dv.putAll_stop ps S hfit hok h0 (by omega)
    rw [e] at hOk ⊢
    have ed : ∀ D : Dv, Dv.done (D, 13) = (D, 13) := fun D => by unfold Dv.done; rw [if_pos (by simp)]
    rw [ed]
    have hlt : ((ps.take S.power.toNat).map PutA.wr).length ≤ ps.length := by simp; omega
    refine ⟨rfl, h0, ?_, ?_, fun keep hk => ?_⟩
    · show (S.ca ++ (ps.take S.power.toNat).map PutA.wr).length ≤ 200
      rw [h.ca]; simp; omega
    · show S.taken + (((ps.take S.power.toNat).map PutA.wr).length : Int) ≤ _
      omega
    · obtain ⟨c1, c2, c3, c4, c5⟩ := Dv.crash_parts keep hk
      have hlen : ({ S.ran ((ps.take S.power.toNat).map PutA.wr) with off := true } : Dv).st.length = S.st.length := rfl
      refine ⟨⟨⟨c5, h.f.chk, by rw [c1]; exact h.f.end_, by rw [c1]; exact h.f.n256⟩, c2, Dv.crash_ok hOk keep⟩, c4, ?_, ⟨c1, fun p hp0 => ?_⟩⟩
      · rw [c3]
        show S.taken + (((ps.take S.power.toNat).map PutA.wr).length : Int) ≤ _
        omega
      · rcases Dv.keep_look hOk keep hk p hp0 with hx | ⟨x, hm, hx⟩
        · left
          rw [hx, calm_look h.ca]
          rfl
        · right
          have hm2 : (p, x) ∈ S.ca ++ (ps.take S.power.toNat).map PutA.wr := hm
          rw [h.ca, List.nil_append] at hm2
          obtain ⟨a, ha, hap, rfl⟩ := mem_wr hm2
          exact ⟨a, List.mem_of_mem_take ha, hap, hx⟩
/-- a crash of a device on which nothing waits -/
theorem calm_crash {S : Dv} {l : Lay} (h : Calm S l) (keep : List Int) (hk : S.crashE keep = 0) : Calm (S.crash keep) l ∧ (S.crash keep).power = -1 ∧ (S.crash keep).taken = S.taken ∧ Parts S (S.crash keep) [] := by
  obtain ⟨c1, c2, c3, c4, c5⟩ := Dv.crash_parts keep hk
  refine ⟨⟨⟨c5, h.f.chk, by rw [c1]; exact h.f.end_, by rw [c1]; exact h.f.n256⟩, c2, Dv.crash_ok h.ok keep⟩, c4, c3, ⟨c1, fun p hp0 => ?_⟩⟩
  rcases Dv.keep_look h.ok keep hk p hp0 with hx | ⟨x, hm, _⟩
  · left; rw [hx, calm_look h.ca]
  · rw [h.ca] at hm; simp at hm
end Go.Proofs.YtfbkfdoekgnldaaDoor
namespace Go.Proofs.YtfbkfdoekgnldaaDoor
open Go.RowKit
section
variable {S Y : Dv} {l : Lay} {m : Nat} {run : List Rec}
theorem get_same (hS : Fits S l) (hY : Fits Y l) (hl : Y.st.length = S.st.length) {p : Int} (h0 : 0 ≤ p) (h1 : p < S.st.length) (h : Y.look p = S.look p) : Y.get p = S.get p := by
  rw [Dv.get_on hY.on h0 (by rw [hl]; exact h1), Dv.get_on hS.on h0 h1, h]
theorem get_put (hY : Fits Y l) {a : PutA} (ha : a.Ok Y.st.length) (h : Y.look a.p = a.sec) : Y.get a.p = (⟨a.kind, a.q, a.d⟩, 0) := by
  rw [Dv.get_on hY.on ha.p0 ha.p1, h, ha.opened]
theorem logPuts_mem {q : BitVec 32} {a : PutA} (h : a ∈ logPuts l q 1 run) : ∃ k : Nat, k ≤ run.length ∧ (logPuts l q 1 run)[k]? = some a ∧ a.p = l.first + ((k + 1 : Nat) : Int) ∧ a.q = q := by
  obtain ⟨k, hk, e⟩ := List.mem_iff_getElem.1 h
  have hk2 := hk
  rw [logPuts_length] at hk2
  have e2 : (logPuts l q 1 run)[k]? = some a := by rw [List.getElem?_eq_getElem hk, e]
  refine ⟨k, by omega, e2, ?_⟩
  rw [logPuts_get] at e2
  split at e2
  · injection e2 with e2
    rw [← e2]
    exact ⟨by dsimp only; omega, rfl⟩
  · split at e2
    · injection e2 with e2
      rw [← e2]
      exact ⟨by dsimp only; omega, rfl⟩
    · simp at e2
theorem logPuts_ok (hf : Fits S l) (hr : RunOk S.st.length l run) (q : BitVec 32) : ∀ a ∈ logPuts l q 1 run, a.Ok S.st.length := by
  intro a ha
  obtain ⟨k, hk, e, hp, _⟩ := logPuts_mem ha
  have c := Lay.check_ok hf.chk
  have hl := (most_le l).1
  have hlen := hr.len
  have he := hf.end_
  have hn := hf.n256
  have h0 : 0 ≤ a.p ∧ a.p < S.st.length ∧ a.p < 256 := by rw [hp]; omega
  rw [logPuts_get] at e
  by_cases hlt : k < run.length
  · rw [dif_pos hlt] at e
    injection e with e
    have ok := hasAt_take hr k hlt
    refine ⟨h0.1, h0.2.1, h0.2.2, ?_, ?_, ?_⟩
    · rw [← e]; show (1 : Int) ≤ 2; decide
    · rw [← e]; show (2 : Int) ≤ 255; decide
    · rw [← e]; show (recBytes run[k]).size ≤ 112; rw [recBytes_size]; have := ok.d1; omega
  · rw [dif_neg hlt] at e
    split at e
    · injection e with e
      refine ⟨h0.1, h0.2.1, h0.2.2, ?_, ?_, ?_⟩
      · rw [← e]; show (1 : Int) ≤ 3; decide
      · rw [← e]; show (3 : Int) ≤ 255; decide
      · rw [← e]; show (two _).size ≤ 112; rw [two_size]; decide
    · simp at e
theorem logPuts_apart (q : BitVec 32) : Apart (logPuts l q 1 run) := by
  intro a ha b hb e
  obtain ⟨k, _, ea, hpa, _⟩ := logPuts_mem ha
  obtain ⟨j, _, eb, hpb, _⟩ := logPuts_mem hb
  have : k = j := by omega
  subst this
  rw [ea] at eb; injection eb
theorem T1_parts (hS : Fits S l) (hY : Fits Y l) (hr : RunOk S.st.length l run) (ht : T0 S l m) (hp : Parts S Y (logPuts l (q32 (m + 1)) 1 run)) : T1 Y l m run := by
  have c := Lay.check_ok hS.chk
  have he := hS.end_
  have hn := hS.n256
  refine ⟨?_, fun i h1 h2 => ?_⟩
  · unfold HeadIs
    rcases hp.each l.first (by omega) with h | ⟨a, ha, hap, _⟩
    · rw [get_same hS hY hp.len (by omega) (by omega) h]; exact ht.hd
    · exfalso
      obtain ⟨k, _, _, hp2, _⟩ := logPuts_mem ha
      omega
  · rcases hp.each (l.first + i) (by omega) with h | ⟨a, ha, hap, hs⟩
    · left
      rw [get_same hS hY hp.len (by omega) (by omega) h]
      exact ht.old i h1 h2
    · right
      obtain ⟨k, _, e, hp2, _⟩ := logPuts_mem ha
      have hk : k = i - 1 := by omega
      subst hk
      refine ⟨a, e, ?_⟩
      rw [← hap]
      exact get_put hY (by rw [hp.len]; exact logPuts_ok hS hr _ a ha) (by rw [hap]; exact hs)
theorem T2_all (hS : Fits S l) (hY : Fits Y l) (hr : RunOk S.st.length l run) (ht : T0 S l m) (hp : AllIn S Y (logPuts l (q32 (m + 1)) 1 run)) : T2 Y l m run := by
  refine ⟨T1_parts hS hY hr ht hp.parts, fun k a e => ?_⟩
  have ha : a ∈ logPuts l (q32 (m + 1)) 1 run := List.mem_of_getElem? e
  obtain ⟨j, _, ej, hpj, _⟩ := logPuts_mem ha
  have hap : a.p = l.first + ((k + 1 : Nat) : Int) := by
    have e2 := e
    rw [logPuts_get] at e2
    split at e2
    · injection e2 with e2; rw [← e2]; dsimp only; omega
    · split at e2
      · injection e2 with e2; rw [← e2]; dsimp only; omega
      · simp at e2
  rw [← hap]
  exact get_put hY (by rw [hp.parts.len]; exact logPuts_ok hS hr _ a ha) (hp.all a ha)
/-- sectors of the journal are as they were -/
def SameIn (S Y : Dv) (l : Lay) : Prop := ∀ i : Nat, (i : Int) < l.size → Y.look (l.first + i) = S.look (l.first + i)
theorem same_get (hS : Fits S l) (hY : Fits Y l) (hl : Y.st.length = S.st.length) (h : SameIn S Y l) (i : Nat) (hi : (i : Int) < l.size) : Y.get (l.first + i) = S.get (l.first + i) := by
  have c := Lay.check_ok hS.chk
  have he := hS.end_
  exact get_same hS hY hl (by omega) (by omega) (h i hi)
theorem same_head (hS : Fits S l) (hY : Fits Y l) (hl : Y.st.length = S.st.length) (h : SameIn S Y l) (hh : HeadIs S l m) : HeadIs Y l m := by
  have c := Lay.check_ok hS.chk
  have := same_get hS hY hl h 0 (by omega)
  unfold HeadIs at *
  rw [show l.first + ((0 : Nat) : Int) = l.first by omega] at this
  rw [this]; exact hh
theorem T0_same (hS : Fits S l) (hY : Fits Y l) (hl : Y.st.length = S.st.length) (h : SameIn S Y l) (ht : T0 S l m) : T0 Y l m :=
  ⟨same_head hS hY hl h ht.hd, fun i h1 h2 => by rw [same_get hS hY hl h i h2]; exact ht.old i h1 h2⟩
theorem T1_same (hS : Fits S l) (hY : Fits Y l) (hl : Y.st.length = S.st.length) (h : SameIn S Y l) (ht : T1 S l m run) : T1 Y l m run :=
  ⟨same_head hS hY hl h ht.hd, fun i h1 h2 => by rw [same_get hS hY hl h i h2]; exact ht.part i h1 h2⟩
theorem T2_same (hS : Fits S l) (hY : Fits Y l) (hl : Y.st.length = S.st.length) (h : SameIn S Y l) (hr : (run.length : Int) ≤ l.most) (ht : T2 S l m run) : T2 Y l m run :=
  ⟨T1_same hS hY hl h ht.t1, fun k a e => by
    have hk : k ≤ run.length := by
      have := (List.getElem?_eq_some_iff.1 e).1
      rw [logPuts_length] at this; omega
    have := (most_le l).1
    rw [same_get hS hY hl h (k + 1) (by omega)]
    exact ht.all k a e⟩
/-- the put that ends a transaction -/
def clrPut (l : Lay) (m : Nat) : PutA := ⟨l.first, 1, q32 (m + 1), ⟨#[]⟩⟩
theorem clrPut_ok (hS : Fits S l) (m : Nat) : (clrPut l m).Ok S.st.length := by
  have c := Lay.check_ok hS.chk
  have he := hS.end_
  have hn := hS.n256
  exact ⟨by show 0 ≤ l.first; omega, by show l.first < (S.st.length : Int); omega, by show l.first < 256; omega, by show (1 : Int) ≤ 1; decide, by show (1 : Int) ≤ 255; decide, by show 0 ≤ 112; decide⟩
theorem T0_clear (hS : Fits S l) (hY : Fits Y l) (hm : m + 1 < 4294967296) (ht : T1 S l m run) (hl : Y.st.length = S.st.length) (hh : Y.look l.first = (clrPut l m).sec) (hs : ∀ p : Int, 0 ≤ p → p ≠ l.first → Y.look p = S.look p) : T0 Y l (m + 1) := by
  have c := Lay.check_ok hS.chk
  have he := hS.end_
  refine ⟨?_, fun i h1 h2 => ?_⟩
  · have := get_put hY (by rw [hl]; exact clrPut_ok hS m) hh
    exact this
  · rw [get_same hS hY hl (by omega) (by omega) (hs (l.first + i) (by omega) (by omega))]
    rcases ht.part i h1 h2 with h | ⟨a, ha, hg⟩
    · exact h.mono (by omega)
    · obtain ⟨k, _, _, _, hq⟩ := logPuts_mem (List.mem_of_getElem? ha)
      rw [hg]
      exact ⟨by show broken 0 = false; decide, fun _ => by show a.q.toNat ≤ m + 1; rw [hq, q32_toNat hm]; omega⟩
/-- what is at a place -/
def Held (S : Dv) (p : Int) : Option (Int × ByteArray) → Prop
  | none => S.look p = zsec
  | some x => ∃ q, S.get p = (⟨x.1, q, x.2⟩, 0)
/-- what is at the places outside of the journal -/
def Pl (S : Dv) (l : Lay) (f : Int → Option (Int × ByteArray)) : Prop := ∀ p : Int, 0 ≤ p → p < S.st.length → l.inside p = false → Held S p (f p)
/-- some places have what a run writes, the others what was there -/
def PlPart (S : Dv) (l : Lay) (f : Int → Option (Int × ByteArray)) (run : List Rec) : Prop := ∀ p : Int, 0 ≤ p → p < S.st.length → l.inside p = false → Held S p (f p) ∨ ∃ r ∈ run, r.at_ = p ∧ Held S p (some (r.kind, r.data))
def upd (f : Int → Option (Int × ByteArray)) : List Rec → Int → Option (Int × ByteArray)
  | [] => f
  | r :: rest => upd (fun p => if p = r.at_ then some (r.kind, r.data) else f p) rest
theorem upd_snoc (r : Rec) (run : List Rec) : ∀ f, upd f (run ++ [r]) = fun p => if p = r.at_ then some (r.kind, r.data) else upd f run p := by
  induction run with
  | nil => intro f; rfl
  | cons x rest ih => intro f; exact ih _
theorem held_same (hS : Fits S l) (hY : Fits Y l) (hl : Y.st.length = S.st.length) {p : Int} (h0 : 0 ≤ p) (h1 : p < S.st.length) (h : Y.look p = S.look p) {x : Option (Int × ByteArray)} (hx : Held S p x) : Held Y p x := by
  cases x with
  | none => exact h.trans hx
  | some x => obtain ⟨q, hq⟩ := hx; exact ⟨q, by rw [get_same hS hY hl h0 h1 h]; exact hq⟩
theorem inside_iff {p : Int} : l.inside p = true ↔ l.first ≤ p ∧ p < l.first + l.size := by unfold Lay.inside; simp
theorem Pl_same (hS : Fits S l) (hY : Fits Y l) (hl : Y.st.length = S.st.length) (h : ∀ p : Int, 0 ≤ p → l.inside p = false → Y.look p = S.look p) {f : Int → Option (Int × ByteArray)} (hf : Pl S l f) : Pl Y l f :=
  fun p h0 h1 hi => held_same hS hY hl h0 (by rw [← hl]; exact h1) (h p h0 hi) (hf p h0 (by rw [← hl]; exact h1) hi)
theorem PlPart_same (hS : Fits S l) (hY : Fits Y l) (hl : Y.st.length = S.st.length) (h : ∀ p : Int, 0 ≤ p → l.inside p = false → Y.look p = S.look p) {f : Int → Option (Int × ByteArray)} (hf : PlPart S l f run) : PlPart Y l f run :=
  fun p h0 h1 hi => (hf p h0 (by rw [← hl]; exact h1) hi).imp (held_same hS hY hl h0 (by rw [← hl]; exact h1) (h p h0 hi)) (fun ⟨r, hr, e, hx⟩ => ⟨r, hr, e, held_same hS hY hl h0 (by rw [← hl]; exact h1) (h p h0 hi) hx⟩)
/-- the log's puts leave the places outside -/
theorem log_out (hS : Fits S l) (hr : (run.length : Int) ≤ l.most) {q : BitVec 32} (hp : Parts S Y (logPuts l q 1 run)) : ∀ p : Int, 0 ≤ p → l.inside p = false → Y.look p = S.look p := by
  intro p h0 hi
  rcases hp.each p h0 with h | ⟨a, ha, hap, _⟩
  · exact h
  · exfalso
    obtain ⟨k, hk, _, hp2, _⟩ := logPuts_mem ha
    have c := Lay.check_ok hS.chk
    have := (most_le l).1
    have : l.inside p = true := by rw [inside_iff]; omega
    rw [hi] at this; cases this
theorem appPuts_mem {q : BitVec 32} {a : PutA} (h : a ∈ appPuts q run) : ∃ r ∈ run, a = ⟨r.at_, r.kind, q, r.data⟩ := by
  obtain ⟨r, hr, e⟩ := List.mem_map.1 h
  exact ⟨r, hr, e.symm⟩
theorem run_ok (hr : RunOk S.st.length l run) {r : Rec} (h : r ∈ run) : ∃ k, ∃ hk : k < run.length, run[k] = r ∧ RecOk S.st.length l (run.take k) r := by
  obtain ⟨k, hk, e⟩ := List.mem_iff_getElem.1 h
  exact ⟨k, hk, e, e ▸ hasAt_take hr k hk⟩
theorem appPuts_ok (hS : Fits S l) (hr : RunOk S.st.length l run) (q : BitVec 32) : ∀ a ∈ appPuts q run, a.Ok S.st.length := by
  intro a ha
  obtain ⟨r, hm, rfl⟩ := appPuts_mem ha
  obtain ⟨k, hk, _, ok⟩ := run_ok hr hm
  have hn := hS.n256
  have h1 := ok.a0
  have h2 := ok.a1
  exact ⟨h1, h2, by show r.at_ < 256; omega, ok.k0, ok.k1, by show r.data.size ≤ 112; have := ok.d1; omega⟩
theorem run_apart (hr : RunOk S.st.length l run) {r s : Rec} (h1 : r ∈ run) (h2 : s ∈ run) (e : r.at_ = s.at_) : r = s := by
  obtain ⟨j, hj, ej, okj⟩ := run_ok hr h1
  obtain ⟨k, hk, ek, okk⟩ := run_ok hr h2
  have key : ∀ (a b : Nat) (ha : a < run.length) (hb : b < run.length), a < b → hasAt (run.take b) run[a].at_ = true := by
    intro a b ha hb hab
    unfold hasAt
    rw [List.any_eq_true]
    refine ⟨run[a], ?_, by simp⟩
    rw [List.mem_iff_getElem]
    exact ⟨a, by simp; omega, by simp⟩
  rcases Nat.lt_trichotomy j k with h | h | h
  · have := key j k hj hk h
    rw [ej, e, okk.new] at this; cases this
  · subst h; rw [← ej, ← ek]
  · have := key k j hk hj h
    rw [ek, ← e, okj.new] at this; cases this
theorem appPuts_apart (hr : RunOk S.st.length l run) (q : BitVec 32) : Apart (appPuts q run) := by
  intro a ha b hb e
  obtain ⟨r, hm, rfl⟩ := appPuts_mem ha
  obtain ⟨s, hs, rfl⟩ := appPuts_mem hb
  rw [run_apart hr hm hs e]
/-- the records' puts leave the journal -/
theorem app_in (hS : Fits S l) (hr : RunOk S.st.length l run) {q : BitVec 32} (hp : Parts S Y (appPuts q run)) : SameIn S Y l := by
  intro i hi
  have c := Lay.check_ok hS.chk
  rcases hp.each (l.first + i) (by omega) with h | ⟨a, ha, hap, _⟩
  · exact h
  · exfalso
    obtain ⟨r, hm, rfl⟩ := appPuts_mem ha
    obtain ⟨k, hk, _, ok⟩ := run_ok hr hm
    have : l.inside r.at_ = true := by rw [inside_iff]; dsimp only at hap; omega
    rw [ok.out] at this; cases this
theorem app_part (hS : Fits S l) (hY : Fits Y l) (hr : RunOk S.st.length l run) {q : BitVec 32} (hp : Parts S Y (appPuts q run)) {f : Int → Option (Int × ByteArray)} (hf : PlPart S l f run) : PlPart Y l f run := by
  intro p h0 h1 hi
  rcases hp.each p h0 with h | ⟨a, ha, hap, hs⟩
  · exact (hf p h0 (by rw [← hp.len]; exact h1) hi).imp (held_same hS hY hp.len h0 (by rw [← hp.len]; exact h1) h) (fun ⟨r, hr, e, hx⟩ => ⟨r, hr, e, held_same hS hY hp.len h0 (by rw [← hp.len]; exact h1) h hx⟩)
  · right
    have hok := appPuts_ok hS hr q a ha
    obtain ⟨r, hm, e⟩ := appPuts_mem ha
    refine ⟨r, hm, by rw [← hap, e], q, ?_⟩
    have := get_put hY (by rw [hp.len]; exact hok) (by rw [hap]; exact hs)
    rw [hap] at this
    rw [this, e]
theorem upd_not (run : List Rec) : ∀ (f : Int → Option (Int × ByteArray)) (p : Int), (∀ r ∈ run, r.at_ ≠ p) → upd f run p = f p := by
  induction run with
  | nil => intro f p _; rfl
  | cons r rest ih =>
    intro f p h
    rw [upd, ih _ p (fun s hs => h s (.tail _ hs)), if_neg (fun e => h r (.head _) e.symm)]
theorem upd_in (run : List Rec) : ∀ (f : Int → Option (Int × ByteArray)) (r : Rec), r ∈ run → (∀ s ∈ run, s.at_ = r.at_ → s = r) → upd f run r.at_ = some (r.kind, r.data) := by
  induction run with
  | nil => intro f r h; simp at h
  | cons x rest ih =>
    intro f r h hu
    rw [upd]
    by_cases hm : r ∈ rest
    · exact ih _ r hm (fun s hs => hu s (.tail _ hs))
    · rcases List.mem_cons.1 h with rfl | h
      · rw [upd_not rest _ r.at_ (fun s hs e => hm ((hu s (.tail _ hs) e) ▸ hs)), if_pos rfl]
      · exact absurd h hm
/-- all records are in their places -/
theorem app_all (hS : Fits S l) (hY : Fits Y l) (hr : RunOk S.st.length l run) {q : BitVec 32} (hp : AllIn S Y (appPuts q run)) {f : Int → Option (Int × ByteArray)} (hf : PlPart S l f run) : Pl Y l (upd f run) := by
  intro p h0 h1 hi
  by_cases hin : ∃ r ∈ run, r.at_ = p
  · obtain ⟨r, hm, rfl⟩ := hin
    rw [upd_in run f r hm (fun s hs e => run_apart hr hs hm e)]
    have ha : (⟨r.at_, r.kind, q, r.data⟩ : PutA) ∈ appPuts q run := List.mem_map_of_mem (f := fun r => (⟨r.at_, r.kind, q, r.data⟩ : PutA)) hm
    exact ⟨q, get_put hY (by rw [hp.parts.len]; exact appPuts_ok hS hr q _ ha) (hp.all _ ha)⟩
  · have hno : ∀ r ∈ run, r.at_ ≠ p := fun r hr e => hin ⟨r, hr, e⟩
    rw [upd_not run f p hno]
    have hold := hf p h0 (by rw [← hp.parts.len]; exact h1) hi
    rcases hold with hold | ⟨r, hm, e, _⟩
    · rcases hp.parts.each p h0 with h | ⟨a, ha, hap, _⟩
      · exact held_same hS hY hp.parts.len h0 (by rw [← hp.parts.len]; exact h1) h hold
      · obtain ⟨r, hm, e⟩ := appPuts_mem ha
        exact absurd (by rw [← hap, e]) (hno r hm)
    · exact absurd e (hno r hm)
end
end Go.Proofs.YtfbkfdoekgnldaaDoor
namespace Go.Proofs.YtfbkfdoekgnldaaDoor
open Go.RowKit
/-- a journal that a crash may have left in the midst of a transaction -/
def Mid (S : Dv) (l : Lay) (m : Nat) (f : Int → Option (Int × ByteArray)) (run : List Rec) : Prop :=
  (T1 S l m run ∧ Pl S l f) ∨ (T2 S l m run ∧ PlPart S l f run) ∨ (T0 S l (m + 1) ∧ (Pl S l f ∨ Pl S l (upd f run)))
section
variable {S Y : Dv} {l : Lay} {m : Nat} {run : List Rec} {f : Int → Option (Int × ByteArray)}
theorem Pl.part (hr : RunOk S.st.length l run) (h : Pl S l (upd f run)) : PlPart S l f run := by
  intro p h0 h1 hi
  have hp := h p h0 h1 hi
  by_cases hin : ∃ r ∈ run, r.at_ = p
  · obtain ⟨r, hm, rfl⟩ := hin
    rw [upd_in run f r hm (fun s hs e => run_apart hr hs hm e)] at hp
    exact .inr ⟨r, hm, rfl, hp⟩
  · rw [upd_not run f p (fun r hr e => hin ⟨r, hr, e⟩)] at hp
    exact .inl hp
theorem Pl.part0 (h : Pl S l f) : PlPart S l f run := fun p h0 h1 hi => .inl (h p h0 h1 hi)
theorem T0.nb (h : T0 S l m) : ∀ i : Nat, 1 ≤ i → (i : Int) < l.size → broken (S.get (l.first + i)).2 = false := fun i h1 h2 => (h.old i h1 h2).nb
theorem T1.nb (h : T1 S l m run) : ∀ i : Nat, 1 ≤ i → (i : Int) < l.size → broken (S.get (l.first + i)).2 = false := fun i h1 h2 => by
  rcases h.part i h1 h2 with h | ⟨a, _, hg⟩
  · exact h.nb
  · rw [hg]; rfl
theorem stale_eq (hf : Fits S l) (hnb : ∀ i : Nat, 1 ≤ i → (i : Int) < l.size → broken (S.get (l.first + i)).2 = false) (m : Nat) :
    (staleM S l (q32 m)).2 = 0 ∧ ((staleM S l (q32 m)).1 = true ↔ ∃ j : Nat, 1 ≤ j ∧ (j : Int) < l.size ∧ isStale (S.get (l.first + j)) (q32 (m + 1)) = true) := by
  have c := Lay.check_ok hf.chk
  have := stale_look hnb (q32 (m + 1)) (l.size - 1).toNat 1 false (Nat.le_refl _) (by omega)
  unfold staleM
  rw [q32_succ]
  refine ⟨this.1, this.2.trans ⟨fun h => h.elim (fun h => by cases h) id, .inr⟩⟩
theorem stale_T0 (hf : Fits S l) (hm : m + 1 < 4294967296) (h : T0 S l m) : staleM S l (q32 m) = (false, 0) := by
  obtain ⟨h2, h1⟩ := stale_eq hf h.nb m
  have : (staleM S l (q32 m)).1 = false := by
    cases hs : (staleM S l (q32 m)).1
    · rfl
    · obtain ⟨j, j1, j2, j3⟩ := h1.1 hs
      unfold isStale at j3
      rw [(h.old j j1 j2).mine hm] at j3
      cases j3
  exact Prod.ext this h2
theorem stale_T1 (hf : Fits S l) (h : T1 S l m run) : (staleM S l (q32 m)).2 = 0 ∧ ((staleM S l (q32 m)).1 = true ∨ T0 S l m) := by
  obtain ⟨h2, h1⟩ := stale_eq hf h.nb m
  refine ⟨h2, ?_⟩
  cases hs : (staleM S l (q32 m)).1
  · right
    refine ⟨h.hd, fun i i1 i2 => ?_⟩
    rcases h.part i i1 i2 with h | ⟨a, ha, hg⟩
    · exact h
    · exfalso
      have : isStale (S.get (l.first + i)) (q32 (m + 1)) = true := by
        rw [hg]
        unfold isStale mine
        obtain ⟨_, _, _, _, hq⟩ := logPuts_mem (List.mem_of_getElem? ha)
        rw [logPuts_get] at ha
        split at ha
        · injection ha with ha; rw [← ha]; simp
        · split at ha
          · injection ha with ha; rw [← ha]; simp
          · simp at ha
      have := h1.2 ⟨i, i1, i2, this⟩
      rw [hs] at this; cases this
  · exact .inl rfl
theorem clear_eq (hc : l.check = 0) (h : HeadIs S l m) : clearM S l = Dv.done (S.putAll [clrPut l m]) := by
  unfold clearM clrPut
  rw [head_of hc h, if_neg (by simp), q32_succ]
theorem clr_apart : Apart [clrPut l m] := by
  intro a ha b hb _
  simp at ha hb
  rw [ha, hb]
theorem clr_ok (hS : Fits S l) : ∀ a ∈ [clrPut l m], a.Ok S.st.length := by
  intro a ha
  simp at ha
  rw [ha]; exact clrPut_ok hS m
/-- what is left behind a Clear that was cut off -/
theorem clr_cases (hp : Parts S Y [clrPut l m]) (h0 : 0 ≤ l.first) : (∀ p : Int, 0 ≤ p → Y.look p = S.look p) ∨ (Y.look l.first = (clrPut l m).sec ∧ ∀ p : Int, 0 ≤ p → p ≠ l.first → Y.look p = S.look p) := by
  have hne : ∀ p : Int, 0 ≤ p → p ≠ l.first → Y.look p = S.look p := by
    intro p hp0 hp1
    rcases hp.each p hp0 with h | ⟨a, ha, hap, _⟩
    · exact h
    · simp at ha; rw [ha] at hap; exact absurd hap.symm hp1
  rcases hp.each l.first h0 with h | ⟨a, ha, _, hs⟩
  · left
    intro p hp0
    by_cases e : p = l.first
    · rw [e]; exact h
    · exact hne p hp0 e
  · right
    simp at ha
    rw [ha] at hs
    exact ⟨hs, hne⟩
theorem out_ne (h : Fits S l) {p : Int} (hi : l.inside p = false) : p ≠ l.first := by
  rintro rfl
  have c := Lay.check_ok h.chk
  have : l.inside l.first = true := by rw [inside_iff]; omega
  rw [hi] at this; cases this
/-- a Clear of a journal in the midst of a transaction -/
theorem clear_run (h : Calm S l) (hm : m + 1 < 4294967296) (ht : T1 S l m run) (htk : S.taken ≤ 1000000) :
    ((clearM S l).2 = 0 ∧ Calm (clearM S l).1 l ∧ T0 (clearM S l).1 l (m + 1) ∧ (∀ p : Int, 0 ≤ p → p ≠ l.first → (clearM S l).1.look p = S.look p) ∧ (clearM S l).1.st.length = S.st.length ∧ (clearM S l).1.taken = S.taken + 1 ∧ (S.power < 0 → (clearM S l).1.power = S.power)) ∨
    ((clearM S l).2 = 13 ∧ 0 ≤ S.power ∧ (clearM S l).1.ca.length ≤ 200 ∧ (clearM S l).1.taken ≤ S.taken + 1 ∧ ∀ keep, (clearM S l).1.crashE keep = 0 → Calm ((clearM S l).1.crash keep) l ∧ ((clearM S l).1.crash keep).power = -1 ∧ ((clearM S l).1.crash keep).taken ≤ S.taken + 1 ∧
      ((clearM S l).1.crash keep).st.length = S.st.length ∧ ((∀ p : Int, 0 ≤ p → ((clearM S l).1.crash keep).look p = S.look p) ∨ (T0 ((clearM S l).1.crash keep) l (m + 1) ∧ ∀ p : Int, 0 ≤ p → p ≠ l.first → ((clearM S l).1.crash keep).look p = S.look p))) := by
  have c := Lay.check_ok h.f.chk
  rw [clear_eq h.f.chk ht.hd]
  rcases done_puts h [clrPut l m] (clr_ok h.f) clr_apart (by simp) htk with ⟨h0, hc, ha, htk2, hpw⟩ | ⟨h0, hpw, hca, htk2, hk⟩
  · left
    have hh := ha.all (clrPut l m) (.head _)
    have hs : ∀ p : Int, 0 ≤ p → p ≠ l.first → (Dv.done (S.putAll [clrPut l m])).1.look p = S.look p := by
      intro p hp0 hp1
      rcases ha.parts.each p hp0 with h | ⟨a, ha, hap, _⟩
      · exact h
      · simp at ha; rw [ha] at hap; exact absurd hap.symm hp1
    exact ⟨h0, hc, T0_clear h.f hc.f hm ht ha.parts.len hh hs, hs, ha.parts.len, by rw [htk2]; simp, hpw⟩
  · right
    refine ⟨h0, hpw, hca, by simpa using htk2, fun keep hke => ?_⟩
    obtain ⟨k1, k2, k3, k4⟩ := hk keep hke
    refine ⟨k1, k2, by simpa using k3, k4.len, ?_⟩
    rcases clr_cases k4 c.2.2.1 with hs | ⟨hs1, hs2⟩
    · exact .inl hs
    · exact .inr ⟨T0_clear h.f k1.f hm ht k4.len hs1 hs2, hs2⟩
theorem mid_same (hS : Fits S l) (hY : Fits Y l) (hl : Y.st.length = S.st.length) (hr : (run.length : Int) ≤ l.most) (h : ∀ p : Int, 0 ≤ p → Y.look p = S.look p) (hm : Mid S l m f run) : Mid Y l m f run := by
  have c := Lay.check_ok hS.chk
  have hin : SameIn S Y l := fun i hi => h _ (by omega)
  have hout : ∀ p : Int, 0 ≤ p → l.inside p = false → Y.look p = S.look p := fun p hp _ => h p hp
  rcases hm with ⟨h1, h2⟩ | ⟨h1, h2⟩ | ⟨h1, h2⟩
  · exact .inl ⟨T1_same hS hY hl hin h1, Pl_same hS hY hl hout h2⟩
  · exact .inr (.inl ⟨T2_same hS hY hl hin hr h1, PlPart_same hS hY hl hout h2⟩)
  · exact .inr (.inr ⟨T0_same hS hY hl hin h1, h2.imp (Pl_same hS hY hl hout) (Pl_same hS hY hl hout)⟩)
/-- what a Replay comes to where the power does not go -/
structure Redone (S : Dv) (l : Lay) (m : Nat) (f : Int → Option (Int × ByteArray)) (run : List Rec) (was now : Nat) : Prop where
  calm : Calm (replayM S l).1 l
  len : (replayM S l).1.st.length = S.st.length
  pw : S.power < 0 → (replayM S l).1.power = S.power
  tk : (replayM S l).1.taken ≤ S.taken + 200
  w0 : m ≤ was
  w1 : was ≤ m + 1
  n0 : now = was ∨ now = was + 1
  n1 : now ≤ m + 1
  hd : HeadIs S l was
  t0 : T0 (replayM S l).1 l now
  none : now = was → lookM S l = ([], false, 0)
  le : (lookM S l).2.2 = 0
  yes : (lookM S l).2.1 = true → (replayM S l).2.1 = (lookM S l).1.length ∧ (lookM S l).1 = run
  no : (lookM S l).2.1 = false → (replayM S l).2.1 = 0
  recs : (lookM S l).2.1 = true → ∀ r ∈ run, (replayM S l).1.get r.at_ = (⟨r.kind, q32 (was + 1), r.data⟩, 0)
  pl : (now = m ∧ Pl (replayM S l).1 l f) ∨ (now = m + 1 ∧ (Pl (replayM S l).1 l f ∨ Pl (replayM S l).1 l (upd f run)))
theorem replay_run (h : Calm S l) (hmid : Mid S l m f run) (hr : RunOk S.st.length l run) (hm : m + 2 < 4294967296) (htk : S.taken ≤ 900000) :
    ((replayM S l).2.2 = 0 ∧ ∃ was now, Redone S l m f run was now) ∨
    ((replayM S l).2.2 = 13 ∧ 0 ≤ S.power ∧ (replayM S l).1.ca.length ≤ 200 ∧ (replayM S l).1.taken ≤ S.taken + 200 ∧ ∀ keep, (replayM S l).1.crashE keep = 0 → Calm ((replayM S l).1.crash keep) l ∧ ((replayM S l).1.crash keep).power = -1 ∧ ((replayM S l).1.crash keep).taken ≤ S.taken + 200 ∧ ((replayM S l).1.crash keep).st.length = S.st.length ∧ Mid ((replayM S l).1.crash keep) l m f run) := by
  have c := Lay.check_ok h.f.chk
  have whole : T2 S l m run → PlPart S l f run → (((replayM S l).2.2 = 0 ∧ ∃ was now, Redone S l m f run was now) ∨
    ((replayM S l).2.2 = 13 ∧ 0 ≤ S.power ∧ (replayM S l).1.ca.length ≤ 200 ∧ (replayM S l).1.taken ≤ S.taken + 200 ∧ ∀ keep, (replayM S l).1.crashE keep = 0 → Calm ((replayM S l).1.crash keep) l ∧ ((replayM S l).1.crash keep).power = -1 ∧ ((replayM S l).1.crash keep).taken ≤ S.taken + 200 ∧ ((replayM S l).1.crash keep).st.length = S.st.length ∧ Mid ((replayM S l).1.crash keep) l m f run)) := by
    intro ht hpl
    have hl := look_T2 h.f (by omega) hr ht
    have hhd := head_of h.f.chk ht.t1.hd
    have hrl : run.length ≤ 80 := by have := hr.len; have := (most_le l).2; omega
    obtain ⟨A, hA⟩ : ∃ A, A = appM S (q32 (m + 1)) run := ⟨_, rfl⟩
    have hR : replayM S l = if A.2 ≠ 0 then (A.1, 0, A.2) else many (clearM A.1 l) run.length := by
      unfold replayM
      rw [hl, hhd, if_neg (by simp), if_pos rfl]
      dsimp only
      rw [q32_succ, ← hA]
    have hd := done_puts h (appPuts (q32 (m + 1)) run) (appPuts_ok h.f hr _) (appPuts_apart hr _) (by unfold appPuts; simp; omega) (by omega)
    have hAe : A = Dv.done (S.putAll (appPuts (q32 (m + 1)) run)) := hA
    rw [← hAe] at hd
    have hpl2 : (appPuts (q32 (m + 1)) run).length = run.length := by unfold appPuts; simp
    rw [hpl2] at hd
    rcases hd with ⟨h0, hc, ha, htk2, hpw⟩ | ⟨h0, hpw, hca, htk2, hk⟩
    · have hsi := app_in h.f hr ha.parts
      have t2 := T2_same h.f hc.f ha.parts.len hsi hr.len ht
      have pl2 := app_all h.f hc.f hr ha hpl
      have hr2 : RunOk A.1.st.length l run := by rw [ha.parts.len]; exact hr
      rw [if_neg (by rw [h0]; simp)] at hR
      rcases clear_run hc (by omega) t2.t1 (by omega) with ⟨c0, cc, ct, cs, cl, ctk, cpw⟩ | ⟨c0, cpw, cca, ctk, ck⟩
      · left
        have hR2 : replayM S l = ((clearM A.1 l).1, (run.length : Int), 0) := by rw [hR]; unfold many; rw [if_neg (by rw [c0]; simp)]
        rw [hR2]
        refine ⟨rfl, m, m + 1, ?_⟩
        have clr_rec : ∀ r ∈ run, (clearM A.1 l).1.get r.at_ = (⟨r.kind, q32 (m + 1), r.data⟩, 0) := fun r hrm => by
          have hmem : (⟨r.at_, r.kind, q32 (m + 1), r.data⟩ : PutA) ∈ appPuts (q32 (m + 1)) run := List.mem_map_of_mem (f := fun r => (⟨r.at_, r.kind, q32 (m + 1), r.data⟩ : PutA)) hrm
          have hok := appPuts_ok h.f hr _ _ hmem
          obtain ⟨k, hk, _, rok⟩ := run_ok hr hrm
          exact get_put (a := ⟨r.at_, r.kind, q32 (m + 1), r.data⟩) cc.f (by rw [cl, ha.parts.len]; exact hok) ((cs r.at_ rok.a0 (out_ne h.f rok.out)).trans (ha.all _ hmem))
        have plc : Pl (clearM A.1 l).1 l (upd f run) := Pl_same hc.f cc.f cl (fun p hp hi => cs p hp (out_ne hc.f hi)) pl2
        exact ⟨by rw [hR2]; exact cc, by rw [hR2]; exact cl.trans ha.parts.len, fun hn => by rw [hR2]; have := hpw hn; exact (cpw (by omega)).trans this, by rw [hR2]; show (clearM A.1 l).1.taken ≤ _; omega, Nat.le_refl _, by omega, .inr rfl, Nat.le_refl _, ht.t1.hd, by rw [hR2]; exact ct, fun e => absurd e (by omega), by rw [hl], fun _ => by rw [hR2, hl]; exact ⟨rfl, rfl⟩, fun e => (by rw [hl] at e; cases e), fun _ r hrm => by rw [hR2]; exact clr_rec r hrm, .inr ⟨rfl, by rw [hR2]; exact .inr plc⟩⟩
      · right
        have hR2 : replayM S l = ((clearM A.1 l).1, 0, 13) := by rw [hR]; unfold many; rw [c0, if_pos (by simp)]
        rw [hR2]
        have h0p : 0 ≤ S.power := by
          rcases Int.lt_or_le S.power 0 with hn | hn
          · have := hpw hn; omega
          · exact hn
        refine ⟨rfl, h0p, cca, by show (clearM A.1 l).1.taken ≤ _; omega, fun keep hke => ?_⟩
        obtain ⟨k1, k2, k3, k4, k5⟩ := ck keep hke
        refine ⟨k1, k2, by show ((clearM A.1 l).1.crash keep).taken ≤ _; omega, k4.trans ha.parts.len, ?_⟩
        rcases k5 with hs | ⟨t0, hs⟩
        · exact mid_same hc.f k1.f k4 hr.len hs (.inr (.inl ⟨t2, Pl.part hr2 pl2⟩))
        · exact .inr (.inr ⟨t0, .inr (Pl_same hc.f k1.f k4 (fun p hp hi => hs p hp (out_ne hc.f hi)) pl2)⟩)
    · right
      rw [h0, if_pos (by simp)] at hR
      rw [hR]
      refine ⟨rfl, hpw, hca, by show A.1.taken ≤ _; omega, fun keep hke => ?_⟩
      obtain ⟨k1, k2, k3, k4⟩ := hk keep hke
      exact ⟨k1, k2, by show (A.1.crash keep).taken ≤ _; omega, k4.len, .inr (.inl ⟨T2_same h.f k1.f k4.len (app_in h.f hr k4) hr.len ht, app_part h.f k1.f hr k4 hpl⟩)⟩
  rcases hmid with ⟨ht, hpl⟩ | ⟨ht, hpl⟩ | ⟨ht, hpl⟩
  · rcases look_T1 h.f (by omega) hr ht with ⟨j, hj, hjo, _, hl⟩ | ⟨ht2, _⟩
    · have hhd := head_of h.f.chk ht.hd
      obtain ⟨s2, s1⟩ := stale_T1 h.f ht
      have hR : replayM S l = if (staleM S l (q32 m)).1 = true then many (clearM S l) 0 else (S, 0, 0) := by
        unfold replayM
        rw [hl, hhd, if_neg (by simp), if_neg (by simp)]
        dsimp only
        rw [s2, if_neg (by simp)]
      cases hst : (staleM S l (q32 m)).1
      · left
        have t0 : T0 S l m := by
          rcases s1 with s1 | s1
          · rw [hst] at s1; cases s1
          · exact s1
        rw [hst, if_neg (by simp)] at hR
        have hl0 := look_T0 h.f (by omega) t0
        rw [hR]
        refine ⟨rfl, m, m, ?_⟩
        exact ⟨by rw [hR]; exact h, by rw [hR], fun _ => by rw [hR], by rw [hR]; show S.taken ≤ _; omega, Nat.le_refl _, by omega, .inl rfl, by omega, ht.hd, by rw [hR]; exact t0, fun _ => hl0, by rw [hl0], fun e => (by rw [hl0] at e; cases e), fun _ => by rw [hR], fun e => (by rw [hl0] at e; cases e), .inl ⟨rfl, by rw [hR]; exact hpl⟩⟩
      · rw [hst, if_pos rfl] at hR
        rcases clear_run h (by omega) ht (by omega) with ⟨c0, cc, ct, cs, cl, ctk, cpw⟩ | ⟨c0, cpw, cca, ctk, ck⟩
        · left
          have hR2 : replayM S l = ((clearM S l).1, 0, 0) := by rw [hR]; unfold many; rw [if_neg (by rw [c0]; simp)]
          rw [hR2]
          refine ⟨rfl, m, m + 1, ?_⟩
          exact ⟨by rw [hR2]; exact cc, by rw [hR2]; exact cl, fun hn => by rw [hR2]; exact cpw hn, by rw [hR2]; show (clearM S l).1.taken ≤ _; omega, Nat.le_refl _, by omega, .inr rfl, Nat.le_refl _, ht.hd, by rw [hR2]; exact ct, fun e => absurd e (by omega), by rw [hl], fun e => (by rw [hl] at e; cases e), fun _ => by rw [hR2], fun e => (by rw [hl] at e; cases e), .inr ⟨rfl, by rw [hR2]; exact .inl (Pl_same h.f cc.f cl (fun p hp hi => cs p hp (out_ne h.f hi)) hpl)⟩⟩
        · right
          have hR2 : replayM S l = ((clearM S l).1, 0, 13) := by rw [hR]; unfold many; rw [c0, if_pos (by simp)]
          rw [hR2]
          refine ⟨rfl, cpw, cca, by show (clearM S l).1.taken ≤ _; omega, fun keep hke => ?_⟩
          obtain ⟨k1, k2, k3, k4, k5⟩ := ck keep hke
          refine ⟨k1, k2, by show ((clearM S l).1.crash keep).taken ≤ _; omega, k4, ?_⟩
          rcases k5 with hs | ⟨t0, hs⟩
          · exact mid_same h.f k1.f k4 hr.len hs (.inl ⟨ht, hpl⟩)
          · exact .inr (.inr ⟨t0, .inl (Pl_same h.f k1.f k4 (fun p hp hi => hs p hp (out_ne h.f hi)) hpl)⟩)
    · exact whole ht2 hpl.part0
  · exact whole ht hpl
  · left
    have hl := look_T0 h.f (by omega) ht
    have hhd := head_of h.f.chk ht.hd
    have hst := stale_T0 h.f (by omega) ht
    have hR : replayM S l = (S, 0, 0) := by
      unfold replayM
      rw [hl, hhd, if_neg (by simp), if_neg (by simp)]
      dsimp only
      rw [hst, if_neg (by simp), if_neg (by simp)]
    rw [hR]
    refine ⟨rfl, m + 1, m + 1, ?_⟩
    exact ⟨by rw [hR]; exact h, by rw [hR], fun _ => by rw [hR], by rw [hR]; show S.taken ≤ _; omega, by omega, Nat.le_refl _, .inl rfl, Nat.le_refl _, ht.hd, by rw [hR]; exact ht, fun _ => hl, by rw [hl], fun e => (by rw [hl] at e; cases e), fun _ => by rw [hR], fun e => (by rw [hl] at e; cases e), .inr ⟨rfl, by rw [hR]; exact hpl⟩⟩
/-- what a Log leaves of a transaction that is one -/
theorem log_run (h : Calm S l) (ht : T0 S l m) (hf : Pl S l f) (hv : validM S.st.length l run = 0) (htk : S.taken ≤ 900000) :
    ((logM S l run).2 = 0 ∧ Calm (logM S l run).1 l ∧ T2 (logM S l run).1 l m run ∧ Pl (logM S l run).1 l f ∧ (∀ p : Int, 0 ≤ p → l.inside p = false → (logM S l run).1.look p = S.look p) ∧ (logM S l run).1.st.length = S.st.length ∧ (logM S l run).1.taken = S.taken + (run.length + 1 : Nat) ∧ (S.power < 0 → (logM S l run).1.power = S.power)) ∨
    ((logM S l run).2 = 13 ∧ 0 ≤ S.power ∧ (logM S l run).1.ca.length ≤ 200 ∧ (logM S l run).1.taken ≤ S.taken + 200 ∧ ∀ keep, (logM S l run).1.crashE keep = 0 → Calm ((logM S l run).1.crash keep) l ∧ ((logM S l run).1.crash keep).power = -1 ∧ ((logM S l run).1.crash keep).taken ≤ S.taken + 200 ∧ ((logM S l run).1.crash keep).st.length = S.st.length ∧ Mid ((logM S l run).1.crash keep) l m f run) := by
  have hr := valid_ok hv
  have hrl : run.length ≤ 80 := by have := hr.len; have := (most_le l).2; omega
  have e : logM S l run = Dv.done (S.putAll (logPuts l (q32 (m + 1)) 1 run)) := by
    unfold logM
    rw [head_of h.f.chk ht.hd, if_neg (by simp), hv, if_neg (by simp), q32_succ]
  have hd := done_puts h (logPuts l (q32 (m + 1)) 1 run) (logPuts_ok h.f hr _) (logPuts_apart _) (by rw [logPuts_length]; omega) (by omega)
  rw [← e, logPuts_length] at hd
  rcases hd with ⟨h0, hc, ha, htk2, hpw⟩ | ⟨h0, hpw, hca, htk2, hk⟩
  · left
    have ho := log_out h.f hr.len ha.parts
    exact ⟨h0, hc, T2_all h.f hc.f hr ht ha, Pl_same h.f hc.f ha.parts.len ho hf, ho, ha.parts.len, htk2, hpw⟩
  · right
    refine ⟨h0, hpw, hca, by omega, fun keep hke => ?_⟩
    obtain ⟨k1, k2, k3, k4⟩ := hk keep hke
    exact ⟨k1, k2, by omega, k4.len, .inl ⟨T1_parts h.f k1.f hr ht k4, Pl_same h.f k1.f k4.len (log_out h.f hr.len k4) hf⟩⟩
/-- what a Commit that returned OK leaves -/
structure Done (S : Dv) (l : Lay) (m : Nat) (f : Int → Option (Int × ByteArray)) (run : List Rec) : Prop where
  calm : Calm (commitM S l run).1 l
  len : (commitM S l run).1.st.length = S.st.length
  t0 : T0 (commitM S l run).1 l (m + 1)
  pl : Pl (commitM S l run).1 l (upd f run)
  tk : (commitM S l run).1.taken = S.taken + 2 * run.length + 2
  pw : S.power < 0 → (commitM S l run).1.power = S.power
  recs : ∀ r ∈ run, (commitM S l run).1.get r.at_ = (⟨r.kind, q32 (m + 1), r.data⟩, 0)
  out : ∀ p : Int, 0 ≤ p → l.inside p = false → (∀ r ∈ run, r.at_ ≠ p) → (commitM S l run).1.look p = S.look p
theorem commit_no (h : Calm S l) (ht : T0 S l m) (hv : validM S.st.length l run ≠ 0) : commitM S l run = (S, validM S.st.length l run) := by
  have e : logM S l run = (S, validM S.st.length l run) := by
    unfold logM
    rw [head_of h.f.chk ht.hd, if_neg (by simp), if_pos hv]
  unfold commitM
  rw [e, if_pos hv]
theorem commit_run (h : Calm S l) (ht : T0 S l m) (hf : Pl S l f) (hv : validM S.st.length l run = 0) (hm : m + 2 < 4294967296) (htk : S.taken ≤ 900000) :
    ((commitM S l run).2 = 0 ∧ Done S l m f run) ∨
    ((commitM S l run).2 = 13 ∧ 0 ≤ S.power ∧ (commitM S l run).1.ca.length ≤ 200 ∧ (commitM S l run).1.taken ≤ S.taken + 200 ∧ ∀ keep, (commitM S l run).1.crashE keep = 0 → Calm ((commitM S l run).1.crash keep) l ∧ ((commitM S l run).1.crash keep).power = -1 ∧ ((commitM S l run).1.crash keep).taken ≤ S.taken + 200 ∧ ((commitM S l run).1.crash keep).st.length = S.st.length ∧ Mid ((commitM S l run).1.crash keep) l m f run) := by
  have hr := valid_ok hv
  have hrl : run.length ≤ 80 := by have := hr.len; have := (most_le l).2; omega
  rcases log_run h ht hf hv htk with ⟨g0, gc, gt, gf, go, gl, gtk, gpw⟩ | ⟨g0, gpw, gca, gtk, gk⟩
  · obtain ⟨D, hD⟩ : ∃ D, D = (logM S l run).1 := ⟨_, rfl⟩
    rw [← hD] at gc gt gf go gl gtk gpw
    have hrD : RunOk D.st.length l run := by rw [gl]; exact hr
    have hl := look_T2 gc.f (by omega) hrD gt
    have hhd := head_of gc.f.chk gt.t1.hd
    obtain ⟨A, hA⟩ : ∃ A, A = appM D (q32 (m + 1)) run := ⟨_, rfl⟩
    have hap : applyM D l = many A run.length := by
      unfold applyM
      rw [hl, hhd, if_neg (by simp), if_neg (by simp)]
      dsimp only
      rw [q32_succ, ← hA]
    have hR : commitM S l run = if (many A run.length).2.2 ≠ 0 then ((many A run.length).1, (many A run.length).2.2) else clearM (many A run.length).1 l := by
      unfold commitM
      rw [if_neg (by rw [g0]; simp), ← hD, hap]
    have hd := done_puts gc (appPuts (q32 (m + 1)) run) (appPuts_ok gc.f hrD _) (appPuts_apart hrD _) (by unfold appPuts; simp; omega) (by omega)
    have hAe : A = Dv.done (D.putAll (appPuts (q32 (m + 1)) run)) := hA
    rw [← hAe] at hd
    have hpl2 : (appPuts (q32 (m + 1)) run).length = run.length := by unfold appPuts; simp
    rw [hpl2] at hd
    rcases hd with ⟨h0, hc, ha, htk2, hpw⟩ | ⟨h0, hpw, hca, htk2, hk⟩
    · have hmA : many A run.length = (A.1, (run.length : Int), 0) := by unfold many; rw [if_neg (by rw [h0]; simp)]
      rw [hmA, if_neg (by simp)] at hR
      have hR2 : commitM S l run = clearM A.1 l := hR
      have hsi := app_in gc.f hrD ha.parts
      have t2 := T2_same gc.f hc.f ha.parts.len hsi hr.len gt
      have pl2 := app_all gc.f hc.f hrD ha (run := run) (f := f) gf.part0
      have hr2 : RunOk A.1.st.length l run := by rw [ha.parts.len]; exact hrD
      rcases clear_run hc (by omega) t2.t1 (by omega) with ⟨c0, cc, ct, cs, cl, ctk, cpw⟩ | ⟨c0, cpw, cca, ctk, ck⟩
      · left
        refine ⟨by rw [hR2]; exact c0, ?_⟩
        exact ⟨by rw [hR2]; exact cc, by rw [hR2]; exact cl.trans (ha.parts.len.trans gl), by rw [hR2]; exact ct, by rw [hR2]; exact Pl_same hc.f cc.f cl (fun p hp hi => cs p hp (out_ne hc.f hi)) pl2,
          by rw [hR2]; omega, fun hn => by rw [hR2]; have e1 := gpw hn; have e2 := hpw (by omega); have e3 := cpw (by omega); omega,
          fun r hrm => by
            rw [hR2]
            have hmem : (⟨r.at_, r.kind, q32 (m + 1), r.data⟩ : PutA) ∈ appPuts (q32 (m + 1)) run := List.mem_map_of_mem (f := fun r => (⟨r.at_, r.kind, q32 (m + 1), r.data⟩ : PutA)) hrm
            have hok := appPuts_ok gc.f hrD _ _ hmem
            obtain ⟨k, hk, _, rok⟩ := run_ok hr hrm
            exact get_put (a := ⟨r.at_, r.kind, q32 (m + 1), r.data⟩) cc.f (by rw [cl, ha.parts.len]; exact hok) ((cs r.at_ rok.a0 (out_ne gc.f rok.out)).trans (ha.all _ hmem)),
          fun p hp hi hno => by
            rw [hR2, cs p hp (out_ne hc.f hi)]
            rcases ha.parts.each p hp with hx | ⟨a, ham, hap2, _⟩
            · rw [hx]; exact go p hp hi
            · obtain ⟨r, hrm, e⟩ := appPuts_mem ham
              exact absurd (by rw [← hap2, e]) (hno r hrm)⟩
      · right
        have h0p : 0 ≤ S.power := by
          rcases Int.lt_or_le S.power 0 with hn | hn
          · have e1 := gpw hn; have e2 := hpw (by omega); omega
          · exact hn
        rw [hR2]
        refine ⟨c0, h0p, cca, by omega, fun keep hke => ?_⟩
        obtain ⟨k1, k2, k3, k4, k5⟩ := ck keep hke
        refine ⟨k1, k2, by omega, k4.trans (ha.parts.len.trans gl), ?_⟩
        rcases k5 with hs | ⟨t0, hs⟩
        · exact mid_same hc.f k1.f k4 hr.len hs (.inr (.inl ⟨t2, Pl.part hr2 pl2⟩))
        · exact .inr (.inr ⟨t0, .inr (Pl_same hc.f k1.f k4 (fun p hp hi => hs p hp (out_ne hc.f hi)) pl2)⟩)
    · right
      have hmA : many A run.length = (A.1, 0, 13) := by unfold many; rw [h0, if_pos (by simp)]
      rw [hmA, if_pos (by simp)] at hR
      have h0p : 0 ≤ S.power := by
        rcases Int.lt_or_le S.power 0 with hn | hn
        · have e1 := gpw hn; omega
        · exact hn
      rw [hR]
      refine ⟨rfl, h0p, hca, by show A.1.taken ≤ _; omega, fun keep hke => ?_⟩
      obtain ⟨k1, k2, k3, k4⟩ := hk keep hke
      exact ⟨k1, k2, by show (A.1.crash keep).taken ≤ _; omega, k4.len.trans gl, .inr (.inl ⟨T2_same gc.f k1.f k4.len (app_in gc.f hrD k4) hr.len gt, app_part gc.f k1.f hrD k4 gf.part0⟩)⟩
  · right
    have hR : commitM S l run = logM S l run := by unfold commitM; rw [if_pos (by rw [g0]; simp)]
    rw [hR]
    exact ⟨g0, gpw, gca, gtk, gk⟩
end
end Go.Proofs.YtfbkfdoekgnldaaDoor
namespace Go.Proofs.YtfbkfdoekgnldaaDoor
open Go.RowKit
def zwrs (l : Lay) (n : Nat) (i : Int) : List Wr := (List.range n).map fun (j : Nat) => (l.first + i + (j : Int), zsec)
theorem zwrs_succ (l : Lay) (n : Nat) (i : Int) : zwrs l (n + 1) i = (l.first + i, zsec) :: zwrs l n (i + 1) := by
  unfold zwrs
  rw [List.range_succ_eq_map, List.map_cons, List.map_map]
  congr 1
  · simp
  · apply List.map_congr_left
    intro j _
    show (l.first + i + ((j + 1 : Nat) : Int), zsec) = (l.first + (i + 1) + (j : Int), zsec)
    rw [show l.first + i + ((j + 1 : Nat) : Int) = l.first + (i + 1) + (j : Int) by omega]
theorem zwrs_mem {l : Lay} {n : Nat} {i p : Int} {x : Sector} (h : (p, x) ∈ zwrs l n i) : x = zsec ∧ l.first + i ≤ p := by
  obtain ⟨j, _, e⟩ := List.mem_map.1 h
  injection e with e1 e2
  exact ⟨e2.symm, by omega⟩
theorem zeros_go (l : Lay) : ∀ (n : Nat) (S : Dv) (i : Int), S.Fit n → S.power < 0 → 0 ≤ l.first + i → l.first + i + n ≤ S.st.length → zerosK l S n i = (S.ran (zwrs l n i), 0) := by
  intro n
  induction n with
  | zero => intro S i _ _ _ _; show (S, (0 : Int)) = (S.ran [], 0); rw [Dv.ran_nil]
  | succ n ih =>
    intro S i hf hp h0 h1
    have h2 := hf.rm
    have h3 := hf.tk
    have hfree : S.Free := ⟨hf.on, by omega, by omega, by omega⟩
    unfold zerosK
    rw [Dv.writeE_go hfree h0 (by omega), Dv.write_go hfree h0 (by omega), if_neg (by simp)]
    rw [ih (S.push (l.first + i) zsec) (i + 1) ⟨hf.on, by simp [Dv.push]; omega, by simp only [Dv.push]; omega⟩ (by simp only [Dv.push]; split <;> omega) (by omega) (by show l.first + (i + 1) + (n : Int) ≤ (S.st.length : Int); omega)]
    rw [Dv.ran_cons S (l.first + i, zsec) _ (by omega), zwrs_succ]
structure Fresh (Y : Dv) (l : Lay) (n : Nat) : Prop where
  calm : Calm Y l
  t0 : T0 Y l 0
  pl : Pl Y l (fun _ => none)
  len : Y.st.length = n
  pw : Y.power = -1
  tk : Y.taken = l.size
def hdPut (l : Lay) : PutA := ⟨l.first, 1, 0#32, ⟨#[]⟩⟩
theorem format_new (l : Lay) (n : Nat) (hc : l.check = 0) (hn : l.first + l.size ≤ n) (h1 : 64 ≤ n) (h2 : n ≤ 256) : (formatM (Dv.new n) l).2 = 0 ∧ Fresh (formatM (Dv.new n) l).1 l n := by
  have c := Lay.check_ok hc
  obtain ⟨S, hS⟩ : ∃ S, S = Dv.new n := ⟨_, rfl⟩
  have hlen : S.st.length = n := by rw [hS]; simp [Dv.new]
  have hca : S.ca = [] := by rw [hS]; rfl
  have hpw : S.power = -1 := by rw [hS]; rfl
  have hon : S.off = false := by rw [hS]; rfl
  have htk : S.taken = 0 := by rw [hS]; rfl
  have hok : S.Ok := by rw [hS]; exact Dv.new_ok h1 h2
  have hz : ∀ p : Int, S.look p = zsec := by rw [hS]; exact Dv.look_new n
  rw [← hS]
  have hpo : (hdPut l).Ok S.st.length := by
    rw [hlen]
    exact ⟨by show 0 ≤ l.first; omega, by show l.first < (n : Int); omega, by show l.first < 256; omega, by show (1 : Int) ≤ 1; decide, by show (1 : Int) ≤ 255; decide, by show 0 ≤ 112; decide⟩
  have hfree : S.Free := ⟨hon, by omega, by omega, by rw [hca]; simp⟩
  obtain ⟨e1, e2⟩ := hpo.put S
  have e3 : S.put l.first 1 0#32 ⟨#[]⟩ = S.push l.first (hdPut l).sec := by
    have : S.putA (hdPut l) = S.put l.first 1 0#32 ⟨#[]⟩ := rfl
    rw [← this, e1]
    exact Dv.write_go hfree hpo.p0 hpo.p1 _
  have e4 : S.putE l.first 1 0#32 ⟨#[]⟩ = 0 := by
    have : S.putAE (hdPut l) = S.putE l.first 1 0#32 ⟨#[]⟩ := rfl
    rw [← this, e2]
    exact Dv.writeE_go hfree hpo.p0 hpo.p1
  obtain ⟨z, hzn⟩ : ∃ z, z = (l.size - 1).toNat := ⟨_, rfl⟩
  have e5 : zerosK l (S.push l.first (hdPut l).sec) z 1 = ((S.push l.first (hdPut l).sec).ran (zwrs l z 1), 0) :=
    zeros_go l z _ 1 ⟨hon, by simp [Dv.push, hca]; omega, by simp only [Dv.push]; omega⟩ (by simp only [Dv.push]; split <;> omega) (by omega) (by show l.first + 1 + (z : Int) ≤ (S.st.length : Int); omega)
  obtain ⟨ws, hws⟩ : ∃ ws, ws = (l.first, (hdPut l).sec) :: zwrs l z 1 := ⟨_, rfl⟩
  have e6 : (S.push l.first (hdPut l).sec).ran (zwrs l z 1) = S.ran ws := by rw [hws]; exact Dv.ran_cons S (l.first, (hdPut l).sec) _ (by omega)
  have honr : (S.ran ws).off = false := hon
  obtain ⟨ef, ee⟩ := Dv.flush_go honr
  have hR : formatM S l = ((S.ran ws).stable, 0) := by
    unfold formatM
    rw [if_neg (by rw [hc]; simp), e4, if_neg (by simp), e3, ← hzn, e5, e6]
    unfold Dv.done
    rw [if_neg (by simp), ef, ee]
  have hwl : ws.length = z + 1 := by rw [hws]; simp [zwrs]
  have hmw : ∀ p x, (p, x) ∈ ws → (p = l.first ∧ x = (hdPut l).sec) ∨ (x = zsec ∧ l.first + 1 ≤ p ∧ p < l.first + 1 + z) := by
    intro p x h
    rw [hws] at h
    rcases List.mem_cons.1 h with h | h
    · injection h with h1 h2; exact .inl ⟨h1, h2⟩
    · obtain ⟨j, hj, e⟩ := List.mem_map.1 h
      injection e with e1 e2
      have := List.mem_range.1 hj
      exact .inr ⟨e2.symm, by omega, by omega⟩
  have hrok : (S.ran ws).Ok := by
    refine ⟨hok.s1, hok.s2, ?_, ?_, ?_, ?_, ?_, ?_⟩
    · show (S.ca ++ ws).length ≤ 400; rw [hca, List.nil_append, hwl]; omega
    · intro x hx
      have hx2 : x ∈ S.ca ++ ws := hx
      rw [hca, List.nil_append] at hx2
      show 0 ≤ x.1 ∧ x.1 < (S.st.length : Int)
      rcases hmw x.1 x.2 hx2 with ⟨h, _⟩ | ⟨_, h, h'⟩ <;> omega
    · show 0 ≤ S.taken + (ws.length : Int); omega
    · show S.taken + (ws.length : Int) ≤ 1000000000000; omega
    · show -1 ≤ (if 0 ≤ S.power then _ else S.power); rw [if_neg (by omega)]; omega
    · show (if 0 ≤ S.power then _ else S.power) ≤ 1000000000000; rw [if_neg (by omega)]; omega
  have hYlen : (S.ran ws).stable.st.length = n := by
    have : (S.ran ws).stable.st.length = S.st.length := by simp [Dv.stable, flushL_length, Dv.ran]
    rw [this, hlen]
  have hlook : ∀ p : Int, 0 ≤ p → (S.ran ws).stable.look p = (lastW ws p).getD zsec := fun p hp => by
    rw [Dv.look_stable hrok p hp, Dv.look_ran, hz]
  have hne : ∀ p : Int, 0 ≤ p → p ≠ l.first → (S.ran ws).stable.look p = zsec := fun p hp hp1 => by
    rw [hlook p hp]
    cases hw : lastW ws p with
    | none => rfl
    | some x =>
      rcases hmw p x (lastW_mem hw) with ⟨h, _⟩ | ⟨h, _⟩
      · exact absurd h hp1
      · rw [h]; rfl
  have hhd : (S.ran ws).stable.look l.first = (hdPut l).sec := by
    rw [hlook _ (by omega)]
    obtain ⟨y, hy⟩ := lastW_some (show (l.first, (hdPut l).sec) ∈ ws by rw [hws]; exact .head _)
    rw [hy]
    rcases hmw _ _ (lastW_mem hy) with ⟨_, h⟩ | ⟨_, h, _⟩
    · rw [h]; rfl
    · omega
  have hfit : Fits (S.ran ws).stable l := ⟨honr, hc, by rw [hYlen]; omega, by rw [hYlen]; exact h2⟩
  rw [hR]
  refine ⟨rfl, ⟨hfit, rfl, Dv.stable_ok hrok⟩, ⟨?_, fun i i1 i2 => ?_⟩, fun p p0 p1 hi => ?_, hYlen, ?_, ?_⟩
  · exact get_put (a := hdPut l) hfit (by rw [hYlen, ← hlen]; exact hpo) hhd
  · have hg : (S.ran ws).stable.get (l.first + i) = (fr0F, 70) := by
      rw [Dv.get_on hfit.on (by omega) (by rw [hYlen]; omega), hne _ (by omega) (by omega)]
      unfold openF
      rw [if_pos ⟨by omega, by omega⟩]
      have : openCode (l.first + i).toNat zsec = 70 := by rw [openCode, if_pos rfl]
      rw [this, if_neg (by decide)]
    show OldF 0 ((S.ran ws).stable.get (l.first + i))
    rw [hg]
    exact ⟨by show broken 70 = false; decide, fun h => absurd h (by show ¬ (70 : Int) = 0; decide)⟩
  · exact hne p p0 (out_ne hfit hi)
  · show (if 0 ≤ S.power then _ else S.power) = -1; rw [if_neg (by omega), hpw]
  · show S.taken + (ws.length : Int) = l.size; rw [hwl]; omega
end Go.Proofs.YtfbkfdoekgnldaaDoor
