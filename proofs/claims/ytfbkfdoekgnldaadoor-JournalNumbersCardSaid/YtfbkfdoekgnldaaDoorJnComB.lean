/- Frames that are put one after the other on a device with so much power: what was taken, and what a crash leaves of it. What a journal reads as: an empty one, one with a part of a transaction, one with the whole of it. What Look and Replay find in an empty journal, in one with a part of a transaction, in one with the whole of it. What frames that are put and flushed, or cut off and kept in part, leave on a device. The states of a journal between and behind its calls: nothing of a transaction, a part of it, the whole of it; what is at the places outside. What Commit and Replay do to a journal, also where the power goes and some of the writes are lost. What Format makes of a new device. The walks of the journal's Clear and Apply. The walks of the journal's Apply and Replay. The walks of the journal's Commit and Format. The walk of the journal's Format. The examples that each statement on the journal asks first. The walk of the journal's kept: which writes survive, by bits. A Replay behind a Replay does nothing; what trouble leaves of a transaction. The walk of SameRun. -/
import Derived.Test.YtfbkfdoekgnldaaDoorJnBas
namespace Go.Proofs.YtfbkfdoekgnldaaDoor
open Go.RowKit
/-- a frame that may be put on a device of so many sectors -/
structure PutA.Ok (n : Nat) (a : PutA) : Prop where
  p0 : 0 ≤ a.p
  p1 : a.p < n
  p2 : a.p < 256
  k0 : 1 ≤ a.kind
  k1 : a.kind ≤ 255
  d1 : a.d.size ≤ 112
def PutA.sec (a : PutA) : Sector := (sealS a.p a.kind a.q a.d).1
def PutA.wr (a : PutA) : Wr := (a.p, a.sec)
theorem PutA.Ok.sealed {n : Nat} {a : PutA} (h : a.Ok n) : sealS a.p a.kind a.q a.d = (a.sec, 0) := by
  have h1 : ¬ (a.p < 0 ∨ 256 ≤ a.p ∨ a.kind < 1 ∨ 255 < a.kind) := by have := h.p0; have := h.p2; have := h.k0; have := h.k1; omega
  have h2 : ¬ 112 < a.d.size := by have := h.d1; omega
  unfold PutA.sec sealS
  rw [if_neg h1, if_neg h2]
theorem PutA.Ok.opened {n : Nat} {a : PutA} (h : a.Ok n) : openF a.p a.sec = (⟨a.kind, a.q, a.d⟩, 0) := by
  have h1 : ¬ (a.p < 0 ∨ 256 ≤ a.p ∨ a.kind < 1 ∨ 255 < a.kind) := by have := h.p0; have := h.p2; have := h.k0; have := h.k1; omega
  have h2 : ¬ 112 < a.d.size := by have := h.d1; omega
  obtain ⟨m, kb, lb, hm, hkb, hm2, hk1, hlb, he⟩ := seal_args a.p a.kind a.q a.d h1 h2
  have e : a.sec = sealOf kb lb a.d.data.toList a.q m := by unfold PutA.sec; rw [he]
  have hd : a.d.data.toList.length = a.d.size := by simp
  have hl : a.d.data.toList.length ≤ 112 := by omega
  have hb : lb.toNat = a.d.data.toList.length := by unfold vb at hlb; omega
  have hk : kb ≠ 0 := by rintro rfl; revert hk1; decide
  rw [e]
  unfold openF
  have hmp : a.p.toNat = m := by omega
  have hc : openCode m (sealOf kb lb a.d.data.toList a.q m) = 0 := by rw [open_seal kb lb _ a.q m m hl hb hk hm2]; simp
  rw [if_pos ⟨h.p0, h.p2⟩, hmp, if_pos hc, seal_at1 _ _ _ _ _ hl, seal_seq _ _ _ _ _ hl, open_seal_data _ _ _ _ _ hl hb, hkb]
theorem PutA.Ok.put {n : Nat} {a : PutA} (h : a.Ok n) (S : Dv) : S.putA a = S.write a.p a.sec ∧ S.putAE a = S.writeE a.p := by
  unfold Dv.putA Dv.putAE Dv.put Dv.putE
  rw [h.sealed, if_pos rfl, if_pos rfl]
  exact ⟨rfl, rfl⟩
/-- a device behind writes that it took -/
def Dv.ran (S : Dv) (ws : List Wr) : Dv := { S with ca := S.ca ++ ws, taken := S.taken + ws.length, power := if 0 ≤ S.power then S.power - ws.length else S.power }
theorem Dv.ran_nil (S : Dv) : S.ran [] = S := by
  unfold Dv.ran
  cases S
  simp
theorem Dv.ran_cons (S : Dv) (x : Wr) (ws : List Wr) (h : S.power ≠ 0) : (S.push x.1 x.2).ran ws = S.ran (x :: ws) := by
  unfold Dv.ran Dv.push
  simp only [List.append_assoc, List.cons_append, List.nil_append, List.length_cons, Dv.mk.injEq, true_and, and_true]
  refine ⟨by omega, ?_⟩
  by_cases h1 : 0 < S.power
  · rw [if_pos h1, if_pos (by omega), if_pos (by omega)]; omega
  · rw [if_neg h1, if_neg (by omega), if_neg (by omega)]
/-- room and numbers for so many writes more -/
structure Dv.Fit (S : Dv) (n : Nat) : Prop where
  on : S.off = false
  rm : S.ca.length + n < 400
  tk : S.taken + n < 1000000000000
theorem Dv.putAll_go (ps : List PutA) : ∀ (S : Dv), S.Fit ps.length → (∀ a ∈ ps, a.Ok S.st.length) → (S.power < 0 ∨ (ps.length : Int) ≤ S.power) → S.putAll ps = (S.ran (ps.map PutA.wr), 0) := by
  induction ps with
  | nil => intro S _ _ _; rw [List.map_nil, Dv.ran_nil]; rfl
  | cons a r ih =>
    intro S hf hok hp
    have ha := hok a (.head _)
    simp only [List.length_cons] at hf hp
    have h1 := hf.on
    have h2 := hf.rm
    have h3 := hf.tk
    have hfree : S.Free := ⟨hf.on, by omega, by omega, by omega⟩
    obtain ⟨e1, e2⟩ := ha.put S
    unfold Dv.putAll
    rw [e1, e2, Dv.writeE_go hfree ha.p0 ha.p1, Dv.write_go hfree ha.p0 ha.p1, if_neg (by simp)]
    rw [ih (S.push a.p a.sec) ⟨hf.on, by simp [Dv.push]; omega, by simp only [Dv.push]; omega⟩ (fun b hb => hok b (.tail _ hb)) (by simp only [Dv.push]; split <;> omega)]
    rw [show S.push a.p a.sec = S.push a.wr.1 a.wr.2 from rfl, Dv.ran_cons S a.wr _ (by omega)]
    rfl
theorem Dv.putAll_stop (ps : List PutA) : ∀ (S : Dv), S.Fit ps.length → (∀ a ∈ ps, a.Ok S.st.length) → 0 ≤ S.power → S.power < (ps.length : Int) → S.putAll ps = ({ S.ran ((ps.take S.power.toNat).map PutA.wr) with off := true }, 13) := by
  induction ps with
  | nil => intro S _ _ h1 h2; simp at h2; omega
  | cons a r ih =>
    intro S hf hok hp hp2
    have ha := hok a (.head _)
    simp only [List.length_cons] at hf hp2
    have h1 := hf.on
    have h2 := hf.rm
    have h3 := hf.tk
    obtain ⟨e1, e2⟩ := ha.put S
    unfold Dv.putAll
    rw [e1, e2]
    by_cases h0 : S.power = 0
    · have hat : S.at a.p = 0 := Dv.at_ok hf.on ha.p0 ha.p1
      have w1 : S.writeE a.p = 13 := by unfold Dv.writeE; rw [if_neg (by simp [hat]), if_pos (.inl h0)]
      have w2 : S.write a.p a.sec = { S with off := true } := by unfold Dv.write; rw [if_neg (by simp [hat]), if_pos (.inl h0)]
      have e3 : S.power.toNat = 0 := by omega
      rw [w1, w2, if_pos (by decide), e3]
      show _ = ({ S.ran ([] : List Wr) with off := true }, (13 : Int))
      rw [Dv.ran_nil]
    · have hfree : S.Free := ⟨hf.on, by omega, by omega, by omega⟩
      rw [Dv.writeE_go hfree ha.p0 ha.p1, Dv.write_go hfree ha.p0 ha.p1, if_neg (by simp)]
      have hpw : (S.push a.p a.sec).power = S.power - 1 := by simp only [Dv.push]; rw [if_pos (by omega)]
      rw [ih (S.push a.p a.sec) ⟨hf.on, by simp [Dv.push]; omega, by simp only [Dv.push]; omega⟩ (fun b hb => hok b (.tail _ hb)) (by omega) (by omega), hpw]
      have e3 : S.power.toNat = (S.power - 1).toNat + 1 := by omega
      rw [e3, List.take_succ_cons, List.map_cons, ← Dv.ran_cons S a.wr _ h0]
      rfl
/-- what the last of some writes to a sector is, is one of them -/
theorem lastW_mem {ws : List Wr} {n : Int} {x : Sector} (h : lastW ws n = some x) : (n, x) ∈ ws := by
  unfold lastW at h
  have : ∀ l : List Wr, lastR l n = some x → (n, x) ∈ l := by
    intro l
    induction l with
    | nil => intro h; simp [lastR] at h
    | cons y r ih =>
      intro h
      unfold lastR at h
      split at h
      · rename_i e
        cases h
        rw [← e]; exact .head _
      · exact .tail _ (ih h)
  simpa using this _ h
theorem lastW_some {ws : List Wr} {n : Int} {x : Sector} (h : (n, x) ∈ ws) : ∃ y, lastW ws n = some y := by
  unfold lastW
  have : ∀ l : List Wr, (n, x) ∈ l → ∃ y, lastR l n = some y := by
    intro l
    induction l with
    | nil => intro h; simp at h
    | cons y r ih =>
      intro h
      unfold lastR
      split
      · exact ⟨_, rfl⟩
      · rename_i e
        rcases List.mem_cons.1 h with h | h
        · subst h; exact absurd rfl e
        · exact ih h
  exact this _ (by simpa using h)
/-- what is in the sectors that are kept -/
theorem Dv.keep_look {S : Dv} (ok : S.Ok) (keep : List Int) (hk : S.crashE keep = 0) (m : Int) (hm : 0 ≤ m) :
    (S.crash keep).look m = S.st.getD m.toNat zsec ∨ ∃ x, (m, x) ∈ S.ca ∧ (S.crash keep).look m = x := by
  have hodd : ∀ i ∈ keep, 0 ≤ i ∧ i < S.ca.length := by
    intro i hi
    unfold Dv.crashE at hk
    by_cases h : keep.any S.odd = true
    · rw [if_pos h] at hk; simp at hk
    · have : S.odd i = false := by
        cases ho : S.odd i
        · rfl
        · exact absurd (List.any_eq_true.2 ⟨i, hi, ho⟩) h
      simp [Dv.odd] at this
      omega
  have hmem : ∀ x ∈ keep.map (fun i => S.ca.getD i.toNat (0, zsec)), x ∈ S.ca := by
    intro x hx
    obtain ⟨i, hi, rfl⟩ := List.mem_map.1 hx
    have := hodd i hi
    rw [List.getD_eq_getElem?_getD, List.getElem?_eq_getElem (show i.toNat < S.ca.length by omega)]
    exact List.getElem_mem _
  have e : (S.crash keep).look m = (lastW (keep.map fun i => S.ca.getD i.toNat (0, zsec)) m).getD (S.st.getD m.toNat zsec) := by
    unfold Dv.crash
    rw [if_pos hk]
    exact flushL_getD _ _ (fun x hx => ok.c2 x (hmem x hx)) m hm
  rw [e]
  cases hl : lastW (keep.map fun i => S.ca.getD i.toNat (0, zsec)) m with
  | none => exact .inl rfl
  | some x => exact .inr ⟨x, hmem _ (lastW_mem hl), rfl⟩
theorem Dv.crash_parts {S : Dv} (keep : List Int) (hk : S.crashE keep = 0) : (S.crash keep).st.length = S.st.length ∧ (S.crash keep).ca = [] ∧ (S.crash keep).taken = S.taken ∧ (S.crash keep).power = -1 ∧ (S.crash keep).off = false := by
  unfold Dv.crash
  rw [if_pos hk]
  exact ⟨by simp [Dv.keepL, flushL_length], rfl, rfl, rfl, rfl⟩
/-- the number of writes that it takes to do all -/
theorem Dv.look_ran (S : Dv) (ws : List Wr) (m : Int) : (S.ran ws).look m = (lastW ws m).getD (S.look m) := by
  have e : ws = ws.reverse.reverse := by simp
  revert e; generalize ws.reverse = l
  intro e; subst e
  unfold Dv.look Dv.ran
  dsimp only
  unfold lastW
  rw [List.reverse_append, List.reverse_reverse]
  induction l with
  | nil => simp [lastR]
  | cons x r ih =>
    simp only [List.cons_append, lastR]
    split
    · rfl
    · exact ih
end Go.Proofs.YtfbkfdoekgnldaaDoor
namespace Go.Proofs.YtfbkfdoekgnldaaDoor
open Go.RowKit
theorem Dv.get_on {S : Dv} (h : S.off = false) {p : Int} (h0 : 0 ≤ p) (h1 : p < S.st.length) : S.get p = openF p (S.look p) := by
  unfold Dv.get; rw [Dv.at_ok h h0 h1, if_pos rfl]
/-- a number as the program has it -/
def q32 (m : Nat) : BitVec 32 := BitVec.ofNat 32 m
theorem q32_toNat {m : Nat} (h : m < 4294967296) : (q32 m).toNat = m := by unfold q32; simp; omega
theorem q32_succ (m : Nat) : q32 m + 1#32 = q32 (m + 1) := by unfold q32; apply BitVec.eq_of_toNat_eq; simp
/-- the journal's head -/
def HeadIs (S : Dv) (l : Lay) (m : Nat) : Prop := S.get l.first = (⟨1, q32 m, ⟨#[]⟩⟩, 0)
theorem head_of {S : Dv} {l : Lay} {m : Nat} (hc : l.check = 0) (h : HeadIs S l m) : headM S l = (q32 m, 0) := by
  unfold headM
  rw [if_neg (by rw [hc]; simp), h, if_neg (by simp), if_neg (by simp)]
/-- a sector that no transaction behind the number m wrote -/
structure OldF (m : Nat) (x : Fr × Int) : Prop where
  nb : broken x.2 = false
  lo : x.2 = 0 → x.1.q.toNat ≤ m
theorem OldF.mine {m : Nat} {x : Fr × Int} (h : OldF m x) (hm : m + 1 < 4294967296) : mine x (q32 (m + 1)) = false := by
  unfold Go.Proofs.YtfbkfdoekgnldaaDoor.mine
  by_cases h0 : x.2 = 0
  · have := h.lo h0
    have hq : ¬ x.1.q = q32 (m + 1) := by
      intro e; rw [e, q32_toNat hm] at this; omega
    simp [hq]
  · simp [h0]
theorem OldF.mono {m k : Nat} {x : Fr × Int} (h : OldF m x) (hk : m ≤ k) : OldF k x := ⟨h.nb, fun h0 => Nat.le_trans (h.lo h0) hk⟩
/-- nothing of a transaction -/
structure T0 (S : Dv) (l : Lay) (m : Nat) : Prop where
  hd : HeadIs S l m
  old : ∀ i : Nat, 1 ≤ i → (i : Int) < l.size → OldF m (S.get (l.first + i))
/-- a part of a transaction -/
structure T1 (S : Dv) (l : Lay) (m : Nat) (run : List Rec) : Prop where
  hd : HeadIs S l m
  part : ∀ i : Nat, 1 ≤ i → (i : Int) < l.size → OldF m (S.get (l.first + i)) ∨ ∃ a, (logPuts l (q32 (m + 1)) 1 run)[i - 1]? = some a ∧ S.get (l.first + i) = (⟨a.kind, a.q, a.d⟩, 0)
/-- the whole of it -/
structure T2 (S : Dv) (l : Lay) (m : Nat) (run : List Rec) : Prop where
  t1 : T1 S l m run
  all : ∀ k a, (logPuts l (q32 (m + 1)) 1 run)[k]? = some a → S.get (l.first + (k + 1 : Nat)) = (⟨a.kind, a.q, a.d⟩, 0)
theorem T0.t1 {S : Dv} {l : Lay} {m : Nat} (h : T0 S l m) (run : List Rec) : T1 S l m run := ⟨h.hd, fun i h1 h2 => .inl (h.old i h1 h2)⟩
theorem logPuts_get (l : Lay) (q : BitVec 32) (run : List Rec) : ∀ (i : Int) (k : Nat), (logPuts l q i run)[k]? = if h : k < run.length then some ⟨l.first + (i + k), 2, q, recBytes run[k]⟩ else if k = run.length then some ⟨l.first + (i + k), 3, q, two (i + k - 1)⟩ else none := by
  induction run with
  | nil =>
    intro i k
    cases k with
    | zero => simp [logPuts]
    | succ k => simp [logPuts]
  | cons r rest ih =>
    intro i k
    cases k with
    | zero => simp [logPuts]
    | succ k =>
      rw [logPuts, List.getElem?_cons_succ, ih (i + 1) k]
      have e : i + 1 + (k : Int) = i + ((k + 1 : Nat) : Int) := by omega
      rw [e]
      simp only [List.length_cons, Nat.add_lt_add_iff_right, Nat.add_right_cancel_iff, List.getElem_cons_succ]
theorem logPuts_length (l : Lay) (q : BitVec 32) (run : List Rec) : ∀ (i : Int), (logPuts l q i run).length = run.length + 1 := by
  induction run with
  | nil => intro i; rfl
  | cons r rest ih => intro i; rw [logPuts, List.length_cons, ih, List.length_cons]
/-- what is known of each record of a transaction that is one -/
structure RunOk (n : Nat) (l : Lay) (run : List Rec) : Prop where
  len : (run.length : Int) ≤ l.most
  recs : ∀ k (h : k < run.length), recE n l (run.take k) run[k] = 0
theorem validK_ok (n : Nat) (l : Lay) (rest : List Rec) : ∀ before, validK n l before rest = 0 → ∀ k (h : k < rest.length), recE n l (before ++ rest.take k) rest[k] = 0 := by
  induction rest with
  | nil => intro before _ k h; simp at h
  | cons r rest ih =>
    intro before h k hk
    unfold validK at h
    by_cases h0 : recE n l before r = 0
    · rw [if_neg (by simp [h0])] at h
      cases k with
      | zero => simpa using h0
      | succ k =>
        have := ih _ h k (by simpa using hk)
        simpa using this
    · rw [if_pos h0] at h; exact absurd h h0
theorem valid_ok {n : Nat} {l : Lay} {run : List Rec} (h : validM n l run = 0) : RunOk n l run := by
  unfold validM at h
  by_cases h0 : l.most < run.length
  · rw [if_pos h0] at h; simp at h
  · rw [if_neg h0] at h
    exact ⟨by omega, fun k hk => by simpa using validK_ok n l run [] h k hk⟩
structure RecOk (n : Nat) (l : Lay) (before : List Rec) (r : Rec) : Prop where
  out : l.inside r.at_ = false
  a0 : 0 ≤ r.at_
  a1 : r.at_ < n
  k0 : 1 ≤ r.kind
  k1 : r.kind ≤ 255
  d1 : r.data.size ≤ 96
  new : hasAt before r.at_ = false
theorem recE_ok {n : Nat} {l : Lay} {before : List Rec} {r : Rec} (h : recE n l before r = 0) : RecOk n l before r := by
  unfold recE at h
  by_cases h1 : l.inside r.at_ = true
  · rw [if_pos h1] at h; simp at h
  rw [if_neg h1] at h
  by_cases h2 : r.at_ < 0 ∨ (n : Int) ≤ r.at_ ∨ r.kind < 1 ∨ 255 < r.kind
  · rw [if_pos h2] at h; simp at h
  rw [if_neg h2] at h
  by_cases h3 : 96 < r.data.size
  · rw [if_pos h3] at h; simp at h
  rw [if_neg h3] at h
  by_cases h4 : hasAt before r.at_ = true
  · rw [if_pos h4] at h; simp at h
  exact ⟨by simpa using h1, by omega, by omega, by omega, by omega, by omega, by simpa using h4⟩
theorem two_size (n : Int) : (two n).size = 2 := rfl
theorem recBytes_list (r : Rec) : (recBytes r).data.toList = UInt8.ofNat (r.at_ % 256).toNat :: UInt8.ofNat (r.at_ / 256 % 256).toNat :: UInt8.ofNat (r.kind % 256).toNat :: r.data.data.toList := by
  unfold recBytes two
  simp
theorem recBytes_size (r : Rec) : (recBytes r).size = 3 + r.data.size := by
  have h := congrArg List.length (recBytes_list r)
  simp at h
  have e : (recBytes r).data.size = (recBytes r).size := rfl
  have e2 : r.data.data.size = r.data.size := rfl
  omega
theorem ofNat_vb (n : Nat) (h : n < 256) : vb (UInt8.ofNat n) = n := by unfold vb; simp; omega
theorem recOf_bytes {r : Rec} (h0 : 0 ≤ r.at_) (h1 : r.at_ < 65536) (h2 : 0 ≤ r.kind) (h3 : r.kind ≤ 255) : recOf (recBytes r) = r := by
  unfold recOf byteAt
  have e0 : at8 (recBytes r).data.toList 0 = UInt8.ofNat (r.at_ % 256).toNat := by rw [recBytes_list]; rfl
  have e1 : at8 (recBytes r).data.toList 1 = UInt8.ofNat (r.at_ / 256 % 256).toNat := by rw [recBytes_list]; rfl
  have e2 : at8 (recBytes r).data.toList 2 = UInt8.ofNat (r.kind % 256).toNat := by rw [recBytes_list]; rfl
  have e3 : (recBytes r).extract 3 (recBytes r).size = r.data := by
    apply ByteArray.ext
    apply Array.toList_inj.1
    rw [ByteArray.data_extract, Array.toList_extract]
    simp only [List.extract, recBytes_list]
    have : (recBytes r).size - 3 = r.data.data.toList.length := by rw [recBytes_size]; simp
    rw [this]
    show List.take r.data.data.toList.length r.data.data.toList = _
    rw [List.take_length]
  rw [e0, e1, e2, e3, ofNat_vb _ (by omega), ofNat_vb _ (by omega), ofNat_vb _ (by omega)]
  cases r
  simp only [Rec.mk.injEq, and_true] at *
  omega
theorem isRec_bytes {S : Dv} {l : Lay} {before : List Rec} {r : Rec} (h : RecOk S.st.length l before r) (hn : S.st.length ≤ 256) (q : BitVec 32) : isRec S l ⟨2, q, recBytes r⟩ = true := by
  have h1 := h.a0
  have h2 := h.a1
  have h3 := h.k0
  have h4 := h.k1
  have h5 := h.d1
  unfold isRec
  rw [recOf_bytes h1 (by omega) (by omega) h4, h.out]
  simp [recBytes_size]
  omega
end Go.Proofs.YtfbkfdoekgnldaaDoor
namespace Go.Proofs.YtfbkfdoekgnldaaDoor
open Go.RowKit
/-- a journal on a device of n sectors -/
structure Fits (S : Dv) (l : Lay) : Prop where
  on : S.off = false
  chk : l.check = 0
  end_ : l.first + l.size ≤ S.st.length
  n256 : S.st.length ≤ 256
theorem hasAt_take {n : Nat} {l : Lay} {run : List Rec} (h : RunOk n l run) (k : Nat) (hk : k < run.length) : RecOk n l (run.take k) run[k] := recE_ok (h.recs k hk)
theorem most_le (l : Lay) : l.most ≤ l.size - 2 ∧ l.most ≤ 80 := by unfold Lay.most; omega
section
variable {S : Dv} {l : Lay} {m : Nat} {run : List Rec}
/-- the look at the frame behind k records that were found -/
theorem look_step (hf : Fits S l) (hm : m + 1 < 4294967296) (hr : RunOk S.st.length l run) (k : Nat) (hk : k ≤ run.length) (n : Nat) (hn : (k : Int) + 1 + (n + 1 : Nat) = l.size)
    (h : OldF m (S.get (l.first + (k + 1 : Nat))) ∨ ∃ a, (logPuts l (q32 (m + 1)) 1 run)[k]? = some a ∧ S.get (l.first + (k + 1 : Nat)) = (⟨a.kind, a.q, a.d⟩, 0)) :
    (OldF m (S.get (l.first + (k + 1 : Nat))) ∧ lookQ S l (q32 (m + 1)) (n + 1) ((k + 1 : Nat) : Int) (run.take k) = (run.take k, false, 0)) ∨
    (k = run.length ∧ (∃ a, (logPuts l (q32 (m + 1)) 1 run)[k]? = some a ∧ S.get (l.first + (k + 1 : Nat)) = (⟨a.kind, a.q, a.d⟩, 0)) ∧ lookQ S l (q32 (m + 1)) (n + 1) ((k + 1 : Nat) : Int) (run.take k) = (run, true, 0)) ∨
    (k < run.length ∧ (∃ a, (logPuts l (q32 (m + 1)) 1 run)[k]? = some a ∧ S.get (l.first + (k + 1 : Nat)) = (⟨a.kind, a.q, a.d⟩, 0)) ∧ lookQ S l (q32 (m + 1)) (n + 1) ((k + 1 : Nat) : Int) (run.take k) = lookQ S l (q32 (m + 1)) n ((k + 1 + 1 : Nat) : Int) (run.take (k + 1))) := by
  rcases h with h | ⟨a, ha, hg⟩
  · left
    refine ⟨h, ?_⟩
    rw [lookQ_succ]
    rw [if_neg (by rw [h.nb]; simp), if_neg (by unfold takes; rw [h.mine hm]; simp)]
    unfold ends
    rw [h.mine hm]; simp
  · right
    have hpre : ∃ a, (logPuts l (q32 (m + 1)) 1 run)[k]? = some a ∧ S.get (l.first + (k + 1 : Nat)) = (⟨a.kind, a.q, a.d⟩, 0) := ⟨a, ha, hg⟩
    rw [logPuts_get] at ha
    by_cases hlt : k < run.length
    · right
      refine ⟨hlt, hpre, ?_⟩
      rw [dif_pos hlt] at ha
      injection ha with ha
      subst ha
      dsimp only at hg
      have ok := hasAt_take hr k hlt
      rw [lookQ_succ]
      have hl := most_le l
      have hlen := hr.len
      rw [hg, if_neg broken_zero, if_pos]
      · rw [recOf_bytes ok.a0 (by have := ok.a1; have := hf.n256; omega) (by have := ok.k0; omega) ok.k1]
        rw [List.take_add_one, List.getElem?_eq_getElem hlt]
        rfl
      · unfold takes mine
        rw [isRec_bytes ok hf.n256, recOf_bytes ok.a0 (by have := ok.a1; have := hf.n256; omega) (by have := ok.k0; omega) ok.k1, ok.new]
        simp
        omega
    · left
      have e : k = run.length := by omega
      refine ⟨e, hpre, ?_⟩
      rw [dif_neg hlt, if_pos e] at ha
      injection ha with ha
      subst ha
      dsimp only at hg
      subst e
      rw [lookQ_succ]
      rw [hg, if_neg broken_zero, if_neg (by unfold takes isRec; simp), List.take_length]
      unfold ends mine
      have : (1 : Int) + (run.length : Int) - 1 = run.length := by omega
      rw [this]
      simp
/-- what Look finds: the records up to the first one that is not there -/
theorem look_parts (hf : Fits S l) (hm : m + 1 < 4294967296) (hr : RunOk S.st.length l run) (ht : T1 S l m run) :
    ∀ (n k : Nat), k ≤ run.length → (k : Int) + 1 + (n : Int) = l.size → (∀ i, i < k → ∃ a, (logPuts l (q32 (m + 1)) 1 run)[i]? = some a ∧ S.get (l.first + (i + 1 : Nat)) = (⟨a.kind, a.q, a.d⟩, 0)) →
    (∃ j, j ≤ run.length ∧ k ≤ j ∧ OldF m (S.get (l.first + (j + 1 : Nat))) ∧ (∀ i, i < j → ∃ a, (logPuts l (q32 (m + 1)) 1 run)[i]? = some a ∧ S.get (l.first + (i + 1 : Nat)) = (⟨a.kind, a.q, a.d⟩, 0)) ∧ lookQ S l (q32 (m + 1)) n ((k + 1 : Nat) : Int) (run.take k) = (run.take j, false, 0)) ∨
    (T2 S l m run ∧ lookQ S l (q32 (m + 1)) n ((k + 1 : Nat) : Int) (run.take k) = (run, true, 0)) := by
  intro n
  induction n with
  | zero =>
    intro k hk hn _
    have := (most_le l).1
    have := hr.len
    omega
  | succ n ih =>
    intro k hk hn hpre
    have hpt := ht.part (k + 1) (by omega) (by omega)
    rw [Nat.add_sub_cancel] at hpt
    rcases look_step hf hm hr k hk n (by omega) hpt with ⟨h1, h2⟩ | ⟨h1, hp, h2⟩ | ⟨h1, hp, h2⟩
    · exact .inl ⟨k, hk, Nat.le_refl _, h1, hpre, h2⟩
    · right
      refine ⟨⟨ht, fun i a ha => ?_⟩, h2⟩
      have hi : i ≤ run.length := by
        have := (List.getElem?_eq_some_iff.1 ha).1
        rw [logPuts_length] at this; omega
      have : ∃ a', (logPuts l (q32 (m + 1)) 1 run)[i]? = some a' ∧ S.get (l.first + (i + 1 : Nat)) = (⟨a'.kind, a'.q, a'.d⟩, 0) := by
        by_cases hik : i < k
        · exact hpre i hik
        · have e : i = k := by omega
          subst e; exact hp
      obtain ⟨a', ha', hg⟩ := this
      rw [ha] at ha'; injection ha' with e; rw [e]; exact hg
    · rw [h2]
      exact (ih (k + 1) (by omega) (by omega) (fun i hi => by
          by_cases hik : i < k
          · exact hpre i hik
          · have e : i = k := by omega
            subst e; exact hp)).imp (fun ⟨j, a, b, c⟩ => ⟨j, a, by omega, c⟩) id
/-- what Look finds in all -/
theorem look_T1 (hf : Fits S l) (hm : m + 1 < 4294967296) (hr : RunOk S.st.length l run) (ht : T1 S l m run) :
    (∃ j, j ≤ run.length ∧ OldF m (S.get (l.first + (j + 1 : Nat))) ∧ (∀ i, i < j → ∃ a, (logPuts l (q32 (m + 1)) 1 run)[i]? = some a ∧ S.get (l.first + (i + 1 : Nat)) = (⟨a.kind, a.q, a.d⟩, 0)) ∧ lookM S l = (run.take j, false, 0)) ∨
    (T2 S l m run ∧ lookM S l = (run, true, 0)) := by
  have hc := Lay.check_ok hf.chk
  have e : lookM S l = lookQ S l (q32 (m + 1)) (l.size - 1).toNat ((0 + 1 : Nat) : Int) (run.take 0) := by
    unfold lookM
    rw [head_of hf.chk ht.hd, if_neg (by simp), q32_succ]
    rfl
  rw [e]
  exact (look_parts hf hm hr ht (l.size - 1).toNat 0 (by omega) (by omega) (fun i hi => by omega)).imp (fun ⟨j, a, _, c⟩ => ⟨j, a, c⟩) id
theorem look_T2 (hf : Fits S l) (hm : m + 1 < 4294967296) (hr : RunOk S.st.length l run) (ht : T2 S l m run) : lookM S l = (run, true, 0) := by
  rcases look_T1 hf hm hr ht.t1 with ⟨j, hj, ho, _, _⟩ | ⟨_, h⟩
  · exfalso
    have hx : (logPuts l (q32 (m + 1)) 1 run)[j]? = some ((logPuts l (q32 (m + 1)) 1 run)[j]'(by rw [logPuts_length]; omega)) := List.getElem?_eq_getElem _
    have hg := ht.all j _ hx
    have hq : ((logPuts l (q32 (m + 1)) 1 run)[j]'(by rw [logPuts_length]; omega)).q = q32 (m + 1) := by
      rw [logPuts_get] at hx
      split at hx
      · injection hx with hx; rw [← hx]
      · split at hx
        · injection hx with hx; rw [← hx]
        · simp at hx
    have := ho.lo (by rw [hg])
    rw [hg] at this
    dsimp only at this
    rw [hq, q32_toNat hm] at this
    omega
  · exact h
theorem look_T0 (hf : Fits S l) (hm : m + 1 < 4294967296) (ht : T0 S l m) : lookM S l = ([], false, 0) := by
  have hc := Lay.check_ok hf.chk
  have hl : (([] : List Rec).length : Int) ≤ l.most := by unfold Lay.most; simp; omega
  rcases look_T1 (run := []) hf hm ⟨hl, fun k h => by simp at h⟩ (ht.t1 []) with ⟨j, hj, _, _, h⟩ | ⟨h2, _⟩
  · simpa using h
  · exfalso
    have h3 := h2.all 0 ⟨l.first + (1 + (0 : Nat)), 3, q32 (m + 1), two (1 + (0 : Nat) - 1)⟩ (by rw [logPuts_get]; simp)
    have ho := (ht.old 1 (by omega) (by omega)).lo
    rw [h3] at ho
    have := ho rfl
    dsimp only at this
    rw [q32_toNat hm] at this
    omega
/-- is there any frame of the transaction? -/
theorem stale_look (hon : ∀ i : Nat, 1 ≤ i → (i : Int) < l.size → broken (S.get (l.first + i)).2 = false) (q : BitVec 32) :
    ∀ (n i : Nat) (b : Bool), 1 ≤ i → (i : Int) + (n : Int) = l.size → (staleK S l q n i b).2 = 0 ∧ ((staleK S l q n i b).1 = true ↔ b = true ∨ ∃ j : Nat, i ≤ j ∧ (j : Int) < l.size ∧ isStale (S.get (l.first + j)) q = true) := by
  intro n
  induction n with
  | zero =>
    intro i b _ hn
    refine ⟨rfl, fun h => .inl h, ?_⟩
    rintro (h | ⟨j, h1, h2, _⟩)
    · exact h
    · omega
  | succ n ih =>
    intro i b h1 hn
    unfold staleK
    rw [if_neg (by rw [hon i h1 (by omega)]; simp)]
    have := ih (i + 1) (b || isStale (S.get (l.first + i)) q) (by omega) (by omega)
    rw [show ((i : Int) + 1) = ((i + 1 : Nat) : Int) by omega]
    refine ⟨this.1, this.2.trans ⟨?_, ?_⟩⟩
    · rintro (h | ⟨j, h2, h3, h4⟩)
      · rcases Bool.or_eq_true _ _ ▸ h with h | h
        · exact .inl h
        · exact .inr ⟨i, Nat.le_refl _, by omega, h⟩
      · exact .inr ⟨j, by omega, h3, h4⟩
    · rintro (h | ⟨j, h2, h3, h4⟩)
      · exact .inl (by rw [h]; rfl)
      · by_cases e : j = i
        · subst e; exact .inl (by rw [h4, Bool.or_true])
        · exact .inr ⟨j, by omega, h3, h4⟩
end
end Go.Proofs.YtfbkfdoekgnldaaDoor
namespace Go.Proofs.YtfbkfdoekgnldaaDoor
open Go.RowKit
/-- a device on which nothing waits -/
structure Calm (S : Dv) (l : Lay) : Prop where
  f : Fits S l
  ca : S.ca = []
  ok : S.Ok
/-- each sector is as before, or that of a put -/
structure Parts (S Y : Dv) (ps : List PutA) : Prop where
  len : Y.st.length = S.st.length
  each : ∀ p : Int, 0 ≤ p → Y.look p = S.look p ∨ ∃ a ∈ ps, a.p = p ∧ Y.look p = a.sec
structure AllIn (S Y : Dv) (ps : List PutA) : Prop where
  parts : Parts S Y ps
  all : ∀ a ∈ ps, Y.look a.p = a.sec
def Apart (ps : List PutA) : Prop := ∀ a ∈ ps, ∀ b ∈ ps, a.p = b.p → a = b
theorem Dv.putA_ok {S : Dv} (h : S.Ok) (a : PutA) : (S.putA a).Ok := by
  unfold Dv.putA Dv.put
  split
  · exact Dv.write_ok h _ _
  · exact h
theorem Dv.putAll_ok (ps : List PutA) : ∀ {S : Dv}, S.Ok → (S.putAll ps).1.Ok := by
  induction ps with
  | nil => intro S h; exact h
  | cons a r ih =>
    intro S h
    unfold Dv.putAll
    split
    · exact Dv.putA_ok h a
    · exact ih (Dv.putA_ok h a)
theorem calm_look {S : Dv} (h : S.ca = []) (m : Int) : S.look m = S.st.getD m.toNat zsec := by
  unfold Dv.look; rw [h, lastW_nil]; rfl
theorem mem_wr {ps : List PutA} {m : Int} {x : Sector} (h : (m, x) ∈ ps.map PutA.wr) : ∃ a ∈ ps, a.p = m ∧ x = a.sec := by
  obtain ⟨a, ha, e⟩ := List.mem_map.1 h
  unfold PutA.wr at e
  injection e with e1 e2
  exact ⟨a, ha, e1, e2.symm⟩
/-- what comes of puts and a flush: all of them; or the power goes, and a crash leaves some of them -/
theorem done_puts {S : Dv} {l : Lay} (h : Calm S l) (ps : List PutA) (hok : ∀ a ∈ ps, a.Ok S.st.length) (hd : Apart ps) (hl : ps.length ≤ 200) (ht : S.taken ≤ 1000000) :
    ((Dv.done (S.putAll ps)).2 = 0 ∧ Calm (Dv.done (S.putAll ps)).1 l ∧ AllIn S (Dv.done (S.putAll ps)).1 ps ∧ (Dv.done (S.putAll ps)).1.taken = S.taken + ps.length ∧ (S.power < 0 → (Dv.done (S.putAll ps)).1.power = S.power)) ∨
    ((Dv.done (S.putAll ps)).2 = 13 ∧ 0 ≤ S.power ∧ (Dv.done (S.putAll ps)).1.ca.length ≤ 200 ∧ (Dv.done (S.putAll ps)).1.taken ≤ S.taken + ps.length ∧
      ∀ keep, (Dv.done (S.putAll ps)).1.crashE keep = 0 → Calm ((Dv.done (S.putAll ps)).1.crash keep) l ∧ ((Dv.done (S.putAll ps)).1.crash keep).power = -1 ∧ ((Dv.done (S.putAll ps)).1.crash keep).taken ≤ S.taken + ps.length ∧ Parts S ((Dv.done (S.putAll ps)).1.crash keep) ps) := by
  have hfit : S.Fit ps.length := ⟨h.f.on, by rw [h.ca]; simp; omega, by omega⟩
  have hOk := Dv.putAll_ok ps h.ok
  by_cases hp : S.power < 0 ∨ (ps.length : Int) ≤ S.power
  · left
    have e := Dv.putAll_go ps S hfit hok hp
    rw [e] at hOk ⊢
    have hon : (S.ran (ps.map PutA.wr)).off = false := h.f.on
    obtain ⟨ef, ee⟩ := Dv.flush_go hon
    have ed : Dv.done (S.ran (ps.map PutA.wr), 0) = ((S.ran (ps.map PutA.wr)).stable, 0) := by
      unfold Dv.done; rw [if_neg (by simp), ef, ee]
    rw [ed]
    have hlen : (S.ran (ps.map PutA.wr)).stable.st.length = S.st.length := by simp [Dv.stable, flushL_length, Dv.ran]
    have hlook : ∀ p : Int, 0 ≤ p → (S.ran (ps.map PutA.wr)).stable.look p = (lastW (ps.map PutA.wr) p).getD (S.look p) := fun p hp => by
      rw [Dv.look_stable hOk p hp, Dv.look_ran]
    refine ⟨rfl, ⟨⟨hon, h.f.chk, by rw [hlen]; exact h.f.end_, by rw [hlen]; exact h.f.n256⟩, rfl, Dv.stable_ok hOk⟩, ⟨⟨hlen, fun p hp0 => ?_⟩, fun a ha => ?_⟩, by simp [Dv.stable, Dv.ran], fun hneg => by simp only [Dv.stable, Dv.ran]; rw [if_neg (by omega)]⟩
    · rw [hlook p hp0]
      cases hw : lastW (ps.map PutA.wr) p with
      | none => exact .inl rfl
      | some x =>
        obtain ⟨a, ha, hap, rfl⟩ := mem_wr (lastW_mem hw)
        exact .inr ⟨a, ha, hap, rfl⟩
    · have h0 := (hok a ha).p0
      rw [hlook a.p h0]
      obtain ⟨y, hy⟩ := lastW_some (List.mem_map_of_mem (f := PutA.wr) ha : (a.p, a.sec) ∈ ps.map PutA.wr)
      rw [hy]
      obtain ⟨b, hb, hbp, rfl⟩ := mem_wr (lastW_mem hy)
      rw [hd b hb a ha hbp]; rfl
  · right
    have h0 : 0 ≤ S.power := by omega
    have e := Dv.putAll_stop ps S hfit hok h0 (by omega)
    rw [e] at hOk ⊢
    have ed : ∀ D : Dv, Dv.done (D, 13) = (D, 13) := fun D => by unfold Dv.done; rw [if_pos (by simp)]
    rw [ed]
    have hlt : ((ps.take S.power.toNat).map PutA.wr).length ≤ ps.length := by simp; omega
    refine ⟨rfl, h0, ?_, ?_, fun keep hk => ?_⟩
    · show (S.ca ++ (ps.take S.power.toNat).map PutA.wr).length ≤ 200
      rw [h.ca]; simp; omega
    · show S.taken + (((ps.take S.power.toNat).map PutA.wr).length : Int) ≤ _
      omega
    · obtain ⟨c1, c2, c3, c4, c5⟩ := Dv.crash_parts keep hk
      have hlen : ({ S.ran ((ps.take S.power.toNat).map PutA.wr) with off := true } : Dv).st.length = S.st.length := rfl
      refine ⟨⟨⟨c5, h.f.chk, by rw [c1]; exact h.f.end_, by rw [c1]; exact h.f.n256⟩, c2, Dv.crash_ok hOk keep⟩, c4, ?_, ⟨c1, fun p hp0 => ?_⟩⟩
      · rw [c3]
        show S.taken + (((ps.take S.power.toNat).map PutA.wr).length : Int) ≤ _
        omega
      · rcases Dv.keep_look hOk keep hk p hp0 with hx | ⟨x, hm, hx⟩
        · left
          rw [hx, calm_look h.ca]
          rfl
        · right
          have hm2 : (p, x) ∈ S.ca ++ (ps.take S.power.toNat).map PutA.wr := hm
          rw [h.ca, List.nil_append] at hm2
          obtain ⟨a, ha, hap, rfl⟩ := mem_wr hm2
          exact ⟨a, List.mem_of_mem_take ha, hap, hx⟩
/-- a crash of a device on which nothing waits -/
theorem calm_crash {S : Dv} {l : Lay} (h : Calm S l) (keep : List Int) (hk : S.crashE keep = 0) : Calm (S.crash keep) l ∧ (S.crash keep).power = -1 ∧ (S.crash keep).taken = S.taken ∧ Parts S (S.crash keep) [] := by
  obtain ⟨c1, c2, c3, c4, c5⟩ := Dv.crash_parts keep hk
  refine ⟨⟨⟨c5, h.f.chk, by rw [c1]; exact h.f.end_, by rw [c1]; exact h.f.n256⟩, c2, Dv.crash_ok h.ok keep⟩, c4, c3, ⟨c1, fun p hp0 => ?_⟩⟩
  rcases Dv.keep_look h.ok keep hk p hp0 with hx | ⟨x, hm, _⟩
  · left; rw [hx, calm_look h.ca]
  · rw [h.ca] at hm; simp at hm
end Go.Proofs.YtfbkfdoekgnldaaDoor
namespace Go.Proofs.YtfbkfdoekgnldaaDoor
open Go.RowKit
section
variable {S Y : Dv} {l : Lay} {m : Nat} {run : List Rec}
theorem get_same (hS : Fits S l) (hY : Fits Y l) (hl : Y.st.length = S.st.length) {p : Int} (h0 : 0 ≤ p) (h1 : p < S.st.length) (h : Y.look p = S.look p) : Y.get p = S.get p := by
  rw [Dv.get_on hY.on h0 (by rw [hl]; exact h1), Dv.get_on hS.on h0 h1, h]
theorem get_put (hY : Fits Y l) {a : PutA} (ha : a.Ok Y.st.length) (h : Y.look a.p = a.sec) : Y.get a.p = (⟨a.kind, a.q, a.d⟩, 0) := by
  rw [Dv.get_on hY.on ha.p0 ha.p1, h, ha.opened]
theorem logPuts_mem {q : BitVec 32} {a : PutA} (h : a ∈ logPuts l q 1 run) : ∃ k : Nat, k ≤ run.length ∧ (logPuts l q 1 run)[k]? = some a ∧ a.p = l.first + ((k + 1 : Nat) : Int) ∧ a.q = q := by
  obtain ⟨k, hk, e⟩ := List.mem_iff_getElem.1 h
  have hk2 := hk
  rw [logPuts_length] at hk2
  have e2 : (logPuts l q 1 run)[k]? = some a := by rw [List.getElem?_eq_getElem hk, e]
  refine ⟨k, by omega, e2, ?_⟩
  rw [logPuts_get] at e2
  split at e2
  · injection e2 with e2
    rw [← e2]
    exact ⟨by dsimp only; omega, rfl⟩
  · split at e2
    · injection e2 with e2
      rw [← e2]
      exact ⟨by dsimp only; omega, rfl⟩
    · simp at e2
theorem logPuts_ok (hf : Fits S l) (hr : RunOk S.st.length l run) (q : BitVec 32) : ∀ a ∈ logPuts l q 1 run, a.Ok S.st.length := by
  intro a ha
  obtain ⟨k, hk, e, hp, _⟩ := logPuts_mem ha
  have c := Lay.check_ok hf.chk
  have hl := (most_le l).1
  have hlen := hr.len
  have he := hf.end_
  have hn := hf.n256
  have h0 : 0 ≤ a.p ∧ a.p < S.st.length ∧ a.p < 256 := by rw [hp]; omega
  rw [logPuts_get] at e
  by_cases hlt : k < run.length
  · rw [dif_pos hlt] at e
    injection e with e
    have ok := hasAt_take hr k hlt
    refine ⟨h0.1, h0.2.1, h0.2.2, ?_, ?_, ?_⟩
    · rw [← e]; show (1 : Int) ≤ 2; decide
    · rw [← e]; show (2 : Int) ≤ 255; decide
    · rw [← e]; show (recBytes run[k]).size ≤ 112; rw [recBytes_size]; have := ok.d1; omega
  · rw [dif_neg hlt] at e
    split at e
    · injection e with e
      refine ⟨h0.1, h0.2.1, h0.2.2, ?_, ?_, ?_⟩
      · rw [← e]; show (1 : Int) ≤ 3; decide
      · rw [← e]; show (3 : Int) ≤ 255; decide
      · rw [← e]; show (two _).size ≤ 112; rw [two_size]; decide
    · simp at e
theorem logPuts_apart (q : BitVec 32) : Apart (logPuts l q 1 run) := by
  intro a ha b hb e
  obtain ⟨k, _, ea, hpa, _⟩ := logPuts_mem ha
  obtain ⟨j, _, eb, hpb, _⟩ := logPuts_mem hb
  have : k = j := by omega
  subst this
  rw [ea] at eb; injection eb
theorem T1_parts (hS : Fits S l) (hY : Fits Y l) (hr : RunOk S.st.length l run) (ht : T0 S l m) (hp : Parts S Y (logPuts l (q32 (m + 1)) 1 run)) : T1 Y l m run := by
  have c := Lay.check_ok hS.chk
  have he := hS.end_
  have hn := hS.n256
  refine ⟨?_, fun i h1 h2 => ?_⟩
  · unfold HeadIs
    rcases hp.each l.first (by omega) with h | ⟨a, ha, hap, _⟩
    · rw [get_same hS hY hp.len (by omega) (by omega) h]; exact ht.hd
    · exfalso
      obtain ⟨k, _, _, hp2, _⟩ := logPuts_mem ha
      omega
  · rcases hp.each (l.first + i) (by omega) with h | ⟨a, ha, hap, hs⟩
    · left
      rw [get_same hS hY hp.len (by omega) (by omega) h]
      exact ht.old i h1 h2
    · right
      obtain ⟨k, _, e, hp2, _⟩ := logPuts_mem ha
      have hk : k = i - 1 := by omega
      subst hk
      refine ⟨a, e, ?_⟩
      rw [← hap]
      exact get_put hY (by rw [hp.len]; exact logPuts_ok hS hr _ a ha) (by rw [hap]; exact hs)
theorem T2_all (hS : Fits S l) (hY : Fits Y l) (hr : RunOk S.st.length l run) (ht : T0 S l m) (hp : AllIn S Y (logPuts l (q32 (m + 1)) 1 run)) : T2 Y l m run := by
  refine ⟨T1_parts hS hY hr ht hp.parts, fun k a e => ?_⟩
  have ha : a ∈ logPuts l (q32 (m + 1)) 1 run := List.mem_of_getElem? e
  obtain ⟨j, _, ej, hpj, _⟩ := logPuts_mem ha
  have hap : a.p = l.first + ((k + 1 : Nat) : Int) := by
    have e2 := e
    rw [logPuts_get] at e2
    split at e2
    · injection e2 with e2; rw [← e2]; dsimp only; omega
    · split at e2
      · injection e2 with e2; rw [← e2]; dsimp only; omega
      · simp at e2
  rw [← hap]
  exact get_put hY (by rw [hp.parts.len]; exact logPuts_ok hS hr _ a ha) (hp.all a ha)
/-- sectors of the journal are as they were -/
def SameIn (S Y : Dv) (l : Lay) : Prop := ∀ i : Nat, (i : Int) < l.size → Y.look (l.first + i) = S.look (l.first + i)
theorem same_get (hS : Fits S l) (hY : Fits Y l) (hl : Y.st.length = S.st.length) (h : SameIn S Y l) (i : Nat) (hi : (i : Int) < l.size) : Y.get (l.first + i) = S.get (l.first + i) := by
  have c := Lay.check_ok hS.chk
  have he := hS.end_
  exact get_same hS hY hl (by omega) (by omega) (h i hi)
theorem same_head (hS : Fits S l) (hY : Fits Y l) (hl : Y.st.length = S.st.length) (h : SameIn S Y l) (hh : HeadIs S l m) : HeadIs Y l m := by
  have c := Lay.check_ok hS.chk
  have := same_get hS hY hl h 0 (by omega)
  unfold HeadIs at *
  rw [show l.first + ((0 : Nat) : Int) = l.first by omega] at this
  rw [this]; exact hh
theorem T0_same (hS : Fits S l) (hY : Fits Y l) (hl : Y.st.length = S.st.length) (h : SameIn S Y l) (ht : T0 S l m) : T0 Y l m :=
  ⟨same_head hS hY hl h ht.hd, fun i h1 h2 => by rw [same_get hS hY hl h i h2]; exact ht.old i h1 h2⟩
theorem T1_same (hS : Fits S l) (hY : Fits Y l) (hl : Y.st.length = S.st.length) (h : SameIn S Y l) (ht : T1 S l m run) : T1 Y l m run :=
  ⟨same_head hS hY hl h ht.hd, fun i h1 h2 => by rw [same_get hS hY hl h i h2]; exact ht.part i h1 h2⟩
theorem T2_same (hS : Fits S l) (hY : Fits Y l) (hl : Y.st.length = S.st.length) (h : SameIn S Y l) (hr : (run.length : Int) ≤ l.most) (ht : T2 S l m run) : T2 Y l m run :=
  ⟨T1_same hS hY hl h ht.t1, fun k a e => by
    have hk : k ≤ run.length := by
      have := (List.getElem?_eq_some_iff.1 e).1
      rw [logPuts_length] at this; omega
    have := (most_le l).1
    rw [same_get hS hY hl h (k + 1) (by omega)]
    exact ht.all k a e⟩
/-- the put that ends a transaction -/
def clrPut (l : Lay) (m : Nat) : PutA := ⟨l.first, 1, q32 (m + 1), ⟨#[]⟩⟩
theorem clrPut_ok (hS : Fits S l) (m : Nat) : (clrPut l m).Ok S.st.length := by
  have c := Lay.check_ok hS.chk
  have he := hS.end_
  have hn := hS.n256
  exact ⟨by show 0 ≤ l.first; omega, by show l.first < (S.st.length : Int); omega, by show l.first < 256; omega, by show (1 : Int) ≤ 1; decide, by show (1 : Int) ≤ 255; decide, by show 0 ≤ 112; decide⟩
theorem T0_clear (hS : Fits S l) (hY : Fits Y l) (hm : m + 1 < 4294967296) (ht : T1 S l m run) (hl : Y.st.length = S.st.length) (hh : Y.look l.first = (clrPut l m).sec) (hs : ∀ p : Int, 0 ≤ p → p ≠ l.first → Y.look p = S.look p) : T0 Y l (m + 1) := by
  have c := Lay.check_ok hS.chk
  have he := hS.end_
  refine ⟨?_, fun i h1 h2 => ?_⟩
  · have := get_put hY (by rw [hl]; exact clrPut_ok hS m) hh
    exact this
  · rw [get_same hS hY hl (by omega) (by omega) (hs (l.first + i) (by omega) (by omega))]
    rcases ht.part i h1 h2 with h | ⟨a, ha, hg⟩
    · exact h.mono (by omega)
    · obtain ⟨k, _, _, _, hq⟩ := logPuts_mem (List.mem_of_getElem? ha)
      rw [hg]
      exact ⟨by show broken 0 = false; decide, fun _ => by show a.q.toNat ≤ m + 1; rw [hq, q32_toNat hm]; omega⟩
/-- what is at a place -/
def Held (S : Dv) (p : Int) : Option (Int × ByteArray) → Prop
  | none => S.look p = zsec
  | some x => ∃ q, S.get p = (⟨x.1, q, x.2⟩, 0)
/-- what is at the places outside of the journal -/
def Pl (S : Dv) (l : Lay) (f : Int → Option (Int × ByteArray)) : Prop := ∀ p : Int, 0 ≤ p → p < S.st.length → l.inside p = false → Held S p (f p)
/-- some places have what a run writes, the others what was there -/
def PlPart (S : Dv) (l : Lay) (f : Int → Option (Int × ByteArray)) (run : List Rec) : Prop := ∀ p : Int, 0 ≤ p → p < S.st.length → l.inside p = false → Held S p (f p) ∨ ∃ r ∈ run, r.at_ = p ∧ Held S p (some (r.kind, r.data))
def upd (f : Int → Option (Int × ByteArray)) : List Rec → Int → Option (Int × ByteArray)
  | [] => f
  | r :: rest => upd (fun p => if p = r.at_ then some (r.kind, r.data) else f p) rest
theorem upd_snoc (r : Rec) (run : List Rec) : ∀ f, upd f (run ++ [r]) = fun p => if p = r.at_ then some (r.kind, r.data) else upd f run p := by
  induction run with
  | nil => intro f; rfl
  | cons x rest ih => intro f; exact ih _
theorem held_same (hS : Fits S l) (hY : Fits Y l) (hl : Y.st.length = S.st.length) {p : Int} (h0 : 0 ≤ p) (h1 : p < S.st.length) (h : Y.look p = S.look p) {x : Option (Int × ByteArray)} (hx : Held S p x) : Held Y p x := by
  cases x with
  | none => exact h.trans hx
  | some x => obtain ⟨q, hq⟩ := hx; exact ⟨q, by rw [get_same hS hY hl h0 h1 h]; exact hq⟩
theorem inside_iff {p : Int} : l.inside p = true ↔ l.first ≤ p ∧ p < l.first + l.size := by unfold Lay.inside; simp
theorem Pl_same (hS : Fits S l) (hY : Fits Y l) (hl : Y.st.length = S.st.length) (h : ∀ p : Int, 0 ≤ p → l.inside p = false → Y.look p = S.look p) {f : Int → Option (Int × ByteArray)} (hf : Pl S l f) : Pl Y l f :=
  fun p h0 h1 hi => held_same hS hY hl h0 (by rw [← hl]; exact h1) (h p h0 hi) (hf p h0 (by rw [← hl]; exact h1) hi)
theorem PlPart_same (hS : Fits S l) (hY : Fits Y l) (hl : Y.st.length = S.st.length) (h : ∀ p : Int, 0 ≤ p → l.inside p = false → Y.look p = S.look p) {f : Int → Option (Int × ByteArray)} (hf : PlPart S l f run) : PlPart Y l f run :=
  fun p h0 h1 hi => (hf p h0 (by rw [← hl]; exact h1) hi).imp (held_same hS hY hl h0 (by rw [← hl]; exact h1) (h p h0 hi)) (fun ⟨r, hr, e, hx⟩ => ⟨r, hr, e, held_same hS hY hl h0 (by rw [← hl]; exact h1) (h p h0 hi) hx⟩)
/-- the log's puts leave the places outside -/
theorem log_out (hS : Fits S l) (hr : (run.length : Int) ≤ l.most) {q : BitVec 32} (hp : Parts S Y (logPuts l q 1 run)) : ∀ p : Int, 0 ≤ p → l.inside p = false → Y.look p = S.look p := by
  intro p h0 hi
  rcases hp.each p h0 with h | ⟨a, ha, hap, _⟩
  · exact h
  · exfalso
    obtain ⟨k, hk, _, hp2, _⟩ := logPuts_mem ha
    have c := Lay.check_ok hS.chk
    have := (most_le l).1
    have : l.inside p = true := by rw [inside_iff]; omega
    rw [hi] at this; cases this
theorem appPuts_mem {q : BitVec 32} {a : PutA} (h : a ∈ appPuts q run) : ∃ r ∈ run, a = ⟨r.at_, r.kind, q, r.data⟩ := by
  obtain ⟨r, hr, e⟩ := List.mem_map.1 h
  exact ⟨r, hr, e.symm⟩
theorem run_ok (hr : RunOk S.st.length l run) {r : Rec} (h : r ∈ run) : ∃ k, ∃ hk : k < run.length, run[k] = r ∧ RecOk S.st.length l (run.take k) r := by
  obtain ⟨k, hk, e⟩ := List.mem_iff_getElem.1 h
  exact ⟨k, hk, e, e ▸ hasAt_take hr k hk⟩
theorem appPuts_ok (hS : Fits S l) (hr : RunOk S.st.length l run) (q : BitVec 32) : ∀ a ∈ appPuts q run, a.Ok S.st.length := by
  intro a ha
  obtain ⟨r, hm, rfl⟩ := appPuts_mem ha
  obtain ⟨k, hk, _, ok⟩ := run_ok hr hm
  have hn := hS.n256
  have h1 := ok.a0
  have h2 := ok.a1
  exact ⟨h1, h2, by show r.at_ < 256; omega, ok.k0, ok.k1, by show r.data.size ≤ 112; have := ok.d1; omega⟩
theorem run_apart (hr : RunOk S.st.length l run) {r s : Rec} (h1 : r ∈ run) (h2 : s ∈ run) (e : r.at_ = s.at_) : r = s := by
  obtain ⟨j, hj, ej, okj⟩ := run_ok hr h1
  obtain ⟨k, hk, ek, okk⟩ := run_ok hr h2
  have key : ∀ (a b : Nat) (ha : a < run.length) (hb : b < run.length), a < b → hasAt (run.take b) run[a].at_ = true := by
    intro a b ha hb hab
    unfold hasAt
    rw [List.any_eq_true]
    refine ⟨run[a], ?_, by simp⟩
    rw [List.mem_iff_getElem]
    exact ⟨a, by simp; omega, by simp⟩
  rcases Nat.lt_trichotomy j k with h | h | h
  · have := key j k hj hk h
    rw [ej, e, okk.new] at this; cases this
  · subst h; rw [← ej, ← ek]
  · have := key k j hk hj h
    rw [ek, ← e, okj.new] at this; cases this
theorem appPuts_apart (hr : RunOk S.st.length l run) (q : BitVec 32) : Apart (appPuts q run) := by
  intro a ha b hb e
  obtain ⟨r, hm, rfl⟩ := appPuts_mem ha
  obtain ⟨s, hs, rfl⟩ := appPuts_mem hb
  rw [run_apart hr hm hs e]
/-- the records' puts leave the journal -/
theorem app_in (hS : Fits S l) (hr : RunOk S.st.length l run) {q : BitVec 32} (hp : Parts S Y (appPuts q run)) : SameIn S Y l := by
  intro i hi
  have c := Lay.check_ok hS.chk
  rcases hp.each (l.first + i) (by omega) with h | ⟨a, ha, hap, _⟩
  · exact h
  · exfalso
    obtain ⟨r, hm, rfl⟩ := appPuts_mem ha
    obtain ⟨k, hk, _, ok⟩ := run_ok hr hm
    have : l.inside r.at_ = true := by rw [inside_iff]; dsimp only at hap; omega
    rw [ok.out] at this; cases this
theorem app_part (hS : Fits S l) (hY : Fits Y l) (hr : RunOk S.st.length l run) {q : BitVec 32} (hp : Parts S Y (appPuts q run)) {f : Int → Option (Int × ByteArray)} (hf : PlPart S l f run) : PlPart Y l f run := by
  intro p h0 h1 hi
  rcases hp.each p h0 with h | ⟨a, ha, hap, hs⟩
  · exact (hf p h0 (by rw [← hp.len]; exact h1) hi).imp (held_same hS hY hp.len h0 (by rw [← hp.len]; exact h1) h) (fun ⟨r, hr, e, hx⟩ => ⟨r, hr, e, held_same hS hY hp.len h0 (by rw [← hp.len]; exact h1) h hx⟩)
  · right
    have hok := appPuts_ok hS hr q a ha
    obtain ⟨r, hm, e⟩ := appPuts_mem ha
    refine ⟨r, hm, by rw [← hap, e], q, ?_⟩
    have := get_put hY (by rw [hp.len]; exact hok) (by rw [hap]; exact hs)
    rw [hap] at this
    rw [this, e]
theorem upd_not (run : List Rec) : ∀ (f : Int → Option (Int × ByteArray)) (p : Int), (∀ r ∈ run, r.at_ ≠ p) → upd f run p = f p := by
  induction run with
  | nil => intro f p _; rfl
  | cons r rest ih =>
    intro f p h
    rw [upd, ih _ p (fun s hs => h s (.tail _ hs)), if_neg (fun e => h r (.head _) e.symm)]
theorem upd_in (run : List Rec) : ∀ (f : Int → Option (Int × ByteArray)) (r : Rec), r ∈ run → (∀ s ∈ run, s.at_ = r.at_ → s = r) → upd f run r.at_ = some (r.kind, r.data) := by
  induction run with
  | nil => intro f r h; simp at h
  | cons x rest ih =>
    intro f r h hu
    rw [upd]
    by_cases hm : r ∈ rest
    · exact ih _ r hm (fun s hs => hu s (.tail _ hs))
    · rcases List.mem_cons.1 h with rfl | h
      · rw [upd_not rest _ r.at_ (fun s hs e => hm ((hu s (.tail _ hs) e) ▸ hs)), if_pos rfl]
      · exact absurd h hm
/-- all records are in their places -/
theorem app_all (hS : Fits S l) (hY : Fits Y l) (hr : RunOk S.st.length l run) {q : BitVec 32} (hp : AllIn S Y (appPuts q run)) {f : Int → Option (Int × ByteArray)} (hf : PlPart S l f run) : Pl Y l (upd f run) := by
  intro p h0 h1 hi
  by_cases hin : ∃ r ∈ run, r.at_ = p
  · obtain ⟨r, hm, rfl⟩ := hin
    rw [upd_in run f r hm (fun s hs e => run_apart hr hs hm e)]
    have ha : (⟨r.at_, r.kind, q, r.data⟩ : PutA) ∈ appPuts q run := List.mem_map_of_mem (f := fun r => (⟨r.at_, r.kind, q, r.data⟩ : PutA)) hm
    exact ⟨q, get_put hY (by rw [hp.parts.len]; exact appPuts_ok hS hr q _ ha) (hp.all _ ha)⟩
  · have hno : ∀ r ∈ run, r.at_ ≠ p := fun r hr e => hin ⟨r, hr, e⟩
    rw [upd_not run f p hno]
    have hold := hf p h0 (by rw [← hp.parts.len]; exact h1) hi
    rcases hold with hold | ⟨r, hm, e, _⟩
    · rcases hp.parts.each p h0 with h | ⟨a, ha, hap, _⟩
      · exact held_same hS hY hp.parts.len h0 (by rw [← hp.parts.len]; exact h1) h hold
      · obtain ⟨r, hm, e⟩ := appPuts_mem ha
        exact absurd (by rw [← hap, e]) (hno r hm)
    · exact absurd e (hno r hm)
end
end Go.Proofs.YtfbkfdoekgnldaaDoor
namespace Go.Proofs.YtfbkfdoekgnldaaDoor
open Go.RowKit
/-- a journal that a crash may have left in the midst of a transaction -/
def Mid (S : Dv) (l : Lay) (m : Nat) (f : Int → Option (Int × ByteArray)) (run : List Rec) : Prop :=
  (T1 S l m run ∧ Pl S l f) ∨ (T2 S l m run ∧ PlPart S l f run) ∨ (T0 S l (m + 1) ∧ (Pl S l f ∨ Pl S l (upd f run)))
section
variable {S Y : Dv} {l : Lay} {m : Nat} {run : List Rec} {f : Int → Option (Int × ByteArray)}
theorem Pl.part (hr : RunOk S.st.length l run) (h : Pl S l (upd f run)) : PlPart S l f run := by
  intro p h0 h1 hi
  have hp := h p h0 h1 hi
  by_cases hin : ∃ r ∈ run, r.at_ = p
  · obtain ⟨r, hm, rfl⟩ := hin
    rw [upd_in run f r hm (fun s hs e => run_apart hr hs hm e)] at hp
    exact .inr ⟨r, hm, rfl, hp⟩
  · rw [upd_not run f p (fun r hr e => hin ⟨r, hr, e⟩)] at hp
    exact .inl hp
theorem Pl.part0 (h : Pl S l f) : PlPart S l f run := fun p h0 h1 hi => .inl (h p h0 h1 hi)
theorem T0.nb (h : T0 S l m) : ∀ i : Nat, 1 ≤ i → (i : Int) < l.size → broken (S.get (l.first + i)).2 = false := fun i h1 h2 => (h.old i h1 h2).nb
theorem T1.nb (h : T1 S l m run) : ∀ i : Nat, 1 ≤ i → (i : Int) < l.size → broken (S.get (l.first + i)).2 = false := fun i h1 h2 => by
  rcases h.part i h1 h2 with h | ⟨a, _, hg⟩
  · exact h.nb
  · rw [hg]; rfl
theorem stale_eq (hf : Fits S l) (hnb : ∀ i : Nat, 1 ≤ i → (i : Int) < l.size → broken (S.get (l.first + i)).2 = false) (m : Nat) :
    (staleM S l (q32 m)).2 = 0 ∧ ((staleM S l (q32 m)).1 = true ↔ ∃ j : Nat, 1 ≤ j ∧ (j : Int) < l.size ∧ isStale (S.get (l.first + j)) (q32 (m + 1)) = true) := by
  have c := Lay.check_ok hf.chk
  have := stale_look hnb (q32 (m + 1)) (l.size - 1).toNat 1 false (Nat.le_refl _) (by omega)
  unfold staleM
  rw [q32_succ]
  refine ⟨this.1, this.2.trans ⟨fun h => h.elim (fun h => by cases h) id, .inr⟩⟩
theorem stale_T0 (hf : Fits S l) (hm : m + 1 < 4294967296) (h : T0 S l m) : staleM S l (q32 m) = (false, 0) := by
  obtain ⟨h2, h1⟩ := stale_eq hf h.nb m
  have : (staleM S l (q32 m)).1 = false := by
    cases hs : (staleM S l (q32 m)).1
    · rfl
    · obtain ⟨j, j1, j2, j3⟩ := h1.1 hs
      unfold isStale at j3
      rw [(h.old j j1 j2).mine hm] at j3
      cases j3
  exact Prod.ext this h2
theorem stale_T1 (hf : Fits S l) (h : T1 S l m run) : (staleM S l (q32 m)).2 = 0 ∧ ((staleM S l (q32 m)).1 = true ∨ T0 S l m) := by
  obtain ⟨h2, h1⟩ := stale_eq hf h.nb m
  refine ⟨h2, ?_⟩
  cases hs : (staleM S l (q32 m)).1
  · right
    refine ⟨h.hd, fun i i1 i2 => ?_⟩
    rcases h.part i i1 i2 with h | ⟨a, ha, hg⟩
    · exact h
    · exfalso
      have : isStale (S.get (l.first + i)) (q32 (m + 1)) = true := by
        rw [hg]
        unfold isStale mine
        obtain ⟨_, _, _, _, hq⟩ := logPuts_mem (List.mem_of_getElem? ha)
        rw [logPuts_get] at ha
        split at ha
        · injection ha with ha; rw [← ha]; simp
        · split at ha
          · injection ha with ha; rw [← ha]; simp
          · simp at ha
      have := h1.2 ⟨i, i1, i2, this⟩
      rw [hs] at this; cases this
  · exact .inl rfl
theorem clear_eq (hc : l.check = 0) (h : HeadIs S l m) : clearM S l = Dv.done (S.putAll [clrPut l m]) := by
  unfold clearM clrPut
  rw [head_of hc h, if_neg (by simp), q32_succ]
theorem clr_apart : Apart [clrPut l m] := by
  intro a ha b hb _
  simp at ha hb
  rw [ha, hb]
theorem clr_ok (hS : Fits S l) : ∀ a ∈ [clrPut l m], a.Ok S.st.length := by
  intro a ha
  simp at ha
  rw [ha]; exact clrPut_ok hS m
/-- what is left behind a Clear that was cut off -/
theorem clr_cases (hp : Parts S Y [clrPut l m]) (h0 : 0 ≤ l.first) : (∀ p : Int, 0 ≤ p → Y.look p = S.look p) ∨ (Y.look l.first = (clrPut l m).sec ∧ ∀ p : Int, 0 ≤ p → p ≠ l.first → Y.look p = S.look p) := by
  have hne : ∀ p : Int, 0 ≤ p → p ≠ l.first → Y.look p = S.look p := by
    intro p hp0 hp1
    rcases hp.each p hp0 with h | ⟨a, ha, hap, _⟩
    · exact h
    · simp at ha; rw [ha] at hap; exact absurd hap.symm hp1
  rcases hp.each l.first h0 with h | ⟨a, ha, _, hs⟩
  · left
    intro p hp0
    by_cases e : p = l.first
    · rw [e]; exact h
    · exact hne p hp0 e
  · right
    simp at ha
    rw [ha] at hs
    exact ⟨hs, hne⟩
theorem out_ne (h : Fits S l) {p : Int} (hi : l.inside p = false) : p ≠ l.first := by
  rintro rfl
  have c := Lay.check_ok h.chk
  have : l.inside l.first = true := by rw [inside_iff]; omega
  rw [hi] at this; cases this
/-- a Clear of a journal in the midst of a transaction -/
theorem clear_run (h : Calm S l) (hm : m + 1 < 4294967296) (ht : T1 S l m run) (htk : S.taken ≤ 1000000) :
    ((clearM S l).2 = 0 ∧ Calm (clearM S l).1 l ∧ T0 (clearM S l).1 l (m + 1) ∧ (∀ p : Int, 0 ≤ p → p ≠ l.first → (clearM S l).1.look p = S.look p) ∧ (clearM S l).1.st.length = S.st.length ∧ (clearM S l).1.taken = S.taken + 1 ∧ (S.power < 0 → (clearM S l).1.power = S.power)) ∨
    ((clearM S l).2 = 13 ∧ 0 ≤ S.power ∧ (clearM S l).1.ca.length ≤ 200 ∧ (clearM S l).1.taken ≤ S.taken + 1 ∧ ∀ keep, (clearM S l).1.crashE keep = 0 → Calm ((clearM S l).1.crash keep) l ∧ ((clearM S l).1.crash keep).power = -1 ∧ ((clearM S l).1.crash keep).taken ≤ S.taken + 1 ∧
      ((clearM S l).1.crash keep).st.length = S.st.length ∧ ((∀ p : Int, 0 ≤ p → ((clearM S l).1.crash keep).look p = S.look p) ∨ (T0 ((clearM S l).1.crash keep) l (m + 1) ∧ ∀ p : Int, 0 ≤ p → p ≠ l.first → ((clearM S l).1.crash keep).look p = S.look p))) := by
  have c := Lay.check_ok h.f.chk
  rw [clear_eq h.f.chk ht.hd]
  rcases done_puts h [clrPut l m] (clr_ok h.f) clr_apart (by simp) htk with ⟨h0, hc, ha, htk2, hpw⟩ | ⟨h0, hpw, hca, htk2, hk⟩
  · left
    have hh := ha.all (clrPut l m) (.head _)
    have hs : ∀ p : Int, 0 ≤ p → p ≠ l.first → (Dv.done (S.putAll [clrPut l m])).1.look p = S.look p := by
      intro p hp0 hp1
      rcases ha.parts.each p hp0 with h | ⟨a, ha, hap, _⟩
      · exact h
      · simp at ha; rw [ha] at hap; exact absurd hap.symm hp1
    exact ⟨h0, hc, T0_clear h.f hc.f hm ht ha.parts.len hh hs, hs, ha.parts.len, by rw [htk2]; simp, hpw⟩
  · right
    refine ⟨h0, hpw, hca, by simpa using htk2, fun keep hke => ?_⟩
    obtain ⟨k1, k2, k3, k4⟩ := hk keep hke
    refine ⟨k1, k2, by simpa using k3, k4.len, ?_⟩
    rcases clr_cases k4 c.2.2.1 with hs | ⟨hs1, hs2⟩
    · exact .inl hs
    · exact .inr ⟨T0_clear h.f k1.f hm ht k4.len hs1 hs2, hs2⟩
theorem mid_same (hS : Fits S l) (hY : Fits Y l) (hl : Y.st.length = S.st.length) (hr : (run.length : Int) ≤ l.most) (h : ∀ p : Int, 0 ≤ p → Y.look p = S.look p) (hm : Mid S l m f run) : Mid Y l m f run := by
  have c := Lay.check_ok hS.chk
  have hin : SameIn S Y l := fun i hi => h _ (by omega)
  have hout : ∀ p : Int, 0 ≤ p → l.inside p = false → Y.look p = S.look p := fun p hp _ => h p hp
  rcases hm with ⟨h1, h2⟩ | ⟨h1, h2⟩ | ⟨h1, h2⟩
  · exact .inl ⟨T1_same hS hY hl hin h1, Pl_same hS hY hl hout h2⟩
  · exact .inr (.inl ⟨T2_same hS hY hl hin hr h1, PlPart_same hS hY hl hout h2⟩)
  · exact .inr (.inr ⟨T0_same hS hY hl hin h1, h2.imp (Pl_same hS hY hl hout) (Pl_same hS hY hl hout)⟩)
/-- what a Replay comes to where the power does not go -/
structure Redone (S : Dv) (l : Lay) (m : Nat) (f : Int → Option (Int × ByteArray)) (run : List Rec) (was now : Nat) : Prop where
  calm : Calm (replayM S l).1 l
  len : (replayM S l).1.st.length = S.st.length
  pw : S.power < 0 → (replayM S l).1.power = S.power
  tk : (replayM S l).1.taken ≤ S.taken + 200
  w0 : m ≤ was
  w1 : was ≤ m + 1
  n0 : now = was ∨ now = was + 1
  n1 : now ≤ m + 1
  hd : HeadIs S l was
  t0 : T0 (replayM S l).1 l now
  none : now = was → lookM S l = ([], false, 0)
  le : (lookM S l).2.2 = 0
  yes : (lookM S l).2.1 = true → (replayM S l).2.1 = (lookM S l).1.length ∧ (lookM S l).1 = run
  no : (lookM S l).2.1 = false → (replayM S l).2.1 = 0
  recs : (lookM S l).2.1 = true → ∀ r ∈ run, (replayM S l).1.get r.at_ = (⟨r.kind, q32 (was + 1), r.data⟩, 0)
  pl : (now = m ∧ Pl (replayM S l).1 l f) ∨ (now = m + 1 ∧ (Pl (replayM S l).1 l f ∨ Pl (replayM S l).1 l (upd f run)))
theorem replay_run (h : Calm S l) (hmid : Mid S l m f run) (hr : RunOk S.st.length l run) (hm : m + 2 < 4294967296) (htk : S.taken ≤ 900000) :
    ((replayM S l).2.2 = 0 ∧ ∃ was now, Redone S l m f run was now) ∨
    ((replayM S l).2.2 = 13 ∧ 0 ≤ S.power ∧ (replayM S l).1.ca.length ≤ 200 ∧ (replayM S l).1.taken ≤ S.taken + 200 ∧ ∀ keep, (replayM S l).1.crashE keep = 0 → Calm ((replayM S l).1.crash keep) l ∧ ((replayM S l).1.crash keep).power = -1 ∧ ((replayM S l).1.crash keep).taken ≤ S.taken + 200 ∧ ((replayM S l).1.crash keep).st.length = S.st.length ∧ Mid ((replayM S l).1.crash keep) l m f run) := by
  have c := Lay.check_ok h.f.chk
  have whole : T2 S l m run → PlPart S l f run → (((replayM S l).2.2 = 0 ∧ ∃ was now, Redone S l m f run was now) ∨
    ((replayM S l).2.2 = 13 ∧ 0 ≤ S.power ∧ (replayM S l).1.ca.length ≤ 200 ∧ (replayM S l).1.taken ≤ S.taken + 200 ∧ ∀ keep, (replayM S l).1.crashE keep = 0 → Calm ((replayM S l).1.crash keep) l ∧ ((replayM S l).1.crash keep).power = -1 ∧ ((replayM S l).1.crash keep).taken ≤ S.taken + 200 ∧ ((replayM S l).1.crash keep).st.length = S.st.length ∧ Mid ((replayM S l).1.crash keep) l m f run)) := by
    intro ht hpl
    have hl := look_T2 h.f (by omega) hr ht
    have hhd := head_of h.f.chk ht.t1.hd
    have hrl : run.length ≤ 80 := by have := hr.len; have := (most_le l).2; omega
    obtain ⟨A, hA⟩ : ∃ A, A = appM S (q32 (m + 1)) run := ⟨_, rfl⟩
    have hR : replayM S l = if A.2 ≠ 0 then (A.1, 0, A.2) else many (clearM A.1 l) run.length := by
      unfold replayM
      rw [hl, hhd, if_neg (by simp), if_pos rfl]
      dsimp only
      rw [q32_succ, ← hA]
    have hd := done_puts h (appPuts (q32 (m + 1)) run) (appPuts_ok h.f hr _) (appPuts_apart hr _) (by unfold appPuts; simp; omega) (by omega)
    have hAe : A = Dv.done (S.putAll (appPuts (q32 (m + 1)) run)) := hA
    rw [← hAe] at hd
    have hpl2 : (appPuts (q32 (m + 1)) run).length = run.length := by unfold appPuts; simp
    rw [hpl2] at hd
    rcases hd with ⟨h0, hc, ha, htk2, hpw⟩ | ⟨h0, hpw, hca, htk2, hk⟩
    · have hsi := app_in h.f hr ha.parts
      have t2 := T2_same h.f hc.f ha.parts.len hsi hr.len ht
      have pl2 := app_all h.f hc.f hr ha hpl
      have hr2 : RunOk A.1.st.length l run := by rw [ha.parts.len]; exact hr
      rw [if_neg (by rw [h0]; simp)] at hR
      rcases clear_run hc (by omega) t2.t1 (by omega) with ⟨c0, cc, ct, cs, cl, ctk, cpw⟩ | ⟨c0, cpw, cca, ctk, ck⟩
      · left
        have hR2 : replayM S l = ((clearM A.1 l).1, (run.length : Int), 0) := by rw [hR]; unfold many; rw [if_neg (by rw [c0]; simp)]
        rw [hR2]
        refine ⟨rfl, m, m + 1, ?_⟩
        have clr_rec : ∀ r ∈ run, (clearM A.1 l).1.get r.at_ = (⟨r.kind, q32 (m + 1), r.data⟩, 0) := fun r hrm => by
          have hmem : (⟨r.at_, r.kind, q32 (m + 1), r.data⟩ : PutA) ∈ appPuts (q32 (m + 1)) run := List.mem_map_of_mem (f := fun r => (⟨r.at_, r.kind, q32 (m + 1), r.data⟩ : PutA)) hrm
          have hok := appPuts_ok h.f hr _ _ hmem
          obtain ⟨k, hk, _, rok⟩ := run_ok hr hrm
          exact get_put (a := ⟨r.at_, r.kind, q32 (m + 1), r.data⟩) cc.f (by rw [cl, ha.parts.len]; exact hok) ((cs r.at_ rok.a0 (out_ne h.f rok.out)).trans (ha.all _ hmem))
        have plc : Pl (clearM A.1 l).1 l (upd f run) := Pl_same hc.f cc.f cl (fun p hp hi => cs p hp (out_ne hc.f hi)) pl2
        exact ⟨by rw [hR2]; exact cc, by rw [hR2]; exact cl.trans ha.parts.len, fun hn => by rw [hR2]; have := hpw hn; exact (cpw (by omega)).trans this, by rw [hR2]; show (clearM A.1 l).1.taken ≤ _; omega, Nat.le_refl _, by omega, .inr rfl, Nat.le_refl _, ht.t1.hd, by rw [hR2]; exact ct, fun e => absurd e (by omega), by rw [hl], fun _ => by rw [hR2, hl]; exact ⟨rfl, rfl⟩, fun e => (by rw [hl] at e; cases e), fun _ r hrm => by rw [hR2]; exact clr_rec r hrm, .inr ⟨rfl, by rw [hR2]; exact .inr plc⟩⟩
      · right
        have hR2 : replayM S l = ((clearM A.1 l).1, 0, 13) := by rw [hR]; unfold many; rw [c0, if_pos (by simp)]
        rw [hR2]
        have h0p : 0 ≤ S.power := by
          rcases Int.lt_or_le S.power 0 with hn | hn
          · have := hpw hn; omega
          · exact hn
        refine ⟨rfl, h0p, cca, by show (clearM A.1 l).1.taken ≤ _; omega, fun keep hke => ?_⟩
        obtain ⟨k1, k2, k3, k4, k5⟩ := ck keep hke
        refine ⟨k1, k2, by show ((clearM A.1 l).1.crash keep).taken ≤ _; omega, k4.trans ha.parts.len, ?_⟩
        rcases k5 with hs | ⟨t0, hs⟩
        · exact mid_same hc.f k1.f k4 hr.len hs (.inr (.inl ⟨t2, Pl.part hr2 pl2⟩))
        · exact .inr (.inr ⟨t0, .inr (Pl_same hc.f k1.f k4 (fun p hp hi => hs p hp (out_ne hc.f hi)) pl2)⟩)
    · right
      rw [h0, if_pos (by simp)] at hR
      rw [hR]
      refine ⟨rfl, hpw, hca, by show A.1.taken ≤ _; omega, fun keep hke => ?_⟩
      obtain ⟨k1, k2, k3, k4⟩ := hk keep hke
      exact ⟨k1, k2, by show (A.1.crash keep).taken ≤ _; omega, k4.len, .inr (.inl ⟨T2_same h.f k1.f k4.len (app_in h.f hr k4) hr.len ht, app_part h.f k1.f hr k4 hpl⟩)⟩
  rcases hmid with ⟨ht, hpl⟩ | ⟨ht, hpl⟩ | ⟨ht, hpl⟩
  · rcases look_T1 h.f (by omega) hr ht with ⟨j, hj, hjo, _, hl⟩ | ⟨ht2, _⟩
    · have hhd := head_of h.f.chk ht.hd
      obtain ⟨s2, s1⟩ := stale_T1 h.f ht
      have hR : replayM S l = if (staleM S l (q32 m)).1 = true then many (clearM S l) 0 else (S, 0, 0) := by
        unfold replayM
        rw [hl, hhd, if_neg (by simp), if_neg (by simp)]
        dsimp only
        rw [s2, if_neg (by simp)]
      cases hst : (staleM S l (q32 m)).1
      · left
        have t0 : T0 S l m := by
          rcases s1 with s1 | s1
          · rw [hst] at s1; cases s1
          · exact s1
        rw [hst, if_neg (by simp)] at hR
        have hl0 := look_T0 h.f (by omega) t0
        rw [hR]
        refine ⟨rfl, m, m, ?_⟩
        exact ⟨by rw [hR]; exact h, by rw [hR], fun _ => by rw [hR], by rw [hR]; show S.taken ≤ _; omega, Nat.le_refl _, by omega, .inl rfl, by omega, ht.hd, by rw [hR]; exact t0, fun _ => hl0, by rw [hl0], fun e => (by rw [hl0] at e; cases e), fun _ => by rw [hR], fun e => (by rw [hl0] at e; cases e), .inl ⟨rfl, by rw [hR]; exact hpl⟩⟩
      · rw [hst, if_pos rfl] at hR
        rcases clear_run h (by omega) ht (by omega) with ⟨c0, cc, ct, cs, cl, ctk, cpw⟩ | ⟨c0, cpw, cca, ctk, ck⟩
        · left
          have hR2 : replayM S l = ((clearM S l).1, 0, 0) := by rw [hR]; unfold many; rw [if_neg (by rw [c0]; simp)]
          rw [hR2]
          refine ⟨rfl, m, m + 1, ?_⟩
          exact ⟨by rw [hR2]; exact cc, by rw [hR2]; exact cl, fun hn => by rw [hR2]; exact cpw hn, by rw [hR2]; show (clearM S l).1.taken ≤ _; omega, Nat.le_refl _, by omega, .inr rfl, Nat.le_refl _, ht.hd, by rw [hR2]; exact ct, fun e => absurd e (by omega), by rw [hl], fun e => (by rw [hl] at e; cases e), fun _ => by rw [hR2], fun e => (by rw [hl] at e; cases e), .inr ⟨rfl, by rw [hR2]; exact .inl (Pl_same h.f cc.f cl (fun p hp hi => cs p hp (out_ne h.f hi)) hpl)⟩⟩
        · right
          have hR2 : replayM S l = ((clearM S l).1, 0, 13) := by rw [hR]; unfold many; rw [c0, if_pos (by simp)]
          rw [hR2]
          refine ⟨rfl, cpw, cca, by show (clearM S l).1.taken ≤ _; omega, fun keep hke => ?_⟩
          obtain ⟨k1, k2, k3, k4, k5⟩ := ck keep hke
          refine ⟨k1, k2, by show ((clearM S l).1.crash keep).taken ≤ _; omega, k4, ?_⟩
          rcases k5 with hs | ⟨t0, hs⟩
          · exact mid_same h.f k1.f k4 hr.len hs (.inl ⟨ht, hpl⟩)
          · exact .inr (.inr ⟨t0, .inl (Pl_same h.f k1.f k4 (fun p hp hi => hs p hp (out_ne h.f hi)) hpl)⟩)
    · exact whole ht2 hpl.part0
  · exact whole ht hpl
  · left
    have hl := look_T0 h.f (by omega) ht
    have hhd := head_of h.f.chk ht.hd
    have hst := stale_T0 h.f (by omega) ht
    have hR : replayM S l = (S, 0, 0) := by
      unfold replayM
      rw [hl, hhd, if_neg (by simp), if_neg (by simp)]
      dsimp only
      rw [hst, if_neg (by simp), if_neg (by simp)]
    rw [hR]
    refine ⟨rfl, m + 1, m + 1, ?_⟩
    exact ⟨by rw [hR]; exact h, by rw [hR], fun _ => by rw [hR], by rw [hR]; show S.taken ≤ _; omega, by omega, Nat.le_refl _, .inl rfl, Nat.le_refl _, ht.hd, by rw [hR]; exact ht, fun _ => hl, by rw [hl], fun e => (by rw [hl] at e; cases e), fun _ => by rw [hR], fun e => (by rw [hl] at e; cases e), .inr ⟨rfl, by rw [hR]; exact hpl⟩⟩
/-- what a Log leaves of a transaction that is one -/
theorem log_run (h : Calm S l) (ht : T0 S l m) (hf : Pl S l f) (hv : validM S.st.length l run = 0) (htk : S.taken ≤ 900000) :
    ((logM S l run).2 = 0 ∧ Calm (logM S l run).1 l ∧ T2 (logM S l run).1 l m run ∧ Pl (logM S l run).1 l f ∧ (∀ p : Int, 0 ≤ p → l.inside p = false → (logM S l run).1.look p = S.look p) ∧ (logM S l run).1.st.length = S.st.length ∧ (logM S l run).1.taken = S.taken + (run.length + 1 : Nat) ∧ (S.power < 0 → (logM S l run).1.power = S.power)) ∨
    ((logM S l run).2 = 13 ∧ 0 ≤ S.power ∧ (logM S l run).1.ca.length ≤ 200 ∧ (logM S l run).1.taken ≤ S.taken + 200 ∧ ∀ keep, (logM S l run).1.crashE keep = 0 → Calm ((logM S l run).1.crash keep) l ∧ ((logM S l run).1.crash keep).power = -1 ∧ ((logM S l run).1.crash keep).taken ≤ S.taken + 200 ∧ ((logM S l run).1.crash keep).st.length = S.st.length ∧ Mid ((logM S l run).1.crash keep) l m f run) := by
  have hr := valid_ok hv
  have hrl : run.length ≤ 80 := by have := hr.len; have := (most_le l).2; omega
  have e : logM S l run = Dv.done (S.putAll (logPuts l (q32 (m + 1)) 1 run)) := by
    unfold logM
    rw [head_of h.f.chk ht.hd, if_neg (by simp), hv, if_neg (by simp), q32_succ]
  have hd := done_puts h (logPuts l (q32 (m + 1)) 1 run) (logPuts_ok h.f hr _) (logPuts_apart _) (by rw [logPuts_length]; omega) (by omega)
  rw [← e, logPuts_length] at hd
  rcases hd with ⟨h0, hc, ha, htk2, hpw⟩ | ⟨h0, hpw, hca, htk2, hk⟩
  · left
    have ho := log_out h.f hr.len ha.parts
    exact ⟨h0, hc, T2_all h.f hc.f hr ht ha, Pl_same h.f hc.f ha.parts.len ho hf, ho, ha.parts.len, htk2, hpw⟩
  · right
    refine ⟨h0, hpw, hca, by omega, fun keep hke => ?_⟩
    obtain ⟨k1, k2, k3, k4⟩ := hk keep hke
    exact ⟨k1, k2, by omega, k4.len, .inl ⟨T1_parts h.f k1.f hr ht k4, Pl_same h.f k1.f k4.len (log_out h.f hr.len k4) hf⟩⟩
/-- what a Commit that returned OK leaves -/
structure Done (S : Dv) (l : Lay) (m : Nat) (f : Int → Option (Int × ByteArray)) (run : List Rec) : Prop where
  calm : Calm (commitM S l run).1 l
  len : (commitM S l run).1.st.length = S.st.length
  t0 : T0 (commitM S l run).1 l (m + 1)
  pl : Pl (commitM S l run).1 l (upd f run)
  tk : (commitM S l run).1.taken = S.taken + 2 * run.length + 2
  pw : S.power < 0 → (commitM S l run).1.power = S.power
  recs : ∀ r ∈ run, (commitM S l run).1.get r.at_ = (⟨r.kind, q32 (m + 1), r.data⟩, 0)
  out : ∀ p : Int, 0 ≤ p → l.inside p = false → (∀ r ∈ run, r.at_ ≠ p) → (commitM S l run).1.look p = S.look p
theorem commit_no (h : Calm S l) (ht : T0 S l m) (hv : validM S.st.length l run ≠ 0) : commitM S l run = (S, validM S.st.length l run) := by
  have e : logM S l run = (S, validM S.st.length l run) := by
    unfold logM
    rw [head_of h.f.chk ht.hd, if_neg (by simp), if_pos hv]
  unfold commitM
  rw [e, if_pos hv]
theorem commit_run (h : Calm S l) (ht : T0 S l m) (hf : Pl S l f) (hv : validM S.st.length l run = 0) (hm : m + 2 < 4294967296) (htk : S.taken ≤ 900000) :
    ((commitM S l run).2 = 0 ∧ Done S l m f run) ∨
    ((commitM S l run).2 = 13 ∧ 0 ≤ S.power ∧ (commitM S l run).1.ca.length ≤ 200 ∧ (commitM S l run).1.taken ≤ S.taken + 200 ∧ ∀ keep, (commitM S l run).1.crashE keep = 0 → Calm ((commitM S l run).1.crash keep) l ∧ ((commitM S l run).1.crash keep).power = -1 ∧ ((commitM S l run).1.crash keep).taken ≤ S.taken + 200 ∧ ((commitM S l run).1.crash keep).st.length = S.st.length ∧ Mid ((commitM S l run).1.crash keep) l m f run) := by
  have hr := valid_ok hv
  have hrl : run.length ≤ 80 := by have := hr.len; have := (most_le l).2; omega
  rcases log_run h ht hf hv htk with ⟨g0, gc, gt, gf, go, gl, gtk, gpw⟩ | ⟨g0, gpw, gca, gtk, gk⟩
  · obtain ⟨D, hD⟩ : ∃ D, D = (logM S l run).1 := ⟨_, rfl⟩
    rw [← hD] at gc gt gf go gl gtk gpw
    have hrD : RunOk D.st.length l run := by rw [gl]; exact hr
    have hl := look_T2 gc.f (by omega) hrD gt
    have hhd := head_of gc.f.chk gt.t1.hd
    obtain ⟨A, hA⟩ : ∃ A, A = appM D (q32 (m + 1)) run := ⟨_, rfl⟩
    have hap : applyM D l = many A run.length := by
      unfold applyM
      rw [hl, hhd, if_neg (by simp), if_neg (by simp)]
      dsimp only
      rw [q32_succ, ← hA]
    have hR : commitM S l run = if (many A run.length).2.2 ≠ 0 then ((many A run.length).1, (many A run.length).2.2) else clearM (many A run.length).1 l := by
      unfold commitM
      rw [if_neg (by rw [g0]; simp), ← hD, hap]
    have hd := done_puts gc (appPuts (q32 (m + 1)) run) (appPuts_ok gc.f hrD _) (appPuts_apart hrD _) (by unfold appPuts; simp; omega) (by omega)
    have hAe : A = Dv.done (D.putAll (appPuts (q32 (m + 1)) run)) := hA
    rw [← hAe] at hd
    have hpl2 : (appPuts (q32 (m + 1)) run).length = run.length := by unfold appPuts; simp
    rw [hpl2] at hd
    rcases hd with ⟨h0, hc, ha, htk2, hpw⟩ | ⟨h0, hpw, hca, htk2, hk⟩
    · have hmA : many A run.length = (A.1, (run.length : Int), 0) := by unfold many; rw [if_neg (by rw [h0]; simp)]
      rw [hmA, if_neg (by simp)] at hR
      have hR2 : commitM S l run = clearM A.1 l := hR
      have hsi := app_in gc.f hrD ha.parts
      have t2 := T2_same gc.f hc.f ha.parts.len hsi hr.len gt
      have pl2 := app_all gc.f hc.f hrD ha (run := run) (f := f) gf.part0
      have hr2 : RunOk A.1.st.length l run := by rw [ha.parts.len]; exact hrD
      rcases clear_run hc (by omega) t2.t1 (by omega) with ⟨c0, cc, ct, cs, cl, ctk, cpw⟩ | ⟨c0, cpw, cca, ctk, ck⟩
      · left
        refine ⟨by rw [hR2]; exact c0, ?_⟩
        exact ⟨by rw [hR2]; exact cc, by rw [hR2]; exact cl.trans (ha.parts.len.trans gl), by rw [hR2]; exact ct, by rw [hR2]; exact Pl_same hc.f cc.f cl (fun p hp hi => cs p hp (out_ne hc.f hi)) pl2,
          by rw [hR2]; omega, fun hn => by rw [hR2]; have e1 := gpw hn; have e2 := hpw (by omega); have e3 := cpw (by omega); omega,
          fun r hrm => by
            rw [hR2]
            have hmem : (⟨r.at_, r.kind, q32 (m + 1), r.data⟩ : PutA) ∈ appPuts (q32 (m + 1)) run := List.mem_map_of_mem (f := fun r => (⟨r.at_, r.kind, q32 (m + 1), r.data⟩ : PutA)) hrm
            have hok := appPuts_ok gc.f hrD _ _ hmem
            obtain ⟨k, hk, _, rok⟩ := run_ok hr hrm
            exact get_put (a := ⟨r.at_, r.kind, q32 (m + 1), r.data⟩) cc.f (by rw [cl, ha.parts.len]; exact hok) ((cs r.at_ rok.a0 (out_ne gc.f rok.out)).trans (ha.all _ hmem)),
          fun p hp hi hno => by
            rw [hR2, cs p hp (out_ne hc.f hi)]
            rcases ha.parts.each p hp with hx | ⟨a, ham, hap2, _⟩
            · rw [hx]; exact go p hp hi
            · obtain ⟨r, hrm, e⟩ := appPuts_mem ham
              exact absurd (by rw [← hap2, e]) (hno r hrm)⟩
      · right
        have h0p : 0 ≤ S.power := by
          rcases Int.lt_or_le S.power 0 with hn | hn
          · have e1 := gpw hn; have e2 := hpw (by omega); omega
          · exact hn
        rw [hR2]
        refine ⟨c0, h0p, cca, by omega, fun keep hke => ?_⟩
        obtain ⟨k1, k2, k3, k4, k5⟩ := ck keep hke
        refine ⟨k1, k2, by omega, k4.trans (ha.parts.len.trans gl), ?_⟩
        rcases k5 with hs | ⟨t0, hs⟩
        · exact mid_same hc.f k1.f k4 hr.len hs (.inr (.inl ⟨t2, Pl.part hr2 pl2⟩))
        · exact .inr (.inr ⟨t0, .inr (Pl_same hc.f k1.f k4 (fun p hp hi => hs p hp (out_ne hc.f hi)) pl2)⟩)
    · right
      have hmA : many A run.length = (A.1, 0, 13) := by unfold many; rw [h0, if_pos (by simp)]
      rw [hmA, if_pos (by simp)] at hR
      have h0p : 0 ≤ S.power := by
        rcases Int.lt_or_le S.power 0 with hn | hn
        · have e1 := gpw hn; omega
        · exact hn
      rw [hR]
      refine ⟨rfl, h0p, hca, by show A.1.taken ≤ _; omega, fun keep hke => ?_⟩
      obtain ⟨k1, k2, k3, k4⟩ := hk keep hke
      exact ⟨k1, k2, by show (A.1.crash keep).taken ≤ _; omega, k4.len.trans gl, .inr (.inl ⟨T2_same gc.f k1.f k4.len (app_in gc.f hrD k4) hr.len gt, app_part gc.f k1.f hrD k4 gf.part0⟩)⟩
  · right
    have hR : commitM S l run = logM S l run := by unfold commitM; rw [if_pos (by rw [g0]; simp)]
    rw [hR]
    exact ⟨g0, gpw, gca, gtk, gk⟩
end
end Go.Proofs.YtfbkfdoekgnldaaDoor
namespace Go.Proofs.YtfbkfdoekgnldaaDoor
open Go.RowKit
def zwrs (l : Lay) (n : Nat) (i : Int) : List Wr := (List.range n).map fun (j : Nat) => (l.first + i + (j : Int), zsec)
theorem zwrs_succ (l : Lay) (n : Nat) (i : Int) : zwrs l (n + 1) i = (l.first + i, zsec) :: zwrs l n (i + 1) := by
  unfold zwrs
  rw [List.range_succ_eq_map, List.map_cons, List.map_map]
  congr 1
  · simp
  · apply List.map_congr_left
    intro j _
    show (l.first + i + ((j + 1 : Nat) : Int), zsec) = (l.first + (i + 1) + (j : Int), zsec)
    rw [show l.first + i + ((j + 1 : Nat) : Int) = l.first + (i + 1) + (j : Int) by omega]
theorem zwrs_mem {l : Lay} {n : Nat} {i p : Int} {x : Sector} (h : (p, x) ∈ zwrs l n i) : x = zsec ∧ l.first + i ≤ p := by
  obtain ⟨j, _, e⟩ := List.mem_map.1 h
  injection e with e1 e2
  exact ⟨e2.symm, by omega⟩
theorem zeros_go (l : Lay) : ∀ (n : Nat) (S : Dv) (i : Int), S.Fit n → S.power < 0 → 0 ≤ l.first + i → l.first + i + n ≤ S.st.length → zerosK l S n i = (S.ran (zwrs l n i), 0) := by
  intro n
  induction n with
  | zero => intro S i _ _ _ _; show (S, (0 : Int)) = (S.ran [], 0); rw [Dv.ran_nil]
  | succ n ih =>
    intro S i hf hp h0 h1
    have h2 := hf.rm
    have h3 := hf.tk
    have hfree : S.Free := ⟨hf.on, by omega, by omega, by omega⟩
    unfold zerosK
    rw [Dv.writeE_go hfree h0 (by omega), Dv.write_go hfree h0 (by omega), if_neg (by simp)]
    rw [ih (S.push (l.first + i) zsec) (i + 1) ⟨hf.on, by simp [Dv.push]; omega, by simp only [Dv.push]; omega⟩ (by simp only [Dv.push]; split <;> omega) (by omega) (by show l.first + (i + 1) + (n : Int) ≤ (S.st.length : Int); omega)]
    rw [Dv.ran_cons S (l.first + i, zsec) _ (by omega), zwrs_succ]
structure Fresh (Y : Dv) (l : Lay) (n : Nat) : Prop where
  calm : Calm Y l
  t0 : T0 Y l 0
  pl : Pl Y l (fun _ => none)
  len : Y.st.length = n
  pw : Y.power = -1
  tk : Y.taken = l.size
def hdPut (l : Lay) : PutA := ⟨l.first, 1, 0#32, ⟨#[]⟩⟩
theorem format_new (l : Lay) (n : Nat) (hc : l.check = 0) (hn : l.first + l.size ≤ n) (h1 : 64 ≤ n) (h2 : n ≤ 256) : (formatM (Dv.new n) l).2 = 0 ∧ Fresh (formatM (Dv.new n) l).1 l n := by
  have c := Lay.check_ok hc
  obtain ⟨S, hS⟩ : ∃ S, S = Dv.new n := ⟨_, rfl⟩
  have hlen : S.st.length = n := by rw [hS]; simp [Dv.new]
  have hca : S.ca = [] := by rw [hS]; rfl
  have hpw : S.power = -1 := by rw [hS]; rfl
  have hon : S.off = false := by rw [hS]; rfl
  have htk : S.taken = 0 := by rw [hS]; rfl
  have hok : S.Ok := by rw [hS]; exact Dv.new_ok h1 h2
  have hz : ∀ p : Int, S.look p = zsec := by rw [hS]; exact Dv.look_new n
  rw [← hS]
  have hpo : (hdPut l).Ok S.st.length := by
    rw [hlen]
    exact ⟨by show 0 ≤ l.first; omega, by show l.first < (n : Int); omega, by show l.first < 256; omega, by show (1 : Int) ≤ 1; decide, by show (1 : Int) ≤ 255; decide, by show 0 ≤ 112; decide⟩
  have hfree : S.Free := ⟨hon, by omega, by omega, by rw [hca]; simp⟩
  obtain ⟨e1, e2⟩ := hpo.put S
  have e3 : S.put l.first 1 0#32 ⟨#[]⟩ = S.push l.first (hdPut l).sec := by
    have : S.putA (hdPut l) = S.put l.first 1 0#32 ⟨#[]⟩ := rfl
    rw [← this, e1]
    exact Dv.write_go hfree hpo.p0 hpo.p1 _
  have e4 : S.putE l.first 1 0#32 ⟨#[]⟩ = 0 := by
    have : S.putAE (hdPut l) = S.putE l.first 1 0#32 ⟨#[]⟩ := rfl
    rw [← this, e2]
    exact Dv.writeE_go hfree hpo.p0 hpo.p1
  obtain ⟨z, hzn⟩ : ∃ z, z = (l.size - 1).toNat := ⟨_, rfl⟩
  have e5 : zerosK l (S.push l.first (hdPut l).sec) z 1 = ((S.push l.first (hdPut l).sec).ran (zwrs l z 1), 0) :=
    zeros_go l z _ 1 ⟨hon, by simp [Dv.push, hca]; omega, by simp only [Dv.push]; omega⟩ (by simp only [Dv.push]; split <;> omega) (by omega) (by show l.first + 1 + (z : Int) ≤ (S.st.length : Int); omega)
  obtain ⟨ws, hws⟩ : ∃ ws, ws = (l.first, (hdPut l).sec) :: zwrs l z 1 := ⟨_, rfl⟩
  have e6 : (S.push l.first (hdPut l).sec).ran (zwrs l z 1) = S.ran ws := by rw [hws]; exact Dv.ran_cons S (l.first, (hdPut l).sec) _ (by omega)
  have honr : (S.ran ws).off = false := hon
  obtain ⟨ef, ee⟩ := Dv.flush_go honr
  have hR : formatM S l = ((S.ran ws).stable, 0) := by
    unfold formatM
    rw [if_neg (by rw [hc]; simp), e4, if_neg (by simp), e3, ← hzn, e5, e6]
    unfold Dv.done
    rw [if_neg (by simp), ef, ee]
  have hwl : ws.length = z + 1 := by rw [hws]; simp [zwrs]
  have hmw : ∀ p x, (p, x) ∈ ws → (p = l.first ∧ x = (hdPut l).sec) ∨ (x = zsec ∧ l.first + 1 ≤ p ∧ p < l.first + 1 + z) := by
    intro p x h
    rw [hws] at h
    rcases List.mem_cons.1 h with h | h
    · injection h with h1 h2; exact .inl ⟨h1, h2⟩
    · obtain ⟨j, hj, e⟩ := List.mem_map.1 h
      injection e with e1 e2
      have := List.mem_range.1 hj
      exact .inr ⟨e2.symm, by omega, by omega⟩
  have hrok : (S.ran ws).Ok := by
    refine ⟨hok.s1, hok.s2, ?_, ?_, ?_, ?_, ?_, ?_⟩
    · show (S.ca ++ ws).length ≤ 400; rw [hca, List.nil_append, hwl]; omega
    · intro x hx
      have hx2 : x ∈ S.ca ++ ws := hx
      rw [hca, List.nil_append] at hx2
      show 0 ≤ x.1 ∧ x.1 < (S.st.length : Int)
      rcases hmw x.1 x.2 hx2 with ⟨h, _⟩ | ⟨_, h, h'⟩ <;> omega
    · show 0 ≤ S.taken + (ws.length : Int); omega
    · show S.taken + (ws.length : Int) ≤ 1000000000000; omega
    · show -1 ≤ (if 0 ≤ S.power then _ else S.power); rw [if_neg (by omega)]; omega
    · show (if 0 ≤ S.power then _ else S.power) ≤ 1000000000000; rw [if_neg (by omega)]; omega
  have hYlen : (S.ran ws).stable.st.length = n := by
    have : (S.ran ws).stable.st.length = S.st.length := by simp [Dv.stable, flushL_length, Dv.ran]
    rw [this, hlen]
  have hlook : ∀ p : Int, 0 ≤ p → (S.ran ws).stable.look p = (lastW ws p).getD zsec := fun p hp => by
    rw [Dv.look_stable hrok p hp, Dv.look_ran, hz]
  have hne : ∀ p : Int, 0 ≤ p → p ≠ l.first → (S.ran ws).stable.look p = zsec := fun p hp hp1 => by
    rw [hlook p hp]
    cases hw : lastW ws p with
    | none => rfl
    | some x =>
      rcases hmw p x (lastW_mem hw) with ⟨h, _⟩ | ⟨h, _⟩
      · exact absurd h hp1
      · rw [h]; rfl
  have hhd : (S.ran ws).stable.look l.first = (hdPut l).sec := by
    rw [hlook _ (by omega)]
    obtain ⟨y, hy⟩ := lastW_some (show (l.first, (hdPut l).sec) ∈ ws by rw [hws]; exact .head _)
    rw [hy]
    rcases hmw _ _ (lastW_mem hy) with ⟨_, h⟩ | ⟨_, h, _⟩
    · rw [h]; rfl
    · omega
  have hfit : Fits (S.ran ws).stable l := ⟨honr, hc, by rw [hYlen]; omega, by rw [hYlen]; exact h2⟩
  rw [hR]
  refine ⟨rfl, ⟨hfit, rfl, Dv.stable_ok hrok⟩, ⟨?_, fun i i1 i2 => ?_⟩, fun p p0 p1 hi => ?_, hYlen, ?_, ?_⟩
  · exact get_put (a := hdPut l) hfit (by rw [hYlen, ← hlen]; exact hpo) hhd
  · have hg : (S.ran ws).stable.get (l.first + i) = (fr0F, 70) := by
      rw [Dv.get_on hfit.on (by omega) (by rw [hYlen]; omega), hne _ (by omega) (by omega)]
      unfold openF
      rw [if_pos ⟨by omega, by omega⟩]
      have : openCode (l.first + i).toNat zsec = 70 := by rw [openCode, if_pos rfl]
      rw [this, if_neg (by decide)]
    show OldF 0 ((S.ran ws).stable.get (l.first + i))
    rw [hg]
    exact ⟨by show broken 70 = false; decide, fun h => absurd h (by show ¬ (70 : Int) = 0; decide)⟩
  · exact hne p p0 (out_ne hfit hi)
  · show (if 0 ≤ S.power then _ else S.power) = -1; rw [if_neg (by omega), hpw]
  · show S.taken + (ws.length : Int) = l.size; rw [hwl]; omega
end Go.Proofs.YtfbkfdoekgnldaaDoor
namespace Go.Proofs.YtfbkfdoekgnldaaDoor
open Go.RowKit
open Lime
attribute [local go_sem] Oper.semAt_some setRow_alloc_at setRow_alloc_past setRow_drew g_same32 g_eq32 g_ne32 run_store_fn
set_option maxRecDepth 100000 in
set_option maxHeartbeats 2000000 in
theorem clear1_at {w W : World} {bd bl bs : Nat} {q : BitVec 32} {l : Lay} (l1 : List (Res w.heap.size)) {l2 : List (Res w.heap.size)} {g : Nat} {S : Dv} (h : Has w W (Blk _ bd (.cells #[pv g] 28) :: Blk _ bl (.cells #[.int .i64 l.first, .int .i64 l.size] 27) :: Blk _ bs (.cells #[.int .u32 (vu q)] 53) :: (l1 ++ DevR _ g S :: l2))) (hh : HalfLaid w) :
    Calls Tryd.prog 70 #[.pointer (some ⟨bd, 0, none⟩), .pointer (some ⟨bl, 0, none⟩), .pointer (some ⟨bs, 0, none⟩)] W fun e w' => e = .returned (.int .i64 (S.putAE ⟨l.first, 1, q + 1#32, ⟨#[]⟩⟩)) ∧
      Has w w' (Blk _ bd (.cells #[pv g] 28) :: Blk _ bl (.cells #[.int .i64 l.first, .int .i64 l.size] 27) :: Blk _ bs (.cells #[.int .u32 (vu q)] 53) :: (l1 ++ DevR _ g (S.putA ⟨l.first, 1, q + 1#32, ⟨#[]⟩⟩) :: l2)) := by
  obtain ⟨Q, hQ⟩ : ∃ Q, Q = q + 1#32 := ⟨_, rfl⟩
  have hw1 : IntKind.u32.wrap (vu q + 1) = vu Q := by rw [hQ]; exact g_add32 q 1#32
  rw [← hQ]
  have b0 := h.cell 0 _ _ _ rfl 0 _ rfl
  have c0 := h.cell 1 _ _ _ rfl 0 _ rfl
  have c1 := h.cell 1 _ _ _ rfl 1 _ rfl
  have s0 := h.cell 2 _ _ _ rfl 0 _ rfl
  have HP := Lib.hid (put_at (_ :: _ :: _ :: l1) h ⟨l.first, 1, Q, ⟨#[]⟩⟩ (show 0 ≤ 9223372036854775807 by decide) hh)
  dsimp only at HP
  clear h hQ hh
  go_enter Tryd.func70, Tryd.ntmps70
  go_wp2_with fail
  refine HP.out.mono ?_
  clear HP
  rintro e w3 ⟨rfl, h3⟩
  have H3 := Lib.hid h3
  clear h3 b0 c0 c1 s0
  go_wp2_with fail
  go_ret
  exact ⟨rfl, H3.out⟩
set_option maxRecDepth 100000 in
set_option maxHeartbeats 4000000 in
theorem clear_at {w W : World} (l1 : List (Res w.heap.size)) {l2 : List (Res w.heap.size)} {g : Nat} {S : Dv} (h : Has w W (l1 ++ DevR _ g S :: l2)) (l : Lay) (hh : HalfLaid w) :
    Calls Tryd.prog 48 #[pv g, .agg #[.int .i64 l.first, .int .i64 l.size]] W fun e w' => e = .returned (.int .i64 (clearM S l).2) ∧ Has w w' (l1 ++ DevR _ g (clearM S l).1 :: l2) := by
  have h1 := (h.alloc (.cells #[pv g] 28)).allocAt (.cells #[.int .i64 l.first, .int .i64 l.size] 27) (W.heap.size + 1) (by simp)
  have HHD := Lib.hid (head_has h1 (.tail _ (.tail _ (show DevR w.heap.size g S ∈ l1 ++ DevR _ g S :: l2 by simp))) l hh)
  obtain ⟨R, hR⟩ : ∃ R, R = clearM S l := ⟨_, rfl⟩
  rw [← hR]
  have hRd : R = if (headM S l).2 ≠ 0 then (S, (headM S l).2) else Dv.done (S.putAll [⟨l.first, 1, (headM S l).1 + 1#32, ⟨#[]⟩⟩]) := hR
  obtain ⟨⟨q, c⟩, hq⟩ : ∃ x, x = headM S l := ⟨_, rfl⟩
  rw [← hq] at HHD hRd
  dsimp only at HHD hRd
  have HRD := Lib.hid hRd
  have HHL := Lib.hid hh
  clear h h1 hh hR hRd hq
  go_enter Tryd.func48, Tryd.ntmps48
  go_wp2_with fail
  refine HHD.out.mono ?_
  clear HHD
  rintro e w2 ⟨rfl, h2⟩
  have d0 := h2.cell 1 _ _ _ rfl 0 _ rfl
  have zd := block_lt_of_cell d0
  dsimp only at zd
  have h3 := h2.alloc (.cells #[.int .u32 (vu q)] 53)
  have H3 := Lib.hid h3
  clear h2 h3
  by_cases hc : c = 0
  · subst hc
    obtain ⟨E, hE⟩ : ∃ E, E = S.putAE ⟨l.first, 1, q + 1#32, ⟨#[]⟩⟩ := ⟨_, rfl⟩
    obtain ⟨D1, hD1⟩ : ∃ D1, D1 = S.putA ⟨l.first, 1, q + 1#32, ⟨#[]⟩⟩ := ⟨_, rfl⟩
    have hRE : R = if E ≠ 0 then (D1, E) else (D1.flush, D1.flushE) := by
      rw [HRD.out, if_neg (by simp)]
      unfold Dv.putAll Dv.putAll Dv.done
      rw [← hE, ← hD1]
      by_cases he : E ≠ 0
      · rw [if_pos he, if_pos he]
      · rw [if_neg he, if_neg he]; rfl
    have h4 := H3.out.allocAt (.cells #[.func (.func 70) #[] #[.pointer (some ⟨W.heap.size, 0, none⟩), .pointer (some ⟨W.heap.size + 1, 0, none⟩), .pointer (some ⟨w2.heap.size, 0, none⟩)], .func (.func 41) #[pv g] #[]] 82) (w2.heap.size + 1) (by simp)
    have h5 := h4.perm (show List.Perm (_ :: _ :: _ :: _ :: (l1 ++ DevR _ g S :: l2)) (_ :: _ :: _ :: _ :: (l1 ++ DevR _ g S :: l2)) from (List.perm_middle (l₁ := [_, _, _]) (a := Blk _ W.heap.size (.cells #[pv g] 28)) (l₂ := l1 ++ DevR _ g S :: l2)).trans (.cons _ ((List.perm_middle (l₁ := [_, _]) (a := Blk _ (W.heap.size + 1) (.cells #[.int .i64 l.first, .int .i64 l.size] 27)) (l₂ := l1 ++ DevR _ g S :: l2)).trans (.cons _ (List.Perm.swap _ _ _)))))
    have HT : Hid (Calls Tryd.prog 36 #[.slice (some ⟨w2.heap.size + 1, 0, none⟩) 2 2] ((w2.alloc (.cells #[.int .u32 (vu q)] 53)).alloc (.cells #[.func (.func 70) #[] #[.pointer (some ⟨W.heap.size, 0, none⟩), .pointer (some ⟨W.heap.size + 1, 0, none⟩), .pointer (some ⟨w2.heap.size, 0, none⟩)], .func (.func 41) #[pv g] #[]] 82)) fun e w' => ∃ c, e = .returned (.int .i64 c) ∧ (c = R.2 ∧ Has w w' (l1 ++ DevR _ g R.1 :: l2))) := by
      refine then_any [⟨70, #[], #[.pointer (some ⟨W.heap.size, 0, none⟩), .pointer (some ⟨W.heap.size + 1, 0, none⟩), .pointer (some ⟨w2.heap.size, 0, none⟩)]⟩, ⟨41, #[pv g], #[]⟩] (w2.heap.size + 1) 2
        (fun k W' => (k = 0 → Has w W' (Blk _ W.heap.size (.cells #[pv g] 28) :: Blk _ (W.heap.size + 1) (.cells #[.int .i64 l.first, .int .i64 l.size] 27) :: Blk _ w2.heap.size (.cells #[.int .u32 (vu q)] 53) :: Blk _ (w2.heap.size + 1) (.cells #[.func (.func 70) #[] #[.pointer (some ⟨W.heap.size, 0, none⟩), .pointer (some ⟨W.heap.size + 1, 0, none⟩), .pointer (some ⟨w2.heap.size, 0, none⟩)], .func (.func 41) #[pv g] #[]] 82) :: (l1 ++ DevR _ g S :: l2))) ∧ (k = 1 → E = 0 ∧ Has w W' (Blk _ W.heap.size (.cells #[pv g] 28) :: Blk _ (W.heap.size + 1) (.cells #[.int .i64 l.first, .int .i64 l.size] 27) :: Blk _ w2.heap.size (.cells #[.int .u32 (vu q)] 53) :: Blk _ (w2.heap.size + 1) (.cells #[.func (.func 70) #[] #[.pointer (some ⟨W.heap.size, 0, none⟩), .pointer (some ⟨W.heap.size + 1, 0, none⟩), .pointer (some ⟨w2.heap.size, 0, none⟩)], .func (.func 41) #[pv g] #[]] 82) :: (l1 ++ DevR _ g D1 :: l2))) ∧ (k = 2 → E = 0 ∧ D1.flushE = 0 ∧ Has w W' (Blk _ W.heap.size (.cells #[pv g] 28) :: Blk _ (W.heap.size + 1) (.cells #[.int .i64 l.first, .int .i64 l.size] 27) :: Blk _ w2.heap.size (.cells #[.int .u32 (vu q)] 53) :: Blk _ (w2.heap.size + 1) (.cells #[.func (.func 70) #[] #[.pointer (some ⟨W.heap.size, 0, none⟩), .pointer (some ⟨W.heap.size + 1, 0, none⟩), .pointer (some ⟨w2.heap.size, 0, none⟩)], .func (.func 41) #[pv g] #[]] 82) :: (l1 ++ DevR _ g D1.flush :: l2)))) _ _ (by simp) ⟨fun _ => h5, fun h => absurd h (by decide), fun h => absurd h (by decide)⟩ ?_ ?_ ?_ ?_
      · intro k W' f hI hf
        match k, hf with
        | 0, hf => injection hf with hf; subst hf; exact (hI.1 rfl).cell 3 _ _ _ rfl 0 _ rfl
        | 1, hf => injection hf with hf; subst hf; exact (hI.2.1 rfl).2.cell 3 _ _ _ rfl 1 _ rfl
        | (n + 2), hf => simp at hf
      · intro k f hf W' hI
        match k, hf with
        | 0, hf =>
          injection hf with hf; subst hf
          refine (clear1_at (_ :: l1) (hI.1 rfl) HHL.out).mono ?_
          rintro e w' ⟨rfl, h'⟩
          rw [← hE]
          rw [← hD1] at h'
          refine ⟨E, rfl, fun h0 => ⟨fun h => absurd h (by decide), fun _ => ⟨h0, h'⟩, fun h => absurd h (by decide)⟩, fun h0 => ?_⟩
          rw [hRE, if_pos h0]
          exact ⟨rfl, h'.drop.drop.drop.drop⟩
        | 1, hf =>
          injection hf with hf; subst hf
          obtain ⟨he0, h1⟩ := hI.2.1 rfl
          refine (flush_at (_ :: _ :: _ :: _ :: l1) h1).mono ?_
          rintro e w' ⟨rfl, h'⟩
          refine ⟨_, rfl, fun h0 => ⟨fun h => absurd h (by decide), fun h => absurd h (by decide), fun _ => ⟨he0, h0, h'⟩⟩, fun h0 => ?_⟩
          rw [hRE, if_neg (by rw [he0]; simp)]
          exact ⟨rfl, h'.drop.drop.drop.drop⟩
        | (n + 2), hf => simp at hf
      · intro k f hf
        match k, hf with
        | 0, hf => injection hf with hf; subst hf; exact fun args w => enter_fn Tryd.func70 (by kernel_rfl) rfl args w
        | 1, hf => injection hf with hf; subst hf; exact fun args w => enter_fn Tryd.func41 (by kernel_rfl) rfl args w
        | (n + 2), hf => simp at hf
      · intro W' hI
        obtain ⟨he0, hf0, h'⟩ := hI.2.2 rfl
        rw [hRE, if_neg (by rw [he0]; simp)]
        exact ⟨hf0.symm, h'.drop.drop.drop.drop⟩
    clear h4 h5 hRE hE hD1 HRD H3
    go_wp2_with fail
    refine HT.out.mono ?_
    clear HT
    rintro e w5 ⟨c, rfl, rfl, h5⟩
    have H5 := Lib.hid h5
    clear h5 d0 zd
    go_wp2_with fail
    go_ret
    exact ⟨rfl, H5.out⟩
  · have hc2 : (c != 0) = true := by simpa using hc
    have HE : Hid (R = (S, c)) := by rw [HRD.out, if_pos hc]; exact Lib.hid rfl
    have H4 := Lib.hid H3.out.drop.drop.drop
    clear hc HRD H3 d0 zd
    go_wp2_with fail
    go_ret
    exact ⟨by rw [HE.out]; rfl, by rw [HE.out]; exact H4.out⟩
end Go.Proofs.YtfbkfdoekgnldaaDoor
namespace Go.Proofs.YtfbkfdoekgnldaaDoor
open Go.RowKit
open Lime
attribute [local go_sem] Oper.semAt_some setRow_alloc_at setRow_alloc_past setRow_drew g_same32 g_eq32 g_ne32 run_store_fn
/-- what is found is small -/
theorem lookQ_small (S : Dv) (l : Lay) (q : BitVec 32) : ∀ (n : Nat) (i : Int) (out : List Rec), (∀ r ∈ out, r.data.size ≤ 120) → (∀ r ∈ (lookQ S l q n i out).1, r.data.size ≤ 120) ∧ (lookQ S l q n i out).1.length ≤ out.length + n := by
  intro n
  induction n with
  | zero => intro i out h; exact ⟨h, Nat.le_refl _⟩
  | succ n ih =>
    intro i out h
    rw [lookQ_succ]
    split
    · exact ⟨by simp, by simp⟩
    · split
      · have hd : (recOf (S.get (l.first + i)).1.d).data.size ≤ 120 := by
          have := Dv.get_size S (l.first + i)
          unfold recOf
          rw [ByteArray.size_extract]
          omega
        have := ih (i + 1) (out ++ [recOf (S.get (l.first + i)).1.d]) (fun r hr => by
          rcases List.mem_append.1 hr with hr | hr
          · exact h r hr
          · simp at hr; rw [hr]; exact hd)
        refine ⟨this.1, ?_⟩
        have h2 := this.2
        simp at h2
        omega
      · exact ⟨h, by simp⟩
theorem look_small (S : Dv) (l : Lay) : (∀ r ∈ (lookM S l).1, r.data.size ≤ 120) ∧ (lookM S l).1.length ≤ 96 := by
  unfold lookM
  by_cases h : (headM S l).2 ≠ 0
  · rw [if_pos h]; exact ⟨by simp, by simp⟩
  · rw [if_neg h]
    have hc : l.check = 0 := by
      have h0 : (headM S l).2 = 0 := by simpa using h
      unfold headM at h0
      by_cases hc : l.check = 0
      · exact hc
      · rw [if_pos hc] at h0; exact h0
    have c := Lay.check_ok hc
    have := lookQ_small S l ((headM S l).1 + 1#32) (l.size - 1).toNat 1 [] (by simp)
    refine ⟨this.1, ?_⟩
    have h2 := this.2
    rw [List.length_nil] at h2
    omega
/-- what is found is found under a layout that is one -/
theorem look_check {S : Dv} {l : Lay} (h : (lookM S l).2.2 = 0) : l.check = 0 := by
  by_cases hc : l.check = 0
  · exact hc
  · exfalso
    have h1 : (headM S l).2 = l.check := by unfold headM; rw [if_pos hc]
    unfold lookM at h
    rw [h1, if_pos hc] at h
    exact hc h
set_option maxRecDepth 100000 in
set_option maxHeartbeats 4000000 in
theorem applyE_at {w W : World} (l1 : List (Res w.heap.size)) {l2 : List (Res w.heap.size)} {g : Nat} {S : Dv} (h : Has w W (l1 ++ DevR _ g S :: l2)) (l : Lay) (hh : HalfLaid w) :
    Calls Tryd.prog 46 #[pv g, .agg #[.int .i64 l.first, .int .i64 l.size]] W fun e w' => e = .returned (.tuple #[.int .i64 (applyM S l).2.1, .int .i64 (applyM S l).2.2]) ∧ Has w w' (l1 ++ DevR _ g (applyM S l).1 :: l2) := by
  have h1 := h.alloc (.cells #[.int .i64 l.first, .int .i64 l.size] 27)
  have HL := Lib.hid (look_has h1 (.tail _ (show DevR w.heap.size g S ∈ l1 ++ DevR _ g S :: l2 by simp)) l hh)
  obtain ⟨R, hR⟩ : ∃ R, R = applyM S l := ⟨_, rfl⟩
  rw [← hR]
  have hRd : R = if (lookM S l).2.2 ≠ 0 then (S, 0, (lookM S l).2.2) else if (lookM S l).2.1 = false then (S, 0, 9) else many (appM S ((headM S l).1 + 1#32) (lookM S l).1) (lookM S l).1.length := hR
  have hsm := look_small S l
  obtain ⟨⟨out, wh, c⟩, hq⟩ : ∃ x, x = lookM S l := ⟨_, rfl⟩
  rw [← hq] at HL hRd hsm
  dsimp only at HL hRd hsm
  have HRD := Lib.hid hRd
  have HHL := Lib.hid hh
  have HSM := Lib.hid hsm
  clear h h1 hh hR hRd hq hsm
  go_enter Tryd.func46, Tryd.ntmps46
  go_wp2_with fail
  refine HL.out.mono ?_
  clear HL
  rintro e w2 ⟨q, a, cap, rfl, hqq, h2⟩
  have h3 := h2.asRd.alloc (.cells #[.int .u32 (vu q), .slice a out.length cap, .bool wh] 95)
  have H3 := Lib.hid h3
  have HQ := Lib.hid hqq
  clear h2 h3 hqq
  by_cases hc : c = 0
  · subst hc
    have hq2 := HQ.out rfl
    cases wh
    · have HE : Hid (R = (S, 0, 9)) := by rw [HRD.out, if_neg (by simp), if_pos rfl]; exact Lib.hid rfl
      have H4 := Lib.hid H3.out.drop.drop.drop
      clear HRD H3 HQ hq2
      go_wp2_with fail
      go_ret2
      exact ⟨by rw [HE.out]; rfl, by rw [HE.out]; exact H4.out⟩
    · have HAP := Lib.hid (apply_at (_ :: _ :: _ :: l1) H3.out (.tail _ (.head _)) q true (fun r hr => by have := HSM.out.1 r hr; omega) (by have := HSM.out.2; omega) HHL.out)
      obtain ⟨X, hX⟩ : ∃ X, X = appM S (q + 1#32) out := ⟨_, rfl⟩
      rw [← hX] at HAP
      have HE : Hid (R = many X out.length) := by rw [HRD.out, if_neg (by simp), if_neg (by simp), ← hq2, ← hX]; exact Lib.hid rfl
      obtain ⟨X1, X2⟩ := X
      dsimp only at HAP
      clear HRD H3 HQ hq2 hX
      go_wp2_with fail
      refine HAP.out.mono ?_
      clear HAP
      rintro e w4 ⟨rfl, h4⟩
      have f0 := h4.cell 0 _ _ _ rfl 0 _ rfl
      have f1 := h4.cell 0 _ _ _ rfl 1 _ rfl
      have H4 := Lib.hid h4.drop.drop.drop
      clear h4
      by_cases hx : X2 = 0
      · subst hx
        have HE2 : Hid (R = (X1, (out.length : Int), 0)) := by rw [HE.out]; unfold many; exact Lib.hid (if_neg (by simp))
        go_wp2_with fail
        go_ret2
        exact ⟨by rw [HE2.out]; rfl, by rw [HE2.out]; exact H4.out⟩
      · have hx2 : (X2 != 0) = true := by simpa using hx
        have HE2 : Hid (R = (X1, 0, X2)) := by rw [HE.out]; unfold many; exact Lib.hid (if_pos hx)
        clear hx
        go_wp2_with fail
        go_ret2
        exact ⟨by rw [HE2.out]; rfl, by rw [HE2.out]; exact H4.out⟩
  · have hc2 : (c != 0) = true := by simpa using hc
    have HE : Hid (R = (S, 0, c)) := by rw [HRD.out, if_pos hc]; exact Lib.hid rfl
    have H4 := Lib.hid H3.out.drop.drop.drop
    clear hc HRD H3 HQ
    go_wp2_with fail
    go_ret2
    exact ⟨by rw [HE.out]; rfl, by rw [HE.out]; exact H4.out⟩
set_option maxRecDepth 100000 in
set_option maxHeartbeats 8000000 in
theorem replay_at {w W : World} (l1 : List (Res w.heap.size)) {l2 : List (Res w.heap.size)} {g : Nat} {S : Dv} (h : Has w W (l1 ++ DevR _ g S :: l2)) (l : Lay) (hh : HalfLaid w) :
    Calls Tryd.prog 17 #[pv g, .agg #[.int .i64 l.first, .int .i64 l.size]] W fun e w' => e = .returned (.tuple #[.int .i64 (replayM S l).2.1, .int .i64 (replayM S l).2.2]) ∧ Has w w' (l1 ++ DevR _ g (replayM S l).1 :: l2) := by
  have hmem : DevR w.heap.size g S ∈ l1 ++ DevR _ g S :: l2 := by simp
  have h1 := h.alloc (.cells #[.int .i64 l.first, .int .i64 l.size] 27)
  have HL := Lib.hid (look_has h1 (.tail _ hmem) l hh)
  obtain ⟨R, hR⟩ : ∃ R, R = replayM S l := ⟨_, rfl⟩
  rw [← hR]
  have hRd : R = if (lookM S l).2.2 ≠ 0 then (S, 0, (lookM S l).2.2)
    else if (lookM S l).2.1 then
      if (appM S ((headM S l).1 + 1#32) (lookM S l).1).2 ≠ 0 then ((appM S ((headM S l).1 + 1#32) (lookM S l).1).1, 0, (appM S ((headM S l).1 + 1#32) (lookM S l).1).2)
      else many (clearM (appM S ((headM S l).1 + 1#32) (lookM S l).1).1 l) (lookM S l).1.length
    else if (staleM S l (headM S l).1).2 ≠ 0 then (S, 0, (staleM S l (headM S l).1).2)
    else if (staleM S l (headM S l).1).1 then many (clearM S l) 0
    else (S, 0, 0) := hR
  have hsm := look_small S l
  have hlc := @look_check S l
  obtain ⟨⟨out, wh, c⟩, hq⟩ : ∃ x, x = lookM S l := ⟨_, rfl⟩
  rw [← hq] at HL hRd hsm hlc
  dsimp only at HL hRd hsm hlc
  have HRD := Lib.hid hRd
  have HHL := Lib.hid hh
  have HSM := Lib.hid hsm
  have HM := Lib.hid hmem
  have HLC := Lib.hid hlc
  clear h h1 hh hR hRd hq hsm hmem hlc
  go_enter Tryd.func17, Tryd.ntmps17
  go_wp2_with fail
  refine HL.out.mono ?_
  clear HL
  rintro e w2 ⟨q, a, cap, rfl, hqq, h2⟩
  have h3 := h2.asRd.alloc (.cells #[.int .u32 (vu q), .slice a out.length cap, .bool wh] 95)
  have H3 := Lib.hid h3
  have HQ := Lib.hid hqq
  have y0 := h2.cell 1 _ _ _ rfl 0 _ rfl
  have y1 := h2.cell 1 _ _ _ rfl 1 _ rfl
  have zy := block_lt_of_cell y0
  dsimp only at zy
  clear h2 h3 hqq
  by_cases hc : c = 0
  · subst hc
    have hq2 := HQ.out rfl
    have HCH := Lib.hid (HLC.out rfl)
    clear HLC
    cases wh
    · have HST := Lib.hid (stale_has H3.out (.tail _ (.tail _ (.tail _ HM.out))) l HCH.out q HHL.out)
      obtain ⟨X, hX⟩ : ∃ X, X = staleM S l q := ⟨_, rfl⟩
      rw [← hX] at HST
      have HE : Hid (R = if X.2 ≠ 0 then (S, 0, X.2) else if X.1 then many (clearM S l) 0 else (S, 0, 0)) := by rw [HRD.out, if_neg (by simp), if_neg (by simp), ← hq2, ← hX]; exact Lib.hid rfl
      obtain ⟨X1, X2⟩ := X
      dsimp only at HST HE
      clear HRD H3 HQ hq2 hX
      go_wp2_with fail
      refine HST.out.mono ?_
      clear HST
      rintro e w4 ⟨rfl, h4⟩
      by_cases hx : X2 = 0
      · subst hx
        cases X1
        · have HE2 : Hid (R = (S, 0, 0)) := by rw [HE.out, if_neg (by simp)]; exact Lib.hid rfl
          have H4 := Lib.hid h4.drop.drop.drop
          clear h4 HE
          go_wp2_with fail
          go_ret2
          exact ⟨by rw [HE2.out]; rfl, by rw [HE2.out]; exact H4.out⟩
        · have z0 := h4.cell 2 _ _ _ rfl 0 _ rfl
          have z1 := h4.cell 2 _ _ _ rfl 1 _ rfl
          have HC := Lib.hid (clear_at (_ :: _ :: _ :: l1) h4 l HHL.out)
          obtain ⟨Y, hY⟩ : ∃ Y, Y = clearM S l := ⟨_, rfl⟩
          rw [← hY] at HC
          have HE2 : Hid (R = many Y 0) := by rw [HE.out, if_neg (by simp), ← hY]; exact Lib.hid rfl
          obtain ⟨Y1, Y2⟩ := Y
          dsimp only at HC
          clear h4 HE hY y0 y1
          go_wp2_with fail
          refine HC.out.mono ?_
          clear HC
          rintro e w5 ⟨rfl, h5⟩
          have H5 := Lib.hid h5.drop.drop.drop
          clear h5 z0 z1
          by_cases hy : Y2 = 0
          · subst hy
            have HE3 : Hid (R = (Y1, 0, 0)) := by rw [HE2.out]; unfold many; exact Lib.hid (if_neg (by simp))
            go_wp2_with fail
            go_ret2
            exact ⟨by rw [HE3.out]; rfl, by rw [HE3.out]; exact H5.out⟩
          · have hy2 : (Y2 != 0) = true := by simpa using hy
            have HE3 : Hid (R = (Y1, 0, Y2)) := by rw [HE2.out]; unfold many; exact Lib.hid (if_pos hy)
            clear hy
            go_wp2_with fail
            go_ret2
            exact ⟨by rw [HE3.out]; rfl, by rw [HE3.out]; exact H5.out⟩
      · have hx2 : (X2 == 0) = false := by simpa using hx
        have hx3 : (X2 != 0) = true := by simpa using hx
        have HE2 : Hid (R = (S, 0, X2)) := by rw [HE.out]; exact Lib.hid (if_pos hx)
        have H4 := Lib.hid h4.drop.drop.drop
        clear h4 HE hx
        go_wp2_with fail
        go_ret2
        exact ⟨by rw [HE2.out]; rfl, by rw [HE2.out]; exact H4.out⟩
    · have HAPW : Hid (∀ W', Has w W' (Blk _ w2.heap.size (.cells #[.int .u32 (vu q), .slice a out.length cap, .bool true] 95) :: RunR _ (.slice a out.length cap) out :: Blk _ W.heap.size (.cells #[.int .i64 l.first, .int .i64 l.size] 27) :: (l1 ++ DevR _ g S :: l2)) → _) := fun W' h => apply_at (_ :: _ :: _ :: l1) h (.tail _ (.head _)) q true (fun r hr => by have := HSM.out.1 r hr; omega) (by have := HSM.out.2; omega) HHL.out
      have HSZ : Hid (∀ W' S', Has w W' (Blk _ w2.heap.size (.cells #[.int .u32 (vu q), .slice a out.length cap, .bool true] 95) :: RunR _ (.slice a out.length cap) out :: Blk _ W.heap.size (.cells #[.int .i64 l.first, .int .i64 l.size] 27) :: (l1 ++ DevR _ g S' :: l2)) → (W'.cell? ⟨w2.heap.size, 0, none⟩ = some (.int .u32 (vu q)) ∧ W'.cell? ⟨w2.heap.size, 1, none⟩ = some (.slice a out.length cap) ∧ W'.cell? ⟨w2.heap.size, 2, none⟩ = some (.bool true))) := fun W' S' h => ⟨h.cell 0 _ _ _ rfl 0 _ rfl, h.cell 0 _ _ _ rfl 1 _ rfl, h.cell 0 _ _ _ rfl 2 _ rfl⟩
      obtain ⟨X, hX⟩ : ∃ X, X = appM S (q + 1#32) out := ⟨_, rfl⟩
      rw [← hX] at HAPW
      have HE : Hid (R = if X.2 ≠ 0 then (X.1, 0, X.2) else many (clearM X.1 l) out.length) := by rw [HRD.out, if_neg (by simp), if_pos rfl, ← hq2, ← hX]; exact Lib.hid rfl
      obtain ⟨X1, X2⟩ := X
      dsimp only at HAPW HE
      clear HRD HQ hq2 hX
      go_wp2_with fail
      refine wp_region_ordJ (fun W' => W'.cell? ⟨w2.heap.size, 0, none⟩ = some (.int .u32 (vu q)) ∧ W'.cell? ⟨w2.heap.size, 1, none⟩ = some (.slice a out.length cap) ∧ W'.cell? ⟨w2.heap.size, 2, none⟩ = some (.bool true)) (OrdT.takes [0, 1, 2, 3, 4] (.one 5 (OrdT.takes [6, 7] .done))) (by kernel_rfl) (by kernel_rfl) (HSZ.out _ _ H3.out.drew) (fun wz hz => ?_)
      have h8 := H3.out.drew
      rw [← hz] at h8
      have H8 := Lib.hid h8
      clear hz h8 H3 y0 y1 zy
      unfold OrdT.takes
      --ordt yyymy
      iterate 3 (refine' t_yield _ rfl rfl rfl _ _; rotate_left; (intro w' hSw; obtain ⟨s0, s1, s2⟩ := hSw; go_simp; with_reducible rfl); simp only [Act.put, List.setIfInBounds_toArray, List.set_cons_zero, List.set_cons_succ])
      (refine' t_move _ _ rfl rfl rfl rfl _ _; rotate_left; (go_simp; with_reducible rfl); simp only [Act.put, List.setIfInBounds_toArray, List.set_cons_zero, List.set_cons_succ])
      (refine' t_yield _ rfl rfl rfl _ _; rotate_left; (intro w' hSw; obtain ⟨s0, s1, s2⟩ := hSw; go_simp; with_reducible rfl); simp only [Act.put, List.setIfInBounds_toArray, List.set_cons_zero, List.set_cons_succ])
      --end
      refine t_one rfl rfl (fun K hK => ?_)
      go_simp
      refine (HAPW.out _ H8.out).mono ?_
      rintro e w9 ⟨rfl, h10⟩
      have H10 := Lib.hid h10
      clear h10 H8 HAPW
      dsimp only
      refine hK _ _ (HSZ.out _ _ H10.out) ?_
      clear hK
      unfold OrdT.takes
      --ordt yy
      iterate 2 (refine' t_yield _ rfl rfl rfl _ _; rotate_left; (intro w' hSw; obtain ⟨s0, s1, s2⟩ := hSw; go_simp; with_reducible rfl); simp only [Act.put, List.setIfInBounds_toArray, List.set_cons_zero, List.set_cons_succ])
      --end
      refine t_done ?_
      by_cases hx : X2 = 0
      · subst hx
        have z0 := H10.out.cell 2 _ _ _ rfl 0 _ rfl
        have z1 := H10.out.cell 2 _ _ _ rfl 1 _ rfl
        have HC := Lib.hid (clear_at (_ :: _ :: _ :: l1) H10.out l HHL.out)
        obtain ⟨Y, hY⟩ : ∃ Y, Y = clearM X1 l := ⟨_, rfl⟩
        rw [← hY] at HC
        have HE2 : Hid (R = many Y out.length) := by rw [HE.out, if_neg (by simp), ← hY]; exact Lib.hid rfl
        obtain ⟨Y1, Y2⟩ := Y
        dsimp only at HC
        clear HE hY H10
        go_wp2_with fail
        refine HC.out.mono ?_
        clear HC
        rintro e w5 ⟨rfl, h5⟩
        have H5 := Lib.hid h5.drop.drop.drop
        clear h5 z0 z1
        by_cases hy : Y2 = 0
        · subst hy
          have HE3 : Hid (R = (Y1, (out.length : Int), 0)) := by rw [HE2.out]; unfold many; exact Lib.hid (if_neg (by simp))
          go_wp2_with fail
          go_ret2
          exact ⟨by rw [HE3.out]; rfl, by rw [HE3.out]; exact H5.out⟩
        · have hy2 : (Y2 != 0) = true := by simpa using hy
          have HE3 : Hid (R = (Y1, 0, Y2)) := by rw [HE2.out]; unfold many; exact Lib.hid (if_pos hy)
          clear hy
          go_wp2_with fail
          go_ret2
          exact ⟨by rw [HE3.out]; rfl, by rw [HE3.out]; exact H5.out⟩
      · have hx2 : (X2 == 0) = false := by simpa using hx
        have hx3 : (X2 != 0) = true := by simpa using hx
        have HE2 : Hid (R = (X1, 0, X2)) := by rw [HE.out]; exact Lib.hid (if_pos hx)
        have H4 := Lib.hid H10.out.drop.drop.drop
        clear HE hx H10
        go_wp2_with fail
        go_ret2
        exact ⟨by rw [HE2.out]; rfl, by rw [HE2.out]; exact H4.out⟩
  · have hc2 : (c != 0) = true := by simpa using hc
    have HE : Hid (R = (S, 0, c)) := by rw [HRD.out, if_pos hc]; exact Lib.hid rfl
    have H4 := Lib.hid H3.out.drop.drop.drop
    clear hc HRD H3 HQ
    go_wp2_with fail
    go_ret2
    exact ⟨by rw [HE.out]; rfl, by rw [HE.out]; exact H4.out⟩
end Go.Proofs.YtfbkfdoekgnldaaDoor
namespace Go.Proofs.YtfbkfdoekgnldaaDoor
open Go.RowKit
open Lime
attribute [local go_sem] Oper.semAt_some setRow_alloc_at setRow_alloc_past setRow_drew g_same32 g_eq32 g_ne32 run_store_fn
section
variable {w W : World} {X : Res w.heap.size} {br bl bd : Nat} {l : Lay} {a : Option Addr} {cap : Nat} {run : List Rec} (l1 : List (Res w.heap.size)) {l2 : List (Res w.heap.size)} {g : Nat} {S : Dv}
set_option maxRecDepth 100000 in
set_option maxHeartbeats 2000000 in
theorem com1_at (h : Has w W (X :: Blk _ br (.cells #[.slice a run.length cap] 22) :: Blk _ bl (.cells #[.int .i64 l.first, .int .i64 l.size] 27) :: Blk _ bd (.cells #[pv g] 28) :: (l1 ++ DevR _ g S :: l2))) (hv : RunR _ (.slice a run.length cap) run ∈ l1 ++ l2) (hd : ∀ r ∈ run, r.data.size ≤ 9223372036854775807) (hlen : run.length ≤ 9223372036854775807) (hh : HalfLaid w) :
    Calls Tryd.prog 44 #[.pointer (some ⟨bd, 0, none⟩), .pointer (some ⟨bl, 0, none⟩), .pointer (some ⟨br, 0, none⟩)] W fun e w' => e = .returned (.int .i64 (logM S l run).2) ∧ Has w w' (X :: Blk _ br (.cells #[.slice a run.length cap] 22) :: Blk _ bl (.cells #[.int .i64 l.first, .int .i64 l.size] 27) :: Blk _ bd (.cells #[pv g] 28) :: (l1 ++ DevR _ g (logM S l run).1 :: l2)) := by
  have b0 := h.cell 3 _ _ _ rfl 0 _ rfl
  have c0 := h.cell 2 _ _ _ rfl 0 _ rfl
  have c1 := h.cell 2 _ _ _ rfl 1 _ rfl
  have r0 := h.cell 1 _ _ _ rfl 0 _ rfl
  have HL := Lib.hid (log_at (_ :: _ :: _ :: _ :: l1) h l (.tail _ (.tail _ (.tail _ (.tail _ hv)))) hd hlen hh)
  clear h hh hv hd
  go_enter Tryd.func44, Tryd.ntmps44
  go_wp2_with fail
  refine HL.out.mono ?_
  clear HL
  rintro e w3 ⟨rfl, h3⟩
  have H3 := Lib.hid h3
  clear h3 b0 c0 c1 r0
  go_wp2_with fail
  go_ret
  exact ⟨rfl, H3.out⟩
set_option maxRecDepth 100000 in
set_option maxHeartbeats 2000000 in
theorem com2_at (h : Has w W (X :: Blk _ br (.cells #[.slice a run.length cap] 22) :: Blk _ bl (.cells #[.int .i64 l.first, .int .i64 l.size] 27) :: Blk _ bd (.cells #[pv g] 28) :: (l1 ++ DevR _ g S :: l2))) (hh : HalfLaid w) :
    Calls Tryd.prog 45 #[.pointer (some ⟨bd, 0, none⟩), .pointer (some ⟨bl, 0, none⟩)] W fun e w' => e = .returned (.int .i64 (applyM S l).2.2) ∧ Has w w' (X :: Blk _ br (.cells #[.slice a run.length cap] 22) :: Blk _ bl (.cells #[.int .i64 l.first, .int .i64 l.size] 27) :: Blk _ bd (.cells #[pv g] 28) :: (l1 ++ DevR _ g (applyM S l).1 :: l2)) := by
  have b0 := h.cell 3 _ _ _ rfl 0 _ rfl
  have c0 := h.cell 2 _ _ _ rfl 0 _ rfl
  have c1 := h.cell 2 _ _ _ rfl 1 _ rfl
  have HL := Lib.hid (applyE_at (_ :: _ :: _ :: _ :: l1) h l hh)
  clear h hh
  go_enter Tryd.func45, Tryd.ntmps45
  go_wp2_with fail
  refine HL.out.mono ?_
  clear HL
  rintro e w3 ⟨rfl, h3⟩
  have H3 := Lib.hid h3
  clear h3 b0 c0 c1
  go_wp2_with fail
  go_ret
  exact ⟨rfl, H3.out⟩
set_option maxRecDepth 100000 in
set_option maxHeartbeats 2000000 in
theorem com3_at (h : Has w W (X :: Blk _ br (.cells #[.slice a run.length cap] 22) :: Blk _ bl (.cells #[.int .i64 l.first, .int .i64 l.size] 27) :: Blk _ bd (.cells #[pv g] 28) :: (l1 ++ DevR _ g S :: l2))) (hh : HalfLaid w) :
    Calls Tryd.prog 47 #[.pointer (some ⟨bd, 0, none⟩), .pointer (some ⟨bl, 0, none⟩)] W fun e w' => e = .returned (.int .i64 (clearM S l).2) ∧ Has w w' (X :: Blk _ br (.cells #[.slice a run.length cap] 22) :: Blk _ bl (.cells #[.int .i64 l.first, .int .i64 l.size] 27) :: Blk _ bd (.cells #[pv g] 28) :: (l1 ++ DevR _ g (clearM S l).1 :: l2)) := by
  have b0 := h.cell 3 _ _ _ rfl 0 _ rfl
  have c0 := h.cell 2 _ _ _ rfl 0 _ rfl
  have c1 := h.cell 2 _ _ _ rfl 1 _ rfl
  have HL := Lib.hid (clear_at (_ :: _ :: _ :: _ :: l1) h l hh)
  clear h hh
  go_enter Tryd.func47, Tryd.ntmps47
  go_wp2_with fail
  refine HL.out.mono ?_
  clear HL
  rintro e w3 ⟨rfl, h3⟩
  have H3 := Lib.hid h3
  clear h3 b0 c0 c1
  go_wp2_with fail
  go_ret
  exact ⟨rfl, H3.out⟩
end
set_option maxRecDepth 100000 in
set_option maxHeartbeats 4000000 in
theorem commit_at {w W : World} (l1 : List (Res w.heap.size)) {l2 : List (Res w.heap.size)} {g : Nat} {S : Dv} {a : Option Addr} {cap : Nat} {run : List Rec} (h : Has w W (l1 ++ DevR _ g S :: l2)) (l : Lay) (hv : RunR _ (.slice a run.length cap) run ∈ l1 ++ l2)
    (hd : ∀ r ∈ run, r.data.size ≤ 9223372036854775807) (hlen : run.length ≤ 9223372036854775807) (hh : HalfLaid w) :
    Calls Tryd.prog 13 #[pv g, .agg #[.int .i64 l.first, .int .i64 l.size], .slice a run.length cap] W fun e w' => e = .returned (.int .i64 (commitM S l run).2) ∧ Has w w' (l1 ++ DevR _ g (commitM S l run).1 :: l2) := by
  obtain ⟨R, hR⟩ : ∃ R, R = commitM S l run := ⟨_, rfl⟩
  rw [← hR]
  obtain ⟨A, hA⟩ : ∃ A, A = logM S l run := ⟨_, rfl⟩
  obtain ⟨B, hB⟩ : ∃ B, B = applyM A.1 l := ⟨_, rfl⟩
  obtain ⟨C, hC⟩ : ∃ C, C = clearM B.1 l := ⟨_, rfl⟩
  have hRE : R = if A.2 ≠ 0 then A else if B.2.2 ≠ 0 then (B.1, B.2.2) else C := by rw [hR, hC, hB, hA]; rfl
  have h4 : Has w ((((W.alloc (.cells #[pv g] 28)).alloc (.cells #[.int .i64 l.first, .int .i64 l.size] 27)).alloc (.cells #[.slice a run.length cap] 22)).alloc (.cells #[.func (.func 44) #[] #[.pointer (some ⟨W.heap.size, 0, none⟩), .pointer (some ⟨W.heap.size + 1, 0, none⟩), .pointer (some ⟨W.heap.size + 1 + 1, 0, none⟩)], .func (.func 45) #[] #[.pointer (some ⟨W.heap.size, 0, none⟩), .pointer (some ⟨W.heap.size + 1, 0, none⟩)], .func (.func 47) #[] #[.pointer (some ⟨W.heap.size, 0, none⟩), .pointer (some ⟨W.heap.size + 1, 0, none⟩)]] 82)) (Blk _ (W.heap.size + 1 + 1 + 1) (.cells #[.func (.func 44) #[] #[.pointer (some ⟨W.heap.size, 0, none⟩), .pointer (some ⟨W.heap.size + 1, 0, none⟩), .pointer (some ⟨W.heap.size + 1 + 1, 0, none⟩)], .func (.func 45) #[] #[.pointer (some ⟨W.heap.size, 0, none⟩), .pointer (some ⟨W.heap.size + 1, 0, none⟩)], .func (.func 47) #[] #[.pointer (some ⟨W.heap.size, 0, none⟩), .pointer (some ⟨W.heap.size + 1, 0, none⟩)]] 82) :: Blk _ (W.heap.size + 1 + 1) (.cells #[.slice a run.length cap] 22) :: Blk _ (W.heap.size + 1) (.cells #[.int .i64 l.first, .int .i64 l.size] 27) :: Blk _ W.heap.size (.cells #[pv g] 28) :: (l1 ++ DevR _ g S :: l2)) := (((h.alloc (.cells #[pv g] 28)).allocAt (.cells #[.int .i64 l.first, .int .i64 l.size] 27) (W.heap.size + 1) (by simp)).allocAt (.cells #[.slice a run.length cap] 22) (W.heap.size + 1 + 1) (by simp)).allocAt _ (W.heap.size + 1 + 1 + 1) (by simp)
  have HT : Hid (Calls Tryd.prog 36 #[.slice (some ⟨W.heap.size + 1 + 1 + 1, 0, none⟩) 3 3] ((((W.alloc (.cells #[pv g] 28)).alloc (.cells #[.int .i64 l.first, .int .i64 l.size] 27)).alloc (.cells #[.slice a run.length cap] 22)).alloc (.cells #[.func (.func 44) #[] #[.pointer (some ⟨W.heap.size, 0, none⟩), .pointer (some ⟨W.heap.size + 1, 0, none⟩), .pointer (some ⟨W.heap.size + 1 + 1, 0, none⟩)], .func (.func 45) #[] #[.pointer (some ⟨W.heap.size, 0, none⟩), .pointer (some ⟨W.heap.size + 1, 0, none⟩)], .func (.func 47) #[] #[.pointer (some ⟨W.heap.size, 0, none⟩), .pointer (some ⟨W.heap.size + 1, 0, none⟩)]] 82)) fun e w' => ∃ c, e = .returned (.int .i64 c) ∧ (c = R.2 ∧ Has w w' (l1 ++ DevR _ g R.1 :: l2))) := by
    refine then_any [⟨44, #[], #[.pointer (some ⟨W.heap.size, 0, none⟩), .pointer (some ⟨W.heap.size + 1, 0, none⟩), .pointer (some ⟨W.heap.size + 1 + 1, 0, none⟩)]⟩, ⟨45, #[], #[.pointer (some ⟨W.heap.size, 0, none⟩), .pointer (some ⟨W.heap.size + 1, 0, none⟩)]⟩, ⟨47, #[], #[.pointer (some ⟨W.heap.size, 0, none⟩), .pointer (some ⟨W.heap.size + 1, 0, none⟩)]⟩] (W.heap.size + 1 + 1 + 1) 3
      (fun k W' => (k = 0 → Has w W' (Blk _ (W.heap.size + 1 + 1 + 1) (.cells #[.func (.func 44) #[] #[.pointer (some ⟨W.heap.size, 0, none⟩), .pointer (some ⟨W.heap.size + 1, 0, none⟩), .pointer (some ⟨W.heap.size + 1 + 1, 0, none⟩)], .func (.func 45) #[] #[.pointer (some ⟨W.heap.size, 0, none⟩), .pointer (some ⟨W.heap.size + 1, 0, none⟩)], .func (.func 47) #[] #[.pointer (some ⟨W.heap.size, 0, none⟩), .pointer (some ⟨W.heap.size + 1, 0, none⟩)]] 82) :: Blk _ (W.heap.size + 1 + 1) (.cells #[.slice a run.length cap] 22) :: Blk _ (W.heap.size + 1) (.cells #[.int .i64 l.first, .int .i64 l.size] 27) :: Blk _ W.heap.size (.cells #[pv g] 28) :: (l1 ++ DevR _ g S :: l2))) ∧ (k = 1 → A.2 = 0 ∧ Has w W' (Blk _ (W.heap.size + 1 + 1 + 1) (.cells #[.func (.func 44) #[] #[.pointer (some ⟨W.heap.size, 0, none⟩), .pointer (some ⟨W.heap.size + 1, 0, none⟩), .pointer (some ⟨W.heap.size + 1 + 1, 0, none⟩)], .func (.func 45) #[] #[.pointer (some ⟨W.heap.size, 0, none⟩), .pointer (some ⟨W.heap.size + 1, 0, none⟩)], .func (.func 47) #[] #[.pointer (some ⟨W.heap.size, 0, none⟩), .pointer (some ⟨W.heap.size + 1, 0, none⟩)]] 82) :: Blk _ (W.heap.size + 1 + 1) (.cells #[.slice a run.length cap] 22) :: Blk _ (W.heap.size + 1) (.cells #[.int .i64 l.first, .int .i64 l.size] 27) :: Blk _ W.heap.size (.cells #[pv g] 28) :: (l1 ++ DevR _ g A.1 :: l2))) ∧ (k = 2 → A.2 = 0 ∧ B.2.2 = 0 ∧ Has w W' (Blk _ (W.heap.size + 1 + 1 + 1) (.cells #[.func (.func 44) #[] #[.pointer (some ⟨W.heap.size, 0, none⟩), .pointer (some ⟨W.heap.size + 1, 0, none⟩), .pointer (some ⟨W.heap.size + 1 + 1, 0, none⟩)], .func (.func 45) #[] #[.pointer (some ⟨W.heap.size, 0, none⟩), .pointer (some ⟨W.heap.size + 1, 0, none⟩)], .func (.func 47) #[] #[.pointer (some ⟨W.heap.size, 0, none⟩), .pointer (some ⟨W.heap.size + 1, 0, none⟩)]] 82) :: Blk _ (W.heap.size + 1 + 1) (.cells #[.slice a run.length cap] 22) :: Blk _ (W.heap.size + 1) (.cells #[.int .i64 l.first, .int .i64 l.size] 27) :: Blk _ W.heap.size (.cells #[pv g] 28) :: (l1 ++ DevR _ g B.1 :: l2))) ∧ (k = 3 → A.2 = 0 ∧ B.2.2 = 0 ∧ C.2 = 0 ∧ Has w W' (Blk _ (W.heap.size + 1 + 1 + 1) (.cells #[.func (.func 44) #[] #[.pointer (some ⟨W.heap.size, 0, none⟩), .pointer (some ⟨W.heap.size + 1, 0, none⟩), .pointer (some ⟨W.heap.size + 1 + 1, 0, none⟩)], .func (.func 45) #[] #[.pointer (some ⟨W.heap.size, 0, none⟩), .pointer (some ⟨W.heap.size + 1, 0, none⟩)], .func (.func 47) #[] #[.pointer (some ⟨W.heap.size, 0, none⟩), .pointer (some ⟨W.heap.size + 1, 0, none⟩)]] 82) :: Blk _ (W.heap.size + 1 + 1) (.cells #[.slice a run.length cap] 22) :: Blk _ (W.heap.size + 1) (.cells #[.int .i64 l.first, .int .i64 l.size] 27) :: Blk _ W.heap.size (.cells #[pv g] 28) :: (l1 ++ DevR _ g C.1 :: l2)))) _ _ (by simp)
      ⟨fun _ => h4, fun h => absurd h (by decide), fun h => absurd h (by decide), fun h => absurd h (by decide)⟩ ?_ ?_ ?_ ?_
    · intro k W' f hI hf
      match k, hf with
      | 0, hf => injection hf with hf; subst hf; exact (hI.1 rfl).cell 0 _ _ _ rfl 0 _ rfl
      | 1, hf => injection hf with hf; subst hf; exact (hI.2.1 rfl).2.cell 0 _ _ _ rfl 1 _ rfl
      | 2, hf => injection hf with hf; subst hf; exact (hI.2.2.1 rfl).2.2.cell 0 _ _ _ rfl 2 _ rfl
      | (n + 3), hf => simp at hf
    · intro k f hf W' hI
      match k, hf with
      | 0, hf =>
        injection hf with hf; subst hf
        refine (com1_at l1 (hI.1 rfl) hv hd hlen hh).mono ?_
        rintro e w' ⟨rfl, h'⟩
        rw [← hA] at h' ⊢
        refine ⟨A.2, rfl, fun h0 => ⟨fun h => absurd h (by decide), fun _ => ⟨h0, h'⟩, fun h => absurd h (by decide), fun h => absurd h (by decide)⟩, fun h0 => ?_⟩
        rw [hRE, if_pos h0]
        exact ⟨rfl, h'.drop.drop.drop.drop⟩
      | 1, hf =>
        injection hf with hf; subst hf
        obtain ⟨ha, h1⟩ := hI.2.1 rfl
        refine (com2_at l1 h1 hh).mono ?_
        rintro e w' ⟨rfl, h'⟩
        rw [← hB] at h' ⊢
        refine ⟨_, rfl, fun h0 => ⟨fun h => absurd h (by decide), fun h => absurd h (by decide), fun _ => ⟨ha, h0, h'⟩, fun h => absurd h (by decide)⟩, fun h0 => ?_⟩
        rw [hRE, if_neg (by rw [ha]; simp), if_pos h0]
        exact ⟨rfl, h'.drop.drop.drop.drop⟩
      | 2, hf =>
        injection hf with hf; subst hf
        obtain ⟨ha, hb, h1⟩ := hI.2.2.1 rfl
        refine (com3_at l1 h1 hh).mono ?_
        rintro e w' ⟨rfl, h'⟩
        rw [← hC] at h' ⊢
        refine ⟨_, rfl, fun h0 => ⟨fun h => absurd h (by decide), fun h => absurd h (by decide), fun h => absurd h (by decide), fun _ => ⟨ha, hb, h0, h'⟩⟩, fun h0 => ?_⟩
        rw [hRE, if_neg (by rw [ha]; simp), if_neg (by rw [hb]; simp)]
        exact ⟨rfl, h'.drop.drop.drop.drop⟩
      | (n + 3), hf => simp at hf
    · intro k f hf
      match k, hf with
      | 0, hf => injection hf with hf; subst hf; exact fun args w => enter_fn Tryd.func44 (by kernel_rfl) rfl args w
      | 1, hf => injection hf with hf; subst hf; exact fun args w => enter_fn Tryd.func45 (by kernel_rfl) rfl args w
      | 2, hf => injection hf with hf; subst hf; exact fun args w => enter_fn Tryd.func47 (by kernel_rfl) rfl args w
      | (n + 3), hf => simp at hf
    · intro W' hI
      obtain ⟨ha, hb, hc, h'⟩ := hI.2.2.2 rfl
      rw [hRE, if_neg (by rw [ha]; simp), if_neg (by rw [hb]; simp)]
      exact ⟨hc.symm, h'.drop.drop.drop.drop⟩
  clear h h4 hRE hA hB hC hR hv hd hh
  go_enter Tryd.func13, Tryd.ntmps13
  go_wp2_with fail
  refine HT.out.mono ?_
  clear HT
  rintro e w5 ⟨c, rfl, rfl, h5⟩
  have H5 := Lib.hid h5
  clear h5
  go_wp2_with fail
  go_ret
  exact ⟨rfl, H5.out⟩
end Go.Proofs.YtfbkfdoekgnldaaDoor
namespace Go.Proofs.YtfbkfdoekgnldaaDoor
open Go.RowKit
open Lime
attribute [local go_sem] Oper.semAt_some setRow_alloc_at setRow_alloc_past setRow_drew g_same32 g_eq32 g_ne32 run_store_fn
theorem write_at {w W : World} (l1 : List (Res w.heap.size)) {l2 : List (Res w.heap.size)} {g : Nat} {S : Dv} (h : Has w W (l1 ++ DevR _ g S :: l2)) (n : Int) (x : Sector) :
    Calls Tryd.prog 26 #[pv g, .int .i64 n, .agg (sec x)] W fun e w' => e = .returned (.int .i64 (S.writeE n)) ∧ Has w w' (l1 ++ DevR _ g (S.write n x) :: l2) :=
  (write_has (h.perm List.perm_middle) n x).mono fun _ _ ⟨he, h'⟩ => ⟨he, h'.perm List.perm_middle.symm⟩
section
variable {w W : World} {X : Res w.heap.size} {bl bd : Nat} {l : Lay} (l1 : List (Res w.heap.size)) {l2 : List (Res w.heap.size)} {g : Nat} {S : Dv}
set_option maxRecDepth 100000 in
set_option maxHeartbeats 2000000 in
theorem fmt1_at (h : Has w W (X :: Blk _ bl (.cells #[.int .i64 l.first, .int .i64 l.size] 27) :: Blk _ bd (.cells #[pv g] 28) :: (l1 ++ DevR _ g S :: l2))) :
    Calls Tryd.prog 37 #[.pointer (some ⟨bl, 0, none⟩)] W fun e w' => e = .returned (.int .i64 l.check) ∧ Has w w' (X :: Blk _ bl (.cells #[.int .i64 l.first, .int .i64 l.size] 27) :: Blk _ bd (.cells #[pv g] 28) :: (l1 ++ DevR _ g S :: l2)) := by
  have c0 := h.cell 1 _ _ _ rfl 0 _ rfl
  have c1 := h.cell 1 _ _ _ rfl 1 _ rfl
  have H := Lib.hid h
  clear h
  go_enter Tryd.func37, Tryd.ntmps37
  go_wp2_with fail
  refine (check_any l W).mono ?_
  rintro e w3 ⟨rfl, hB⟩
  have H3 := Lib.hid (H.out.below hB)
  clear hB H c0 c1
  go_wp2_with fail
  go_ret
  exact ⟨rfl, H3.out⟩
set_option maxRecDepth 100000 in
set_option maxHeartbeats 2000000 in
theorem fmt2_at (h : Has w W (X :: Blk _ bl (.cells #[.int .i64 l.first, .int .i64 l.size] 27) :: Blk _ bd (.cells #[pv g] 28) :: (l1 ++ DevR _ g S :: l2))) (hh : HalfLaid w) :
    Calls Tryd.prog 38 #[.pointer (some ⟨bd, 0, none⟩), .pointer (some ⟨bl, 0, none⟩)] W fun e w' => e = .returned (.int .i64 (S.putE l.first 1 0#32 ⟨#[]⟩)) ∧ Has w w' (X :: Blk _ bl (.cells #[.int .i64 l.first, .int .i64 l.size] 27) :: Blk _ bd (.cells #[pv g] 28) :: (l1 ++ DevR _ g (S.put l.first 1 0#32 ⟨#[]⟩) :: l2)) := by
  have b0 := h.cell 2 _ _ _ rfl 0 _ rfl
  have c0 := h.cell 1 _ _ _ rfl 0 _ rfl
  have c1 := h.cell 1 _ _ _ rfl 1 _ rfl
  have HP := Lib.hid (put_has (_ :: _ :: _ :: l1) h l.first 1 0#32 ⟨#[]⟩ (by decide) hh)
  clear h hh
  go_enter Tryd.func38, Tryd.ntmps38
  go_wp2_with fail
  refine HP.out.mono ?_
  clear HP
  rintro e w3 ⟨rfl, h3⟩
  have H3 := Lib.hid h3
  clear h3 b0 c0 c1
  go_wp2_with fail
  go_ret
  exact ⟨rfl, H3.out⟩
set_option maxRecDepth 100000 in
set_option maxHeartbeats 2000000 in
theorem fmt3_at (h : Has w W (X :: Blk _ bl (.cells #[.int .i64 l.first, .int .i64 l.size] 27) :: Blk _ bd (.cells #[pv g] 28) :: (l1 ++ DevR _ g S :: l2))) (hc : l.check = 0) :
    Calls Tryd.prog 40 #[.pointer (some ⟨bl, 0, none⟩), .pointer (some ⟨bd, 0, none⟩)] W fun e w' => e = .returned (.int .i64 (zerosK l S (l.size - 1).toNat 1).2) ∧ Has w w' (X :: Blk _ bl (.cells #[.int .i64 l.first, .int .i64 l.size] 27) :: Blk _ bd (.cells #[pv g] 28) :: (l1 ++ DevR _ g (zerosK l S (l.size - 1).toNat 1).1 :: l2)) := by
  obtain ⟨k1, k2, k3, k4⟩ := Lay.check_ok hc
  obtain ⟨R, hR⟩ : ∃ R, R = zerosK l S (l.size - 1).toNat 1 := ⟨_, rfl⟩
  rw [← hR]
  have HR : Hid (R = zerosK l S (l.size.toNat - 1) ((1 : Nat) : Int)) := by rw [hR, show (l.size - 1).toNat = l.size.toNat - 1 by omega]; exact Lib.hid rfl
  have H := Lib.hid h
  clear h hR hc
  obtain ⟨Z, hZ⟩ : ∃ Z, Z = zsec := ⟨_, rfl⟩
  have HZ := Lib.hid hZ
  clear hZ
  go_enter Tryd.func40, Tryd.ntmps40
  go_wp2_with fail
  go_loopw [3] (fun i wr => ∃ (k : Nat) (D : Dv), i = .int .i64 (k : Int) ∧ (k : Int) ≤ l.size ∧ 1 ≤ k ∧ R = zerosK l D (l.size.toNat - k) (k : Int) ∧ Has w wr (X :: Blk _ bl (.cells #[.int .i64 l.first, .int .i64 l.size] 27) :: Blk _ bd (.cells #[pv g] 28) :: (l1 ++ DevR _ g D :: l2))) (fun i _ => l.size.toNat - (intOf i).toNat)
  case atStart => exact ⟨1, S, rfl, by omega, by omega, HR.out, H.out⟩
  case round =>
    obtain ⟨k, D, rfl, hk, hk1, hRk, hH⟩ := hrel
    clear H HR
    have b0 := hH.cell 2 _ _ _ rfl 0 _ rfl
    have c0 := hH.cell 1 _ _ _ rfl 0 _ rfl
    have c1 := hH.cell 1 _ _ _ rfl 1 _ rfl
    by_cases hlt : (k : Int) < l.size
    · have hw : wrap64 (l.first + (k : Int)) = l.first + (k : Int) := by unfold wrap64; omega
      have e1 : l.size.toNat - k = (l.size.toNat - (k + 1)) + 1 := by omega
      rw [e1] at hRk
      unfold zerosK at hRk
      have HW := Lib.hid (write_at (_ :: _ :: _ :: l1) hH (l.first + (k : Int)) zsec)
      obtain ⟨E, hE⟩ : ∃ E, E = D.writeE (l.first + (k : Int)) := ⟨_, rfl⟩
      obtain ⟨D1, hD1⟩ : ∃ D1, D1 = D.write (l.first + (k : Int)) zsec := ⟨_, rfl⟩
      rw [← hE, ← hD1] at HW hRk
      have HRK := Lib.hid hRk
      clear hRk hH hE hD1 e1
      go_wp2_with (with_reducible refine wpList_build_sector rfl rfl ?_)
      refine HW.out.mono ?_
      clear HW
      rintro e w3 ⟨rfl, h3⟩
      have H3 := Lib.hid h3
      clear h3 b0 c0 c1
      by_cases he : E = 0
      · subst he
        have HN : Hid (R = zerosK l D1 (l.size.toNat - (k + 1)) ((k : Int) + 1)) := by rw [HRK.out]; exact Lib.hid (if_neg (by simp))
        go_wp2_with fail
        go_roundw
        case rel => exact ⟨k + 1, D1, by go_num, by omega, by omega, HN.out, H3.out⟩
        case measure => simp [intOf]; omega
      · have he2 : (E != 0) = true := by simpa using he
        have HN : Hid (R = (D1, E)) := by rw [HRK.out]; exact Lib.hid (if_pos he)
        clear he
        go_wp2_with fail
        go_ret
        exact ⟨by rw [HN.out]; rfl, by rw [HN.out]; exact H3.out⟩
    · have e1 : l.size.toNat - k = 0 := by omega
      rw [e1] at hRk
      have HN : Hid (R = (D, 0)) := hRk
      have H3 := Lib.hid hH
      clear hRk hH e1
      go_wp2_with fail
      go_ret
      exact ⟨by rw [HN.out]; rfl, by rw [HN.out]; exact H3.out⟩
end
set_option maxRecDepth 100000 in
set_option maxHeartbeats 4000000 in
theorem format_at {w W : World} (l1 : List (Res w.heap.size)) {l2 : List (Res w.heap.size)} {g : Nat} {S : Dv} (h : Has w W (l1 ++ DevR _ g S :: l2)) (l : Lay) (hh : HalfLaid w) :
    Calls Tryd.prog 10 #[pv g, .agg #[.int .i64 l.first, .int .i64 l.size]] W fun e w' => e = .returned (.int .i64 (formatM S l).2) ∧ Has w w' (l1 ++ DevR _ g (formatM S l).1 :: l2) := by
  obtain ⟨R, hR⟩ : ∃ R, R = formatM S l := ⟨_, rfl⟩
  rw [← hR]
  obtain ⟨E1, hE1⟩ : ∃ E1, E1 = S.putE l.first 1 0#32 ⟨#[]⟩ := ⟨_, rfl⟩
  obtain ⟨A, hA⟩ : ∃ A, A = S.put l.first 1 0#32 ⟨#[]⟩ := ⟨_, rfl⟩
  obtain ⟨B, hB⟩ : ∃ B, B = zerosK l A (l.size - 1).toNat 1 := ⟨_, rfl⟩
  have hRE : R = if l.check ≠ 0 then (S, l.check) else if E1 ≠ 0 then (A, E1) else if B.2 ≠ 0 then B else (B.1.flush, B.1.flushE) := by rw [hR, hB, hE1, hA]; rfl
  have h4 : Has w (((W.alloc (.cells #[pv g] 28)).alloc (.cells #[.int .i64 l.first, .int .i64 l.size] 27)).alloc (.cells #[.func (.func 37) #[] #[.pointer (some ⟨W.heap.size + 1, 0, none⟩)], .func (.func 38) #[] #[.pointer (some ⟨W.heap.size, 0, none⟩), .pointer (some ⟨W.heap.size + 1, 0, none⟩)], .func (.func 40) #[] #[.pointer (some ⟨W.heap.size + 1, 0, none⟩), .pointer (some ⟨W.heap.size, 0, none⟩)], .func (.func 41) #[pv g] #[]] 82)) (Blk _ (W.heap.size + 1 + 1) (.cells #[.func (.func 37) #[] #[.pointer (some ⟨W.heap.size + 1, 0, none⟩)], .func (.func 38) #[] #[.pointer (some ⟨W.heap.size, 0, none⟩), .pointer (some ⟨W.heap.size + 1, 0, none⟩)], .func (.func 40) #[] #[.pointer (some ⟨W.heap.size + 1, 0, none⟩), .pointer (some ⟨W.heap.size, 0, none⟩)], .func (.func 41) #[pv g] #[]] 82) :: Blk _ (W.heap.size + 1) (.cells #[.int .i64 l.first, .int .i64 l.size] 27) :: Blk _ W.heap.size (.cells #[pv g] 28) :: (l1 ++ DevR _ g S :: l2)) := ((h.alloc (.cells #[pv g] 28)).allocAt (.cells #[.int .i64 l.first, .int .i64 l.size] 27) (W.heap.size + 1) (by simp)).allocAt _ (W.heap.size + 1 + 1) (by simp)
  have HT : Hid (Calls Tryd.prog 36 #[.slice (some ⟨W.heap.size + 1 + 1, 0, none⟩) 4 4] (((W.alloc (.cells #[pv g] 28)).alloc (.cells #[.int .i64 l.first, .int .i64 l.size] 27)).alloc (.cells #[.func (.func 37) #[] #[.pointer (some ⟨W.heap.size + 1, 0, none⟩)], .func (.func 38) #[] #[.pointer (some ⟨W.heap.size, 0, none⟩), .pointer (some ⟨W.heap.size + 1, 0, none⟩)], .func (.func 40) #[] #[.pointer (some ⟨W.heap.size + 1, 0, none⟩), .pointer (some ⟨W.heap.size, 0, none⟩)], .func (.func 41) #[pv g] #[]] 82)) fun e w' => ∃ c, e = .returned (.int .i64 c) ∧ (c = R.2 ∧ Has w w' (l1 ++ DevR _ g R.1 :: l2))) := by
    refine then_any [⟨37, #[], #[.pointer (some ⟨W.heap.size + 1, 0, none⟩)]⟩, ⟨38, #[], #[.pointer (some ⟨W.heap.size, 0, none⟩), .pointer (some ⟨W.heap.size + 1, 0, none⟩)]⟩, ⟨40, #[], #[.pointer (some ⟨W.heap.size + 1, 0, none⟩), .pointer (some ⟨W.heap.size, 0, none⟩)]⟩, ⟨41, #[pv g], #[]⟩] (W.heap.size + 1 + 1) 4
      (fun k W' => (k = 0 → Has w W' (Blk _ (W.heap.size + 1 + 1) (.cells #[.func (.func 37) #[] #[.pointer (some ⟨W.heap.size + 1, 0, none⟩)], .func (.func 38) #[] #[.pointer (some ⟨W.heap.size, 0, none⟩), .pointer (some ⟨W.heap.size + 1, 0, none⟩)], .func (.func 40) #[] #[.pointer (some ⟨W.heap.size + 1, 0, none⟩), .pointer (some ⟨W.heap.size, 0, none⟩)], .func (.func 41) #[pv g] #[]] 82) :: Blk _ (W.heap.size + 1) (.cells #[.int .i64 l.first, .int .i64 l.size] 27) :: Blk _ W.heap.size (.cells #[pv g] 28) :: (l1 ++ DevR _ g S :: l2))) ∧ (k = 1 → l.check = 0 ∧ Has w W' (Blk _ (W.heap.size + 1 + 1) (.cells #[.func (.func 37) #[] #[.pointer (some ⟨W.heap.size + 1, 0, none⟩)], .func (.func 38) #[] #[.pointer (some ⟨W.heap.size, 0, none⟩), .pointer (some ⟨W.heap.size + 1, 0, none⟩)], .func (.func 40) #[] #[.pointer (some ⟨W.heap.size + 1, 0, none⟩), .pointer (some ⟨W.heap.size, 0, none⟩)], .func (.func 41) #[pv g] #[]] 82) :: Blk _ (W.heap.size + 1) (.cells #[.int .i64 l.first, .int .i64 l.size] 27) :: Blk _ W.heap.size (.cells #[pv g] 28) :: (l1 ++ DevR _ g S :: l2))) ∧ (k = 2 → l.check = 0 ∧ E1 = 0 ∧ Has w W' (Blk _ (W.heap.size + 1 + 1) (.cells #[.func (.func 37) #[] #[.pointer (some ⟨W.heap.size + 1, 0, none⟩)], .func (.func 38) #[] #[.pointer (some ⟨W.heap.size, 0, none⟩), .pointer (some ⟨W.heap.size + 1, 0, none⟩)], .func (.func 40) #[] #[.pointer (some ⟨W.heap.size + 1, 0, none⟩), .pointer (some ⟨W.heap.size, 0, none⟩)], .func (.func 41) #[pv g] #[]] 82) :: Blk _ (W.heap.size + 1) (.cells #[.int .i64 l.first, .int .i64 l.size] 27) :: Blk _ W.heap.size (.cells #[pv g] 28) :: (l1 ++ DevR _ g A :: l2))) ∧ (k = 3 → l.check = 0 ∧ E1 = 0 ∧ B.2 = 0 ∧ Has w W' (Blk _ (W.heap.size + 1 + 1) (.cells #[.func (.func 37) #[] #[.pointer (some ⟨W.heap.size + 1, 0, none⟩)], .func (.func 38) #[] #[.pointer (some ⟨W.heap.size, 0, none⟩), .pointer (some ⟨W.heap.size + 1, 0, none⟩)], .func (.func 40) #[] #[.pointer (some ⟨W.heap.size + 1, 0, none⟩), .pointer (some ⟨W.heap.size, 0, none⟩)], .func (.func 41) #[pv g] #[]] 82) :: Blk _ (W.heap.size + 1) (.cells #[.int .i64 l.first, .int .i64 l.size] 27) :: Blk _ W.heap.size (.cells #[pv g] 28) :: (l1 ++ DevR _ g B.1 :: l2))) ∧ (k = 4 → l.check = 0 ∧ E1 = 0 ∧ B.2 = 0 ∧ B.1.flushE = 0 ∧ Has w W' (Blk _ (W.heap.size + 1 + 1) (.cells #[.func (.func 37) #[] #[.pointer (some ⟨W.heap.size + 1, 0, none⟩)], .func (.func 38) #[] #[.pointer (some ⟨W.heap.size, 0, none⟩), .pointer (some ⟨W.heap.size + 1, 0, none⟩)], .func (.func 40) #[] #[.pointer (some ⟨W.heap.size + 1, 0, none⟩), .pointer (some ⟨W.heap.size, 0, none⟩)], .func (.func 41) #[pv g] #[]] 82) :: Blk _ (W.heap.size + 1) (.cells #[.int .i64 l.first, .int .i64 l.size] 27) :: Blk _ W.heap.size (.cells #[pv g] 28) :: (l1 ++ DevR _ g B.1.flush :: l2)))) _ _ (by simp)
      ⟨fun _ => h4, fun h => absurd h (by decide), fun h => absurd h (by decide), fun h => absurd h (by decide), fun h => absurd h (by decide)⟩ ?_ ?_ ?_ ?_
    · intro k W' f hI hf
      match k, hf with
      | 0, hf => injection hf with hf; subst hf; exact (hI.1 rfl).cell 0 _ _ _ rfl 0 _ rfl
      | 1, hf => injection hf with hf; subst hf; exact (hI.2.1 rfl).2.cell 0 _ _ _ rfl 1 _ rfl
      | 2, hf => injection hf with hf; subst hf; exact (hI.2.2.1 rfl).2.2.cell 0 _ _ _ rfl 2 _ rfl
      | 3, hf => injection hf with hf; subst hf; exact (hI.2.2.2.1 rfl).2.2.2.cell 0 _ _ _ rfl 3 _ rfl
      | (n + 4), hf => simp at hf
    · intro k f hf W' hI
      match k, hf with
      | 0, hf =>
        injection hf with hf; subst hf
        refine (fmt1_at l1 (hI.1 rfl)).mono ?_
        rintro e w' ⟨rfl, h'⟩
        refine ⟨_, rfl, fun h0 => ⟨fun h => absurd h (by decide), fun _ => ⟨h0, h'⟩, fun h => absurd h (by decide), fun h => absurd h (by decide), fun h => absurd h (by decide)⟩, fun h0 => ?_⟩
        rw [hRE, if_pos h0]
        exact ⟨rfl, h'.drop.drop.drop⟩
      | 1, hf =>
        injection hf with hf; subst hf
        obtain ⟨hc, h1⟩ := hI.2.1 rfl
        refine (fmt2_at l1 h1 hh).mono ?_
        rintro e w' ⟨rfl, h'⟩
        rw [← hE1]
        rw [← hA] at h'
        refine ⟨_, rfl, fun h0 => ⟨fun h => absurd h (by decide), fun h => absurd h (by decide), fun _ => ⟨hc, h0, h'⟩, fun h => absurd h (by decide), fun h => absurd h (by decide)⟩, fun h0 => ?_⟩
        rw [hRE, if_neg (by rw [hc]; simp), if_pos h0]
        exact ⟨rfl, h'.drop.drop.drop⟩
      | 2, hf =>
        injection hf with hf; subst hf
        obtain ⟨hc, he, h1⟩ := hI.2.2.1 rfl
        refine (fmt3_at l1 h1 hc).mono ?_
        rintro e w' ⟨rfl, h'⟩
        rw [← hB] at h' ⊢
        refine ⟨_, rfl, fun h0 => ⟨fun h => absurd h (by decide), fun h => absurd h (by decide), fun h => absurd h (by decide), fun _ => ⟨hc, he, h0, h'⟩, fun h => absurd h (by decide)⟩, fun h0 => ?_⟩
        rw [hRE, if_neg (by rw [hc]; simp), if_neg (by rw [he]; simp), if_pos h0]
        exact ⟨rfl, h'.drop.drop.drop⟩
      | 3, hf =>
        injection hf with hf; subst hf
        obtain ⟨hc, he, hb, h1⟩ := hI.2.2.2.1 rfl
        refine (flush_at (_ :: _ :: _ :: l1) h1).mono ?_
        rintro e w' ⟨rfl, h'⟩
        refine ⟨_, rfl, fun h0 => ⟨fun h => absurd h (by decide), fun h => absurd h (by decide), fun h => absurd h (by decide), fun h => absurd h (by decide), fun _ => ⟨hc, he, hb, h0, h'⟩⟩, fun h0 => ?_⟩
        rw [hRE, if_neg (by rw [hc]; simp), if_neg (by rw [he]; simp), if_neg (by rw [hb]; simp)]
        exact ⟨rfl, h'.drop.drop.drop⟩
      | (n + 4), hf => simp at hf
    · intro k f hf
      match k, hf with
      | 0, hf => injection hf with hf; subst hf; exact fun args w => enter_fn Tryd.func37 (by kernel_rfl) rfl args w
      | 1, hf => injection hf with hf; subst hf; exact fun args w => enter_fn Tryd.func38 (by kernel_rfl) rfl args w
      | 2, hf => injection hf with hf; subst hf; exact fun args w => enter_fn Tryd.func40 (by kernel_rfl) rfl args w
      | 3, hf => injection hf with hf; subst hf; exact fun args w => enter_fn Tryd.func41 (by kernel_rfl) rfl args w
      | (n + 4), hf => simp at hf
    · intro W' hI
      obtain ⟨hc, he, hb, hf, h'⟩ := hI.2.2.2.2 rfl
      rw [hRE, if_neg (by rw [hc]; simp), if_neg (by rw [he]; simp), if_neg (by rw [hb]; simp)]
      exact ⟨hf.symm, h'.drop.drop.drop⟩
  clear h h4 hRE hA hB hE1 hR hh
  go_enter Tryd.func10, Tryd.ntmps10
  go_wp2_with fail
  refine HT.out.mono ?_
  clear HT
  rintro e w5 ⟨c, rfl, rfl, h5⟩
  have H5 := Lib.hid h5
  clear h5
  go_wp2_with fail
  go_ret
  exact ⟨rfl, H5.out⟩
end Go.Proofs.YtfbkfdoekgnldaaDoor
namespace Go.Proofs.YtfbkfdoekgnldaaDoor
open Go.RowKit
open Lime
attribute [local go_sem] Oper.semAt_some setRow_alloc_at setRow_alloc_past setRow_drew g_same32 g_eq32 g_ne32
def nineL : Lay := ⟨1, 8⟩
theorem fresh_format (l : Lay) (n : Nat) (hc : l.check = 0) (hn : l.first + l.size ≤ n) (h1 : 64 ≤ n) (h2 : n ≤ 256) : ∃ F, formatM (Dv.new n) l = (F, 0) ∧ Fresh F l n := by
  have h := format_new l n hc hn h1 h2
  obtain ⟨X, hX⟩ : ∃ X, X = formatM (Dv.new n) l := ⟨_, rfl⟩
  rw [← hX] at h ⊢
  exact ⟨X.1, Prod.ext rfl h.1, h.2⟩
def run1 : List Rec := [⟨20, 8, ⟨#[97, 98]⟩⟩, ⟨21, 7, ⟨#[99]⟩⟩]
def run2 : List Rec := [⟨20, 8, ⟨#[120]⟩⟩]
theorem valid1 : validM 64 nineL run1 = 0 := by decide
theorem valid2 : validM 64 nineL run2 = 0 := by decide
theorem awake_math {S : Dv} (hf : Fresh S nineL 64) : ∃ D1 D2 D3 : Dv, commitM S nineL run1 = (D1, 0) ∧ headM D1 nineL = (q32 1, 0) ∧ D1.get 20 = (⟨8, q32 1, ⟨#[97, 98]⟩⟩, 0) ∧
    logM D1 nineL run2 = (D2, 0) ∧ lookM D2 nineL = (run2, true, 0) ∧ replayM D2 nineL = (D3, 1, 0) ∧ D3.get 20 = (⟨8, q32 2, ⟨#[120]⟩⟩, 0) := by
  have hlen := hf.len
  have hpw := hf.pw
  have htk := hf.tk
  have e8 : nineL.size = 8 := rfl
  have hck : nineL.check = 0 := by decide
  have el1 : run1.length = 2 := rfl
  have el2 : run2.length = 1 := rfl
  have v1 : validM S.st.length nineL run1 = 0 := by rw [hlen]; exact valid1
  have c1 := commit_run (run := run1) hf.calm hf.t0 hf.pl v1 (by decide) (by omega)
  rcases c1 with ⟨c0, hd⟩ | ⟨_, h, _⟩
  rotate_left
  · omega
  obtain ⟨hcalm, hl1, ht0, hpl, htk1, hpw1, hrec, _⟩ := hd
  obtain ⟨X, hX⟩ : ∃ X, X = commitM S nineL run1 := ⟨_, rfl⟩
  rw [← hX] at c0 hcalm hl1 ht0 hpl htk1 hpw1 hrec ⊢
  obtain ⟨D1, k1⟩ := X
  dsimp only at c0 hcalm hl1 ht0 hpl htk1 hpw1 hrec
  subst c0
  have hg1 := hrec ⟨20, 8, ⟨#[97, 98]⟩⟩ (.head _)
  dsimp only at hg1
  have hp1 := hpw1 (by omega)
  have v2 : validM D1.st.length nineL run2 = 0 := by rw [hl1, hlen]; exact valid2
  have hh1 := head_of hck ht0.hd
  rcases log_run (run := run2) hcalm ht0 hpl v2 (by omega) with ⟨l0, hcalm2, ht2, hpl2, _, hl2, htk2, hpw2⟩ | ⟨_, h, _⟩
  rotate_left
  · omega
  obtain ⟨Y, hY⟩ : ∃ Y, Y = logM D1 nineL run2 := ⟨_, rfl⟩
  rw [← hY] at l0 hcalm2 ht2 hpl2 hl2 htk2 hpw2
  obtain ⟨D2, k2⟩ := Y
  dsimp only at l0 hcalm2 ht2 hpl2 hl2 htk2 hpw2
  subst l0
  have hp2 := hpw2 (by omega)
  have hr2 : RunOk D2.st.length nineL run2 := by rw [hl2]; exact valid_ok v2
  have hlk := look_T2 hcalm2.f (by decide) hr2 ht2
  rcases replay_run (f := upd (fun _ => none) run1) hcalm2 (.inr (.inl ⟨ht2, hpl2.part0⟩)) hr2 (by decide) (by omega) with ⟨r0, was, now, hd⟩ | ⟨_, h, _⟩
  rotate_left
  · omega
  have hy := hd.yes (by rw [hlk])
  rw [hlk] at hy
  have hw : was = 0 + 1 := by
    have h1 := hd.hd
    have h2 := ht2.t1.hd
    have w1 := hd.w1
    unfold HeadIs at h1 h2
    rw [h1] at h2
    have h3 := congrArg (fun x => x.1.q.toNat) h2
    dsimp only at h3
    rw [q32_toNat (by omega), q32_toNat (by omega)] at h3
    exact h3
  have hg3 := hd.recs (by rw [hlk]) ⟨20, 8, ⟨#[120]⟩⟩ (.head _)
  rw [hw] at hg3
  obtain ⟨Z, hZ⟩ : ∃ Z, Z = replayM D2 nineL := ⟨_, rfl⟩
  rw [← hZ] at r0 hy hg3
  obtain ⟨D3, n3, k3⟩ := Z
  dsimp only at r0 hy hg3
  subst r0
  refine ⟨D1, D2, D3, rfl, hh1, hg1, hY.symm, hlk, ?_, hg3⟩
  rw [← hZ, hy.1]
  rfl
theorem lay_size : (Tryd.prog.info? 27).map (·.size) = some 2 := by kernel_rfl
theorem results_lay1 {fn : Func} {p : Tmp} (h : fn.results = #[.cell p 27]) (tmps : Array Value) (w : World) (g : Nat) (cs : Array Value)
    (hp : tmps.getD p undef = .pointer (some ⟨g, 0, none⟩)) (hg : w.heap[g]? = some (.cells cs 27 (0, 0))) (hc : cs.size = 2) :
    (results fn tmps).run Tryd.prog w = .ok (.agg cs) w := by
  have hp' : tmps[p]?.getD undef = .pointer (some ⟨g, 0, none⟩) := by simpa using hp
  have hl := run_loadVar_row (P := Tryd.prog) w g _ _ _ _ _ hg Tryd.underlying27 rfl (by rw [hc]; exact lay_size)
  simp [results, h, hp', asAddr, hl]
theorem nine_any (w : World) : Calls Tryd.prog 22 #[] w fun e w' => e = .returned (.agg #[.int .i64 1, .int .i64 8]) ∧ Below w.heap.size w w' := by
  have HB := Lib.hid ((Below.refl _ w).alloc (Nat.le_refl _) (.cells #[.int .i64 1, .int .i64 8] 27))
  go_enter Tryd.func22, Tryd.ntmps22
  go_wp2_with fail
  exact bodyPost_ret (results_lay1 rfl _ _ w.heap.size _ rfl (heap_alloc_new _ _) rfl) rfl ⟨rfl, HB.out⟩
set_option maxRecDepth 100000 in
set_option maxHeartbeats 2000000 in
theorem formatted_has {w W : World} {rs : List (Res w.heap.size)} (h : Has w W rs) (hh : HalfLaid w) :
    Calls Tryd.prog 21 #[] W fun e w' => ∃ g F, e = .returned (pv g) ∧ Fresh F nineL 64 ∧ Has w w' (DevR _ g F :: rs) := by
  have HN := Lib.hid (new_has h 64 (by decide) (by decide))
  have HHL := Lib.hid hh
  clear h hh
  go_enter Tryd.func21, Tryd.ntmps21
  go_wp2_with fail
  refine HN.out.mono ?_
  clear HN
  rintro e w1 ⟨g, rfl, h1⟩
  have H1 := Lib.hid h1
  clear h1
  go_wp2_with fail
  refine (nine_any _).mono ?_
  rintro e w2 ⟨rfl, hB2⟩
  have hf := format_at [] (H1.out.below hB2) nineL HHL.out
  obtain ⟨F, e0, hfr⟩ := fresh_format nineL 64 (by decide) (by decide) (by decide) (by decide)
  rw [e0] at hf
  have HFR := Lib.hid hfr
  have HF := Lib.hid hf
  clear hf hB2 H1 e0 hfr
  go_wp2_with fail
  refine HF.out.mono ?_
  clear HF
  rintro e w3 ⟨rfl, h3⟩
  have H3 := Lib.hid h3
  clear h3
  go_wp2_with fail
  go_ret
  exact ⟨g, F, rfl, HFR.out, H3.out⟩
/-- a run of records in a block of the walk's own -/
theorem Has.runBlk {w W : World} {rs : List (Res w.heap.size)} (h : Has w W rs) (cs : Array Value) (run : List Rec) (hc : cs.toList = flat recL run) (cap : Nat) : Has w (W.alloc (.cells cs 67)) (RunR _ (.slice (some ⟨W.heap.size, 0, none⟩) run.length cap) run :: rs) :=
  h.more ((Below.refl _ _).alloc (Nat.le_refl _) _) _ [W.heap.size] ⟨rdl_block (heap_alloc_new _ _) run hc cap, fun k hk => .inr (by have := blksL_sub _ _ k hk; simpa [blks, Value.ownBlock] using this), by simp⟩ (by simp)
theorem vu_q1 : vu (q32 1) = 1 := by decide
theorem vu_q2 : vu (q32 2) = 2 := by decide
set_option maxRecDepth 100000 in
set_option maxHeartbeats 4000000 in
theorem awake9 (w : World) (hh : HalfLaid w) :
    Calls Tryd.prog 12 #[] w fun e w' => e = .returned (.bool true) ∧ Below w.heap.size w w' := by
  have HF := Lib.hid (formatted_has (Has.start w) hh)
  have HHL := Lib.hid hh
  clear hh
  go_enter Tryd.func12, Tryd.ntmps12
  go_wp2_with fail
  refine HF.out.mono ?_
  clear HF
  rintro e w1 ⟨g, S, rfl, hfr, h1⟩
  obtain ⟨D1, D2, D3, m1, m2, m3, m4, m5, m6, m7⟩ := awake_math hfr
  have M1 := Lib.hid m1
  have M2 := Lib.hid m2
  have M3 := Lib.hid m3
  have M4 := Lib.hid m4
  have M5 := Lib.hid m5
  have M6 := Lib.hid m6
  have M7 := Lib.hid m7
  have H1 := Lib.hid h1
  clear hfr h1 m1 m2 m3 m4 m5 m6 m7
  go_wp2_with fail
  refine (nine_any _).mono ?_
  rintro e w2 ⟨rfl, hB2⟩
  have h2 := (H1.out.below hB2).runBlk #[.int .i64 20, .int .i64 8, .string ⟨#[97, 98]⟩, .int .i64 21, .int .i64 7, .string ⟨#[99]⟩] run1 rfl 2
  have hc := commit_at [_] h2 nineL (.head _) (by decide) (by decide) HHL.out
  rw [M1.out] at hc
  have HC := Lib.hid hc
  clear hc h2 hB2 H1
  go_wp2_with fail
  refine HC.out.mono ?_
  clear HC
  rintro e w3 ⟨rfl, h3⟩
  have H3 := Lib.hid h3
  clear h3
  go_wp2_with fail
  refine (nine_any _).mono ?_
  rintro e w4 ⟨rfl, hB4⟩
  have hc := head_has (H3.out.below hB4) (.tail _ (.head _)) nineL HHL.out
  rw [M2.out, vu_q1] at hc
  have HC := Lib.hid hc
  clear hc hB4 H3
  go_wp2_with fail
  refine HC.out.mono ?_
  clear HC
  rintro e w5 ⟨rfl, h5⟩
  have hc := get_ret h5 (.tail _ (.head _)) 20 HHL.out
  rw [M3.out] at hc
  dsimp only at hc
  rw [vu_q1] at hc
  have HC := Lib.hid hc
  clear hc h5
  go_wp2_with fail
  refine HC.out.mono ?_
  clear HC
  rintro e w6 ⟨rfl, h6⟩
  have H6 := Lib.hid (h6.alloc (.cells #[.int .i64 8, .int .u32 1, .string ⟨#[97, 98]⟩] 76))
  clear h6
  go_wp2_with fail
  refine (nine_any _).mono ?_
  rintro e w7 ⟨rfl, hB7⟩
  have h7 := (H6.out.below hB7).runBlk #[.int .i64 20, .int .i64 8, .string ⟨#[120]⟩] run2 rfl 1
  have hc := log_at [_, _, _] h7 nineL (.head _) (by decide) (by decide) HHL.out
  rw [M4.out] at hc
  have HC := Lib.hid hc
  clear hc h7 hB7 H6
  go_wp2_with fail
  refine HC.out.mono ?_
  clear HC
  rintro e w8 ⟨rfl, h8⟩
  have H8 := Lib.hid h8
  clear h8
  go_wp2_with fail
  refine (nine_any _).mono ?_
  rintro e w9 ⟨rfl, hB9⟩
  have hc := lookE_has (H8.out.below hB9) (.tail _ (.tail _ (.tail _ (.head _)))) nineL HHL.out
  rw [M5.out] at hc
  have HC := Lib.hid hc
  clear hc hB9 H8
  go_wp2_with fail
  refine HC.out.mono ?_
  clear HC
  rintro e w10 ⟨a, cap, rfl, h10⟩
  have H10 := Lib.hid h10.drop
  clear h10
  go_wp2_with fail
  refine (nine_any _).mono ?_
  rintro e w11 ⟨rfl, hB11⟩
  have hc := replay_at [_, _, _] (H10.out.below hB11) nineL HHL.out
  rw [M6.out] at hc
  have HC := Lib.hid hc
  clear hc hB11 H10
  go_wp2_with fail
  refine HC.out.mono ?_
  clear HC
  rintro e w12 ⟨rfl, h12⟩
  have hc := get_ret h12 (.tail _ (.tail _ (.tail _ (.head _)))) 20 HHL.out
  rw [M7.out] at hc
  dsimp only at hc
  rw [vu_q2] at hc
  have HC := Lib.hid hc
  clear hc h12
  go_wp2_with fail
  refine HC.out.mono ?_
  clear HC
  rintro e w13 ⟨rfl, h13⟩
  have f0 := h13.cell 1 _ _ _ rfl 0 _ rfl
  have f1 := h13.cell 1 _ _ _ rfl 1 _ rfl
  have f2 := h13.cell 1 _ _ _ rfl 2 _ rfl
  have z := block_lt_of_cell f0
  dsimp only at z
  have H13 := Lib.hid (h13.alloc (.cells #[.int .i64 8, .int .u32 2, .string ⟨#[120]⟩] 76))
  clear h13
  go_wp2_with fail
  go_ret
  exact ⟨rfl, H13.out.hB⟩
end Go.Proofs.YtfbkfdoekgnldaaDoor
namespace Go.Proofs.YtfbkfdoekgnldaaDoor
open Go.RowKit
open Lime
attribute [local go_sem] Oper.semAt_some setRow_alloc_at setRow_alloc_past setRow_drew
def bitAt (b : Int) (k : Nat) : Bool := (b / 2 ^ (k % 64)).tmod 2 == 1
def keptL (b : Int) : Nat → List Int
  | 0 => []
  | k + 1 => if bitAt b k then keptL b k ++ [(k : Int)] else keptL b k
theorem keptL_lt (b : Int) (n : Nat) : ∀ i ∈ keptL b n, 0 ≤ i ∧ i < n := by
  induction n with
  | zero => intro i h; simp [keptL] at h
  | succ n ih =>
    intro i h
    unfold keptL at h
    split at h
    · rcases List.mem_append.1 h with h | h
      · have := ih i h; omega
      · simp at h; omega
    · have := ih i h; omega
theorem keptL_len (b : Int) (n : Nat) : (keptL b n).length ≤ n := by
  induction n with
  | zero => simp [keptL]
  | succ n ih =>
    unfold keptL
    split
    · rw [List.length_append, List.length_singleton]; omega
    · omega
theorem rises_snoc (l : List Int) : ∀ (x : Int), risesI l = true → (∀ i ∈ l, i < x) → risesI (l ++ [x]) = true := by
  induction l with
  | nil => intro x _ _; rfl
  | cons a r ih =>
    intro x h hl
    cases r with
    | nil =>
      have := hl a (.head _)
      simp [risesI, this]
    | cons b r =>
      simp only [risesI, Bool.and_eq_true, decide_eq_true_eq] at h
      have h2 := ih x h.2 (fun i hi => hl i (.tail _ hi))
      simp only [List.cons_append] at h2 ⊢
      simp only [risesI, Bool.and_eq_true, decide_eq_true_eq]
      exact ⟨h.1, h2⟩
theorem keptL_rises (b : Int) (n : Nat) : risesI (keptL b n) = true := by
  induction n with
  | zero => rfl
  | succ n ih =>
    unfold keptL
    split
    · exact rises_snoc _ _ ih (fun i hi => (keptL_lt b n i hi).2)
    · exact ih
theorem keptL_ok (S : Dv) (b : Int) : S.crashE (keptL b S.ca.length) = 0 := by
  unfold Dv.crashE
  rw [if_neg, if_pos (keptL_rises b _)]
  intro h
  obtain ⟨i, hi, ho⟩ := List.any_eq_true.1 h
  have := keptL_lt b _ i hi
  simp [Dv.odd] at ho
  omega
set_option maxRecDepth 100000 in
set_option maxHeartbeats 4000000 in
theorem kept_has {w W : World} {rs : List (Res w.heap.size)} (h : Has w W rs) (n : Nat) (b : Int) (hn : n ≤ 1000) (_hb0 : 0 ≤ b) (_hb1 : b < 18446744073709551616) :
    Calls Tryd.prog 15 #[.int .i64 (n : Int), .int .u64 b] W fun e w' => ∃ v, e = .returned v ∧ Has w w' (OwnR _ 3 1 intL v (keptL b n) :: rs) := by
  have H := Lib.hid (OwnR.nil h 3 1 intL)
  clear h
  go_enter Tryd.func15, Tryd.ntmps15
  go_wp2_with fail
  go_loopw [5, 6] (fun v i wr => ∃ k : Nat, i = .int .i64 (k : Int) ∧ k ≤ n ∧ Has w wr (OwnR _ 3 1 intL v (keptL b k) :: rs)) (fun _ i _ => n - (intOf i).toNat)
  case atStart => exact ⟨0, rfl, Nat.zero_le _, H.out⟩
  case round =>
    obtain ⟨k, rfl, hk, hH⟩ := hrel
    clear H
    by_cases hlt : k < n
    · have hki : (k : Int) < (n : Int) := by omega
      obtain ⟨m, hm⟩ : ∃ m, m = k % 64 := ⟨_, rfl⟩
      have hm64 : m < 64 := by omega
      have hrem : (k : Int).tmod 64 = (m : Int) := by rw [Int.tmod_eq_emod_of_nonneg (by omega), hm]; norm_cast
      have hconv : IntKind.u64.wrap (m : Int) = (m : Int) := by rw [IntKind.wrap_u64]; omega
      have hmin : min m 64 = m := by omega
      have hlen := keptL_len b k
      obtain ⟨z, hz⟩ : ∃ z, ((b / 2 ^ m).tmod 2 == 1) = z := ⟨_, rfl⟩
      have HB : Hid (bitAt b k = z) := by unfold bitAt; rw [← hm]; exact Lib.hid hz
      cases z
      · have HN : Hid (keptL b (k + 1) = keptL b k) := by show (if _ then _ else _) = _; rw [HB.out]; exact Lib.hid rfl
        have HH := Lib.hid hH
        clear hm hH HB
        go_wp2_with fail
        go_roundw
        case rel => exact ⟨k + 1, by go_num, by omega, by rw [HN.out]; exact HH.out⟩
        case measure => simp [intOf]; omega
      · have HN : Hid (keptL b (k + 1) = keptL b k ++ [(k : Int)]) := by show (if _ then _ else _) = _; rw [HB.out]; exact Lib.hid rfl
        obtain ⟨v2, Wp, hrun, hp⟩ := Has.pushInt hH (k : Int) (by omega)
        have HH := Lib.hid hp
        clear hm hH HB hp
        go_wp2_with (at_builtin; (with_reducible refine wpList_append_eq rfl _ _ _ rfl _ _ _ _ ?_ ?_ hrun ?_); rfl; rfl)
        go_roundw
        case rel => exact ⟨k + 1, by go_num, by omega, by rw [HN.out]; exact HH.out⟩
        case measure => simp [intOf]; omega
    · obtain rfl : k = n := by omega
      have HH := Lib.hid hH
      clear hH
      go_wp2_with fail
      go_ret
      exact ⟨_, rfl, HH.out⟩
end Go.Proofs.YtfbkfdoekgnldaaDoor
namespace Go.Proofs.YtfbkfdoekgnldaaDoor
open Go.RowKit
section
variable {S : Dv} {l : Lay} {m : Nat} {run : List Rec} {f : Int → Option (Int × ByteArray)}
theorem limit_eq (S : Dv) (n : Int) (h0 : 0 ≤ n) (h1 : n ≤ 1000) : S.limit n = { S with power := n } ∧ limitE n = 0 := by
  unfold Dv.limit limitE
  rw [if_neg (by omega), if_neg (by omega)]
  exact ⟨rfl, rfl⟩
theorem limit_get (S : Dv) (n : Int) (p : Int) : (S.limit n).get p = S.get p := by
  unfold Dv.limit
  split <;> rfl
theorem limit_look (S : Dv) (n : Int) (p : Int) : (S.limit n).look p = S.look p := by
  unfold Dv.limit
  split <;> rfl
theorem limit_parts (S : Dv) (n : Int) : (S.limit n).st = S.st ∧ (S.limit n).ca = S.ca ∧ (S.limit n).taken = S.taken ∧ (S.limit n).off = S.off := by
  unfold Dv.limit
  split <;> exact ⟨rfl, rfl, rfl, rfl⟩
theorem limit_calm (h : Calm S l) (n : Int) : Calm (S.limit n) l := by
  obtain ⟨e1, e2, e3, e4⟩ := limit_parts S n
  exact ⟨⟨by rw [e4]; exact h.f.on, h.f.chk, by rw [e1]; exact h.f.end_, by rw [e1]; exact h.f.n256⟩, by rw [e2]; exact h.ca, Dv.limit_ok h.ok n⟩
theorem limit_T0 (h : T0 S l m) (n : Int) : T0 (S.limit n) l m := by
  refine ⟨?_, fun i h1 h2 => by rw [limit_get]; exact h.old i h1 h2⟩
  unfold HeadIs
  rw [limit_get]; exact h.hd
theorem limit_Pl (h : Pl S l f) (n : Int) : Pl (S.limit n) l f := by
  intro p h0 h1 hi
  obtain ⟨e1, _, _, _⟩ := limit_parts S n
  have := h p h0 (by rw [← e1]; exact h1) hi
  cases hx : f p with
  | none => rw [hx] at this; show (S.limit n).look p = zsec; rw [limit_look]; exact this
  | some x => rw [hx] at this; obtain ⟨q, hq⟩ := this; exact ⟨q, by rw [limit_get]; exact hq⟩
theorem recE_ne (n : Nat) (l : Lay) (b : List Rec) (r : Rec) : recE n l b r ≠ 13 := by
  unfold recE
  split
  · decide
  · split
    · decide
    · split
      · decide
      · split <;> decide
theorem validK_ne (n : Nat) (l : Lay) (run : List Rec) : ∀ b, validK n l b run ≠ 13 := by
  induction run with
  | nil => intro b; show (0 : Int) ≠ 13; decide
  | cons r rest ih =>
    intro b
    unfold validK
    split
    · exact recE_ne _ _ _ _
    · exact ih _
theorem validM_ne (n : Nat) (l : Lay) (run : List Rec) : validM n l run ≠ 13 := by
  unfold validM
  split
  · decide
  · exact validK_ne _ _ _ _
theorem replay_T0 (h : Calm S l) (hm : m + 1 < 4294967296) (ht : T0 S l m) : replayM S l = (S, 0, 0) ∧ lookM S l = ([], false, 0) := by
  have hl := look_T0 h.f hm ht
  refine ⟨?_, hl⟩
  unfold replayM
  rw [hl, head_of h.f.chk ht.hd, if_neg (by simp), if_neg (by simp)]
  dsimp only
  rw [stale_T0 h.f hm ht, if_neg (by simp), if_neg (by simp)]
/-- what a Commit leaves, whether its power went or not, and a crash behind it -/
theorem commit_trouble (h : Calm S l) (ht : T0 S l m) (hf : Pl S l f) (hm : m + 2 < 4294967296) (htk : S.taken ≤ 800000) (hv : validM S.st.length l run = 0) :
    (commitM S l run).1.ca.length ≤ 200 ∧ ∀ b, (commitM S l run).1.crashE (keptL b (commitM S l run).1.ca.length) = 0 ∧
      Calm ((commitM S l run).1.crash (keptL b (commitM S l run).1.ca.length)) l ∧ ((commitM S l run).1.crash (keptL b (commitM S l run).1.ca.length)).power = -1 ∧ ((commitM S l run).1.crash (keptL b (commitM S l run).1.ca.length)).taken ≤ S.taken + 200 ∧
      ((commitM S l run).1.crash (keptL b (commitM S l run).1.ca.length)).st.length = S.st.length ∧ Mid ((commitM S l run).1.crash (keptL b (commitM S l run).1.ca.length)) l m f run ∧
      ((commitM S l run).2 = 0 → T0 ((commitM S l run).1.crash (keptL b (commitM S l run).1.ca.length)) l (m + 1) ∧ Pl ((commitM S l run).1.crash (keptL b (commitM S l run).1.ca.length)) l (upd f run)) := by
  have hr := valid_ok hv
  have hrl : run.length ≤ 80 := by have := hr.len; have := (most_le l).2; omega
  rcases commit_run h ht hf hv hm (by omega) with ⟨h0, hd⟩ | ⟨h0, _, hca, _, hk⟩
  · have hca : (commitM S l run).1.ca = [] := hd.calm.ca
    refine ⟨by rw [hca]; simp, fun b => ?_⟩
    have hke := keptL_ok (commitM S l run).1 b
    obtain ⟨k1, k2, k3, k4⟩ := calm_crash hd.calm _ hke
    have c := Lay.check_ok h.f.chk
    have hsame : ∀ p : Int, 0 ≤ p → ((commitM S l run).1.crash (keptL b (commitM S l run).1.ca.length)).look p = (commitM S l run).1.look p := fun p hp => by
      rcases k4.each p hp with h | ⟨a, ha, _⟩
      · exact h
      · simp at ha
    have ht0 := T0_same hd.calm.f k1.f k4.len (fun i hi => hsame _ (by omega)) hd.t0
    have hpl := Pl_same hd.calm.f k1.f k4.len (fun p hp _ => hsame p hp) hd.pl
    have htk2 := hd.tk
    exact ⟨hke, k1, k2, by rw [k3, htk2]; omega, k4.len.trans hd.len, .inr (.inr ⟨ht0, .inr hpl⟩), fun _ => ⟨ht0, hpl⟩⟩
  · refine ⟨hca, fun b => ?_⟩
    have hke := keptL_ok (commitM S l run).1 b
    obtain ⟨k1, k2, k3, k4, k5⟩ := hk _ hke
    exact ⟨hke, k1, k2, k3, k4, k5, fun e => by rw [h0] at e; exact absurd e (by decide)⟩
theorem twice_math (h : Calm S l) (ht : T0 S l m) (hf : Pl S l f) (hm : m + 2 < 4294967296) (htk : S.taken ≤ 800000) (hc : (commitM S l run).2 = 0 ∨ (commitM S l run).2 = 13) (b : Int) :
    (commitM S l run).1.ca.length ≤ 200 ∧ (commitM S l run).1.crashE (keptL b (commitM S l run).1.ca.length) = 0 ∧
    ∃ (D : Dv) (n : Int), replayM ((commitM S l run).1.crash (keptL b (commitM S l run).1.ca.length)) l = (D, n, 0) ∧ (n = 0 ∨ n = run.length) ∧ replayM D l = (D, 0, 0) ∧ lookM D l = ([], false, 0) := by
  have hv : validM S.st.length l run = 0 := by
    by_cases hv : validM S.st.length l run = 0
    · exact hv
    · exfalso
      have e := commit_no (run := run) h ht hv
      rw [e] at hc
      rcases hc with hc | hc
      · exact hv hc
      · exact validM_ne _ _ _ hc
  obtain ⟨hca, hk⟩ := commit_trouble h ht hf hm htk hv
  obtain ⟨k1, k2, k3, k4, k5, k6, _⟩ := hk b
  refine ⟨hca, k1, ?_⟩
  obtain ⟨C, hC⟩ : ∃ C, C = (commitM S l run).1.crash (keptL b (commitM S l run).1.ca.length) := ⟨_, rfl⟩
  rw [← hC] at k2 k3 k4 k5 k6 ⊢
  rcases replay_run k2 k6 (by rw [k5]; exact valid_ok hv) hm (by omega) with ⟨r0, was, now, hd⟩ | ⟨_, hp, _⟩
  · obtain ⟨e1, e2⟩ := replay_T0 hd.calm (by have := hd.n1; omega) hd.t0
    refine ⟨(replayM C l).1, (replayM C l).2.1, ?_, ?_, e1, e2⟩
    · rw [← r0]
    · cases hw : (lookM C l).2.1
      · exact .inl (hd.no hw)
      · right
        have := hd.yes hw
        rw [this.1, this.2]
  · omega
end
end Go.Proofs.YtfbkfdoekgnldaaDoor
namespace Go.Proofs.YtfbkfdoekgnldaaDoor
open Go.RowKit
attribute [local go_sem] Oper.semAt_some setRow_alloc_at setRow_alloc_past setRow_drew
theorem rec_eq_step (l k : List Rec) (i : Nat) (x y : Rec) (hx : l[i]? = some x) (hy : k[i]? = some y) (h : l.take i = k.take i) : (x = y → l.take (i + 1) = k.take (i + 1)) ∧ (x ≠ y → l ≠ k) := by
  refine ⟨fun e => by rw [List.take_add_one, List.take_add_one, hx, hy, h, e], fun e e2 => ?_⟩
  subst e2
  rw [hx] at hy
  exact e (Option.some.inj hy)
set_option maxRecDepth 100000 in
set_option maxHeartbeats 4000000 in
theorem samerun_any {W : World} {a b : Option Addr} {ca cb : Nat} {l k : List Rec} (hl : RdL W 3 recL (.slice a l.length ca) l) (hk : RdL W 3 recL (.slice b k.length cb) k) (hlen : l.length ≤ 1000000) :
    Calls Tryd.prog 25 #[.slice a l.length ca, .slice b k.length cb] W fun e w' => e = .returned (.bool (decide (l = k))) ∧ Below W.heap.size W w' := by
  by_cases hne : l.length = k.length
  · have HL := Lib.hid hl
    have HK := Lib.hid hk
    have HNE := Lib.hid hne
    clear hl hk
    have hkl : (k.length : Int) = (l.length : Int) := by omega
    clear hne
    go_enter Tryd.func25, Tryd.ntmps25
    go_wp2_with fail
    go_loopw [5] (fun i wr => ∃ j : Nat, i = .int .i64 (j : Int) ∧ j ≤ l.length ∧ l.take j = k.take j ∧ Below W.heap.size W wr) (fun i _ => l.length - (intOf i).toNat)
    case atStart => exact ⟨0, rfl, Nat.zero_le _, rfl, Below.refl _ _⟩
    case round =>
      obtain ⟨j, rfl, hj, ht, hB⟩ := hrel
      by_cases hlt : j < l.length
      · obtain ⟨x, hx⟩ : ∃ x, l[j]? = some x := ⟨_, List.getElem?_eq_getElem hlt⟩
        obtain ⟨y, hy⟩ : ∃ y, k[j]? = some y := ⟨_, List.getElem?_eq_getElem (by rw [← HNE.out]; exact hlt)⟩
        obtain ⟨b1, o1, c1, e1, r1⟩ := (HL.out.below hB).elem recL_len j x hx
        obtain ⟨b2, o2, c2, e2, r2⟩ := (HK.out.below hB).elem recL_len j y hy
        injection e1 with e1 _ e1c
        injection e2 with e2 _ e2c
        subst e1 e2
        have hst := rec_eq_step l k j x y hx hy ht
        have HSW : Hid (∀ (W' : World), wr.heap = W'.heap → (W'.cell? ⟨b1, o1 + j * 3, none⟩ = some (.int .i64 x.at_) ∧ W'.cell? ⟨b1, o1 + j * 3 + 1, none⟩ = some (.int .i64 x.kind) ∧ W'.cell? ⟨b1, o1 + j * 3 + 2, none⟩ = some (.string x.data)) ∧ (W'.cell? ⟨b2, o2 + j * 3, none⟩ = some (.int .i64 y.at_) ∧ W'.cell? ⟨b2, o2 + j * 3 + 1, none⟩ = some (.int .i64 y.kind) ∧ W'.cell? ⟨b2, o2 + j * 3 + 2, none⟩ = some (.string y.data)) ∧ True) := fun W' e => by
          have q1 := r1 0 _ rfl
          have q2 := r1 1 _ rfl
          have q3 := r1 2 _ rfl
          have q4 := r2 0 _ rfl
          have q5 := r2 1 _ rfl
          have q6 := r2 2 _ rfl
          unfold World.cell? at *
          rw [← e]
          exact ⟨⟨q1, q2, q3⟩, ⟨q4, q5, q6⟩, trivial⟩
        have hi1 := fun w => run_index_rec b1 o1 l.length ca j hlt w
        have hi2 := fun w => run_index_rec b2 o2 k.length cb j (by rw [← HNE.out]; exact hlt) w
        have HST := Lib.hid hst
        have HB := Lib.hid hB
        have hjl : (j : Int) < (l.length : Int) := by omega
        clear hst ht hB r1 r2 hx hy e1c e2c
        go_wp2_with fail
        by_cases hxy : x = y
        · subst hxy
          refine wp_region_ordJ (fun W' => (W'.cell? ⟨b1, o1 + j * 3, none⟩ = some (.int .i64 x.at_) ∧ W'.cell? ⟨b1, o1 + j * 3 + 1, none⟩ = some (.int .i64 x.kind) ∧ W'.cell? ⟨b1, o1 + j * 3 + 2, none⟩ = some (.string x.data)) ∧ (W'.cell? ⟨b2, o2 + j * 3, none⟩ = some (.int .i64 x.at_) ∧ W'.cell? ⟨b2, o2 + j * 3 + 1, none⟩ = some (.int .i64 x.kind) ∧ W'.cell? ⟨b2, o2 + j * 3 + 2, none⟩ = some (.string x.data)) ∧ True) (OrdT.takes [0, 1, 2, 3, 4, 5, 6, 7, 8] .done) (by kernel_rfl) (by kernel_rfl) (HSW.out _ rfl) (fun wz hz => ?_)
          have hB8 := HB.out.drew
          rw [← hz] at hB8
          have HB8 := Lib.hid hB8
          clear hz hB8 HB
          unfold OrdT.takes
          --ordt mmyymmyyy
          iterate 2 (refine' t_move _ _ rfl rfl rfl rfl _ _; rotate_left; (go_simp; with_reducible rfl); simp only [Act.put, List.setIfInBounds_toArray, List.set_cons_zero, List.set_cons_succ])
          iterate 2 (refine' t_yield _ rfl rfl rfl _ _; rotate_left; (intro w' hSw; obtain ⟨s0, s1, s2⟩ := hSw; go_simp; with_reducible rfl); simp only [Act.put, List.setIfInBounds_toArray, List.set_cons_zero, List.set_cons_succ])
          iterate 2 (refine' t_move _ _ rfl rfl rfl rfl _ _; rotate_left; (go_simp; with_reducible rfl); simp only [Act.put, List.setIfInBounds_toArray, List.set_cons_zero, List.set_cons_succ])
          iterate 3 (refine' t_yield _ rfl rfl rfl _ _; rotate_left; (intro w' hSw; obtain ⟨s0, s1, s2⟩ := hSw; go_simp; with_reducible rfl); simp only [Act.put, List.setIfInBounds_toArray, List.set_cons_zero, List.set_cons_succ])
          --end
          refine t_done ?_
          go_wp2_with fail
          go_roundw
          case rel => exact ⟨j + 1, by go_num, by omega, HST.out.1 rfl, HB8.out⟩
          case measure => simp [intOf]; omega
        · have HNQ : Hid (decide (l = k) = false) := by
            have := HST.out.2 hxy
            exact Lib.hid (by simpa using this)
          by_cases q1 : x.at_ = y.at_
          · by_cases q2 : x.kind = y.kind
            · have q3 : ¬ x.data.toList = y.data.toList := by
                intro e
                apply hxy
                rw [bytes_toList, bytes_toList] at e
                cases x; cases y
                simp only [Rec.mk.injEq]
                exact ⟨q1, q2, ByteArray.ext (Array.toList_inj.1 e)⟩
              clear hxy
              refine wp_region_ordJ (fun W' => (W'.cell? ⟨b1, o1 + j * 3, none⟩ = some (.int .i64 x.at_) ∧ W'.cell? ⟨b1, o1 + j * 3 + 1, none⟩ = some (.int .i64 x.kind) ∧ W'.cell? ⟨b1, o1 + j * 3 + 2, none⟩ = some (.string x.data)) ∧ (W'.cell? ⟨b2, o2 + j * 3, none⟩ = some (.int .i64 y.at_) ∧ W'.cell? ⟨b2, o2 + j * 3 + 1, none⟩ = some (.int .i64 y.kind) ∧ W'.cell? ⟨b2, o2 + j * 3 + 2, none⟩ = some (.string y.data)) ∧ True) (OrdT.takes [0, 1, 2, 3, 4, 5, 6, 7, 8] .done) (by kernel_rfl) (by kernel_rfl) (HSW.out _ rfl) (fun wz hz => ?_)
              have hB8 := HB.out.drew
              rw [← hz] at hB8
              have HB8 := Lib.hid hB8
              clear hz hB8 HB
              unfold OrdT.takes
              --ordt mmyymmyyy
              iterate 2 (refine' t_move _ _ rfl rfl rfl rfl _ _; rotate_left; (go_simp; with_reducible rfl); simp only [Act.put, List.setIfInBounds_toArray, List.set_cons_zero, List.set_cons_succ])
              iterate 2 (refine' t_yield _ rfl rfl rfl _ _; rotate_left; (intro w' hSw; obtain ⟨s0, s1, s2⟩ := hSw; go_simp; with_reducible rfl); simp only [Act.put, List.setIfInBounds_toArray, List.set_cons_zero, List.set_cons_succ])
              iterate 2 (refine' t_move _ _ rfl rfl rfl rfl _ _; rotate_left; (go_simp; with_reducible rfl); simp only [Act.put, List.setIfInBounds_toArray, List.set_cons_zero, List.set_cons_succ])
              iterate 3 (refine' t_yield _ rfl rfl rfl _ _; rotate_left; (intro w' hSw; obtain ⟨s0, s1, s2⟩ := hSw; go_simp; with_reducible rfl); simp only [Act.put, List.setIfInBounds_toArray, List.set_cons_zero, List.set_cons_succ])
              --end
              refine t_done ?_
              go_wp2_with fail
              go_ret
              exact ⟨by rw [HNQ.out]; rfl, HB8.out⟩
            · clear hxy
              refine wp_region_ordJ (fun W' => (W'.cell? ⟨b1, o1 + j * 3, none⟩ = some (.int .i64 x.at_) ∧ W'.cell? ⟨b1, o1 + j * 3 + 1, none⟩ = some (.int .i64 x.kind) ∧ W'.cell? ⟨b1, o1 + j * 3 + 2, none⟩ = some (.string x.data)) ∧ (W'.cell? ⟨b2, o2 + j * 3, none⟩ = some (.int .i64 y.at_) ∧ W'.cell? ⟨b2, o2 + j * 3 + 1, none⟩ = some (.int .i64 y.kind) ∧ W'.cell? ⟨b2, o2 + j * 3 + 2, none⟩ = some (.string y.data)) ∧ True) (OrdT.takes [0, 1, 2, 3, 4, 5, 6, 7, 8] .done) (by kernel_rfl) (by kernel_rfl) (HSW.out _ rfl) (fun wz hz => ?_)
              have hB8 := HB.out.drew
              rw [← hz] at hB8
              have HB8 := Lib.hid hB8
              clear hz hB8 HB
              unfold OrdT.takes
              --ordt mmyymmyyy
              iterate 2 (refine' t_move _ _ rfl rfl rfl rfl _ _; rotate_left; (go_simp; with_reducible rfl); simp only [Act.put, List.setIfInBounds_toArray, List.set_cons_zero, List.set_cons_succ])
              iterate 2 (refine' t_yield _ rfl rfl rfl _ _; rotate_left; (intro w' hSw; obtain ⟨s0, s1, s2⟩ := hSw; go_simp; with_reducible rfl); simp only [Act.put, List.setIfInBounds_toArray, List.set_cons_zero, List.set_cons_succ])
              iterate 2 (refine' t_move _ _ rfl rfl rfl rfl _ _; rotate_left; (go_simp; with_reducible rfl); simp only [Act.put, List.setIfInBounds_toArray, List.set_cons_zero, List.set_cons_succ])
              iterate 3 (refine' t_yield _ rfl rfl rfl _ _; rotate_left; (intro w' hSw; obtain ⟨s0, s1, s2⟩ := hSw; go_simp; with_reducible rfl); simp only [Act.put, List.setIfInBounds_toArray, List.set_cons_zero, List.set_cons_succ])
              --end
              refine t_done ?_
              go_wp2_with fail
              go_ret
              exact ⟨by rw [HNQ.out]; rfl, HB8.out⟩
          · clear hxy
            refine wp_region_ordJ (fun W' => (W'.cell? ⟨b1, o1 + j * 3, none⟩ = some (.int .i64 x.at_) ∧ W'.cell? ⟨b1, o1 + j * 3 + 1, none⟩ = some (.int .i64 x.kind) ∧ W'.cell? ⟨b1, o1 + j * 3 + 2, none⟩ = some (.string x.data)) ∧ (W'.cell? ⟨b2, o2 + j * 3, none⟩ = some (.int .i64 y.at_) ∧ W'.cell? ⟨b2, o2 + j * 3 + 1, none⟩ = some (.int .i64 y.kind) ∧ W'.cell? ⟨b2, o2 + j * 3 + 2, none⟩ = some (.string y.data)) ∧ True) (OrdT.takes [0, 1, 2, 3, 4, 5, 6, 7, 8] .done) (by kernel_rfl) (by kernel_rfl) (HSW.out _ rfl) (fun wz hz => ?_)
            have hB8 := HB.out.drew
            rw [← hz] at hB8
            have HB8 := Lib.hid hB8
            clear hz hB8 HB
            unfold OrdT.takes
            --ordt mmyymmyyy
            iterate 2 (refine' t_move _ _ rfl rfl rfl rfl _ _; rotate_left; (go_simp; with_reducible rfl); simp only [Act.put, List.setIfInBounds_toArray, List.set_cons_zero, List.set_cons_succ])
            iterate 2 (refine' t_yield _ rfl rfl rfl _ _; rotate_left; (intro w' hSw; obtain ⟨s0, s1, s2⟩ := hSw; go_simp; with_reducible rfl); simp only [Act.put, List.setIfInBounds_toArray, List.set_cons_zero, List.set_cons_succ])
            iterate 2 (refine' t_move _ _ rfl rfl rfl rfl _ _; rotate_left; (go_simp; with_reducible rfl); simp only [Act.put, List.setIfInBounds_toArray, List.set_cons_zero, List.set_cons_succ])
            iterate 3 (refine' t_yield _ rfl rfl rfl _ _; rotate_left; (intro w' hSw; obtain ⟨s0, s1, s2⟩ := hSw; go_simp; with_reducible rfl); simp only [Act.put, List.setIfInBounds_toArray, List.set_cons_zero, List.set_cons_succ])
            --end
            refine t_done ?_
            go_wp2_with fail
            go_ret
            exact ⟨by rw [HNQ.out]; rfl, HB8.out⟩
      · obtain rfl : j = l.length := by omega
        have HE : Hid (l = k) := by
          rw [List.take_length, HNE.out, List.take_length] at ht
          exact ht
        have HB := Lib.hid hB
        clear ht hB
        go_wp2_with fail
        go_ret
        exact ⟨by rw [show decide (l = k) = true by simpa using HE.out]; rfl, HB.out⟩
  · have hne2 : ((l.length : Int) != (k.length : Int)) = true := by simp; omega
    have HE : Hid (decide (l = k) = false) := by
      have : ¬ l = k := fun e => hne (by rw [e])
      exact Lib.hid (by simpa using this)
    clear hne hl hk
    go_enter Tryd.func25, Tryd.ntmps25
    go_wp2_with fail
    go_ret
    exact ⟨by rw [HE.out]; rfl, Below.refl _ _⟩
end Go.Proofs.YtfbkfdoekgnldaaDoor
