/- DiskReplaced, plain: wherever the power fails, "a" is one of both, whole. -/
import Derived.Test.YtihojcjijbidpaaDoorH0
namespace Go.Proofs.YtihojcjijbidpaaDoor
open Go.RowKit Go.Shelf Go.Sort

theorem crashF_whole (l : List UInt8) (keep : List UInt8) : crashF ⟨l, l.length⟩ keep = (⟨l, l.length⟩, keep) := by
  unfold crashF
  rw [if_neg (by simp)]
  simp
theorem crash1_whole {now : Names} {s : List PFile × List UInt8} (p : ByteArray) {i : Nat} {l : List UInt8} (h : s.1[i]? = some ⟨l, l.length⟩) : (crash1 now s p).1[i]? = some ⟨l, l.length⟩ := by
  unfold crash1
  split
  · by_cases e : ((lookupM now p).getD zNd).id = i
    · rw [e]
      have hi := (List.getElem?_eq_some_iff.1 h).1
      have hg : s.1.getD i ⟨[], 0⟩ = ⟨l, l.length⟩ := by simp [List.getD, h]
      rw [hg, crashF_whole]
      simp [hi]
    · simp [e, h]
  · exact h
theorem crash_whole {now : Names} {i : Nat} {l : List UInt8} (ps : List ByteArray) : ∀ {s : List PFile × List UInt8}, s.1[i]? = some ⟨l, l.length⟩ → (ps.foldl (crash1 now) s).1[i]? = some ⟨l, l.length⟩ := by
  induction ps with
  | nil => exact fun h => h
  | cons p ps ih => exact fun h => ih (crash1_whole p h)

/-- Whichever changes of names a crash lets stand: "a" is a file whose bytes are all safe, one of both. -/
def Either (old fresh : List UInt8) (D : PD) : Prop :=
  ∀ m, ∃ i l, lookupM (crashNames D m) pA = some ⟨false, i⟩ ∧ D.files[i]? = some ⟨l, l.length⟩ ∧ (l = old ∨ l = fresh)
theorem Either.read {old fresh : List UInt8} {D : PD} (h : Either old fresh D) (c : Int) (keep : List UInt8) :
    readE (crashR D c keep) pA = 0 ∧ (readB (crashR D c keep) pA = old ∨ readB (crashR D c keep) pA = fresh) := by
  obtain ⟨i, l, h1, h2, h3⟩ := h (crashM D c)
  have hn : (crashR D c keep).now = crashNames D (crashM D c) := rfl
  have hE : readE (crashR D c keep) pA = 0 := by
    unfold readE
    rw [if_neg (by show ¬ (false = true); simp)]
    unfold fileE
    rw [hn, h1]
    rfl
  have hw := crash_whole (now := (crashN D c).now) (pathsB (crashN D c)) (s := (D.files, keep)) h2
  have hB : readB (crashR D c keep) pA = l := by
    unfold readB
    rw [if_pos hE]
    unfold fileOf fileId
    rw [hn, h1]
    show (List.getD ((pathsB (crashN D c)).foldl (crash1 (crashN D c).now) (D.files, keep)).1 i ⟨[], 0⟩).b = l
    simp [List.getD, hw]
  exact ⟨hE, by rw [hB]; exact h3⟩

def nT : Nd := ⟨false, 1⟩
def cT1 : Change := [(pT, some nT)]
def cR1 : Change := [(pT, none), (pA, some nT)]
def dr5 (old : List UInt8) (down : Bool) (ops f : Int) (done : Bool) : PD := ⟨10000, [(pA, fA)], [(pA, fA)], [], [⟨old, old.length⟩], down, ops, f, done, -1⟩
def dr6 (old fresh : List UInt8) (s : Nat) (down : Bool) (ops f : Int) (done : Bool) : PD := ⟨10000, [(pA, fA)], [(pA, fA), (pT, nT)], [cT1], [⟨old, old.length⟩, ⟨fresh, s⟩], down, ops, f, done, -1⟩
def dr9 (old fresh : List UInt8) (down : Bool) (ops f : Int) (done : Bool) : PD := ⟨10000, [(pA, fA)], [(pA, nT)], [cT1, cR1], [⟨old, old.length⟩, ⟨fresh, fresh.length⟩], down, ops, f, done, -1⟩
def dr10 (old fresh : List UInt8) (down : Bool) (ops f : Int) (done : Bool) : PD := ⟨10000, [(pA, nT)], [(pA, nT)], [], [⟨old, old.length⟩, ⟨fresh, fresh.length⟩], down, ops, f, done, -1⟩

section
variable {old fresh fr : List UInt8} {down done : Bool} {ops f : Int} {s : Nat}
theorem either5 : Either old fresh (dr5 old down ops f done) := fun m => by
  refine ⟨0, old, ?_, rfl, .inl rfl⟩
  show lookupM (List.foldl applyM [(pA, fA)] (List.take m [])) pA = _
  rw [List.take_nil]
  kernel_rfl
theorem either6 : Either old fr (dr6 old fresh s down ops f done) := fun m => by
  refine ⟨0, old, ?_, rfl, .inl rfl⟩
  show lookupM (List.foldl applyM [(pA, fA)] (List.take m [cT1])) pA = _
  match m with
  | 0 => show lookupM (List.foldl applyM [(pA, fA)] []) pA = some ⟨false, 0⟩; kernel_rfl
  | m + 1 => rw [List.take_of_length_le (by simp)]; show lookupM (List.foldl applyM [(pA, fA)] [cT1]) pA = some ⟨false, 0⟩; kernel_rfl
theorem either9 : Either old fresh (dr9 old fresh down ops f done) := fun m => by
  match m with
  | 0 =>
    refine ⟨0, old, ?_, rfl, .inl rfl⟩
    show lookupM (List.foldl applyM [(pA, fA)] []) pA = some ⟨false, 0⟩
    kernel_rfl
  | 1 =>
    refine ⟨0, old, ?_, rfl, .inl rfl⟩
    show lookupM (List.foldl applyM [(pA, fA)] [cT1]) pA = some ⟨false, 0⟩
    kernel_rfl
  | m + 2 =>
    refine ⟨1, fresh, ?_, rfl, .inr rfl⟩
    show lookupM (List.foldl applyM [(pA, fA)] (List.take (m + 2) [cT1, cR1])) pA = _
    rw [List.take_of_length_le (by simp)]; kernel_rfl
theorem either10 : Either old fresh (dr10 old fresh down ops f done) := fun m => by
  refine ⟨1, fresh, ?_, rfl, .inr rfl⟩
  show lookupM (List.foldl applyM [(pA, nT)] (List.take m [])) pA = _
  rw [List.take_nil]
  kernel_rfl
end

/-- The calls on "t", as the law makes them. -/
def goSafe (D : PD) (n : Nat) : Bool := ((safeR D pT : Int) == (n : Int)) && !D.down
def wroteD (fresh : List UInt8) (D : PD) : PD := (syncR (appendR (putR D pT false).1 pT fresh).1 pT).1
def endD (D : PD) : PD := (syncDirsR (renameR D pT pA).1).1

theorem withR_down {D D' : PD} {p : ByteArray} {e : Int} (h : D.down = true) : (withR D p e D').1 = D := by
  unfold withR
  rw [if_pos (by rw [h]; show (11 : Int) ≠ 0; decide)]
theorem put_ok (old : List UInt8) (ops : Int) {f : Int} (done : Bool) (hf : f ≠ 0) : putR (dr5 old false ops f done) pT false = (dr6 old [] 0 false (ops + 1) (ticked f) done, 0) := by
  have h1 : stepDoes (dr5 old false ops f done) = true := if_neg hf
  have h2 : stepE (dr5 old false ops f done) = 0 := if_neg hf
  have h3 : stepD (dr5 old false ops f done) = dr5 old false (ops + 1) (ticked f) done := if_neg hf
  unfold putR
  rw [h1, h2, h3]
  show (_ : PD × Int) = _
  kernel_rfl
theorem put_no (old : List UInt8) (ops : Int) : (putR (dr5 old false ops 0 false) pT false).1 = dr5 old true (ops + 1) (-1) false := by kernel_rfl
theorem put_yes (old : List UInt8) (ops : Int) : (putR (dr5 old false ops 0 true) pT false).1 = dr6 old [] 0 true (ops + 1) (-1) true := by kernel_rfl
theorem append_is {old fresh : List UInt8} (ho : old.length ≤ 500) (hfr : fresh.length ≤ 500) (ops f : Int) (done : Bool) :
    appendR (dr6 old [] 0 false ops f done) pT fresh = (if stepDoes (dr6 old [] 0 false ops f done) then (stepD (dr6 old [] 0 false ops f done)).setFile pT ⟨fresh, 0⟩ else stepD (dr6 old [] 0 false ops f done), stepE (dr6 old [] 0 false ops f done)) := by
  have h3 : appendE (dr6 old [] 0 false ops f done) fresh.length = 0 := by
    unfold appendE
    have : usedN (dr6 old [] 0 false ops f done) = old.length + (0 + 0) := by kernel_rfl
    rw [this, if_neg]
    show ¬ ((10000 : Int) - ((old.length + (0 + 0) : Nat) : Int) < _)
    omega
  unfold appendR
  rw [withR_go (by show askedE false [pT] = 0; kernel_rfl) (by show fileE [(pA, fA), (pT, nT)] pT = 0; kernel_rfl) h3]
  rfl
theorem append_ok {old fresh : List UInt8} (ho : old.length ≤ 500) (hfr : fresh.length ≤ 500) (ops : Int) {f : Int} (done : Bool) (hf : f ≠ 0) : appendR (dr6 old [] 0 false ops f done) pT fresh = (dr6 old fresh 0 false (ops + 1) (ticked f) done, 0) := by
  have h1 : stepDoes (dr6 old [] 0 false ops f done) = true := if_neg hf
  have h2 : stepE (dr6 old [] 0 false ops f done) = 0 := if_neg hf
  have h3 : stepD (dr6 old [] 0 false ops f done) = dr6 old [] 0 false (ops + 1) (ticked f) done := if_neg hf
  rw [append_is ho hfr, h1, h2, h3]
  show (_ : PD × Int) = _
  kernel_rfl
theorem append_no {old fresh : List UInt8} (ho : old.length ≤ 500) (hfr : fresh.length ≤ 500) (ops : Int) : (appendR (dr6 old [] 0 false ops 0 false) pT fresh).1 = dr6 old [] 0 true (ops + 1) (-1) false := by
  rw [append_is ho hfr]; kernel_rfl
theorem append_yes {old fresh : List UInt8} (ho : old.length ≤ 500) (hfr : fresh.length ≤ 500) (ops : Int) : (appendR (dr6 old [] 0 false ops 0 true) pT fresh).1 = dr6 old fresh 0 true (ops + 1) (-1) true := by
  rw [append_is ho hfr]; kernel_rfl
theorem sync_is (old fresh : List UInt8) (ops f : Int) (done : Bool) : syncR (dr6 old fresh 0 false ops f done) pT = (if stepDoes (dr6 old fresh 0 false ops f done) then (stepD (dr6 old fresh 0 false ops f done)).setFile pT ⟨fresh, fresh.length⟩ else stepD (dr6 old fresh 0 false ops f done), stepE (dr6 old fresh 0 false ops f done)) := by
  unfold syncR
  rw [withR_go (by show askedE false [pT] = 0; kernel_rfl) (by show fileE [(pA, fA), (pT, nT)] pT = 0; kernel_rfl) rfl]
  rfl
theorem sync_ok (old fresh : List UInt8) (ops : Int) {f : Int} (done : Bool) (hf : f ≠ 0) : syncR (dr6 old fresh 0 false ops f done) pT = (dr6 old fresh fresh.length false (ops + 1) (ticked f) done, 0) := by
  have h1 : stepDoes (dr6 old fresh 0 false ops f done) = true := if_neg hf
  have h2 : stepE (dr6 old fresh 0 false ops f done) = 0 := if_neg hf
  have h3 : stepD (dr6 old fresh 0 false ops f done) = dr6 old fresh 0 false (ops + 1) (ticked f) done := if_neg hf
  rw [sync_is, h1, h2, h3]
  show (_ : PD × Int) = _
  kernel_rfl
theorem sync_no (old fresh : List UInt8) (ops : Int) : (syncR (dr6 old fresh 0 false ops 0 false) pT).1 = dr6 old fresh 0 true (ops + 1) (-1) false := by rw [sync_is]; kernel_rfl
theorem sync_yes (old fresh : List UInt8) (ops : Int) : (syncR (dr6 old fresh 0 false ops 0 true) pT).1 = dr6 old fresh fresh.length true (ops + 1) (-1) true := by rw [sync_is]; kernel_rfl
theorem rename_ok (old fresh : List UInt8) (ops : Int) {f : Int} (done : Bool) (hf : f ≠ 0) : renameR (dr6 old fresh fresh.length false ops f done) pT pA = (dr9 old fresh false (ops + 1) (ticked f) done, 0) := by
  have h1 : stepDoes (dr6 old fresh fresh.length false ops f done) = true := if_neg hf
  have h2 : stepE (dr6 old fresh fresh.length false ops f done) = 0 := if_neg hf
  have h3 : stepD (dr6 old fresh fresh.length false ops f done) = dr6 old fresh fresh.length false (ops + 1) (ticked f) done := if_neg hf
  unfold renameR
  rw [h1, h2, h3]
  show (_ : PD × Int) = _
  kernel_rfl
theorem rename_no (old fresh : List UInt8) (ops : Int) : (renameR (dr6 old fresh fresh.length false ops 0 false) pT pA).1 = dr6 old fresh fresh.length true (ops + 1) (-1) false := by kernel_rfl
theorem rename_yes (old fresh : List UInt8) (ops : Int) : (renameR (dr6 old fresh fresh.length false ops 0 true) pT pA).1 = dr9 old fresh true (ops + 1) (-1) true := by kernel_rfl
theorem dirs_ok (old fresh : List UInt8) (ops : Int) {f : Int} (done : Bool) (hf : f ≠ 0) : syncDirsR (dr9 old fresh false ops f done) = (dr10 old fresh false (ops + 1) (ticked f) done, 0) := by
  have h1 : stepDoes (dr9 old fresh false ops f done) = true := if_neg hf
  have h2 : stepE (dr9 old fresh false ops f done) = 0 := if_neg hf
  have h3 : stepD (dr9 old fresh false ops f done) = dr9 old fresh false (ops + 1) (ticked f) done := if_neg hf
  unfold syncDirsR
  rw [h1, h2, h3]
  rfl
theorem dirs_no (old fresh : List UInt8) (ops : Int) : (syncDirsR (dr9 old fresh false ops 0 false)).1 = dr9 old fresh true (ops + 1) (-1) false := by kernel_rfl
theorem dirs_yes (old fresh : List UInt8) (ops : Int) : (syncDirsR (dr9 old fresh false ops 0 true)).1 = dr10 old fresh true (ops + 1) (-1) true := by kernel_rfl
theorem syncDirs_down {D : PD} (h : D.down = true) : (syncDirsR D).1 = D := by unfold syncDirsR; rw [if_pos h]

theorem goSafe_down {D : PD} (h : D.down = true) (n : Nat) : goSafe D n = false := by unfold goSafe; rw [h]; simp
theorem tail4 (old fresh : List UInt8) (ops k : Int) (done : Bool) : Either old fresh (syncDirsR (dr9 old fresh false ops k done)).1 := by
  by_cases k0 : k = 0
  · subst k0
    cases done with
    | false => rw [dirs_no]; exact either9
    | true => rw [dirs_yes]; exact either10
  · rw [dirs_ok _ _ _ _ k0]; exact either10
theorem tail3 (old fresh : List UInt8) (ops k : Int) (done : Bool) : Either old fresh (endD (dr6 old fresh fresh.length false ops k done)) := by
  unfold endD
  by_cases k0 : k = 0
  · subst k0
    cases done with
    | false => rw [rename_no, syncDirs_down rfl]; exact either6
    | true => rw [rename_yes, syncDirs_down rfl]; exact either9
  · rw [rename_ok _ _ _ _ k0]; exact tail4 _ _ _ _ _
theorem tail2 (old fresh : List UInt8) (ops k : Int) (done : Bool) :
    Either old fresh (syncR (dr6 old fresh 0 false ops k done) pT).1 ∧ (goSafe (syncR (dr6 old fresh 0 false ops k done) pT).1 fresh.length = true → Either old fresh (endD (syncR (dr6 old fresh 0 false ops k done) pT).1)) := by
  by_cases k0 : k = 0
  · subst k0
    cases done with
    | false => rw [sync_no]; exact ⟨either6, fun h => by rw [goSafe_down (by rfl)] at h; cases h⟩
    | true => rw [sync_yes]; exact ⟨either6, fun h => by rw [goSafe_down (by rfl)] at h; cases h⟩
  · rw [sync_ok _ _ _ _ k0]; exact ⟨either6, fun _ => tail3 _ _ _ _ _⟩
theorem sync_down {D : PD} {p : ByteArray} (h : D.down = true) : (syncR D p).1 = D := withR_down h
theorem append_down {D : PD} {p : ByteArray} {b : List UInt8} (h : D.down = true) : (appendR D p b).1 = D := withR_down h
theorem tail1 {old fresh : List UInt8} (ho : old.length ≤ 500) (hfr : fresh.length ≤ 500) (ops k : Int) (done : Bool) :
    Either old fresh (syncR (appendR (dr6 old [] 0 false ops k done) pT fresh).1 pT).1 ∧ (goSafe (syncR (appendR (dr6 old [] 0 false ops k done) pT fresh).1 pT).1 fresh.length = true → Either old fresh (endD (syncR (appendR (dr6 old [] 0 false ops k done) pT fresh).1 pT).1)) := by
  by_cases k0 : k = 0
  · subst k0
    cases done with
    | false => rw [append_no ho hfr, sync_down rfl]; exact ⟨either6, fun h => by rw [goSafe_down (by rfl)] at h; cases h⟩
    | true => rw [append_yes ho hfr, sync_down rfl]; exact ⟨either6, fun h => by rw [goSafe_down (by rfl)] at h; cases h⟩
  · rw [append_ok ho hfr _ _ k0]; exact tail2 _ _ _ _ _
/-- Ahead of the crash. -/
theorem either_end {old fresh : List UInt8} (ho : old.length ≤ 500) (hfr : fresh.length ≤ 500) (ops k : Int) (done : Bool) :
    Either old fresh (wroteD fresh (dr5 old false ops k done)) ∧ (goSafe (wroteD fresh (dr5 old false ops k done)) fresh.length = true → Either old fresh (endD (wroteD fresh (dr5 old false ops k done)))) := by
  unfold wroteD
  by_cases k0 : k = 0
  · subst k0
    cases done with
    | false => rw [put_no, append_down rfl, sync_down rfl]; exact ⟨either5, fun h => by rw [goSafe_down (by rfl)] at h; cases h⟩
    | true => rw [put_yes, append_down rfl, sync_down rfl]; exact ⟨either6, fun h => by rw [goSafe_down (by rfl)] at h; cases h⟩
  · rw [put_ok _ _ _ k0]; exact tail1 ho hfr _ _ _
theorem fail_is (old : List UInt8) {k : Int} (h0 : 0 ≤ k) (done : Bool) : failR (dr4 old) k done = (dr5 old false 4 k done, 0) := by
  unfold failR
  rw [if_neg (by show ¬ (false = true); simp), if_neg (by omega)]
  rfl
end Go.Proofs.YtihojcjijbidpaaDoor
