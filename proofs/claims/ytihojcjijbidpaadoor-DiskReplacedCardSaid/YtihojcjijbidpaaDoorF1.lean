/- What every call on a disk keeps: the calls. -/
import Derived.Test.YtihojcjijbidpaaDoorF0
namespace Go.Proofs.YtihojcjijbidpaaDoor
open Go.RowKit Go.Shelf Go.Sort

section
variable {n b : Nat} {D : PD}
theorem ticked_range {x : Int} (h0 : -1 ≤ x) (h1 : x ≤ 9223372036854775807) : -1 ≤ ticked x ∧ ticked x ≤ 9223372036854775807 := by unfold ticked; split <;> omega
theorem PD.Inv.step (h : D.Inv n b) : (stepD D).Inv (n + 1) b := by
  have t1 := ticked_range h.fails0 h.fails1
  have t2 := ticked_range h.wrong0 h.wrong1
  have : ∀ q : Bool, PD.Inv (n + 1) b { D.stepped with down := q } := fun q =>
    ⟨h.cap, by have := h.ops0; show (0 : Int) ≤ D.ops + 1; omega, by have := h.ops1; show D.ops + 1 ≤ ((n + 1 : Nat) : Int); omega, t1.1, t1.2, t2.1, t2.2, h.nowEq, by have := h.pot; show D.sure.length + 2 * D.loose.length ≤ _; omega, by have := h.files; show D.files.length ≤ _; omega, h.bytes, h.sure, h.loose⟩
  unfold stepD
  split
  · exact this true
  · exact this D.down
theorem stepD_loose (D : PD) : (stepD D).loose = D.loose := by unfold stepD PD.stepped; split <;> rfl
theorem stepD_sure (D : PD) : (stepD D).sure = D.sure := by unfold stepD PD.stepped; split <;> rfl

/-- Names change. -/
theorem PD.Inv.change (h : D.Inv n b) {c : Change} (hc : GoodChange D.files.length c) (hp : D.sure.length + 2 * D.loose.length + 2 ≤ 2 * n) : (D.changed c).Inv n b := by
  refine ⟨h.cap, h.ops0, h.ops1, h.fails0, h.fails1, h.wrong0, h.wrong1, ?_, ?_, h.files, h.bytes, h.sure, ?_⟩
  · show applyM D.now c = (D.loose ++ [c]).foldl applyM D.sure
    rw [List.foldl_append, ← h.nowEq]; rfl
  · show D.sure.length + 2 * (D.loose ++ [c]).length ≤ _
    simp; omega
  · intro c' h'
    rcases List.mem_append.1 h' with q | q
    · exact h.loose c' q
    · rw [List.mem_singleton.1 q]; exact hc
/-- A file comes. -/
theorem PD.Inv.newFile (h : D.Inv n b) (hf : D.files.length + 1 ≤ n) : ({ D with files := D.files ++ [⟨[], 0⟩] } : PD).Inv n b := by
  have hl : D.files.length ≤ (D.files ++ [(⟨[], 0⟩ : PFile)]).length := by simp
  refine ⟨h.cap, h.ops0, h.ops1, h.fails0, h.fails1, h.wrong0, h.wrong1, h.nowEq, h.pot, by simp; exact hf, fun f q => ?_, fun q hq => ⟨(h.sure q hq).1, (h.sure q hq).2.mono hl⟩, fun c hc => ⟨(h.loose c hc).1, fun q hq => ⟨((h.loose c hc).2 q hq).1, fun x e => (((h.loose c hc).2 q hq).2 x e).mono hl⟩⟩⟩
  rcases List.mem_append.1 q with q | q
  · exact h.bytes f q
  · rw [List.mem_singleton.1 q]; simp
/-- A file's bytes change. -/
theorem PD.Inv.file (h : D.Inv n b) (p : ByteArray) {f : PFile} (hf : f.b.length ≤ b ∧ f.safe ≤ f.b.length) : (D.setFile p f).Inv n b := by
  refine ⟨h.cap, h.ops0, h.ops1, h.fails0, h.fails1, h.wrong0, h.wrong1, h.nowEq, h.pot, by simp [PD.setFile]; exact h.files, fun g q => ?_, by simp only [PD.setFile, List.length_set]; exact h.sure, by simp only [PD.setFile, List.length_set]; exact h.loose⟩
  rcases List.mem_or_eq_of_mem_set q with q | rfl
  · exact h.bytes g q
  · exact hf
theorem PD.Inv.fileOf (h : D.Inv n b) (p : ByteArray) : (fileOf D p).b.length ≤ b ∧ (fileOf D p).safe ≤ (fileOf D p).b.length := by
  unfold Proofs.YtihojcjijbidpaaDoor.fileOf
  by_cases hi : fileId D p < D.files.length
  · rw [← List.getElem_eq_getD (h := hi)]; exact h.bytes _ (List.getElem_mem _)
  · have : D.files.getD (fileId D p) ⟨[], 0⟩ = ⟨[], 0⟩ := by simp [List.getD, List.getElem?_eq_none (show D.files.length ≤ fileId D p by omega)]
    rw [this]; simp
theorem fileOf_step (D : PD) (p : ByteArray) : fileOf (stepD D) p = fileOf D p := by unfold fileOf fileId; rw [stepD_files, stepD_now]

theorem asked_ok {down : Bool} {ps : List ByteArray} (h : askedE down ps = 0) : ∀ p ∈ ps, checkB p = 0 := by
  induction ps with
  | nil => intro p hp; cases hp
  | cons q ps ih =>
    intro p hp
    unfold askedE at h
    split at h
    · cases h
    · split at h
      · rename_i e
        rcases List.mem_cons.1 hp with rfl | hp
        · exact e
        · exact ih h p hp
      · rename_i e; exact absurd h e

theorem putR_inv (h : D.Inv n b) (p : ByteArray) (dir : Bool) : (putR D p dir).1.Inv (n + 1) b := by
  unfold putR
  split
  · exact h.mono (by omega) (Nat.le_refl _)
  · rename_i ha
    have ha' : askedE D.down [p] = 0 := by simpa using ha
    have hp := asked_ok ha' p (by simp)
    split
    · exact h.mono (by omega) (Nat.le_refl _)
    split
    · exact h.mono (by omega) (Nat.le_refl _)
    show PD.Inv (n + 1) b (if stepDoes D then putD (stepD D) p dir else stepD D)
    split
    · have hs := h.step
      have hpot := h.pot
      have hfl := h.files
      cases dir with
      | true =>
        refine hs.change (c := [(p, some ⟨true, 0⟩)]) ⟨by simp, fun q hq => ?_⟩ (by rw [stepD_loose, stepD_sure]; omega)
        rw [List.mem_singleton.1 hq]
        exact ⟨hp, fun x e => by cases e; exact ⟨fun _ => rfl, fun e => by cases e⟩⟩
      | false =>
        have h2 := hs.newFile (by rw [stepD_files]; omega)
        refine h2.change (c := [(p, some ⟨false, (stepD D).files.length⟩)]) ⟨by simp, fun q hq => ?_⟩ (by show (stepD D).sure.length + 2 * (stepD D).loose.length + 2 ≤ _; rw [stepD_loose, stepD_sure]; omega)
        rw [List.mem_singleton.1 hq]
        refine ⟨hp, fun x e => ?_⟩
        cases e
        refine ⟨fun e => ?_, fun _ => ?_⟩
        · cases e
        · show (stepD D).files.length < ((stepD D).files ++ [(⟨[], 0⟩ : PFile)]).length
          simp
    · exact h.step

theorem withR_inv (h : D.Inv n b) (p : ByteArray) (e : Int) {D' : PD} {b' : Nat} (hb : b ≤ b') (h' : askedE D.down [p] = 0 → fileE D.now p = 0 → e = 0 → D'.Inv (n + 1) b') : (withR D p e D').1.Inv (n + 1) b' := by
  unfold withR
  split
  · exact h.mono (by omega) hb
  split
  · exact h.mono (by omega) hb
  split
  · exact h.mono (by omega) hb
  rename_i h1 h2 h3
  show PD.Inv (n + 1) b' (if stepDoes D then D' else stepD D)
  split
  · exact h' (by simpa using h1) (by simpa using h2) (by simpa using h3)
  · exact h.step.mono (Nat.le_refl _) hb
theorem syncR_inv (h : D.Inv n b) (p : ByteArray) : (syncR D p).1.Inv (n + 1) b :=
  withR_inv h p 0 (Nat.le_refl _) fun _ _ _ => h.step.file p ⟨(h.fileOf p).1, Nat.le_refl _⟩
theorem cutR_inv (h : D.Inv n b) (p : ByteArray) (k : Int) : (cutR D p k).1.Inv (n + 1) b :=
  withR_inv h p _ (Nat.le_refl _) fun _ _ _ => h.step.file p ⟨by have := (h.fileOf p).1; simp; omega, by have := (h.fileOf p).2; simp; omega⟩
theorem appendR_inv (h : D.Inv n b) (p : ByteArray) (l : List UInt8) : (appendR D p l).1.Inv (n + 1) (b + l.length) :=
  withR_inv h p _ (by omega) fun _ _ _ => (h.step.mono (Nat.le_refl _) (by omega)).file p ⟨by have := (h.fileOf p).1; simp; omega, by have := (h.fileOf p).2; simp; omega⟩
theorem syncDirsR_inv (h : D.Inv n b) : (syncDirsR D).1.Inv (n + 1) b := by
  unfold syncDirsR
  split
  · exact h.mono (by omega) (Nat.le_refl _)
  show PD.Inv (n + 1) b (if stepDoes D then syncDirsD (stepD D) else stepD D)
  split
  · have hs := h.step
    have hl := h.nowLen
    refine ⟨hs.cap, hs.ops0, hs.ops1, hs.fails0, hs.fails1, hs.wrong0, hs.wrong1, rfl, ?_, hs.files, hs.bytes, hs.now, fun c hc => absurd hc List.not_mem_nil⟩
    show (stepD D).now.length + 2 * 0 ≤ _
    rw [stepD_now]; omega
  · exact h.step
theorem failR_inv (h : D.Inv n b) (k : Int) (done : Bool) (hk : k ≤ 9223372036854775807) : (failR D k done).1.Inv (n + 1) b := by
  unfold failR
  split
  · exact h.mono (by omega) (Nat.le_refl _)
  split
  · exact h.mono (by omega) (Nat.le_refl _)
  · have := h.mono (show n ≤ n + 1 by omega) (Nat.le_refl b)
    exact ⟨this.cap, this.ops0, this.ops1, by show -1 ≤ k; omega, hk, this.wrong0, this.wrong1, this.nowEq, this.pot, this.files, this.bytes, this.sure, this.loose⟩
theorem faultR_inv (h : D.Inv n b) (k : Int) (hk : k ≤ 9223372036854775807) : (faultR D k).1.Inv (n + 1) b := by
  unfold faultR
  split
  · exact h.mono (by omega) (Nat.le_refl _)
  split
  · exact h.mono (by omega) (Nat.le_refl _)
  · have := h.mono (show n ≤ n + 1 by omega) (Nat.le_refl b)
    exact ⟨this.cap, this.ops0, this.ops1, this.fails0, this.fails1, by show -1 ≤ k; omega, hk, this.nowEq, this.pot, this.files, this.bytes, this.sure, this.loose⟩
theorem renameR_inv (h : D.Inv n b) (p q : ByteArray) : (renameR D p q).1.Inv (n + 1) b := by
  unfold renameR
  split
  · exact h.mono (by omega) (Nat.le_refl _)
  rename_i ha
  have ha' : askedE D.down [p, q] = 0 := by simpa using ha
  split
  · exact h.mono (by omega) (Nat.le_refl _)
  rename_i hf
  obtain ⟨id, hl⟩ := fileE_zero (show fileE D.now p = 0 by simpa using hf)
  split
  · exact h.mono (by omega) (Nat.le_refl _)
  split
  · exact h.mono (by omega) (Nat.le_refl _)
  show PD.Inv (n + 1) b (if stepDoes D then (stepD D).changed [(p, none), (q, some (ndOf D p))] else stepD D)
  split
  · have hpot := h.pot
    have hn : ndOf D p = ⟨false, id⟩ := by unfold ndOf; rw [hl]; rfl
    have hgd := (h.now _ (lookupM_mem hl)).2
    refine h.step.change ⟨by simp, fun r hr => ?_⟩ (by rw [stepD_loose, stepD_sure]; omega)
    rcases List.mem_cons.1 hr with rfl | hr
    · exact ⟨asked_ok ha' p (by simp), fun x e => by cases e⟩
    · rw [List.mem_singleton.1 hr]
      exact ⟨asked_ok ha' q (by simp), fun x e => by cases e; rw [hn, stepD_files]; exact hgd⟩
  · exact h.step
theorem crashN_inv (h : D.Inv n b) (count : Int) : (crashN D count).Inv n b := by
  have hg : GoodNames D.files.length (crashNames D (crashM D count)) := h.sure.fold (fun c hc => h.loose c (List.mem_of_mem_take hc))
  have hl : (crashNames D (crashM D count)).length ≤ D.sure.length + 2 * (D.loose.take (crashM D count)).length := length_fold (fun c hc => h.loose c (List.mem_of_mem_take hc))
  have hp := h.pot
  refine ⟨h.cap, h.ops0, h.ops1, h.fails0, h.fails1, h.wrong0, h.wrong1, rfl, ?_, h.files, h.bytes, hg, fun c hc => absurd hc List.not_mem_nil⟩
  show (crashNames D (crashM D count)).length + 2 * 0 ≤ 2 * n
  simp only [List.length_take] at hl
  omega

def FilesLe (k b : Nat) (fs : List PFile) : Prop := fs.length = k ∧ ∀ f ∈ fs, f.b.length ≤ b ∧ f.safe ≤ f.b.length
theorem crashF_le {b : Nat} (f : PFile) (keep : List UInt8) (h : f.b.length ≤ b ∧ f.safe ≤ f.b.length) : (crashF f keep).1.b.length ≤ b ∧ (crashF f keep).1.safe ≤ (crashF f keep).1.b.length := by
  unfold crashF
  split
  · have : (keep.headD 0).toNat % (f.b.length - f.safe + 1) < f.b.length - f.safe + 1 := Nat.mod_lt _ (by omega)
    simp only [List.length_take]
    omega
  · simp only [List.length_take]; omega
theorem crash1_le {k b : Nat} {now : Names} {s : List PFile × List UInt8} (p : ByteArray) (h : FilesLe k b s.1) : FilesLe k b (crash1 now s p).1 := by
  unfold crash1
  split
  · refine ⟨by simp [h.1], fun f hf => ?_⟩
    rcases List.mem_or_eq_of_mem_set hf with q | rfl
    · exact h.2 f q
    · refine crashF_le _ _ ?_
      by_cases hi : ((lookupM now p).getD zNd).id < s.1.length
      · rw [← List.getElem_eq_getD (h := hi)]; exact h.2 _ (List.getElem_mem _)
      · have : s.1.getD ((lookupM now p).getD zNd).id ⟨[], 0⟩ = ⟨[], 0⟩ := by simp [List.getD, List.getElem?_eq_none (show s.1.length ≤ ((lookupM now p).getD zNd).id by omega)]
        rw [this]; simp
  · exact h
theorem crash_le {k b : Nat} {now : Names} (ps : List ByteArray) : ∀ {s : List PFile × List UInt8}, FilesLe k b s.1 → FilesLe k b (ps.foldl (crash1 now) s).1 := by
  induction ps with
  | nil => exact fun h => h
  | cons p ps ih => exact fun h => ih (crash1_le p h)
theorem crashR_inv (h : D.Inv n b) (count : Int) (keep : List UInt8) : (crashR D count keep).Inv n b := by
  have hn := crashN_inv h count
  have hf : FilesLe D.files.length b ((pathsB (crashN D count)).foldl (crash1 (crashN D count).now) (D.files, keep)).1 := crash_le _ ⟨rfl, h.bytes⟩
  refine ⟨hn.cap, hn.ops0, hn.ops1, by show (-1 : Int) ≤ -1; omega, by show (-1 : Int) ≤ _; omega, by show (-1 : Int) ≤ -1; omega, by show (-1 : Int) ≤ _; omega, hn.nowEq, hn.pot, ?_, hf.2, ?_, fun c hc => absurd hc List.not_mem_nil⟩
  · exact Nat.le_trans (Nat.le_of_eq hf.1) h.files
  · have e : (crashR D count keep).files.length = D.files.length := hf.1
    rw [e]; exact hn.sure
end
end Go.Proofs.YtihojcjijbidpaaDoor
