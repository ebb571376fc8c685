/- What a crash leaves. -/
import Derived.Test.YtihojcjijbidpaaDoorD28
namespace Go.Proofs.YtihojcjijbidpaaDoor
open Go.RowKit Go.Shelf Go.Sort

def crashM (D : PD) (count : Int) : Nat := (max 0 (min count D.loose.length)).toNat
def crashNames (D : PD) (k : Nat) : Names := (D.loose.take k).foldl applyM D.sure
/-- The names are as the power left them. -/
def crashN (D : PD) (count : Int) : PD := { D with now := crashNames D (crashM D count), sure := crashNames D (crashM D count), loose := [] }
def crashF (f : PFile) (keep : List UInt8) : PFile × List UInt8 :=
  if 0 < f.b.length - f.safe ∧ keep ≠ [] then
    (⟨f.b.take (f.safe + (keep.headD 0).toNat % (f.b.length - f.safe + 1)), f.safe + (keep.headD 0).toNat % (f.b.length - f.safe + 1)⟩, keep.tail)
  else (⟨f.b.take f.safe, f.safe⟩, keep)
def crash1 (now : Names) (s : List PFile × List UInt8) (p : ByteArray) : List PFile × List UInt8 :=
  if fileE now p = 0 then
    (s.1.set ((lookupM now p).getD zNd).id (crashF (s.1.getD ((lookupM now p).getD zNd).id ⟨[], 0⟩) s.2).1, (crashF (s.1.getD ((lookupM now p).getD zNd).id ⟨[], 0⟩) s.2).2)
  else s
def crashR (D : PD) (count : Int) (keep : List UInt8) : PD :=
  { crashN D count with files := ((pathsB (crashN D count)).foldl (crash1 (crashN D count).now) (D.files, keep)).1, down := false, done := false, fails := -1, wrong := -1 }

theorem crashNames_succ (D : PD) (k : Nat) (h : k < D.loose.length) : crashNames D (k + 1) = applyM (crashNames D k) D.loose[k] := by
  unfold crashNames
  rw [List.take_succ_eq_append_getElem h, List.foldl_append]
  rfl

def FilesOk (n : Nat) (fs : List PFile) : Prop := fs.length = n ∧ ∀ f ∈ fs, f.b.length ≤ 16777216 ∧ f.safe ≤ f.b.length
theorem FilesOk.get {n : Nat} {fs : List PFile} (h : FilesOk n fs) (i : Nat) : (fs.getD i ⟨[], 0⟩).b.length ≤ 16777216 ∧ (fs.getD i ⟨[], 0⟩).safe ≤ (fs.getD i ⟨[], 0⟩).b.length := by
  by_cases hi : i < fs.length
  · rw [← List.getElem_eq_getD (h := hi)]; exact h.2 _ (List.getElem_mem _)
  · have : fs.getD i ⟨[], 0⟩ = ⟨[], 0⟩ := by simp [List.getD, List.getElem?_eq_none (show fs.length ≤ i by omega)]
    rw [this]; simp
theorem crashF_ok (f : PFile) (keep : List UInt8) (h : f.b.length ≤ 16777216 ∧ f.safe ≤ f.b.length) : (crashF f keep).1.b.length ≤ 16777216 ∧ (crashF f keep).1.safe ≤ (crashF f keep).1.b.length := by
  unfold crashF
  split
  · have : (keep.headD 0).toNat % (f.b.length - f.safe + 1) < f.b.length - f.safe + 1 := Nat.mod_lt _ (by omega)
    simp only [List.length_take]
    omega
  · simp only [List.length_take]; omega
theorem crash1_ok {n : Nat} {now : Names} {s : List PFile × List UInt8} (p : ByteArray) (h : FilesOk n s.1) : FilesOk n (crash1 now s p).1 := by
  unfold crash1
  split
  · refine ⟨by simp [h.1], fun f hf => ?_⟩
    rcases List.mem_or_eq_of_mem_set hf with q | rfl
    · exact h.2 f q
    · exact crashF_ok _ _ (h.get _)
  · exact h
theorem crash_ok {n : Nat} {now : Names} (ps : List ByteArray) : ∀ {s : List PFile × List UInt8}, FilesOk n s.1 → FilesOk n (ps.foldl (crash1 now) s).1 := by
  induction ps with
  | nil => exact fun h => h
  | cons p ps ih => exact fun h => ih (crash1_ok p h)

section
variable {w : World} {bd bs bn : Nat} {vl vf : Value} {D : PD} {M : Nat → Prop}
/-- Another map of names is stored. -/
theorem DiskAt.nowNew (h : DiskAt w bd bs bn vl vf D M) {W : World} {b2 : Nat} {m : Names} (hb : Below w.heap.size w W) (hm : MapAt W b2 m) (hn : w.heap.size ≤ b2) :
    DiskAt (W.setCell ⟨bd, 2, none⟩ (.map (some b2))) bd bs b2 vl vf { D with now := m } (fun k => M k ∨ k = b2) ∧ Goes (Own bd bn vf) M (fun k => M k ∨ k = b2) w (W.setCell ⟨bd, 2, none⟩ (.map (some b2))) := by
  have hlt := h.lt
  have hne2 : b2 ≠ bd := by omega
  have hG : Goes (fun k => k = bd) M (fun k => M k ∨ k = b2) w (W.setCell ⟨bd, 2, none⟩ (.map (some b2))) := by
    refine ⟨hb.os, hb.tape, hb.output, by simpa using hb.size, fun k hk hne => (Below.heap_setCell _ _ _ _ hne).trans (hb.block k hk), fun k q => ?_, fun k q => .inl q⟩
    rcases q with q | q
    · exact .inl q
    · exact .inr ⟨by omega, by simpa [q] using hm.lt⟩
  have hO : ∀ k, k = bd → M k := fun k e => e ▸ h.dM
  obtain ⟨vs, f1, f2⟩ := h.files
  refine ⟨⟨?_, h.sure.kept (hG.block bs h.sure.lt (fun q => h.sureM (hO _ q))), ?_, hm.kept (Below.heap_setCell _ _ _ _ hne2), .inr rfl, fun e => hne2 e.symm, .inl h.dM, h.loose.goes hG hO, ⟨vs, ⟨f1.1, ?_⟩, f2.goes hG hO⟩, fun g q => ⟨.inl (h.filesM g q).1, (h.filesM g q).2.1, ?_⟩, fun k q => ?_⟩, hG.wide (fun _ _ e => .inl e)⟩
  · rw [heap_setCell_same ((hb.block bd hlt).trans h.cells)]
    rfl
  · rintro (q | q)
    · exact h.sureM q
    · have := h.sure.lt; omega
  · rcases f1.2 with q | ⟨g, cap, cur, rfl, q1, q2, q3⟩
    · exact .inl q
    · exact .inr ⟨g, cap, cur, rfl, q1, (hG.block g (Array.getElem?_eq_some_iff.1 q2).1 ((h.filesM g rfl).2.1)).trans q2, q3⟩
  · have := h.mlt g (h.filesM g q).1; omega
  · rcases q with q | q
    · exact Nat.lt_of_lt_of_le (h.mlt k q) hG.size
    · simpa [q] using hm.lt
end
end Go.Proofs.YtihojcjijbidpaaDoor
