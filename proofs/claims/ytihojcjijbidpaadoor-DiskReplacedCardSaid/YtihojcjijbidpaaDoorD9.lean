/- A file of the disk; the walk of with. -/
import Derived.Test.YtihojcjijbidpaaDoorD8
import Derived.Laws.EntriesVeiled
namespace Go.Proofs.YtihojcjijbidpaaDoor
open Go.RowKit Go.Shelf Go.Sort

section
variable {w : World} {bd bs bn : Nat} {vl vf : Value} {D : PD} {M : Nat → Prop}

/-- Where a file of a disk lies. -/
structure FileAt (w : World) (vf : Value) (D : PD) (M : Nat → Prop) (id g cap : Nat) (vb : Value) : Prop where
  slice : vf = .slice (some ⟨g, 0, none⟩) D.files.length cap
  lt : id < D.files.length
  cellB : w.cell? ⟨g, id * 2, none⟩ = some vb
  cellS : w.cell? ⟨g, id * 2 + 1, none⟩ = some (.int .i64 ((D.files.getD id ⟨[], 0⟩).safe : Int))
  free : ∀ i, w.frozen? ⟨g, i, none⟩ = false
  bytes : BytesAt w M vb (D.files.getD id ⟨[], 0⟩).b
  glt : g < w.heap.size

theorem DiskAt.fileAt (h : DiskAt w bd bs bn vl vf D M) {id : Nat} (hid : id < D.files.length) : ∃ g cap vb, FileAt w vf D M id g cap vb := by
  obtain ⟨vs, f1, f2⟩ := h.files
  obtain ⟨vb, e1, e2, e3⟩ := f2.2 id hid
  obtain ⟨g, cap, cur, hvf, _, q2, q3, _, q5, q6⟩ : ∃ g cap cur, vf = .slice (some ⟨g, 0, none⟩) D.files.length cap ∧ 0 ≤ g ∧ w.heap[g]? = some (.cells cur 54 (0, 0)) ∧ D.files.length ≤ cap ∧ cap ≤ maxLen ∧ cur.size = cap * 2 ∧ cur.toList.take (D.files.length * 2) = vs := by
    rcases f1.2 with ⟨_, q⟩ | q
    · omega
    · exact q
  have hc : ∀ j u, vs[j]? = some u → w.cell? ⟨g, j, none⟩ = some u := fun j u hj => by
    rw [← q6, List.getElem?_take] at hj
    split at hj
    · simp [World.cell?, q2]; simpa using hj
    · cases hj
  have hget : D.files.getD id ⟨[], 0⟩ = D.files[id] := by simp [List.getD, hid]
  exact ⟨g, cap, vb, hvf, hid, hc _ _ e1, by rw [hget]; exact hc _ _ e2, fun i => by simp [World.frozen?, q2], by rw [hget]; exact e3, (Array.getElem?_eq_some_iff.1 q2).1⟩

theorem BytesAt.slice {w : World} {vb : Value} {l : List UInt8} (h : BytesAt w M vb l) : ∃ av cv, vb = .slice av l.length cv := by
  rcases h with ⟨a, c, q, q', _⟩ | ⟨b, o, c, q, _⟩
  · exact ⟨a, c, by rw [q, q']; rfl⟩
  · exact ⟨_, _, q⟩

/-- A file's two cells, stored. -/
theorem DiskAt.fileTo (h : DiskAt w bd bs bn vl vf D M) {id g cap : Nat} {vb vb' : Value} {l : List UInt8} {s : Nat} (hf : FileAt w vf D M id g cap vb) {w2 : World} {cur' : Array Value}
    (hs : w.grownBy w2 (some g)) (hc : ∃ cur, w.heap[g]? = some (.cells cur 54 (0, 0)) ∧ cur' = (cur.setIfInBounds (id * 2) vb').setIfInBounds (id * 2 + 1) (.int .i64 (s : Int))) (hw : w2.heap[g]? = some (.cells cur' 54 (0, 0)))
    (hb : BytesAt w2 M vb' l) : DiskAt w2 bd bs bn vl vf { D with files := D.files.set id ⟨l, s⟩ } M ∧ Goes (Own bd bn vf) M M w w2 := by
  have hown : vf.ownBlock = some g := by rw [hf.slice]; rfl
  have hgm := h.filesM g hown
  have hG : Goes (fun k => k = g) M M w w2 := goes_grown M hs (fun k e => by cases e; rfl)
  have hO : ∀ k, k = g → M k := fun k e => e ▸ hgm.1
  obtain ⟨vs, f1, f2⟩ := h.files
  obtain ⟨cur0, hcur0, hcur'⟩ := hc
  rcases f1.2 with ⟨_, q⟩ | ⟨g2, cap2, cur, e0, _, q2, q3, q4, q5, q6⟩
  · have := hf.lt; omega
  have e1 := hf.slice
  rw [e1] at e0
  simp only [Value.slice.injEq, Option.some.injEq, Addr.mk.injEq, and_true, true_and] at e0
  obtain ⟨rfl, rfl⟩ := e0
  rw [hcur0] at q2
  simp only [Option.some.injEq, Obj.cells.injEq, and_true] at q2
  subst q2
  refine ⟨⟨(hG.block bd h.lt (fun e => hgm.2.1 e.symm)).trans h.cells, h.sure.kept (hG.block bs h.sure.lt (fun q => h.sureM (hO _ q))), h.sureM, h.now.kept (hG.block bn h.now.lt (fun e => hgm.2.2 e.symm)), h.nowM, h.ne, h.dM, h.loose.goes hG hO, ?_, h.filesM, fun k q => Nat.lt_of_lt_of_le (h.mlt k q) hG.size⟩, hG.wide (fun k _ e => .inr (.inr (e ▸ hown)))⟩
  refine ⟨(vs.set (id * 2) vb').set (id * 2 + 1) (.int .i64 (s : Int)), ⟨by simpa using f1.1, .inr ⟨g, cap, cur', by simp [e1], Nat.zero_le _, hw, by simpa using q3, q4, by rw [hcur']; simpa using q5, ?_⟩⟩, by simpa using f2.1, fun i hi => ?_⟩
  · rw [hcur', ← q6]
    simp only [Array.toList_setIfInBounds, List.length_set]
    rw [List.take_set, List.take_set]
  · simp only [List.length_set] at hi
    obtain ⟨vbi, x1, x2, x3⟩ := f2.2 i hi
    have hlt := hf.lt
    have hvl := f2.1
    by_cases e : i = id
    · subst e
      refine ⟨vb', ?_, ?_, ?_⟩
      · rw [List.getElem?_set_ne (by omega), List.getElem?_set_self (by omega)]
      · rw [List.getElem?_set_self (by simp; omega)]; simp
      · simpa using hb
    · refine ⟨vbi, ?_, ?_, ?_⟩
      · rw [List.getElem?_set_ne (by omega), List.getElem?_set_ne (by omega)]; exact x1
      · rw [List.getElem?_set_ne (by omega), List.getElem?_set_ne (by omega), x2]; simp [List.getElem_set_ne (Ne.symm e)]
      · simp only [List.getElem_set_ne (Ne.symm e)]; exact x3.goes hG hO
end

theorem FileAt.goes {w w' : World} {vf : Value} {D D' : PD} {M M' O : Nat → Prop} {id g cap : Nat} {vb : Value} (h : FileAt w vf D M id g cap vb) (hg : Goes O M M' w w') (hO : ∀ k, O k → M k) (hn : ¬ O g) (hD : D'.files = D.files) : FileAt w' vf D' M' id g cap vb :=
  ⟨by rw [hD]; exact h.slice, by rw [hD]; exact h.lt, (hg.cell (a := ⟨g, _, none⟩) h.glt hn).trans h.cellB, by rw [hD]; exact (hg.cell (a := ⟨g, _, none⟩) h.glt hn).trans h.cellS, fun i => (hg.frozen (a := ⟨g, i, none⟩) h.glt hn).trans (h.free i),
    by rw [hD]; exact h.bytes.goes hg hO, Nat.lt_of_lt_of_le h.glt hg.size⟩

theorem with1_calls (b1 b2 fd : Nat) (cd : Array Value) (f : Value) (w : World) (eg : ∀ args w, (callFunc fd args).run Tryd.prog w = .ok (.enter fd args) w) (h1 : w.cell? ⟨b1, 0, none⟩ = some (.func (.func fd) #[] cd)) (h2 : w.cell? ⟨b2, 0, none⟩ = some f) (R : World → Prop)
    (hf : ∃ a, f = .pointer (some a)) (hd : Calls Tryd.prog fd (#[f] ++ cd) w fun e w' => e = .returned (.tuple #[]) ∧ R w') :
    Calls Tryd.prog 38 #[.pointer (some ⟨b1, 0, none⟩), .pointer (some ⟨b2, 0, none⟩)] w fun e w' => e = .returned (.tuple #[]) ∧ R w' := by
  obtain ⟨a, rfl⟩ := hf
  go_enter Tryd.func38, Tryd.ntmps38
  go_wp2_with fail
  refine hd.mono ?_
  rintro e w1 ⟨rfl, hR⟩
  have HR := Lib.hid hR
  clear hR hd
  go_wp2
  go_end0
  exact ⟨rfl, HR.out⟩
end Go.Proofs.YtihojcjijbidpaaDoor
