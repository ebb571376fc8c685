/- rename, said of the disk. -/
import Derived.Test.YtihojcjijbidpaaDoorD3
import Derived.Test.YtihojcjijbidpaaDoorD4
namespace Go.Proofs.YtihojcjijbidpaaDoor
open Go.RowKit Go.Shelf Go.Sort

section
variable {w : World} {bd bs bn : Nat} {vl vf : Value} {D : PD} {M : Nat → Prop}

/-- Only the map of the names has changed. -/
theorem DiskAt.nowTo (h : DiskAt w bd bs bn vl vf D M) {w2 : World} {m : Names} (hg : w.grownBy w2 (some bn)) (hm : MapAt w2 bn m) : DiskAt w2 bd bs bn vl vf { D with now := m } M := by
  have hG : Goes (fun k => k = bn) M M w w2 := goes_grown M hg (fun k e => by cases e; rfl)
  have hO : ∀ k, k = bn → M k := fun k e => e ▸ h.nowM
  obtain ⟨vs, f1, f2⟩ := h.files
  refine ⟨(hG.block bd h.lt h.ne).trans h.cells, h.sure.kept (hG.block bs h.sure.lt (fun q => h.sureM (hO _ q))), h.sureM, hm, h.nowM, h.ne, h.dM, h.loose.goes hG hO, ⟨vs, ⟨f1.1, ?_⟩, f2.goes hG hO⟩, h.filesM, fun k q => Nat.lt_of_lt_of_le (h.mlt k q) hG.size⟩
  rcases f1.2 with q | ⟨g, cap, cur, rfl, q1, q2, q3⟩
  · exact .inl q
  · exact .inr ⟨g, cap, cur, rfl, q1, (hG.block g (Array.getElem?_eq_some_iff.1 q2).1 (h.filesM g rfl).2.2).trans q2, q3⟩

/-- Another list of loose changes is stored. -/
theorem DiskAt.looseTo (h : DiskAt w bd bs bn vl vf D M) {v : Value} {l : List Change} (hl : LooseAt w M v l) : DiskAt (w.setCell ⟨bd, 3, none⟩ v) bd bs bn v vf { D with loose := l } M := by
  have hG : Goes (fun k => k = bd) M M w (w.setCell ⟨bd, 3, none⟩ v) := goes_setCell M w ⟨bd, 3, none⟩ v rfl
  have hO : ∀ k, k = bd → M k := fun k e => e ▸ h.dM
  obtain ⟨vs, f1, f2⟩ := h.files
  refine ⟨?_, h.sure.kept (Below.heap_setCell _ _ _ _ (fun e => h.sureM (e ▸ h.dM))), h.sureM, h.now.kept (Below.heap_setCell _ _ _ _ h.ne.symm), h.nowM, h.ne, h.dM, hl.goes hG hO, ⟨vs, ⟨f1.1, ?_⟩, f2.goes hG hO⟩, h.filesM, fun k q => by simpa using h.mlt k q⟩
  · simp [World.setCell, Array.getElem?_modify, h.cells, diskCells]
  · rcases f1.2 with q | ⟨g, cap, cur, rfl, q1, q2, q3⟩
    · exact .inl q
    · exact .inr ⟨g, cap, cur, rfl, q1, (Below.heap_setCell _ _ _ _ ((h.filesM g rfl).2.1)).trans q2, q3⟩

/-- A new array of changes. -/
theorem loose_new {w w2 : World} {l : List Change} {c : Change} {vp vn v : Value} {olds : List Value} (hw : ∀ k, M k → k < w.heap.size) (ho : olds.length = l.length * 2)
    (hl : ∀ i (h : i < l.length), ∃ vp vn, olds[i * 2]? = some vp ∧ olds[i * 2 + 1]? = some vn ∧ ChangeAt w2 M vp vn l[i]) (hc : ChangeAt w2 M vp vn c)
    (hr : w2.ownsRow w.heap.size 69 2 v (l.length + 1) (olds ++ [vp, vn])) : LooseAt w2 M v (l ++ [c]) := by
  rcases hr.2 with ⟨_, q⟩ | ⟨g, cap, cur, rfl, q1, q2, q3, q4, q5, q6⟩
  · omega
  · refine .inr ⟨g, cap, by simp, by simpa using q3, (Array.getElem?_eq_some_iff.1 q2).1, fun q => by have := hw g q; omega, fun i hi => ?_⟩
    have hcell : ∀ j u, (olds ++ [vp, vn])[j]? = some u → w2.cell? ⟨g, j, none⟩ = some u := fun j u hj => by
      rw [← q6] at hj
      rw [List.getElem?_take] at hj
      split at hj
      · simp [World.cell?, q2]; simpa using hj
      · cases hj
    simp at hi
    by_cases e : i < l.length
    · obtain ⟨vp', vn', e1, e2, e3⟩ := hl i e
      refine ⟨vp', vn', hcell _ _ (by rw [List.getElem?_append_left (by omega)]; exact e1), hcell _ _ (by rw [List.getElem?_append_left (by omega)]; exact e2), ?_⟩
      rw [List.getElem_append_left e]; exact e3
    · obtain rfl : i = l.length := by omega
      refine ⟨vp, vn, hcell _ _ (by rw [List.getElem?_append_right (by omega)]; simp [ho]), hcell _ _ (by rw [List.getElem?_append_right (by omega)]; simp [ho]), ?_⟩
      simp; exact hc

theorem rename_calls (h : DiskAt w bd bs bn vl vf D M) {vp vn : Value} {c : Change} (hc : ChangeAt w M vp vn c) (hl : c.length ≤ 1000) (hll : D.loose.length ≤ 1000000) :
    Calls Tryd.prog 33 #[.pointer (some ⟨bd, 0, none⟩), .agg #[vp, vn]] w fun e w' => e = .returned (.tuple #[]) ∧
      ∃ vl', DiskAt w' bd bs bn vl' vf { D with now := applyM D.now c, loose := D.loose ++ [c] } M ∧ Goes (Own bd bn vf) M M w w' := by
  have fin : ∀ (olds : List Value) (e : Ending) (w' w2 : World) (v : Value), olds.length = D.loose.length * 2 →
      (∀ i (h : i < D.loose.length), ∃ vp vn, olds[i * 2]? = some vp ∧ olds[i * 2 + 1]? = some vn ∧ ChangeAt w M vp vn D.loose[i]) →
      MapAt w2 bn (applyM D.now c) → w.grownBy w2 (some bn) → w' = w2.setCell ⟨bd, 3, none⟩ v → w2.ownsRow w.heap.size 69 2 v (D.loose.length + 1) (olds ++ [vp, vn]) →
      ∃ vl', DiskAt w' bd bs bn vl' vf { D with now := applyM D.now c, loose := D.loose ++ [c] } M ∧ Goes (Own bd bn vf) M M w w' := by
    intro olds e w' w2 v ho hol hm hg hw hr
    have hG : Goes (fun k => k = bn) M M w w2 := goes_grown M hg (fun k e => by cases e; rfl)
    have hO : ∀ k, k = bn → M k := fun k e => e ▸ h.nowM
    have h2 := h.nowTo hg hm
    have hL : LooseAt w2 M v (D.loose ++ [c]) := loose_new h.mlt ho (fun i hi => by
      obtain ⟨a, b, e1, e2, e3⟩ := hol i hi
      exact ⟨a, b, e1, e2, e3.goes hG hO⟩) (hc.goes hG hO) hr
    subst hw
    exact ⟨v, h2.looseTo hL, (hG.wide (fun _ _ e => .inr (.inl e))).trans (goes_setCell (O := Own bd bn vf) M w2 ⟨bd, 3, none⟩ v (.inl rfl)) (fun _ _ q => q)⟩
  rcases h.loose with ⟨hv, hD⟩ | ⟨b, cap, hv, h1, h2, h3, h4⟩
  · have hx := h.looseC
    rw [hv] at hx
    refine (rename_nil bd bn D.now c vp vn M w h.nowM h.now hc hl h.ne h.lt h.nowC hx h.free).mono ?_
    rintro e w' ⟨rfl, w2, v, hm, hg, hw, hr⟩
    refine ⟨rfl, fin [] (.returned undef) w' w2 v (by simp [hD]) (fun i hi => by simp [hD] at hi) hm hg hw ?_⟩
    rw [hD]; exact hr
  · have hx := h.looseC
    rw [hv] at hx
    obtain ⟨vs, k1, k2, k3⟩ := loose_cells h4
    refine (rename_some bd bn b D.loose.length cap D.now c vp vn vs M w h.nowM h.now hc hl h.ne h.lt h.nowC hx h.free h1 hll k1 k2 h2 (fun e => h3 (e ▸ h.nowM))).mono ?_
    rintro e w' ⟨rfl, w2, v, hm, hg, hw, hr⟩
    exact ⟨rfl, fin vs (.returned undef) w' w2 v k1 k3 hm hg hw hr⟩
end
end Go.Proofs.YtihojcjijbidpaaDoor
