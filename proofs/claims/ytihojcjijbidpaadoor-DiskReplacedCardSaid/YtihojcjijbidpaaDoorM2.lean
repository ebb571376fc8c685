/- A range over a map of names. -/
import Derived.Test.YtihojcjijbidpaaDoorM
import Derived.Maps.RangeRun
namespace Go.Proofs.YtihojcjijbidpaaDoor
open Go.RowKit Go.MapKept Go.ChangeMaps

def ents (l : List MapEntry) : List (Value × Value) := l.map fun e => (e.key, e.val)
def pairs (m : Names) : List (Value × Value) := m.map fun p => (Value.string p.1, p.2.val)

theorem perm_filter_ne {α β : Type} [DecidableEq β] (f : α → β) : ∀ {l : List α} {e : α}, (l.map f).Nodup → e ∈ l → l.Perm (e :: l.filter (fun x => decide (f x ≠ f e)))
  | [], _, _, h => by cases h
  | y :: l, e, hn, h => by
    simp only [List.map_cons, List.nodup_cons] at hn
    rcases List.mem_cons.1 h with rfl | h
    · have : l.filter (fun x => decide (f x ≠ f e)) = l := by
        rw [List.filter_eq_self]
        intro a ha
        simp only [decide_eq_true_eq]
        intro q
        exact hn.1 (q ▸ List.mem_map.2 ⟨a, ha, rfl⟩)
      rw [List.filter_cons_of_neg (by simp), this]
    · have hne : f y ≠ f e := fun q => hn.1 (q ▸ List.mem_map.2 ⟨e, h, rfl⟩)
      rw [List.filter_cons_of_pos (by simpa using hne)]
      exact ((perm_filter_ne f hn.2 h).cons y).trans (List.Perm.swap _ _ _)

/-- Block r iterates over block b, that is the map m; 'left' is still to come. -/
def Ranging (w : World) (b r : Nat) (m left : Names) : Prop :=
  ∃ es clock since seen c0, w.heap[b]? = some (.map es clock) ∧ ents es.toList = pairs m ∧ Stamped es clock ∧
    w.heap[r]? = some (.mapIter (some b) since seen c0) ∧ (∀ x ∈ es.toList, x.born < since) ∧ since ≤ c0 ∧ c0 = clock ∧ (ents (leftOf es seen).toList).Perm (pairs left)

theorem Ranging.kept {w w' : World} {b r : Nat} {m left : Names} (h : Ranging w b r m left) (eb : w'.heap[b]? = w.heap[b]?) (er : w'.heap[r]? = w.heap[r]?) : Ranging w' b r m left := by
  obtain ⟨es, clock, since, seen, c0, h1, h2, h3, h4, h5⟩ := h
  exact ⟨es, clock, since, seen, c0, eb.trans h1, h2, h3, er.trans h4, h5⟩

section
variable {P : Program} {w : World} {b : Nat} {m : Names}
theorem MapAt.ranges {t k e : TypeId} (h : MapAt w b m) (ht : P.underlying t = some (.map k e)) :
    ∃ w', (Instr.range t (.map (some b))).run P w = .ok (.pointer (some ⟨w.heap.size, 0, none⟩)) w' ∧ Ranging w' b w.heap.size m m ∧ Below w.heap.size w w' ∧ w'.heap.size = w.heap.size + 1 := by
  have hlt := h.lt
  obtain ⟨es, clock, hb, hm, hs, hn⟩ := h
  refine ⟨w.alloc (.mapIter (some b) clock #[] clock), ?_, ⟨es, clock, clock, #[], clock, (Below.heap_alloc _ _ _ hlt).trans hb, hm, hs, ?_, fun x hx => hs.1 x hx, Nat.le_refl _, rfl, ?_⟩, (Below.refl _ w).alloc (Nat.le_refl _) _, by simp⟩
  · simp [Instr.range, run_underlying ht, MapKept.run_getObj_map hb, Result.andThen, go_sem]
  · exact heap_alloc_new w _
  · have : leftOf es #[] = es := by
      unfold leftOf
      rw [Array.filter_eq_self]
      intro a _; simp
    rw [this]
    show (ents es.toList).Perm (pairs m)
    rw [show ents es.toList = pairs m from hm]

theorem Ranging.next {left : Names} {r : Nat} {ty : TypeId} (h : Ranging w b r m left) :
    (left = [] ∧ (Instr.next (.pointer (some ⟨r, 0, none⟩)) false ty).run P w = .ok (.tuple #[.bool false]) w) ∨
    ∃ p x left' w', left.Perm ((p, x) :: left') ∧ (Instr.next (.pointer (some ⟨r, 0, none⟩)) false ty).run P w = .ok (.tuple #[.bool true, .string p, x.val]) w' ∧
      (Instr.entry (.pointer (some ⟨r, 0, none⟩))).run P w' = .ok (.tuple #[.string p, x.val]) w' ∧ Ranging w' b r m left' ∧ w.grownBy w' (some r) ∧ w'.heap.size = w.heap.size := by
  obtain ⟨es, clock, since, seen, c0, h1, h2, h3, h4, h5, h6, h7, h8⟩ := h
  rcases run_next_at (P := P) w ty r b since c0 seen es clock h4 h1 h5 h6 with ⟨e1, e2⟩ | ⟨e, he, w1, hw1, hrun⟩
  · left
    have : (leftOf es seen).toList = [] := by
      have : (leftOf es seen).toList.length = 0 := by simpa using e1
      exact List.eq_nil_of_length_eq_zero this
    rw [this] at h8
    have hl := h8.length_eq
    simp [ents, pairs] at hl
    exact ⟨List.eq_nil_of_length_eq_zero hl.symm, e2⟩
  · right
    -- the entry is one of m's
    have hmem : (e.key, e.val) ∈ pairs left := h8.mem_iff.1 (List.mem_map.2 ⟨e, he, rfl⟩)
    obtain ⟨⟨p, x⟩, hpl, hpe⟩ := List.mem_map.1 hmem
    simp only [Prod.mk.injEq] at hpe
    obtain ⟨hp1, hp2⟩ := hpe
    have hes : e ∈ es.toList := (mem_left he).1
    have hbn : (((leftOf es seen).toList).map (·.born)).Nodup := by
      have : (leftOf es seen).toList.Sublist es.toList := by unfold leftOf; rw [Array.toList_filter]; exact List.filter_sublist
      exact (this.map _).nodup h3.2.1
    have hperm := perm_filter_ne (fun x : MapEntry => x.born) hbn he
    have hnew : (leftOf es (seen.push e.born)).toList = (leftOf es seen).toList.filter (fun x => decide (x.born ≠ e.born)) := by
      unfold leftOf
      rw [Array.toList_filter, Array.toList_filter, List.filter_filter]
      congr 1
      funext y
      rw [Bool.eq_iff_iff]
      simp [Array.contains_eq_mem]
      exact ⟨fun h => ⟨h.2, h.1⟩, fun h => ⟨h.2, h.1⟩⟩
    -- left without it
    have hP : (pairs left).Perm ((e.key, e.val) :: ents (leftOf es (seen.push e.born)).toList) := by
      rw [hnew]
      refine h8.symm.trans ?_
      exact hperm.map (fun e : MapEntry => (e.key, e.val))
    obtain ⟨l1, l2, rfl⟩ := List.append_of_mem hpl
    have hP2 : (pairs (l1 ++ l2)).Perm (ents (leftOf es (seen.push e.born)).toList) := by
      have q1 : (pairs (l1 ++ (p, x) :: l2)).Perm ((e.key, e.val) :: pairs (l1 ++ l2)) := by
        unfold pairs
        rw [List.map_append, List.map_cons, List.map_append, hp1, hp2]
        exact List.perm_middle
      exact (List.perm_cons _).1 (q1.symm.trans hP)
    have hr1 : w1.heap[r]? = some (.mapIter (some b) since seen c0) := by rcases hw1 with rfl | rfl <;> exact h4
    have hb1 : w1.heap[b]? = some (.map es clock) := by rcases hw1 with rfl | rfl <;> exact h1
    have hrb : r ≠ b := fun q => by rw [q, hb1] at hr1; cases hr1
    have hrlt : r < w1.heap.size := (Array.getElem?_eq_some_iff.1 hr1).1
    have s1 : (setBlock w1 r (.mapIter (some b) since (seen.push e.born) clock)).heap[b]? = some (.map es clock) := by
      simp only [setBlock, Array.getElem?_setIfInBounds]
      rw [if_neg hrb]; exact hb1
    have s2 : (setBlock w1 r (.mapIter (some b) since (seen.push e.born) clock)).heap[r]? = some (.mapIter (some b) since (seen.push e.born) clock) := by
      simp only [setBlock, Array.getElem?_setIfInBounds]
      simp [hrlt]
    refine ⟨p, x, l1 ++ l2, setBlock w1 r (.mapIter (some b) since (seen.push e.born) clock), List.perm_middle, ?_, ?_, ⟨es, clock, since, seen.push e.born, clock, s1, h2, h3, s2, h5, by omega, rfl, hP2.symm⟩, ?_, ?_⟩
    · rw [hrun, hp1, hp2]
    · rw [run_entry_at _ r b since seen es clock e s2 s1 hes h3.2.1, hp1, hp2]
    · refine ⟨?_, ?_, ?_, ?_, fun i _ hi => ?_⟩
      · rcases hw1 with rfl | rfl <;> rfl
      · rcases hw1 with rfl | rfl <;> rfl
      · rcases hw1 with rfl | rfl <;> rfl
      · rcases hw1 with rfl | rfl <;> simp [setBlock]
      · have : i ≠ r := fun q => hi (by rw [q])
        simp only [setBlock, Array.getElem?_setIfInBounds]
        rw [if_neg (Ne.symm this)]
        rcases hw1 with rfl | rfl <;> rfl
    · rcases hw1 with rfl | rfl <;> simp [setBlock]
end
end Go.Proofs.YtihojcjijbidpaaDoor
