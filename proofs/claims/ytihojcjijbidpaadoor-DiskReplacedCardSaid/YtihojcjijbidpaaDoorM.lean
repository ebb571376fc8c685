/- Maps of names as lists: what a look-up, a store, a delete do to a block that is such a map. Over any program. -/
import Derived.Test.YtihojcjijbidpaaDoorK
import Derived.Maps.Keyed
import Derived.Maps.Own
namespace Go.Proofs.YtihojcjijbidpaaDoor
open Go.RowKit Go.MapKept Go.ChangeMaps

def lookupM : Names → ByteArray → Option Nd
  | [], _ => none
  | q :: m, p => if q.1 = p then some q.2 else lookupM m p
def setM : Names → ByteArray → Nd → Names
  | [], p, x => [(p, x)]
  | q :: m, p, x => if q.1 = p then (p, x) :: m else q :: setM m p x
def delM : Names → ByteArray → Names
  | [], _ => []
  | q :: m, p => if q.1 = p then m else q :: delM m p

theorem at_found {p : ByteArray} {y : Nd} : ∀ {m : Names} {j : Nat}, (m.map (·.1)).Nodup → m[j]? = some (p, y) → lookupM m p = some y ∧ (∀ x, setM m p x = m.set j (p, x)) ∧ delM m p = m.eraseIdx j
  | [], j, _, h => by simp at h
  | q :: m, 0, _, h => by
    simp at h; subst h
    refine ⟨by simp [lookupM], fun x => by simp [setM], by simp [delM]⟩
  | q :: m, j + 1, hn, h => by
    simp only [List.map_cons, List.nodup_cons] at hn
    simp only [List.getElem?_cons_succ] at h
    have hne : q.1 ≠ p := fun e => hn.1 (e ▸ List.mem_map.2 ⟨(p, y), List.mem_of_getElem? h, rfl⟩)
    obtain ⟨h1, h2, h3⟩ := at_found hn.2 h
    exact ⟨by simp [lookupM, hne, h1], fun x => by simp [setM, hne, h2], by simp [delM, hne, h3]⟩
theorem at_none {p : ByteArray} : ∀ {m : Names}, (∀ q ∈ m, q.1 ≠ p) → lookupM m p = none ∧ (∀ x, setM m p x = m ++ [(p, x)]) ∧ delM m p = m
  | [], _ => ⟨rfl, fun _ => rfl, rfl⟩
  | q :: m, h => by
    have hne : q.1 ≠ p := h q (by simp)
    obtain ⟨h1, h2, h3⟩ := at_none (m := m) (fun r hr => h r (by simp [hr]))
    exact ⟨by simp [lookupM, hne, h1], fun x => by simp [setM, hne, h2], by simp [delM, hne, h3]⟩

section
variable {P : Program} {t k e : TypeId} {w : World} {b : Nat} {m : Names}

theorem nd_val_inj {x y : Nd} (h : x.val = y.val) : x = y := by
  cases x; cases y
  simp [Nd.val] at h
  obtain ⟨h1, h2⟩ := h
  have : (_ : Int) = _ := h2
  simp [h1]; omega

/-- Where a key is looked for. -/
theorem MapAt.find (h : MapAt w b m) (hk : P.underlying k = some .string) (p : ByteArray) :
    ∃ es clock, w.heap[b]? = some (.map es clock) ∧ Stamped es clock ∧ es.toList.map (fun e => (e.key, e.val)) = m.map (fun p => (Value.string p.1, p.2.val)) ∧
      (((Instr.findKey k (.string p) es.toList).run P w = .ok none w ∧ (∀ x ∈ es.toList, x.key ≠ .string p) ∧ lookupM m p = none ∧ (∀ x, setM m p x = m ++ [(p, x)]) ∧ delM m p = m) ∨
       ∃ j e0 y, (Instr.findKey k (.string p) es.toList).run P w = .ok (some (j, e0.val)) w ∧ es.toList[j]? = some e0 ∧ e0.key = .string p ∧ e0.val = y.val ∧ m[j]? = some (p, y) ∧
        lookupM m p = some y ∧ (∀ x, setM m p x = m.set j (p, x)) ∧ delM m p = m.eraseIdx j) := by
  obtain ⟨es, clock, hb, hm, hs, hn⟩ := h
  refine ⟨es, clock, hb, hs, hm, ?_⟩
  have hks : ∀ x ∈ es.toList, IsKey .string x.key := fun x hx => by
    have : (x.key, x.val) ∈ es.toList.map (fun e => (e.key, e.val)) := List.mem_map.2 ⟨x, hx, rfl⟩
    rw [hm] at this
    obtain ⟨q, _, hq⟩ := List.mem_map.1 this
    simp only [Prod.mk.injEq] at hq
    rw [← hq.1]; trivial
  rcases findNow_spec (d := .string) (k := .string p) trivial es.toList 0 hks with ⟨h1, h2⟩ | ⟨j, e0, h1, h2, h3⟩
  · refine .inl ⟨run_findKey hk h1, h2, ?_⟩
    refine at_none (fun q hq e => ?_)
    have : (Value.string q.1, q.2.val) ∈ m.map (fun p => (Value.string p.1, p.2.val)) := List.mem_map.2 ⟨q, hq, rfl⟩
    rw [← hm] at this
    obtain ⟨x, hx, he⟩ := List.mem_map.1 this
    simp only [Prod.mk.injEq] at he
    exact h2 x hx (by rw [he.1, e])
  · have hj := congrArg (fun l => l[j]?) hm
    simp only [List.getElem?_map, h2, Option.map_some] at hj
    obtain ⟨q, hq, he⟩ := Option.map_eq_some_iff.1 hj.symm
    simp only [Prod.mk.injEq] at he
    obtain ⟨he1, he2⟩ := he
    rw [h3] at he1
    simp only [Value.string.injEq] at he1
    obtain ⟨q1, q2⟩ := q
    simp only at he1 he2
    subst he1
    exact .inr ⟨j, e0, q2, by simpa using run_findKey hk h1, h2, h3, he2.symm, hq, at_found hn hq⟩

theorem MapAt.look (h : MapAt w b m) (ht : P.underlying t = some (.map k e)) (hk : P.underlying k = some .string) {z : Value} (hz : (zeroValue e).run P w = .ok z w) (p : ByteArray) :
    (Instr.lookup t (.map (some b)) (.string p) true).run P w = .ok (.tuple #[((lookupM m p).map Nd.val).getD z, .bool (lookupM m p).isSome]) w := by
  obtain ⟨es, clock, hb, _, _, hf⟩ := h.find hk p
  have hc := fun em => run_checkKey (w := w) hk (show IsKey .string (.string p) from trivial) em 9999
  rcases hf with ⟨h1, _, h2, _⟩ | ⟨j, e0, y, h1, _, _, h4, _, h5, _⟩
  · simp [Instr.lookup, run_underlying ht, MapKept.run_getObj_map hb, hc, h1, hz, Result.andThen, h2]
  · simp [Instr.lookup, run_underlying ht, MapKept.run_getObj_map hb, hc, h1, Result.andThen, h5, h4]

theorem MapAt.look1 (h : MapAt w b m) (ht : P.underlying t = some (.map k e)) (hk : P.underlying k = some .string) {z : Value} (hz : (zeroValue e).run P w = .ok z w) (p : ByteArray) :
    (Instr.lookup t (.map (some b)) (.string p) false).run P w = .ok (((lookupM m p).map Nd.val).getD z) w := by
  obtain ⟨es, clock, hb, _, _, hf⟩ := h.find hk p
  have hc := fun em => run_checkKey (w := w) hk (show IsKey .string (.string p) from trivial) em 9999
  rcases hf with ⟨h1, _, h2, _⟩ | ⟨j, e0, y, h1, _, _, h4, _, h5, _⟩
  · simp [Instr.lookup, run_underlying ht, MapKept.run_getObj_map hb, hc, h1, hz, Result.andThen, h2]
  · simp [Instr.lookup, run_underlying ht, MapKept.run_getObj_map hb, hc, h1, Result.andThen, h5, h4]

theorem setM_keys {p : ByteArray} {x : Nd} : ∀ {m : Names}, ((setM m p x).map (·.1)) = if (lookupM m p).isSome then m.map (·.1) else m.map (·.1) ++ [p]
  | [] => by simp [setM, lookupM]
  | q :: m => by
    by_cases e : q.1 = p
    · simp [setM, lookupM, e]
    · simp only [setM, lookupM, e, if_false, List.map_cons, setM_keys (m := m)]
      split <;> simp
theorem lookupM_none {p : ByteArray} : ∀ {m : Names}, lookupM m p = none ↔ p ∉ m.map (·.1)
  | [] => by simp [lookupM]
  | q :: m => by
    by_cases e : q.1 = p
    · simp [lookupM, e]
    · have := lookupM_none (p := p) (m := m)
      simp [lookupM, e, this, Ne.symm e]
theorem delM_keys {p : ByteArray} : ∀ {m : Names}, (m.map (·.1)).Nodup → ((delM m p).map (·.1)) = (m.map (·.1)).filter (fun q => decide (q ≠ p))
  | [], _ => by simp [delM]
  | q :: m, h => by
    simp only [List.map_cons, List.nodup_cons] at h
    by_cases e : q.1 = p
    · subst e
      have : ((m.map (·.1)).filter (fun r => decide (r ≠ q.1))) = m.map (·.1) := by
        rw [List.filter_eq_self]
        intro a ha
        simp only [decide_eq_true_eq]
        intro e
        exact h.1 (e ▸ ha)
      rw [List.map_cons, List.filter_cons_of_neg (by simp), this]
      simp [delM]
    · rw [List.map_cons, List.filter_cons_of_pos (by simpa using e), ← delM_keys h.2]
      simp [delM, e]
theorem setM_nodup {p : ByteArray} {x : Nd} (h : (m.map (·.1)).Nodup) : ((setM m p x).map (·.1)).Nodup := by
  rw [setM_keys]
  split
  · exact h
  · rename_i q
    have : lookupM m p = none := by simpa using q
    rw [lookupM_none] at this
    rw [List.nodup_append]
    exact ⟨h, by simp, fun a ha b hb e => this (by simp at hb; rw [← hb, ← e]; exact ha)⟩
theorem delM_nodup {p : ByteArray} (h : (m.map (·.1)).Nodup) : ((delM m p).map (·.1)).Nodup := by
  rw [delM_keys h]; exact h.filter _

theorem grownBy_setBlock {o : Obj} {es : Array MapEntry} {clock : Nat} (hb : w.heap[b]? = some (.map es clock)) : w.grownBy (setBlock w b o) (some b) := by
  exact ⟨rfl, rfl, rfl, by simp [setBlock], fun i _ hi => heap_setBlock_other hb _ (fun e => hi (by rw [e]))⟩

theorem MapAt.update (h : MapAt w b m) (ht : P.underlying t = some (.map k e)) (hk : P.underlying k = some .string) (p : ByteArray) (x : Nd) :
    ∃ w', (Instr.mapUpdate t (.map (some b)) (.string p) x.val).run P w = .ok () w' ∧ MapAt w' b (setM m p x) ∧ w.grownBy w' (some b) ∧ w'.heap.size = w.heap.size := by
  obtain ⟨es, clock, hb, hs, hm, hf⟩ := h.find hk p
  obtain ⟨_, _, _, _, _, hn⟩ := h
  have hc := fun em => run_checkKey (w := w) hk (show IsKey .string (.string p) from trivial) em 9999
  have hst : (Instr.keyThatStays (.string p) (.string p)).run P w = .ok (.string p) w := run_keyThatStays (d := .string) trivial
  rcases hf with ⟨h1, hno, h2, h3, _⟩ | ⟨j, e0, y, h1, hj, hk0, h4, hmj, h5, h6, _⟩
  · refine ⟨setBlock w b (.map (es.push ⟨.string p, x.val, clock⟩) (clock + 1)), ?_, ?_, grownBy_setBlock hb, by simp [setBlock]⟩
    · simp [Instr.mapUpdate, run_underlying ht, MapKept.run_getObj_map hb, hc, h1, MapKept.run_setObj_map _ hb, Result.andThen, setBlock]
    · refine ⟨_, _, heap_setBlock_same hb _, ?_, stamped_push hs hno, setM_nodup hn⟩
      rw [h3, Array.toList_push, List.map_append, hm]
      simp
  · have hjs : j < es.size := by have := (List.getElem?_eq_some_iff.1 hj).1; simpa using this
    have hje : es[j]? = some e0 := by simpa using hj
    have hmod : es.modify j (fun e => { e with key := .string p, val := x.val }) = es.modify j (fun e => { e with val := x.val }) := by
      apply Array.ext
      · simp
      · intro i h1 h2
        simp only [Array.getElem_modify]
        by_cases ei : j = i
        · subst ei
          simp only [if_true]
          have : es[j] = e0 := by rw [Array.getElem?_eq_getElem hjs] at hje; exact Option.some.inj hje
          rw [this, ← hk0]
        · simp [ei]
    refine ⟨setBlock w b (.map (es.modify j fun e => { e with key := .string p, val := x.val }) clock), ?_, ?_, grownBy_setBlock hb, by simp [setBlock]⟩
    · simp [Instr.mapUpdate, run_underlying ht, MapKept.run_getObj_map hb, hc, h1, hje, hk0, hst, MapKept.run_setObj_map _ hb, Result.andThen, setBlock]
    · refine ⟨_, _, heap_setBlock_same hb _, ?_, ?_, setM_nodup hn⟩
      · rw [h6, Array.toList_modify]
        apply List.ext_getElem?
        intro i
        have hi := congrArg (fun l => l[i]?) hm
        simp only [List.getElem?_map] at hi
        simp only [List.getElem?_map, List.getElem?_modify, List.getElem?_set]
        by_cases ei : j = i
        · subst ei
          rw [hj, hmj]
          simp
          have := (List.getElem?_eq_some_iff.1 hmj).1
          simp [this]
        · simp only [ei, if_false]
          simpa [ei] using hi
      · exact stamped_modify hs j _ (fun _ _ => rfl) (fun e _ he => by rw [hje] at he; cases he; exact hk0.symm)

theorem MapAt.delete {ty : TypeId} (h : MapAt w b m) (ht : P.underlying t = some (.map k e)) (hk : P.underlying k = some .string) (p : ByteArray) :
    ∃ w', (Builtin.delete_ #[t, k] ty #[.map (some b), .string p]).run P w = .ok (.tuple #[]) w' ∧ MapAt w' b (delM m p) ∧ w.grownBy w' (some b) ∧ w'.heap.size = w.heap.size := by
  obtain ⟨es, clock, hb, hs, hm, hf⟩ := h.find hk p
  obtain ⟨_, _, _, _, _, hn⟩ := h
  have hc := fun em => run_checkKey (w := w) hk (show IsKey .string (.string p) from trivial) em 9999
  rcases hf with ⟨h1, hno, h2, _, h3⟩ | ⟨j, e0, y, h1, hj, hk0, h4, hmj, h5, _, h6⟩
  · refine ⟨setBlock w b (.map es clock), ?_, ?_, grownBy_setBlock hb, by simp [setBlock]⟩
    · simp [Builtin.delete_, run_underlying ht, MapKept.run_getObj_map hb, hc, h1, MapKept.run_setObj_map _ hb, Result.andThen, setBlock]
    · rw [h3]
      exact ⟨_, _, heap_setBlock_same hb _, hm, hs, hn⟩
  · have hjs : j < es.size := by have := (List.getElem?_eq_some_iff.1 hj).1; simpa using this
    refine ⟨setBlock w b (.map (es.eraseIdxIfInBounds j) clock), ?_, ?_, grownBy_setBlock hb, by simp [setBlock]⟩
    · simp [Builtin.delete_, run_underlying ht, MapKept.run_getObj_map hb, hc, h1, MapKept.run_setObj_map _ hb, Result.andThen, setBlock]
    · refine ⟨_, _, heap_setBlock_same hb _, ?_, stamped_erase hs j, delM_nodup hn⟩
      have hsub : (es.eraseIdxIfInBounds j).toList = es.toList.eraseIdx j := by
        unfold Array.eraseIdxIfInBounds
        rw [dif_pos hjs]
        simp
      rw [hsub, h6, map_eraseIdx, hm, ← map_eraseIdx]
end
end Go.Proofs.YtihojcjijbidpaaDoor
