/- Fork: what it copies. -/
import Derived.Test.YtihojcjijbidpaaDoorD25
import Derived.Test.YtihojcjijbidpaaDoorShelfB
import Derived.Laws.CopyRow
import Derived.Laws.MakeOwn
namespace Go.Proofs.YtihojcjijbidpaaDoor
open Go.RowKit Go.Shelf Go.Sort

theorem PD.Fine.keyed {D : PD} (h : D.Fine) : D.Keyed := fun q hq => by
  have := h.names q hq
  unfold checkB at this
  split at this
  · cases this
  · rename_i h1
    split at this
    · cases this
    · rename_i h2
      simp only [Bool.or_eq_true, not_or, Bool.not_eq_true] at h2
      exact ⟨by omega, h2.1⟩

/-- The loose changes, cloned. -/
theorem cloneLoose_calls {w : World} {M : Nat → Prop} {v : Value} {l : List Change} (hM : ∀ k, M k → k < w.heap.size) (h : LooseAt w M v l) (hl : l.length ≤ 1000000) :
    Calls Tryd.prog 36 #[v] w fun e w' => ∃ a n c, e = .returned (.slice a n c) ∧ LooseAt w' M (.slice a n c) l ∧ Below w.heap.size w w' := by
  rcases h with ⟨rfl, rfl⟩ | ⟨b, cap, rfl, h1, h2, h3, h4⟩
  · refine (AnyE.slices_Clone_nil Tryd.lChanges 0 0 w).mono ?_
    rintro e w' ⟨he, rfl⟩
    exact ⟨_, _, _, he, .inl ⟨rfl, rfl⟩, Below.refl _ _⟩
  · obtain ⟨vs, k1, k2, k3⟩ := loose_cells h4
    obtain ⟨i0, hi, hz0, hz1, hz2⟩ := info_parts infoChange
    have hone : ∀ u ∈ vs, u.oneCell' = true := fun u hu => by
      obtain ⟨j, hj, rfl⟩ := List.getElem_of_mem hu
      obtain ⟨vp, vn, e1, e2, _, _, _, _, e5, e6, _⟩ := k3 (j / 2) (by omega)
      rcases Nat.mod_two_eq_zero_or_one j with q | q
      · rw [show j / 2 * 2 = j by omega] at e1
        have this := e1
        rw [List.getElem?_eq_getElem hj] at this
        rw [Option.some.inj this, e5]; rfl
      · rw [show j / 2 * 2 + 1 = j by omega] at e2
        have this := e2
        rw [List.getElem?_eq_getElem hj] at this
        rw [Option.some.inj this, e6]; rfl
    refine (AnyE.slices_Clone Tryd.lChanges i0 _ 2 48 hi hz0 hz1 hz2 rfl (by decide) (fun w => by kernel_rfl) b 0 l.length cap vs w k1 (Nat.le_trans hl (by decide)) (by omega) (fun j u hj => by rw [Nat.zero_add]; exact k2 j u hj) hone).mono ?_
    rintro e w' ⟨v', he, hr, hne, hb⟩
    obtain ⟨g, cap', cur, rfl, q1, q2, q3, q4, q5, q6⟩ : ∃ g cap cur, v' = .slice (some ⟨g, 0, none⟩) l.length cap ∧ w.heap.size ≤ g ∧ w'.heap[g]? = some (.cells cur 69 (0, 0)) ∧ l.length ≤ cap ∧ cap ≤ maxLen ∧ cur.size = cap * 2 ∧ cur.toList.take (l.length * 2) = vs := by
      rcases hr.2 with ⟨e, _⟩ | q
      · exact absurd e hne
      · exact q
    have hG : Goes (fun _ => False) M M w w' := Goes.of_below hb _ _
    have hcell : ∀ j u, vs[j]? = some u → w'.cell? ⟨g, j, none⟩ = some u := fun j u hj => by
      rw [← q6, List.getElem?_take] at hj
      split at hj
      · simp only [World.cell?, q2]; simpa using hj
      · cases hj
    refine ⟨_, _, _, he, .inr ⟨g, cap', rfl, q3, (Array.getElem?_eq_some_iff.1 q2).1, fun q => by have := hM _ q; omega, fun i hi => ?_⟩, hb⟩
    obtain ⟨vp, vn, e1, e2, e3⟩ := k3 i hi
    exact ⟨vp, vn, hcell _ _ e1, hcell _ _ e2, e3.goes hG (fun _ q => q.elim)⟩

/-- copy, of elements of more cells. -/
theorem run_copy_cells2 {P : Program} (w : World) (dT sT ty elem : TypeId) (size g n dCap sCap : Nat) (a : Addr) (cur : Array Value) (t : TypeId) (cs : List Value)
    (hu : P.underlying dT = some (.slice elem)) (hs : (P.info? elem).map (·.size) = some size)
    (hg : w.heap[g]? = some (.cells cur t (0, 0))) (hn : cs.length = n * size)
    (hsrc : ∀ j v, cs[j]? = some v → w.cell? (a.add j) = some v) (hfit : cs.length ≤ cur.size) (h1 : ∀ v ∈ cs, v.oneCell' = true) :
    (Builtin.copy_ #[dT, sT] ty #[.slice (some ⟨g, 0, none⟩) n dCap, .slice (some a) n sCap]).run P w =
      .ok (goInt n) (w.setRow g (cs ++ cur.toList.drop cs.length).toArray) := by
  have hl := run_loadCells_list (P := P) w a cs hsrc
  have hst := run_storeCells_at P g 0 t cs 0 cur w hg (by simpa using hfit) h1
  cases hq : P.info? elem with
  | none => simp [hq] at hs
  | some i =>
    have hi : i.size = size := by simpa [hq] using hs
    have hmin : Nat.min n n = n := Nat.min_self n
    simp [Builtin.copy_, run_underlying hu, Builtin.lenOf, Builtin.firstCells, sizeOf, typeInfo, hq, hi, ← hn, hl, hst]
end Go.Proofs.YtihojcjijbidpaaDoor
