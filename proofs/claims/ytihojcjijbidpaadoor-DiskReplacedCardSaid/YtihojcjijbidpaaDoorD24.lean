/- The walk of paths. -/
import Derived.Test.YtihojcjijbidpaaDoorD23
namespace Go.Proofs.YtihojcjijbidpaaDoor
open Go.RowKit Go.Shelf Go.Sort Go.Maps

def PD.Keyed (D : PD) : Prop := ∀ q ∈ D.now, q.1.size ≤ 100000 ∧ q.1.toList.isEmpty = false

theorem names_P : ∀ l : List ByteArray, (∀ x ∈ l, x.size ≤ 100000 ∧ x.toList.isEmpty = false) → ∃ zs : List PStr, zs.map (·.1) = l := fun l h => ⟨l.attach.map (fun x => ⟨x.1, h x.1 x.2⟩), by simp⟩

theorem SortNone_calls (w : World) : Calls Tryd.prog 45 #[.slice none 0 0, .func (.func 46) #[] #[]] w fun e w' => e = .returned (.tuple #[]) ∧ w' = w :=
  AnyF.slices_SortFunc_none { Tryd.lSort with } none 0 (.func (.func 46) #[] #[]) w

theorem leB_trans {a b c : ByteArray} (h : (!(lessB b a)) = true) (h2 : (!(lessB c b)) = true) : (!(lessB c a)) = true := by
  simp only [Bool.not_eq_true'] at *
  cases q : lessB c a with
  | false => rfl
  | true => exact absurd ((lessB_iff _ _).1 q) (List.not_lt.2 (List.le_trans (lessB_not h) (lessB_not h2)))
theorem leB_total (a b : ByteArray) : ((!(lessB b a)) || (!(lessB a b))) = true := by
  cases q : lessB b a with
  | false => rfl
  | true => rw [lessB_asymm q]; rfl

set_option maxHeartbeats 1000000 in
theorem paths_calls {w : World} {bd bs bn : Nat} {vl vf : Value} {D : PD} {M : Nat → Prop} (h : DiskAt w bd bs bn vl vf D M) (hF : D.Fine) (hA : Amb w) (hK : D.Keyed) :
    Calls Tryd.prog 35 #[.pointer (some ⟨bd, 0, none⟩)] w fun e w' => ∃ v, e = .returned v ∧ w'.ownsRow w.heap.size 9 1 v (pathsB D).length ((pathsB D).map .string) ∧ Below w.heap.size w w' := by
  have hml : 100000 ≤ maxLen := by decide
  have hnow := hF.now
  have hc2 := h.nowC
  have HKe := Keys_calls bn w
  have HCo := Collect_calls h.now (fun q hq => Nat.le_trans (hK q hq).1 hml) hnow
  have HK := Lib.hid hK
  have HNOW := Lib.hid hnow
  have HA := Lib.hid hA
  clear h hF hA hK hml hnow
  go_enter Tryd.func35, Tryd.ntmps35
  go_wp2_with (go_at_call 44; refine HKe.mono ?_; rintro e w1 ⟨rfl, rfl⟩)
  go_wp2_with fail
  refine HCo.mono ?_
  rintro e w2 ⟨v, ss, rfl, hperm, hrow, hnil, hb2⟩
  clear HKe HCo
  have HB2 := Lib.hid hb2
  have hlen : ss.length = D.now.length := by have := hperm.length_eq; simpa using this
  have hp2 : (ss.map fun x => (⟨x.toArray⟩ : ByteArray)).Perm (D.now.map (·.1)) := by
    have := hperm.map (fun x => (⟨x.toArray⟩ : ByteArray))
    rw [List.map_map] at this
    exact this
  obtain ⟨zs, hzs⟩ := names_P (ss.map fun x => (⟨x.toArray⟩ : ByteArray)) (fun x hx => by
    obtain ⟨q, hq, e⟩ := List.mem_map.1 (hp2.mem_iff.1 hx)
    rw [← e]; exact HK.out q hq)
  have hzl : zs.length = ss.length := by have := congrArg List.length hzs; simpa using this
  have hze : zs.map encP = ss.map encStr := by
    have := congrArg (List.map Value.string) hzs
    rw [List.map_map, List.map_map] at this
    exact this
  have hsort : (zs.mergeSort fun x y => !(lessB y.1 x.1)).map (·.1) = pathsB D := by
    rw [List.map_mergeSort (s := fun x y => !(lessB y x)) (fun a _ b _ => rfl), hzs]
    refine List.Perm.eq_of_pairwise (le := fun a b => (!(lessB b a)) = true) (fun a b _ _ q q' => lessB_total (by simpa using q') (by simpa using q)) (List.pairwise_mergeSort ?_ ?_ _) (List.pairwise_mergeSort ?_ ?_ _) (((List.mergeSort_perm _ _).trans hp2).trans (List.mergeSort_perm _ _).symm)
    · exact fun a b c q q' => leB_trans q q'
    · exact leB_total
    · exact fun a b c q q' => leB_trans q q'
    · exact leB_total
  have HS := Lib.hid hsort
  have hpl : (pathsB D).length = ss.length := by rw [← hsort]; simp [hzl]
  have HPL := Lib.hid hpl
  by_cases h0 : ss = []
  · subst h0
    obtain rfl := hnil.2 rfl
    have HN := SortNone_calls w2
    have e0 : pathsB D = [] := List.length_eq_zero_iff.1 (by rw [hpl]; rfl)
    have E0 := Lib.hid e0
    clear hsort hzs hze hzl hp2 hperm hrow hnil hpl e0 hlen hb2
    go_wp2_with fail
    refine HN.mono ?_
    rintro e w3 ⟨rfl, rfl⟩
    go_wp2
    go_ret
    exact ⟨_, rfl, by rw [E0.out]; exact World.ownsRow_nil _ _ _ _, HB2.out⟩
  · obtain ⟨g, cap, cur, rfl, q1, q2, q3, q4, q5, q6⟩ : ∃ g cap cur, v = .slice (some ⟨g, 0, none⟩) ss.length cap ∧ w.heap.size ≤ g ∧ w2.heap[g]? = some (.cells cur 9 (0, 0)) ∧ ss.length ≤ cap ∧ cap ≤ maxLen ∧ cur.size = cap * 1 ∧ cur.toList.take (ss.length * 1) = ss.map encStr := by
      rcases hrow.2 with ⟨e, _⟩ | q
      · exact absurd (hnil.1 e) h0
      · exact q
    have hne : g ≠ 0 := by
      obtain ⟨m, hm⟩ := HA.out
      have := World.block_lt_of_cell? _ _ hm
      simp only at this
      omega
    have HSo := Sort_calls (HA.out.below HB2.out) (cap := cap) zs q2 (by rw [hzl, hze, ← q6, Nat.mul_one]) (by rw [hzl, hlen]; exact HNOW.out) hne (by omega)
    rw [hzl] at HSo
    have hml : (zs.mergeSort fun x y => !(lessB y.1 x.1)).length = ss.length := by simp [hzl]
    have hfin : ∀ w3 : World, w3.heap[g]? = some (.cells (putCells encP 0 (zs.mergeSort fun x y => !(lessB y.1 x.1)).toArray cur) 9 (0, 0)) → Below g w2 w3 →
        w3.ownsRow w.heap.size 9 1 (.slice (some ⟨g, 0, none⟩) ss.length cap) (pathsB D).length ((pathsB D).map .string) ∧ Below w.heap.size w w3 := fun w3 h1 h2 => by
      refine ⟨⟨by simp, .inr ⟨g, cap, _, by rw [hpl], q1, h1, by rw [hpl]; exact q3, q4, by simp [putCells, q5], ?_⟩⟩, HB2.out.trans (h2.mono q1)⟩
      rw [Nat.mul_one, hpl, ← hml, sorted_cells _ _ (by omega), ← hsort, List.map_map]
      rfl
    have HFIN := Lib.hid hfin
    have hsl : ss.length ≤ 1000000 := by rw [hlen]; exact HNOW.out
    generalize ss.length = n at *
    clear hsort hzs hze hzl hp2 hperm hrow hnil hpl hfin hml q6 q5 q3 q4 q2 HPL HS hlen hb2
    go_wp2_with fail
    refine HSo.mono ?_
    rintro e w3 ⟨rfl, h1, h2⟩
    have H1 := Lib.hid h1
    have H2 := Lib.hid h2
    clear HSo h1 h2
    go_wp2
    go_ret
    exact ⟨_, rfl, HFIN.out _ H1.out H2.out⟩
end Go.Proofs.YtihojcjijbidpaaDoor
