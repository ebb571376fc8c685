/- The walk of paths. -/
import Derived.Test.YtihojcjijbidpaaDoorD22
import Derived.Test.YtihojcjijbidpaaDoorO
import Derived.Maps.Range
import Derived.Sort.OwnSorted
namespace Go.Proofs.YtihojcjijbidpaaDoor
open Go.RowKit Go.Shelf Go.Sort Go.Maps
open Go.ChangeMaps Go.MapKept Go.WideShapes Go.WideMaps

def rTriv : Value → Option (DataW Unit × List MemPlace) := fun _ => some (.nil, [])

theorem MapAt.owns {P : Program} {k : TypeId} {w : World} {b : Nat} {m : Names} (h : MapAt w b m) (hk : P.underlying k = some .string) (hs : ∀ q ∈ m, q.1.size ≤ maxLen) (hm : m.length ≤ maxLen) :
    ∃ D : DataW Unit, w.ownsMap P k rTriv b m.length D ∧ (strKeys D).Perm (m.map (·.1.data.toList)) ∧ Maps.size D = m.length := by
  obtain ⟨es, clock, hb, he, hst, hn⟩ := h
  have hlen : es.size = m.length := by have := congrArg List.length he; simpa using this
  have hkey : ∀ x ∈ es.toList, ∃ q ∈ m, x.key = .string q.1 := fun x hx => by
    have : (x.key, x.val) ∈ es.toList.map (fun e => (e.key, e.val)) := List.mem_map.2 ⟨x, hx, rfl⟩
    rw [he] at this
    obtain ⟨q, hq, e⟩ := List.mem_map.1 this
    simp only [Prod.mk.injEq] at e
    exact ⟨q, hq, e.1.symm⟩
  have hrd : ∀ x ∈ es.toList, ∃ q ∈ m, x.key = .string q.1 ∧ WideElems.rd P k rTriv x = some (.string q.1.data.toList, .nil) := fun x hx => by
    obtain ⟨q, hq, e⟩ := hkey x hx
    refine ⟨q, hq, e, ?_⟩
    unfold WideElems.rd
    rw [e, keyOf_string_mk hk (hs q hq)]
    rfl
  refine ⟨.map ((es.toList.map (WideElems.rg P k rTriv)).foldr DataW.insert []), ⟨es, clock, hb, ⟨by omega, hst, fun x hx => ?_⟩, by omega, rfl⟩, ?_, ?_⟩
  · obtain ⟨q, _, _, e⟩ := hrd x hx
    exact ⟨_, e⟩
  · show (List.map (fun p : Lit × DataW Unit => strOf p.1) _).Perm _
    refine ((sorted_perm _).map _).trans ?_
    have e1 : (es.toList.map (WideElems.rg P k rTriv)).map (fun p => strOf p.1) = es.toList.map (fun x => match x.key with | .string s => s.data.toList | _ => []) := by
      rw [List.map_map]
      refine List.map_congr_left fun x hx => ?_
      obtain ⟨q, _, e, e2⟩ := hrd x hx
      simp [WideElems.rg, e2, e, strOf]
    have e2 : m.map (·.1.data.toList) = es.toList.map (fun x => match x.key with | .string s => s.data.toList | _ => []) := by
      have := congrArg (List.map (fun p : Value × Value => match p.1 with | .string s => s.data.toList | _ => [])) he
      rw [List.map_map, List.map_map] at this
      exact this.symm
    rw [e1, e2]
  · simp [Maps.size, length_sorted, hlen]

/-- What the sort is handed. -/
abbrev PStr := { s : ByteArray // s.size ≤ 100000 ∧ s.toList.isEmpty = false }
instance : Inhabited PStr := ⟨⟨⟨#[97]⟩, by rw [ByteArray.toList_eq]; decide⟩⟩
def encP (x : PStr) : Value := .string x.1
def cfP (x y : PStr) : Int := lessC x.1 y.1
theorem ltP (x y : PStr) : ltOf cfP x y = lessB x.1 y.1 := by
  unfold ltOf cfP
  rw [Bool.eq_iff_iff, decide_eq_true_eq]
  exact lessC_neg _ _
theorem swoP : SWO (ltOf cfP) where
  irrefl x := by rw [ltP]; exact lessB_irrefl _
  trans x y z h1 h2 := by rw [ltP] at *; exact lessB_trans h1 h2
  ntrans x y z h1 h2 := by
    rw [ltP] at *
    cases q : lessB x.1 z.1 with
    | false => rfl
    | true => exact absurd ((lessB_iff _ _).1 q) (List.not_lt.2 (List.le_trans (lessB_not h2) (lessB_not h1)))
theorem totP (x y : PStr) (h : ltOf cfP x y = false) (h2 : ltOf cfP y x = false) : x = y := by
  rw [ltP] at *
  exact Subtype.ext (lessB_total h h2)

section
variable {α : Type} [Inhabited α] {enc : α → Value}
theorem holds_row {w : World} {g : Nat} {cur : Array Value} {e : TypeId} {ss : List α} (hb : w.heap[g]? = some (.cells cur e (0, 0))) (ht : cur.toList.take ss.length = ss.map enc) : Holds enc w g 0 ss.toArray := by
  intro j hj
  have hj' : j < ss.length := by simpa using hj
  refine ⟨?_, by simp [World.frozen?, hb]⟩
  have h1 : (cur.toList.take ss.length)[j]? = (ss.map enc)[j]? := by rw [ht]
  rw [List.getElem?_take_of_lt hj'] at h1
  simp only [World.cell?, hb, Nat.zero_add]
  simp only [Option.isSome_none, Bool.false_eq_true, if_false]
  rw [← Array.getElem?_toList, h1]
  simp [hj']
theorem sorted_heap {w : World} {g n : Nat} {os : Array Obj} {cur : Array Value} {e : TypeId} {fr : Nat × Nat} (d : Array α) (hb : w.heap[g]? = some (.cells cur e fr)) :
    (sortWorld enc w g 0 n d os).heap[g]? = some (.cells (putCells enc 0 d cur) e fr) := by
  have hg : g < w.heap.size := (Array.getElem?_eq_some_iff.1 hb).1
  unfold sortWorld
  rw [heap_grow_old _ _ (by simpa using hg)]
  simp [putRow, mapBlock, Sort.ahead, Array.getElem?_modify, hb, onCells]
theorem sorted_block {w : World} {g n k : Nat} {os : Array Obj} (d : Array α) (hk : k < w.heap.size) (hne : g ≠ k) : (sortWorld enc w g 0 n d os).heap[k]? = w.heap[k]? := by
  unfold sortWorld
  rw [heap_grow_old _ _ (by simpa using hk)]
  simp [putRow, mapBlock, Sort.ahead, Array.getElem?_modify, hne]
theorem sorted_below {w : World} {g n B : Nat} {os : Array Obj} (d : Array α) (hg : B ≤ g) (hB : B ≤ w.heap.size) : Below B w (sortWorld enc w g 0 n d os) := by
  refine ⟨rfl, rfl, rfl, by simp [sortWorld], fun k hk => sorted_block d (by omega) (by omega)⟩
theorem sorted_cells (cur : Array Value) (ts : List α) (h : ts.length ≤ cur.size) : (putCells enc 0 ts.toArray cur).toList.take ts.length = ts.map enc := by
  apply List.ext_getElem?
  intro j
  by_cases hj : j < ts.length
  · rw [List.getElem?_take_of_lt hj, Array.getElem?_toList]
    simp [putCells, hj, show j < cur.size by omega]
  · rw [List.getElem?_take_eq_none (by omega), List.getElem?_eq_none (by simp; omega)]
end

def pathsB (D : PD) : List ByteArray := (D.now.map (·.1)).mergeSort fun x y => !(lessB y x)

/-! ### the library's contracts -/
theorem Keys_calls (bm : Nat) (W : World) : Calls Tryd.prog 44 #[.map (some bm)] W fun e w' => e = .returned (.func (.func 54) #[] #[.pointer (some ⟨W.heap.size, 0, none⟩)]) ∧ w' = W.alloc (.cells #[.map (some bm)] 42) :=
  (callsIn_wide (n := 5)).1 (AnyZ.keys_in Tryd.lKeys Fence.wide 5 trivial rfl (some bm) W)

theorem Collect_calls {w : World} {b : Nat} {m : Names} (h : MapAt w b m) (hs : ∀ q ∈ m, q.1.size ≤ maxLen) (hm : m.length ≤ 1000000) :
    Calls Tryd.prog 43 #[.func (.func 54) #[] #[.pointer (some ⟨w.heap.size, 0, none⟩)]] (w.alloc (.cells #[.map (some b)] 42)) fun e w' => ∃ (v : Value) (ss : List (List UInt8)), e = .returned v ∧ ss.Perm (m.map (·.1.data.toList)) ∧
      w'.ownsRow w.heap.size 9 1 v ss.length (ss.map encStr) ∧ (v = .slice none 0 0 ↔ ss = []) ∧ Below w.heap.size w w' := by
  have hmx : maxLen = 9223372036854775807 ∨ 1000000 ≤ maxLen := .inr (by decide)
  have hml : 1000000 ≤ maxLen := by decide
  obtain ⟨D0, hown, hperm, hsz⟩ := h.owns (P := Tryd.prog) Tryd.underlying9 hs (by omega)
  have hbl := h.lt
  have hseq : SeqGives Fence.wide 3 Tryd.prog 54 #[.pointer (some ⟨w.heap.size, 0, none⟩)] encStr (fun ss => ss.Perm (strKeys D0)) (Maps.size D0) (w.alloc (.cells #[.map (some b)] 42)) :=
    AnyZ.keys_gives (ρ := Tryd.lKeys_ren) { Tryd.lKeys with } Fence.wide _ trivial rfl (by omega) w.heap.size b m.length D0 _ (by simp) (by simp) (by
      obtain ⟨es, clock, hb, Ft, hs, hD⟩ := hown
      exact ⟨es, clock, (Below.heap_alloc _ _ b hbl).trans hb, Ft, hs, hD⟩)
  have hc := (callsIn_wide (n := 5)).1 (AnyZ.collect_in Tryd.lCollect Fence.wide 5 trivial trivial rfl (by omega) 54 #[.pointer (some ⟨w.heap.size, 0, none⟩)] trivial (enters_of Tryd.func54 (by kernel_rfl) rfl) _ (Maps.size D0) (by omega) (by omega) _ hseq)
  refine hc.mono ?_
  rintro e w' ⟨v, ss, he, hS, hr, hn, hb⟩
  exact ⟨v, ss, he, hS.trans hperm, ownsRow_lower hr (by simp), hn, ((Below.refl _ w).alloc (Nat.le_refl _) _).trans (hb.mono (by simp))⟩

theorem Sort_calls {w : World} (hA : Amb w) {g cap : Nat} {cur : Array Value} (zs : List PStr) (hb : w.heap[g]? = some (.cells cur 9 (0, 0))) (ht : cur.toList.take zs.length = zs.map encP) (hsz : zs.length ≤ 1000000) (hne : g ≠ 0) (hcur : zs.length ≤ cur.size) :
    Calls Tryd.prog 45 #[.slice (some ⟨g, 0, none⟩) zs.length cap, .func (.func 46) #[] #[]] w fun e w' => e = .returned (.tuple #[]) ∧
      w'.heap[g]? = some (.cells (putCells encP 0 (zs.mergeSort fun x y => !(lessB y.1 x.1)).toArray cur) 9 (0, 0)) ∧ Below g w w' := by
  have hg : g < w.heap.size := (Array.getElem?_eq_some_iff.1 hb).1
  have hcmp : CmpLays1 Tryd.prog 46 #[] encP cfP g 0 zs.toArray.size w := fun m os dk hs x y => by
    have hA2 : Amb (sortWorld encP w g 0 m dk os) := by
      obtain ⟨q, hq⟩ := hA
      exact ⟨q, (World.cell?_of_block (a := ⟨0, 0, none⟩) (sorted_block dk (World.block_lt_of_cell? _ _ hq) hne)).trans hq⟩
    refine (paths1_calls splitSaid x.1 y.1 _ hA2 x.2.2 y.2.2 x.2.1 y.2.1).mono ?_
    rintro e w' ⟨he, os', hw⟩
    exact ⟨he, 0, os', hw⟩
  have hS := Any.slices_SortFunc_total Tryd.lSort encP (fun x => rfl) cfP swoP 46 #[] g 0 cap zs.toArray w (enters_of Tryd.func46 (by kernel_rfl) rfl) hcmp (holds_row hb ht) hg (by simp; omega) totP
  rw [List.size_toArray] at hS
  refine hS.mono ?_
  rintro e w' ⟨he, n, os, rfl⟩
  have e1 : (zs.toArray.toList.mergeSort fun x y => !(ltOf cfP) y x) = zs.mergeSort fun x y => !(lessB y.1 x.1) := by
    simp only [ltP]
  rw [e1]
  exact ⟨he, sorted_heap _ hb, sorted_below _ (Nat.le_refl _) (Nat.le_of_lt hg)⟩
end Go.Proofs.YtihojcjijbidpaaDoor
