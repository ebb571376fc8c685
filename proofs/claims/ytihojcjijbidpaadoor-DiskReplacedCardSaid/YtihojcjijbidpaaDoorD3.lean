/- The walk of rename. -/
import Derived.Test.YtihojcjijbidpaaDoorD2
import Derived.Test.YtihojcjijbidpaaDoorR
import Derived.Deep.RegionLaw
import Derived.Deep.RegionLawGrows
import Derived.Deep.AppendLies
import Derived.ArgAppend
import Derived.Deep.DeepCutAuto
import Derived.Deep.CutBlock
namespace Go.Proofs.YtihojcjijbidpaaDoor
open Go.RowKit Go.Shelf Go.Sort

theorem infoChange : (Tryd.prog.info? 69).map (fun i => (i.zero, i.size, i.bytes)) = some (some (.agg #[.slice none 0 0, .slice none 0 0]), 2, 48) := by kernel_rfl

/-- The cells of a list of changes. -/
theorem loose_cells {w : World} {M : Nat → Prop} {l : List Change} {b : Nat} (h : ∀ i (h : i < l.length), ∃ vp vn, w.cell? ⟨b, i * 2, none⟩ = some vp ∧ w.cell? ⟨b, i * 2 + 1, none⟩ = some vn ∧ ChangeAt w M vp vn l[i]) :
    ∃ vs : List Value, vs.length = l.length * 2 ∧ (∀ j u, vs[j]? = some u → w.cell? ⟨b, j, none⟩ = some u) ∧ ∀ i (h : i < l.length), ∃ vp vn, vs[i * 2]? = some vp ∧ vs[i * 2 + 1]? = some vn ∧ ChangeAt w M vp vn l[i] := by
  refine ⟨(List.range (l.length * 2)).map (fun j => (w.cell? ⟨b, j, none⟩).getD undef), by simp, fun j u hj => ?_, fun i hi => ?_⟩
  · simp only [List.getElem?_map, Option.map_eq_some_iff] at hj
    obtain ⟨j', hj', rfl⟩ := hj
    obtain ⟨hlt, rfl⟩ := List.getElem?_eq_some_iff.1 hj'
    simp only [List.getElem_range, List.length_range] at hlt ⊢
    obtain ⟨vp, vn, e1, e2, _⟩ := h (j / 2) (by omega)
    rcases Nat.mod_two_eq_zero_or_one j with q | q
    · rw [show j / 2 * 2 = j by omega] at e1; rw [e1]; rfl
    · rw [show j / 2 * 2 + 1 = j by omega] at e2; rw [e2]; rfl
  · obtain ⟨vp, vn, e1, e2, e3⟩ := h i hi
    exact ⟨vp, vn, by rw [List.getElem?_map, List.getElem?_range (by omega)]; simp [e1], by rw [List.getElem?_map, List.getElem?_range (by omega)]; simp [e2], e3⟩

def Sx (bd box b n cap : Nat) (vp vn : Value) (w : World) : Prop :=
  w.cell? ⟨bd, 3, none⟩ = some (.slice (some ⟨b, 0, none⟩) n cap) ∧ w.frozen? ⟨bd, 3, none⟩ = false ∧ w.cell? ⟨box, 0, none⟩ = some vp ∧ w.cell? ⟨box, 1, none⟩ = some vn
def Sy (bd box : Nat) (vp vn : Value) (w : World) : Prop :=
  w.cell? ⟨bd, 3, none⟩ = some (.slice none 0 0) ∧ w.frozen? ⟨bd, 3, none⟩ = false ∧ w.cell? ⟨box, 0, none⟩ = some vp ∧ w.cell? ⟨box, 1, none⟩ = some vn
theorem grownBy_of_drew {w w' : World} {r : Option Nat} (h : w.drew.grownBy w' r) : w.grownBy w' r := ⟨h.os, h.tape, h.output, h.size, h.block⟩

set_option maxHeartbeats 2000000 in
theorem rename_nil (bd bn : Nat) (m : Names) (c : Change) (vp vn : Value) (M : Nat → Prop) (w : World) (hM : M bn) (hm : MapAt w bn m) (hc : ChangeAt w M vp vn c) (hl : c.length ≤ 1000) (hne : bd ≠ bn) (hd : bd < w.heap.size)
    (hnow : w.cell? ⟨bd, 2, none⟩ = some (.map (some bn))) (hloose : w.cell? ⟨bd, 3, none⟩ = some (.slice none 0 0)) (hfree : ∀ i, w.frozen? ⟨bd, i, none⟩ = false) :
    Calls Tryd.prog 33 #[.pointer (some ⟨bd, 0, none⟩), .agg #[vp, vn]] w fun e w' => e = .returned (.tuple #[]) ∧ ∃ w2 v, MapAt w2 bn (applyM m c) ∧ w.grownBy w2 (some bn) ∧ w' = w2.setCell ⟨bd, 3, none⟩ v ∧ w2.ownsRow w.heap.size 69 2 v 1 [vp, vn] := by
  obtain ⟨i0, hi, hz0, hz1, hz2⟩ := info_parts infoChange
  have hb1 : Below w.heap.size w (w.alloc (.cells #[vp, vn] 69)).drew := ((Below.refl _ _).alloc (Nat.le_refl _) _).drew
  have hAP := apply_calls bn m c vp vn M (w.alloc (.cells #[vp, vn] 69)).drew (hm.kept (Below.heap_alloc _ _ _ hm.lt)) hM (hc.goes (Goes.of_below hb1 (fun _ => False) M) (fun _ h => h.elim)) hl
  have HV : Hid (∀ u ∈ [vp, vn], u.oneCell' = true) := by
    obtain ⟨_, _, _, _, rfl, rfl, _⟩ := hc
    intro u hu
    simp at hu
    rcases hu with rfl | rfl <;> rfl
  have hbnl := hm.lt
  have HF := Lib.hid hfree; clear hfree hm hc hb1
  go_enter Tryd.func33, Tryd.ntmps33
  go_wp2_with fail
  go_upto_region 1 with fail
  go_cut [9] (fun _ wx => Hid (MapAt wx bn (applyM m c)) ∧ Hid ((w.alloc (.cells #[vp, vn] 69)).grownBy wx (some bn)))
  case first =>
    go_region_with (go_at_call 34; refine hAP.mono ?_; rintro e w1 ⟨rfl, hm1, hg1⟩; have HM1 := Lib.hid hm1; have HG1 := Lib.hid hg1; clear hm1 hg1)
    all_goals (go_wp2_with fail; go_meet; exact ⟨HM1.out, grownBy_of_drew HG1.out⟩)
  case rest =>
    obtain ⟨HM, HG⟩ := hcut
    have HGw : Hid (w.grownBy wc (some bn)) := (World.grownBy_alloc w _ _).trans HG.out
    have x3 : wc.cell? ⟨bd, 3, none⟩ = some (.slice none 0 0) := HGw.out.cell hloose (by simpa using hne)
    have xf : wc.frozen? ⟨bd, 3, none⟩ = false := (HGw.out.frozen_far ⟨bd, 3, none⟩ hd (by simpa using hne)).trans (HF.out 3)
    have y0 : wc.cell? ⟨w.heap.size, 0, none⟩ = some vp := HG.out.cell (v := vp) (by simp) (by simp; omega)
    have y1 : wc.cell? ⟨w.heap.size, 1, none⟩ = some vn := HG.out.cell (v := vn) (by simp) (by simp; omega)
    have hsx : w.heap.size + 1 ≤ wc.heap.size := by have := HG.out.size; simpa using this
    clear hloose
    go_wp2_with fail
    have H2 : Hid (∀ j u, [vp, vn][j]? = some u → (wc.alloc (.cells #[vp, vn] 69)).drew.cell? ((⟨wc.heap.size, 0, none⟩ : Addr).add j) = some u) := cell_two_new wc vp vn 69
    have H3 : Hid (∀ u ∈ [vp, vn], u.oneCell' = true) := HV.out
    have hdw : bd < wc.heap.size := by omega
    have hSa : Hid (Sy bd w.heap.size vp vn wc.drew) := ⟨x3, xf, y0, y1⟩
    have hSb : Hid (Sy bd w.heap.size vp vn (wc.alloc (.cells #[vp, vn] 69)).drew) :=
      ⟨(World.cell?_alloc_lt _ _ _ hdw).trans x3, (World.frozen?_alloc_old _ _ _ (by simp; omega)).trans xf, (World.cell?_alloc_lt _ _ _ (by simp; omega)).trans y0, (World.cell?_alloc_lt _ _ _ (by simp; omega)).trans y1⟩
    refine wp_region_E (Sy bd w.heap.size vp vn) [21] (by kernel_rfl) ?_
    clear x3 xf y0 y1
    refine wpAnyE_take (i := 0) (v := ?v0) [0,1,2,3,4,5,6,7,8,9,10,11,12,13,14,15,16] rfl (by kernel_rfl) (by kernel_rfl) (by kernel_rfl) (by kernel_rfl) (by kernel_rfl) (fun _ _ _ h => h) (Or.inl ⟨by rfl, ?y0⟩) hSa.out ?n0
    case y0 => intro w' hS; obtain ⟨s1, s2, s3, s4⟩ := hS; go_simp; with_reducible rfl
    simp only [Act.put, List.setIfInBounds_toArray]
    refine wpAnyE_take (i := 1) (v := ?v1) [0,1,2,3,4,5,6,7,8,9,10,11,12,13,14,15,16] rfl (by kernel_rfl) (by kernel_rfl) (by kernel_rfl) (by kernel_rfl) (by kernel_rfl) (fun _ _ _ h => h) (Or.inl ⟨by rfl, ?y1⟩) hSa.out ?n1
    case y1 => intro w' hS; obtain ⟨s1, s2, s3, s4⟩ := hS; go_simp; with_reducible rfl
    simp only [Act.put]
    refine wpAnyE_take (i := 2) (v := ?v2) [0,1,2,3,4,5,6,7,8,9,10,11,12,13,14,15,16] rfl (by kernel_rfl) (by kernel_rfl) (by kernel_rfl) (by kernel_rfl) (by kernel_rfl) (fun _ _ _ h => h) (Or.inl ⟨by rfl, ?y2⟩) hSa.out ?n2
    case y2 => intro w' hS; obtain ⟨s1, s2, s3, s4⟩ := hS; go_simp; with_reducible rfl
    simp only [Act.put]
    refine wpAnyE_take (i := 3) (v := ?v3) [0,1,2,3,4,5,6,7,8,9,10,11,12,13,14,15,16] rfl (by kernel_rfl) (by kernel_rfl) (by kernel_rfl) (by kernel_rfl) (by kernel_rfl) (fun _ _ _ h => h) (Or.inl ⟨by rfl, ?y3⟩) hSa.out ?n3
    case y3 => intro w' hS; obtain ⟨s1, s2, s3, s4⟩ := hS; go_simp; with_reducible rfl
    simp only [Act.put]
    refine wpAnyE_take (i := 4) (v := ?v4) [0,1,2,3,4,5,6,7,8,9,10,11,12,13,14,15,16] rfl (by kernel_rfl) (by kernel_rfl) (by kernel_rfl) (by kernel_rfl) (by kernel_rfl) (fun _ _ _ h => h) (Or.inl ⟨by rfl, ?y4⟩) hSa.out ?n4
    case y4 => intro w' hS; obtain ⟨s1, s2, s3, s4⟩ := hS; go_simp; with_reducible rfl
    simp only [Act.put]
    refine wpAnyE_take (i := 5) (v := ?v5) [0,1,2,3,4,5,6,7,8,9,10,11,12,13,14,15,16] rfl (by kernel_rfl) (by kernel_rfl) (by kernel_rfl) (by kernel_rfl) (by kernel_rfl) (fun _ _ _ h => h) (Or.inl ⟨by rfl, ?y5⟩) hSa.out ?n5
    case y5 => intro w' hS; obtain ⟨s1, s2, s3, s4⟩ := hS; go_simp; with_reducible rfl
    simp only [Act.put]
    refine wpAnyE_take (i := 6) (v := ?v6) [0,1,2,3,4,5,6,7,8,9,10,11,12,13,14,15,16] rfl (by kernel_rfl) (by kernel_rfl) (by kernel_rfl) (by kernel_rfl) (by kernel_rfl) (fun _ _ _ h => h) (Or.inl ⟨by rfl, ?y6⟩) hSa.out ?n6
    case y6 => intro w' hS; obtain ⟨s1, s2, s3, s4⟩ := hS; go_simp; with_reducible rfl
    simp only [Act.put]
    refine wpAnyE_take (i := 7) (v := ?v7) [0,1,2,3,4,5,6,7,8,9,10,11,12,13,14,15,16] rfl (by kernel_rfl) (by kernel_rfl) (by kernel_rfl) (by kernel_rfl) (by kernel_rfl) (fun _ _ _ h => h) (Or.inl ⟨by rfl, ?y7⟩) hSa.out ?n7
    case y7 => intro w' hS; obtain ⟨s1, s2, s3, s4⟩ := hS; go_simp; with_reducible rfl
    simp only [Act.put]
    refine wpAnyE_take (i := 8) (v := ?v8) [0,1,2,3,4,5,6,7,8,9,10,11,12,13,14,15,16] rfl (by kernel_rfl) (by kernel_rfl) (by kernel_rfl) (by kernel_rfl) (by kernel_rfl) (fun _ _ _ h => h) (Or.inl ⟨by rfl, ?y8⟩) hSa.out ?n8
    case y8 => intro w' hS; obtain ⟨s1, s2, s3, s4⟩ := hS; go_simp; with_reducible rfl
    simp only [Act.put]
    refine wpAnyE_take (i := 9) (v := ?v9) [0,1,2,3,4,5,6,7,8,9,10,11,12,13,14,15,16] rfl (by kernel_rfl) (by kernel_rfl) (by kernel_rfl) (by kernel_rfl) (by kernel_rfl) (fun _ _ _ h => h) (Or.inl ⟨by rfl, ?y9⟩) hSa.out ?n9
    case y9 => intro w' hS; obtain ⟨s1, s2, s3, s4⟩ := hS; go_simp; with_reducible rfl
    simp only [Act.put]
    refine wpAnyE_take (i := 10) (v := ?v10) [0,1,2,3,4,5,6,7,8,9,10,11,12,13,14,15,16] rfl (by kernel_rfl) (by kernel_rfl) (by kernel_rfl) (by kernel_rfl) (by kernel_rfl) (fun _ _ _ h => h) (Or.inl ⟨by rfl, ?y10⟩) hSa.out ?n10
    case y10 => intro w' hS; obtain ⟨s1, s2, s3, s4⟩ := hS; go_simp; with_reducible rfl
    simp only [Act.put]
    refine wpAnyE_take (i := 11) (v := ?v11) [0,1,2,3,4,5,6,7,8,9,10,11,12,13,14,15,16] rfl (by kernel_rfl) (by kernel_rfl) (by kernel_rfl) (by kernel_rfl) (by kernel_rfl) (fun _ _ _ h => h) (Or.inl ⟨by rfl, ?y11⟩) hSa.out ?n11
    case y11 => intro w' hS; obtain ⟨s1, s2, s3, s4⟩ := hS; go_simp; with_reducible rfl
    simp only [Act.put]
    refine wpAnyE_take (i := 12) (v := ?v12) [0,1,2,3,4,5,6,7,8,9,10,11,12,13,14,15,16] rfl (by kernel_rfl) (by kernel_rfl) (by kernel_rfl) (by kernel_rfl) (by kernel_rfl) (fun _ _ _ h => h) (Or.inl ⟨by rfl, ?y12⟩) hSa.out ?n12
    case y12 => intro w' hS; obtain ⟨s1, s2, s3, s4⟩ := hS; go_simp; with_reducible rfl
    simp only [Act.put]
    refine wpAnyE_take (i := 13) (v := ?v13) [0,1,2,3,4,5,6,7,8,9,10,11,12,13,14,15,16] rfl (by kernel_rfl) (by kernel_rfl) (by kernel_rfl) (by kernel_rfl) (by kernel_rfl) (fun _ _ _ h => h) (Or.inl ⟨by rfl, ?y13⟩) hSa.out ?n13
    case y13 => intro w' hS; obtain ⟨s1, s2, s3, s4⟩ := hS; go_simp; with_reducible rfl
    simp only [Act.put]
    refine wpAnyE_take (i := 14) (v := ?v14) [0,1,2,3,4,5,6,7,8,9,10,11,12,13,14,15,16] rfl (by kernel_rfl) (by kernel_rfl) (by kernel_rfl) (by kernel_rfl) (by kernel_rfl) (fun _ _ _ h => h) (Or.inl ⟨by rfl, ?y14⟩) hSa.out ?n14
    case y14 => intro w' hS; obtain ⟨s1, s2, s3, s4⟩ := hS; go_simp; with_reducible rfl
    simp only [Act.put]
    refine wpAnyE_take (i := 15) (v := ?v15) [0,1,2,3,4,5,6,7,8,9,10,11,12,13,14,15,16] rfl (by kernel_rfl) (by kernel_rfl) (by kernel_rfl) (by kernel_rfl) (by kernel_rfl) (fun _ _ _ h => h) (Or.inl ⟨by rfl, ?y15⟩) hSa.out ?n15
    case y15 => intro w' hS; obtain ⟨s1, s2, s3, s4⟩ := hS; go_simp; with_reducible rfl
    simp only [Act.put]
    refine wpAnyE_take (i := 16) (v := ?v16) [0,1,2,3,4,5,6,7,8,9,10,11,12,13,14,15,16] rfl (by kernel_rfl) (by kernel_rfl) (by kernel_rfl) (by kernel_rfl) (by kernel_rfl) (fun _ _ _ h => h) (Or.inl ⟨by rfl, ?y16⟩) hSa.out ?n16
    case y16 => intro w' hS; obtain ⟨s1, s2, s3, s4⟩ := hS; go_simp; with_reducible rfl
    simp only [Act.put]
    refine wpAnyE_one (i := 17) rfl (by kernel_rfl) (fun K hK => ?_)
    go_simp
    refine hK _ _ (fun _ => hSb.out) ?_
    clear hK K
    refine wpAnyE_one (i := 18) rfl (by kernel_rfl) (fun K hK => ?_)
    refine step_append_grows rfl (.tmp 25) (.tmp 27) 43 rfl 69 i0 _ 2 48 Tryd.underlying43 hi hz0 hz1 hz2 rfl (by decide) none 0 0 [] (by simp [Act.eval]) (fun _ => ⟨rfl, rfl⟩) rfl (fun b' e => by cases e) ⟨wc.heap.size, 0, none⟩ 1 1 [vp, vn] (by simp [Act.eval]) rfl H2.out H3.out (by omega) (by unfold maxLen; omega) (by omega) ?_
    intro v' w2 hown hgrow
    obtain ⟨g, cap', hv, hg1, hg2⟩ := hown.form (by omega)
    subst hv
    have hgr0 : wc.grownBy w2 none := (World.grownBy_alloc wc _ _).trans (grownBy_of_drew hgrow)
    have hS2 : Hid (Sy bd w.heap.size vp vn w2) := ⟨hgr0.cell hSa.out.1 (by simp), (hgr0.frozen_far ⟨bd, 3, none⟩ hdw (by simp)).trans hSa.out.2.1, hgr0.cell hSa.out.2.2.1 (by simp), hgr0.cell hSa.out.2.2.2 (by simp)⟩
    have HOW : Hid (w2.ownsRow w.heap.size 69 2 (.slice (some ⟨g, 0, none⟩) 1 cap') 1 [vp, vn]) := by
      refine ⟨hown.1, ?_⟩
      rcases hown.2 with ⟨q, _⟩ | ⟨g', cap2, cur, q1, q2, q3⟩
      · cases q
      · exact .inr ⟨g', cap2, cur, q1, by simp at q2; omega, q3⟩
    have HM2 : Hid (MapAt w2 bn (applyM m c)) := HM.out.kept (hgr0.block bn HM.out.lt (by simp))
    have HG2 : Hid (w.grownBy w2 (some bn)) := by
      refine HGw.out.trans ⟨hgr0.os, hgr0.tape, hgr0.output, hgr0.size, fun k hk _ => hgr0.block k hk (by simp)⟩
    clear hown hgrow hg1 hg2 hgr0
    refine hK _ _ (fun _ => hS2.out) ?_
    clear hK K
    simp only [Act.put, List.setIfInBounds_toArray]
    refine wpAnyE_one (i := 19) rfl (by kernel_rfl) (fun K hK => ?_)
    go_simp
    refine hK _ _ (fun _ => hS2.out) ?_
    clear hK K
    refine wpAnyE_one (i := 20) rfl (by kernel_rfl) (fun K hK => ?_)
    go_simp
    refine hK _ _ (fun _ => hS2.out) ?_
    clear hK K
    refine wpAnyE_one (i := 21) rfl (by kernel_rfl) (fun K hK => ?_)
    have s1 : w2.cell? ⟨bd, 3, none⟩ = some (.slice none 0 0) := hS2.out.1
    have s2 : w2.frozen? ⟨bd, 3, none⟩ = false := hS2.out.2.1
    go_simp
    refine hK _ _ (fun h => absurd (by simp) h) ?_
    clear hK K s1 s2
    refine wpAnyE_done (by kernel_rfl) ?_ _
    go_wp2
    go_end0
    exact ⟨rfl, w2, _, HM2.out, HG2.out, rfl, HOW.out⟩

set_option maxHeartbeats 2000000 in
theorem rename_some (bd bn b n cap : Nat) (m : Names) (c : Change) (vp vn : Value) (olds : List Value) (M : Nat → Prop) (w : World) (hM : M bn) (hm : MapAt w bn m) (hc : ChangeAt w M vp vn c) (hl : c.length ≤ 1000) (hne : bd ≠ bn) (hd : bd < w.heap.size)
    (hnow : w.cell? ⟨bd, 2, none⟩ = some (.map (some bn))) (hloose : w.cell? ⟨bd, 3, none⟩ = some (.slice (some ⟨b, 0, none⟩) n cap)) (hfree : ∀ i, w.frozen? ⟨bd, i, none⟩ = false)
    (hncap : n ≤ cap) (hn : n ≤ 1000000) (ho : olds.length = n * 2) (hos : ∀ j u, olds[j]? = some u → w.cell? ⟨b, j, none⟩ = some u) (hbb : b < w.heap.size) (hbn : b ≠ bn) :
    Calls Tryd.prog 33 #[.pointer (some ⟨bd, 0, none⟩), .agg #[vp, vn]] w fun e w' => e = .returned (.tuple #[]) ∧ ∃ w2 v, MapAt w2 bn (applyM m c) ∧ w.grownBy w2 (some bn) ∧ w' = w2.setCell ⟨bd, 3, none⟩ v ∧ w2.ownsRow w.heap.size 69 2 v (n + 1) (olds ++ [vp, vn]) := by
  obtain ⟨i0, hi, hz0, hz1, hz2⟩ := info_parts infoChange
  have hb1 : Below w.heap.size w (w.alloc (.cells #[vp, vn] 69)).drew := ((Below.refl _ _).alloc (Nat.le_refl _) _).drew
  have hAP := apply_calls bn m c vp vn M (w.alloc (.cells #[vp, vn] 69)).drew (hm.kept (Below.heap_alloc _ _ _ hm.lt)) hM (hc.goes (Goes.of_below hb1 (fun _ => False) M) (fun _ h => h.elim)) hl
  have HV : Hid (∀ u ∈ [vp, vn], u.oneCell' = true) := by
    obtain ⟨_, _, _, _, rfl, rfl, _⟩ := hc
    intro u hu
    simp at hu
    rcases hu with rfl | rfl <;> rfl
  have HOS := Lib.hid hos
  have HO := Lib.hid ho
  have hbnl := hm.lt
  have HF := Lib.hid hfree; clear hfree hm hc hb1 hos ho
  go_enter Tryd.func33, Tryd.ntmps33
  go_wp2_with fail
  go_upto_region 1 with fail
  go_cut [9] (fun _ wx => Hid (MapAt wx bn (applyM m c)) ∧ Hid ((w.alloc (.cells #[vp, vn] 69)).grownBy wx (some bn)))
  case first =>
    go_region_with (go_at_call 34; refine hAP.mono ?_; rintro e w1 ⟨rfl, hm1, hg1⟩; have HM1 := Lib.hid hm1; have HG1 := Lib.hid hg1; clear hm1 hg1)
    all_goals (go_wp2_with fail; go_meet; exact ⟨HM1.out, grownBy_of_drew HG1.out⟩)
  case rest =>
    obtain ⟨HM, HG⟩ := hcut
    have HGw : Hid (w.grownBy wc (some bn)) := (World.grownBy_alloc w _ _).trans HG.out
    have x3 : wc.cell? ⟨bd, 3, none⟩ = some (.slice (some ⟨b, 0, none⟩) n cap) := HGw.out.cell hloose (by simpa using hne)
    have xf : wc.frozen? ⟨bd, 3, none⟩ = false := (HGw.out.frozen_far ⟨bd, 3, none⟩ hd (by simpa using hne)).trans (HF.out 3)
    have y0 : wc.cell? ⟨w.heap.size, 0, none⟩ = some vp := HG.out.cell (v := vp) (by simp) (by simp; omega)
    have y1 : wc.cell? ⟨w.heap.size, 1, none⟩ = some vn := HG.out.cell (v := vn) (by simp) (by simp; omega)
    have hsx : w.heap.size + 1 ≤ wc.heap.size := by have := HG.out.size; simpa using this
    clear hloose
    go_wp2_with fail
    have H1 : Hid (∀ b', some (⟨b, 0, none⟩ : Addr) = some b' → ∀ j u, olds[j]? = some u → (wc.alloc (.cells #[vp, vn] 69)).drew.cell? (b'.add j) = some u) := by
      intro b' e j u hj
      cases e
      have := HOS.out j u hj
      have h2 := HGw.out.cell this (by simpa using hbn)
      have h3 : ((⟨b, 0, none⟩ : Addr).add j) = ⟨b, j, none⟩ := by unfold Addr.add; split <;> simp_all
      rw [h3, World.cell?_drew, World.cell?_alloc_lt _ _ _ (World.block_lt_of_cell? _ _ h2)]
      exact h2
    have H2 : Hid (∀ j u, [vp, vn][j]? = some u → (wc.alloc (.cells #[vp, vn] 69)).drew.cell? ((⟨wc.heap.size, 0, none⟩ : Addr).add j) = some u) := cell_two_new wc vp vn 69
    have H3 : Hid (∀ u ∈ [vp, vn], u.oneCell' = true) := HV.out
    have hdw : bd < wc.heap.size := by omega
    have hSa : Hid (Sx bd w.heap.size b n cap vp vn wc.drew) := ⟨x3, xf, y0, y1⟩
    have hSb : Hid (Sx bd w.heap.size b n cap vp vn (wc.alloc (.cells #[vp, vn] 69)).drew) :=
      ⟨(World.cell?_alloc_lt _ _ _ hdw).trans x3, (World.frozen?_alloc_old _ _ _ (by simp; omega)).trans xf, (World.cell?_alloc_lt _ _ _ (by simp; omega)).trans y0, (World.cell?_alloc_lt _ _ _ (by simp; omega)).trans y1⟩
    refine wp_region_E (Sx bd w.heap.size b n cap vp vn) [21] (by kernel_rfl) ?_
    clear x3 xf y0 y1
    refine wpAnyE_take (i := 0) (v := ?v0) [0,1,2,3,4,5,6,7,8,9,10,11,12,13,14,15,16] rfl (by kernel_rfl) (by kernel_rfl) (by kernel_rfl) (by kernel_rfl) (by kernel_rfl) (fun _ _ _ h => h) (Or.inl ⟨by rfl, ?y0⟩) hSa.out ?n0
    case y0 => intro w' hS; obtain ⟨s1, s2, s3, s4⟩ := hS; go_simp; with_reducible rfl
    simp only [Act.put, List.setIfInBounds_toArray]
    refine wpAnyE_take (i := 1) (v := ?v1) [0,1,2,3,4,5,6,7,8,9,10,11,12,13,14,15,16] rfl (by kernel_rfl) (by kernel_rfl) (by kernel_rfl) (by kernel_rfl) (by kernel_rfl) (fun _ _ _ h => h) (Or.inl ⟨by rfl, ?y1⟩) hSa.out ?n1
    case y1 => intro w' hS; obtain ⟨s1, s2, s3, s4⟩ := hS; go_simp; with_reducible rfl
    simp only [Act.put]
    refine wpAnyE_take (i := 2) (v := ?v2) [0,1,2,3,4,5,6,7,8,9,10,11,12,13,14,15,16] rfl (by kernel_rfl) (by kernel_rfl) (by kernel_rfl) (by kernel_rfl) (by kernel_rfl) (fun _ _ _ h => h) (Or.inl ⟨by rfl, ?y2⟩) hSa.out ?n2
    case y2 => intro w' hS; obtain ⟨s1, s2, s3, s4⟩ := hS; go_simp; with_reducible rfl
    simp only [Act.put]
    refine wpAnyE_take (i := 3) (v := ?v3) [0,1,2,3,4,5,6,7,8,9,10,11,12,13,14,15,16] rfl (by kernel_rfl) (by kernel_rfl) (by kernel_rfl) (by kernel_rfl) (by kernel_rfl) (fun _ _ _ h => h) (Or.inl ⟨by rfl, ?y3⟩) hSa.out ?n3
    case y3 => intro w' hS; obtain ⟨s1, s2, s3, s4⟩ := hS; go_simp; with_reducible rfl
    simp only [Act.put]
    refine wpAnyE_take (i := 4) (v := ?v4) [0,1,2,3,4,5,6,7,8,9,10,11,12,13,14,15,16] rfl (by kernel_rfl) (by kernel_rfl) (by kernel_rfl) (by kernel_rfl) (by kernel_rfl) (fun _ _ _ h => h) (Or.inl ⟨by rfl, ?y4⟩) hSa.out ?n4
    case y4 => intro w' hS; obtain ⟨s1, s2, s3, s4⟩ := hS; go_simp; with_reducible rfl
    simp only [Act.put]
    refine wpAnyE_take (i := 5) (v := ?v5) [0,1,2,3,4,5,6,7,8,9,10,11,12,13,14,15,16] rfl (by kernel_rfl) (by kernel_rfl) (by kernel_rfl) (by kernel_rfl) (by kernel_rfl) (fun _ _ _ h => h) (Or.inl ⟨by rfl, ?y5⟩) hSa.out ?n5
    case y5 => intro w' hS; obtain ⟨s1, s2, s3, s4⟩ := hS; go_simp; with_reducible rfl
    simp only [Act.put]
    refine wpAnyE_take (i := 6) (v := ?v6) [0,1,2,3,4,5,6,7,8,9,10,11,12,13,14,15,16] rfl (by kernel_rfl) (by kernel_rfl) (by kernel_rfl) (by kernel_rfl) (by kernel_rfl) (fun _ _ _ h => h) (Or.inl ⟨by rfl, ?y6⟩) hSa.out ?n6
    case y6 => intro w' hS; obtain ⟨s1, s2, s3, s4⟩ := hS; go_simp; with_reducible rfl
    simp only [Act.put]
    refine wpAnyE_take (i := 7) (v := ?v7) [0,1,2,3,4,5,6,7,8,9,10,11,12,13,14,15,16] rfl (by kernel_rfl) (by kernel_rfl) (by kernel_rfl) (by kernel_rfl) (by kernel_rfl) (fun _ _ _ h => h) (Or.inl ⟨by rfl, ?y7⟩) hSa.out ?n7
    case y7 => intro w' hS; obtain ⟨s1, s2, s3, s4⟩ := hS; go_simp; with_reducible rfl
    simp only [Act.put]
    refine wpAnyE_take (i := 8) (v := ?v8) [0,1,2,3,4,5,6,7,8,9,10,11,12,13,14,15,16] rfl (by kernel_rfl) (by kernel_rfl) (by kernel_rfl) (by kernel_rfl) (by kernel_rfl) (fun _ _ _ h => h) (Or.inl ⟨by rfl, ?y8⟩) hSa.out ?n8
    case y8 => intro w' hS; obtain ⟨s1, s2, s3, s4⟩ := hS; go_simp; with_reducible rfl
    simp only [Act.put]
    refine wpAnyE_take (i := 9) (v := ?v9) [0,1,2,3,4,5,6,7,8,9,10,11,12,13,14,15,16] rfl (by kernel_rfl) (by kernel_rfl) (by kernel_rfl) (by kernel_rfl) (by kernel_rfl) (fun _ _ _ h => h) (Or.inl ⟨by rfl, ?y9⟩) hSa.out ?n9
    case y9 => intro w' hS; obtain ⟨s1, s2, s3, s4⟩ := hS; go_simp; with_reducible rfl
    simp only [Act.put]
    refine wpAnyE_take (i := 10) (v := ?v10) [0,1,2,3,4,5,6,7,8,9,10,11,12,13,14,15,16] rfl (by kernel_rfl) (by kernel_rfl) (by kernel_rfl) (by kernel_rfl) (by kernel_rfl) (fun _ _ _ h => h) (Or.inl ⟨by rfl, ?y10⟩) hSa.out ?n10
    case y10 => intro w' hS; obtain ⟨s1, s2, s3, s4⟩ := hS; go_simp; with_reducible rfl
    simp only [Act.put]
    refine wpAnyE_take (i := 11) (v := ?v11) [0,1,2,3,4,5,6,7,8,9,10,11,12,13,14,15,16] rfl (by kernel_rfl) (by kernel_rfl) (by kernel_rfl) (by kernel_rfl) (by kernel_rfl) (fun _ _ _ h => h) (Or.inl ⟨by rfl, ?y11⟩) hSa.out ?n11
    case y11 => intro w' hS; obtain ⟨s1, s2, s3, s4⟩ := hS; go_simp; with_reducible rfl
    simp only [Act.put]
    refine wpAnyE_take (i := 12) (v := ?v12) [0,1,2,3,4,5,6,7,8,9,10,11,12,13,14,15,16] rfl (by kernel_rfl) (by kernel_rfl) (by kernel_rfl) (by kernel_rfl) (by kernel_rfl) (fun _ _ _ h => h) (Or.inl ⟨by rfl, ?y12⟩) hSa.out ?n12
    case y12 => intro w' hS; obtain ⟨s1, s2, s3, s4⟩ := hS; go_simp; with_reducible rfl
    simp only [Act.put]
    refine wpAnyE_take (i := 13) (v := ?v13) [0,1,2,3,4,5,6,7,8,9,10,11,12,13,14,15,16] rfl (by kernel_rfl) (by kernel_rfl) (by kernel_rfl) (by kernel_rfl) (by kernel_rfl) (fun _ _ _ h => h) (Or.inl ⟨by rfl, ?y13⟩) hSa.out ?n13
    case y13 => intro w' hS; obtain ⟨s1, s2, s3, s4⟩ := hS; go_simp; with_reducible rfl
    simp only [Act.put]
    refine wpAnyE_take (i := 14) (v := ?v14) [0,1,2,3,4,5,6,7,8,9,10,11,12,13,14,15,16] rfl (by kernel_rfl) (by kernel_rfl) (by kernel_rfl) (by kernel_rfl) (by kernel_rfl) (fun _ _ _ h => h) (Or.inl ⟨by rfl, ?y14⟩) hSa.out ?n14
    case y14 => intro w' hS; obtain ⟨s1, s2, s3, s4⟩ := hS; go_simp; with_reducible rfl
    simp only [Act.put]
    refine wpAnyE_take (i := 15) (v := ?v15) [0,1,2,3,4,5,6,7,8,9,10,11,12,13,14,15,16] rfl (by kernel_rfl) (by kernel_rfl) (by kernel_rfl) (by kernel_rfl) (by kernel_rfl) (fun _ _ _ h => h) (Or.inl ⟨by rfl, ?y15⟩) hSa.out ?n15
    case y15 => intro w' hS; obtain ⟨s1, s2, s3, s4⟩ := hS; go_simp; with_reducible rfl
    simp only [Act.put]
    refine wpAnyE_take (i := 16) (v := ?v16) [0,1,2,3,4,5,6,7,8,9,10,11,12,13,14,15,16] rfl (by kernel_rfl) (by kernel_rfl) (by kernel_rfl) (by kernel_rfl) (by kernel_rfl) (fun _ _ _ h => h) (Or.inl ⟨by rfl, ?y16⟩) hSa.out ?n16
    case y16 => intro w' hS; obtain ⟨s1, s2, s3, s4⟩ := hS; go_simp; with_reducible rfl
    simp only [Act.put]
    refine wpAnyE_one (i := 17) rfl (by kernel_rfl) (fun K hK => ?_)
    go_simp
    refine hK _ _ (fun _ => hSb.out) ?_
    clear hK K
    refine wpAnyE_one (i := 18) rfl (by kernel_rfl) (fun K hK => ?_)
    refine step_append_grows rfl (.tmp 25) (.tmp 27) 43 rfl 69 i0 _ 2 48 Tryd.underlying43 hi hz0 hz1 hz2 rfl (by decide) (some ⟨b, 0, none⟩) n n olds (by simp [Act.eval]) (fun h => by cases h) HO.out H1.out ⟨wc.heap.size, 0, none⟩ 1 1 [vp, vn] (by simp [Act.eval]) rfl H2.out H3.out (by omega) (by unfold maxLen; omega) (by omega) ?_
    intro v' w2 hown hgrow
    obtain ⟨g, cap', hv, hg1, hg2⟩ := hown.form (by omega)
    subst hv
    have hgr0 : wc.grownBy w2 none := (World.grownBy_alloc wc _ _).trans (grownBy_of_drew hgrow)
    have hS2 : Hid (Sx bd w.heap.size b n cap vp vn w2) := ⟨hgr0.cell hSa.out.1 (by simp), (hgr0.frozen_far ⟨bd, 3, none⟩ hdw (by simp)).trans hSa.out.2.1, hgr0.cell hSa.out.2.2.1 (by simp), hgr0.cell hSa.out.2.2.2 (by simp)⟩
    have HOW : Hid (w2.ownsRow w.heap.size 69 2 (.slice (some ⟨g, 0, none⟩) (n + 1) cap') (n + 1) (olds ++ [vp, vn])) := by
      refine ⟨hown.1, ?_⟩
      rcases hown.2 with ⟨q, _⟩ | ⟨g', cap2, cur, q1, q2, q3⟩
      · cases q
      · exact .inr ⟨g', cap2, cur, q1, by simp at q2; omega, q3⟩
    have HM2 : Hid (MapAt w2 bn (applyM m c)) := HM.out.kept (hgr0.block bn HM.out.lt (by simp))
    have HG2 : Hid (w.grownBy w2 (some bn)) := by
      refine HGw.out.trans ⟨hgr0.os, hgr0.tape, hgr0.output, hgr0.size, fun k hk _ => hgr0.block k hk (by simp)⟩
    clear hown hgrow hg1 hg2 hgr0
    refine hK _ _ (fun _ => hS2.out) ?_
    clear hK K
    simp only [Act.put, List.setIfInBounds_toArray]
    refine wpAnyE_one (i := 19) rfl (by kernel_rfl) (fun K hK => ?_)
    go_simp
    refine hK _ _ (fun _ => hS2.out) ?_
    clear hK K
    refine wpAnyE_one (i := 20) rfl (by kernel_rfl) (fun K hK => ?_)
    go_simp
    refine hK _ _ (fun _ => hS2.out) ?_
    clear hK K
    refine wpAnyE_one (i := 21) rfl (by kernel_rfl) (fun K hK => ?_)
    have s1 : w2.cell? ⟨bd, 3, none⟩ = some (.slice (some ⟨b, 0, none⟩) n cap) := hS2.out.1
    have s2 : w2.frozen? ⟨bd, 3, none⟩ = false := hS2.out.2.1
    go_simp
    refine hK _ _ (fun h => absurd (by simp) h) ?_
    clear hK K s1 s2
    refine wpAnyE_done (by kernel_rfl) ?_ _
    go_wp2
    go_end0
    exact ⟨rfl, w2, _, HM2.out, HG2.out, rfl, HOW.out⟩
end Go.Proofs.YtihojcjijbidpaaDoor
