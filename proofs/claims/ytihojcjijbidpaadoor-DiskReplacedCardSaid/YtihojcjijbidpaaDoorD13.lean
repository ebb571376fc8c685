/- The closure that appends to a file. -/
import Derived.Test.YtihojcjijbidpaaDoorD12
namespace Go.Proofs.YtihojcjijbidpaaDoor
open Go.RowKit Go.Shelf Go.Sort

def Sa (g id : Nat) (vb : Value) (w : World) : Prop := w.cell? ⟨g, id * 2, none⟩ = some vb ∧ w.frozen? ⟨g, id * 2, none⟩ = false
def Ua (bx : Nat) (v : Value) (w : World) : Prop := w.cell? ⟨bx, 0, none⟩ = some v

set_option maxHeartbeats 2000000 in
theorem Append2_calls {M : Nat → Prop} (g id n c bx m k : Nat) (a a2 : Option Addr) (l s : List UInt8) (w : World) (hb : w.cell? ⟨g, id * 2, none⟩ = some (.slice a n c)) (hx : w.cell? ⟨bx, 0, none⟩ = some (.slice a2 m k)) (hf : ∀ i, w.frozen? ⟨g, i, none⟩ = false)
    (hl : BytesAt w M (.slice a n c) l) (hs : BytesAt w M (.slice a2 m k) s) (hlen : l.length + s.length ≤ 100000000) (hne : bx ≠ g) :
    Calls Tryd.prog 22 #[.pointer (some ⟨g, id * 2, none⟩), .pointer (some ⟨bx, 0, none⟩)] w fun e w' => e = .returned (.tuple #[]) ∧
      ∃ w2 v, Below w.heap.size w w2 ∧ w2.ownsRow w.heap.size 5 1 v (l ++ s).length ((l ++ s).map b8) ∧ w2.setCell ⟨g, id * 2, none⟩ v = w' := by
  have lg := World.block_lt_of_cell? _ _ hb
  have lx := World.block_lt_of_cell? _ _ hx
  simp only at lg lx
  have hS : Hid (Sa g id (.slice a n c) w.drew) := ⟨hb, hf _⟩
  have hU : Hid (Ua bx (.slice a2 m k) w.drew) := hx
  have hCl := bytesClone_calls (w := w.drew) (M := M) (v := .slice a n c) (l := l) (hl.goes (Goes.of_drewN (fun _ => False) M w 1) (fun _ q => q.elim)) (by omega)
  have HS := Lib.hid hs
  have HLEN := Lib.hid hlen
  clear hb hx hf hl hs hlen
  go_enter Tryd.func22, Tryd.ntmps22
  go_wp2_with fail
  refine wp_region_F (Sa g id (.slice a n c)) [10] (Ua bx (.slice a2 m k)) (by kernel_rfl) ?_
  refine wpAnyF_takeU (i := 0) (v := ?v0) rfl (by kernel_rfl) (by kernel_rfl) (by kernel_rfl) (by kernel_rfl) (fun _ _ _ h => h) (Or.inl ⟨by rfl, ?y0⟩) hS.out hU.out ?n0
  case y0 => intro w' hU; have u1 : w'.cell? ⟨bx, 0, none⟩ = some (.slice a2 m k) := hU; go_simp; with_reducible rfl
  simp only [Act.put, List.setIfInBounds_toArray, List.set_cons_succ, List.set_cons_zero]
  refine wpAnyF_takeU (i := 1) (v := ?v1) rfl (by kernel_rfl) (by kernel_rfl) (by kernel_rfl) (by kernel_rfl) (fun _ _ _ h => h) (Or.inl ⟨by rfl, ?y1⟩) hS.out hU.out ?n1
  case y1 => intro w' hU; have u1 : w'.cell? ⟨bx, 0, none⟩ = some (.slice a2 m k) := hU; go_simp; with_reducible rfl
  simp only [Act.put, List.setIfInBounds_toArray, List.set_cons_succ, List.set_cons_zero]
  refine wpAnyF_takeU (i := 2) (v := ?v2) rfl (by kernel_rfl) (by kernel_rfl) (by kernel_rfl) (by kernel_rfl) (fun _ _ _ h => h) (Or.inl ⟨by rfl, ?y2⟩) hS.out hU.out ?n2
  case y2 => intro w' hU; have u1 : w'.cell? ⟨bx, 0, none⟩ = some (.slice a2 m k) := hU; go_simp; with_reducible rfl
  simp only [Act.put, List.setIfInBounds_toArray, List.set_cons_succ, List.set_cons_zero]
  refine wpAnyF_takeU (i := 3) (v := ?v3) rfl (by kernel_rfl) (by kernel_rfl) (by kernel_rfl) (by kernel_rfl) (fun _ _ _ h => h) (Or.inl ⟨by rfl, ?y3⟩) hS.out hU.out ?n3
  case y3 => intro w' hU; have u1 : w'.cell? ⟨bx, 0, none⟩ = some (.slice a2 m k) := hU; go_simp; with_reducible rfl
  simp only [Act.put, List.setIfInBounds_toArray, List.set_cons_succ, List.set_cons_zero]
  refine wpAnyF_take (i := 4) (v := ?v4) rfl (by kernel_rfl) (by kernel_rfl) (by kernel_rfl) (by kernel_rfl) (by kernel_rfl) (by kernel_rfl) (fun _ _ _ h => h) (Or.inl ⟨by rfl, ?y4⟩) hS.out hU.out ?n4
  case y4 => intro w' hS; obtain ⟨s1, s2⟩ := hS; go_simp; with_reducible rfl
  simp only [Act.put, List.setIfInBounds_toArray, List.set_cons_succ, List.set_cons_zero]
  refine wpAnyF_takeU (i := 6) (v := ?v6) rfl (by kernel_rfl) (by kernel_rfl) (by kernel_rfl) (by kernel_rfl) (fun _ _ _ h => h) (Or.inl ⟨by rfl, ?y6⟩) hS.out hU.out ?n6
  case y6 => intro w' hU; have u1 : w'.cell? ⟨bx, 0, none⟩ = some (.slice a2 m k) := hU; go_simp; with_reducible rfl
  simp only [Act.put, List.setIfInBounds_toArray, List.set_cons_succ, List.set_cons_zero]
  refine wpAnyF_one (i := 5) rfl (by kernel_rfl) (fun K hK => ?_)
  go_simp
  refine hCl.mono ?_
  rintro e w1 ⟨v1, rfl, hr, hb1⟩
  clear hCl
  have HR := Lib.hid hr
  have HB1 : Hid (Below w.heap.size w w1) := (below_drewN (Below.refl _ w) 1).trans hb1
  have hS1 : Hid (Sa g id (.slice a n c) w1) := ⟨(HB1.out.cell (p := ⟨g, id * 2, none⟩) lg).trans hS.out.1, (HB1.out.frozen (p := ⟨g, id * 2, none⟩) lg).trans hS.out.2⟩
  have hU1 : Hid (Ua bx (.slice a2 m k) w1) := (HB1.out.cell (p := ⟨bx, 0, none⟩) lx).trans hU.out
  have HS1 : Hid (BytesAt w1 M (.slice a2 m k) s) := HS.out.goes (Goes.of_below HB1.out (fun _ => False) M) (fun _ q => q.elim)
  clear hr hb1
  refine hK _ _ (.inr hS1.out) hU1.out ?_
  clear hK K
  obtain ⟨v2, w2, hrun, hr2, hg2⟩ := run_append_bytes (ty := 22) HR.out HS1.out HLEN.out HB1.out.size
  obtain ⟨a', n', c', hv2⟩ : ∃ a' n' c', v2 = .slice a' n' c' := by
    rcases hr2.2 with ⟨q, _⟩ | ⟨g', cap', cur', q, _⟩
    · exact ⟨_, _, _, q⟩
    · exact ⟨_, _, _, q⟩
  have HB2 : Hid (Below w.heap.size w w2) := HB1.out.grown hg2 HB1.out.size (fun k e => (HR.out.lt k e).1)
  have hS2 : Hid (Sa g id (.slice a n c) w2) := ⟨(HB2.out.cell (p := ⟨g, id * 2, none⟩) lg).trans hS.out.1, (HB2.out.frozen (p := ⟨g, id * 2, none⟩) lg).trans hS.out.2⟩
  have hU2 : Hid (Ua bx (.slice a2 m k) w2) := (HB2.out.cell (p := ⟨bx, 0, none⟩) lx).trans hU.out
  have HR2 : Hid (w2.ownsRow w.heap.size 5 1 v2 (l ++ s).length ((l ++ s).map b8)) := hr2
  clear hr2 hg2
  subst hv2
  refine wpAnyF_one (i := 7) rfl (by kernel_rfl) (fun K hK => ?_)
  refine step_run_append rfl (.tmp 8) (.tmp 9) 22 rfl v1 (.slice a2 m k) (.slice a' n' c') w2 (by simp [Act.eval]) (by simp [Act.eval]) hrun ?_
  clear hrun
  refine hK _ _ (.inr hS2.out) hU2.out ?_
  clear hK K
  simp only [Act.put, List.setIfInBounds_toArray, List.set_cons_succ, List.set_cons_zero]
  refine wpAnyF_one (i := 8) rfl (by kernel_rfl) (fun K hK => ?_)
  go_simp
  refine hK _ _ (.inr hS2.out) hU2.out ?_
  clear hK K
  refine wpAnyF_one (i := 9) rfl (by kernel_rfl) (fun K hK => ?_)
  go_simp
  refine hK _ _ (.inr hS2.out) hU2.out ?_
  clear hK K
  refine wpAnyF_one (i := 10) rfl (by kernel_rfl) (fun K hK => ?_)
  have s1 : w2.cell? ⟨g, id * 2, none⟩ = some (.slice a n c) := hS2.out.1
  have s2 : w2.frozen? ⟨g, id * 2, none⟩ = false := hS2.out.2
  have hU3 : Hid (Ua bx (.slice a2 m k) (w2.setCell ⟨g, id * 2, none⟩ (.slice a' n' c'))) := by
    exact (World.cell?_setCell_other _ _ _ _ (fun e => hne (congrArg Addr.block e).symm)).trans hU2.out
  go_simp
  refine hK _ _ (.inl (by kernel_rfl)) hU3.out ?_
  clear hK K s1 s2
  refine wpAnyF_done (by kernel_rfl) ?_ _
  go_wp2
  go_end0
  exact ⟨rfl, w2, _, HB2.out, HR2.out, rfl⟩
end Go.Proofs.YtihojcjijbidpaaDoor
