/- The closure that asks whether there is room. -/
import Derived.Test.YtihojcjijbidpaaDoorD13
namespace Go.Proofs.YtihojcjijbidpaaDoor
open Go.RowKit Go.Shelf Go.Sort

def Ur (bx bd2 bd : Nat) (v : Value) (cap : Int) (w : World) : Prop := w.cell? ⟨bx, 0, none⟩ = some v ∧ w.cell? ⟨bd2, 0, none⟩ = some (.pointer (some ⟨bd, 0, none⟩)) ∧ w.cell? ⟨bd, 0, none⟩ = some (.int .i64 cap)
def appendE (D : PD) (n : Nat) : Int := if (D.cap : Int) - usedN D < n then 10 else 0

set_option maxHeartbeats 2000000 in
theorem Append1_calls {w : World} {bd bs bn : Nat} {vl vf : Value} {D : PD} {M : Nat → Prop} (h : DiskAt w bd bs bn vl vf D M) (hF : D.Fine) (f : Value) (bx bd2 n c : Nat) (a : Option Addr) (hx : w.cell? ⟨bx, 0, none⟩ = some (.slice a n c)) (hd : w.cell? ⟨bd2, 0, none⟩ = some (.pointer (some ⟨bd, 0, none⟩))) :
    Calls Tryd.prog 20 #[f, .pointer (some ⟨bx, 0, none⟩), .pointer (some ⟨bd2, 0, none⟩)] w fun e w' => e = .returned (.int .i64 (appendE D n)) ∧ Below w.heap.size w w' := by
  have lx := World.block_lt_of_cell? _ _ hx
  have l2 := World.block_lt_of_cell? _ _ hd
  have ld := h.lt
  simp only at lx l2
  have hU : Hid (Ur bx bd2 bd (.slice a n c) D.cap w.drew) := ⟨hx, hd, h.cap⟩
  have hUs := Used_calls (h.goes (Goes.of_drewN (fun _ => False) M w 1) (fun _ q => q.elim) (fun _ _ q => q)) hF
  have hcap := hF.cap
  have hub := used_le hF
  have HX : Hid (appendE D n = if (D.cap : Int) - usedN D < n then 10 else 0) := rfl
  clear h hF hx hd
  generalize usedN D = us at *
  generalize D.cap = dc at *
  have w1 : IntKind.i64.wrap ((dc : Int) - us) = dc - us := IntWalk.i64_in _ (by omega)
  go_enter Tryd.func20, Tryd.ntmps20
  go_wp2_with fail
  refine wp_region_F (fun _ => True) [] (Ur bx bd2 bd (.slice a n c) dc) (by kernel_rfl) ?_
  refine wpAnyF_takeU (i := 0) (v := ?v0) rfl (by kernel_rfl) (by kernel_rfl) (by kernel_rfl) (by kernel_rfl) (fun _ _ _ h => h) (Or.inl ⟨by rfl, ?y0⟩) trivial hU.out ?n0
  case y0 => intro w' hU; obtain ⟨u1, u2, u3⟩ := hU; go_simp; with_reducible rfl
  simp only [Act.put, List.setIfInBounds_toArray]
  refine wpAnyF_takeU (i := 1) (v := ?v1) rfl (by kernel_rfl) (by kernel_rfl) (by kernel_rfl) (by kernel_rfl) (fun _ _ _ h => h) (Or.inl ⟨by rfl, ?y1⟩) trivial hU.out ?n1
  case y1 => intro w' hU; obtain ⟨u1, u2, u3⟩ := hU; go_simp; with_reducible rfl
  simp only [Act.put]
  refine wpAnyF_takeU (i := 2) (v := ?v2) rfl (by kernel_rfl) (by kernel_rfl) (by kernel_rfl) (by kernel_rfl) (fun _ _ _ h => h) (Or.inl ⟨by rfl, ?y2⟩) trivial hU.out ?n2
  case y2 => intro w' hU; obtain ⟨u1, u2, u3⟩ := hU; go_simp; with_reducible rfl
  simp only [Act.put]
  refine wpAnyF_takeU (i := 3) (v := ?v3) rfl (by kernel_rfl) (by kernel_rfl) (by kernel_rfl) (by kernel_rfl) (fun _ _ _ h => h) (Or.inl ⟨by rfl, ?y3⟩) trivial hU.out ?n3
  case y3 => intro w' hU; obtain ⟨u1, u2, u3⟩ := hU; go_simp; with_reducible rfl
  simp only [Act.put]
  refine wpAnyF_takeU (i := 4) (v := ?v4) rfl (by kernel_rfl) (by kernel_rfl) (by kernel_rfl) (by kernel_rfl) (fun _ _ _ h => h) (Or.inl ⟨by rfl, ?y4⟩) trivial hU.out ?n4
  case y4 => intro w' hU; obtain ⟨u1, u2, u3⟩ := hU; go_simp; with_reducible rfl
  simp only [Act.put]
  refine wpAnyF_takeU (i := 5) (v := ?v5) rfl (by kernel_rfl) (by kernel_rfl) (by kernel_rfl) (by kernel_rfl) (fun _ _ _ h => h) (Or.inl ⟨by rfl, ?y5⟩) trivial hU.out ?n5
  case y5 => intro w' hU; obtain ⟨u1, u2, u3⟩ := hU; go_simp; with_reducible rfl
  simp only [Act.put]
  refine wpAnyF_takeU (i := 6) (v := ?v6) rfl (by kernel_rfl) (by kernel_rfl) (by kernel_rfl) (by kernel_rfl) (fun _ _ _ h => h) (Or.inl ⟨by rfl, ?y6⟩) trivial hU.out ?n6
  case y6 => intro w' hU; obtain ⟨u1, u2, u3⟩ := hU; go_simp; with_reducible rfl
  simp only [Act.put]
  refine wpAnyF_one (i := 7) rfl (by kernel_rfl) (fun K hK => ?_)
  go_simp
  refine hUs.mono ?_
  rintro e w2 ⟨rfl, hb1⟩
  clear hUs
  have HB1 : Hid (Below w.heap.size w w2) := (below_drewN (Below.refl _ w) 1).trans hb1
  have hU1 : Hid (Ur bx bd2 bd (.slice a n c) dc w2) := ⟨(HB1.out.cell (p := ⟨bx, 0, none⟩) lx).trans hU.out.1, (HB1.out.cell (p := ⟨bd2, 0, none⟩) l2).trans hU.out.2.1, (HB1.out.cell (p := ⟨bd, 0, none⟩) ld).trans hU.out.2.2⟩
  clear hb1
  refine hK _ _ (.inr trivial) hU1.out ?_
  clear hK K
  refine wpAnyF_one (i := 8) rfl (by kernel_rfl) (fun K hK => ?_)
  go_simp
  refine hK _ _ (.inr trivial) hU1.out ?_
  clear hK K
  refine wpAnyF_one (i := 9) rfl (by kernel_rfl) (fun K hK => ?_)
  go_simp
  refine hK _ _ (.inr trivial) hU1.out ?_
  clear hK K
  refine wpAnyF_done (by kernel_rfl) ?_ _
  go_wp2
  · have hlt : (dc : Int) - us < n := by assumption
    go_ret
    exact ⟨by rw [HX.out, if_pos hlt]; rfl, HB1.out⟩
  · have hlt : (n : Int) ≤ dc - us := by assumption
    go_ret
    exact ⟨by rw [HX.out, if_neg (by omega)]; rfl, HB1.out⟩
end Go.Proofs.YtihojcjijbidpaaDoor
