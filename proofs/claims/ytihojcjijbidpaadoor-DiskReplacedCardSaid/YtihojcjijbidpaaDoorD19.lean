/- Read, SyncDirs. -/
import Derived.Test.YtihojcjijbidpaaDoorD18
namespace Go.Proofs.YtihojcjijbidpaaDoor
open Go.RowKit Go.Shelf Go.Sort

theorem ownsRow_lower {w : World} {b b' : Nat} {e : TypeId} {size n : Nat} {v : Value} {xs : List Value} (h : w.ownsRow b e size v n xs) (hb : b' ≤ b) : w.ownsRow b' e size v n xs := by
  refine ⟨h.1, ?_⟩
  rcases h.2 with q | ⟨g, cap, cur, e1, q1, q2⟩
  · exact .inl q
  · exact .inr ⟨g, cap, cur, e1, Nat.le_trans hb q1, q2⟩
theorem ownsRow_slice {w : World} {b : Nat} {e : TypeId} {size n : Nat} {v : Value} {xs : List Value} (h : w.ownsRow b e size v n xs) : ∃ a c, v = .slice a n c := by
  rcases h.2 with ⟨q, e0⟩ | ⟨g, cap, cur, q, _⟩
  · exact ⟨_, _, by rw [q, e0]⟩
  · exact ⟨_, _, q⟩

def readE (D : PD) (p : ByteArray) : Int := if D.down then 11 else fileE D.now p
def readB (D : PD) (p : ByteArray) : List UInt8 := if readE D p = 0 then (fileOf D p).b else []

set_option maxHeartbeats 1000000 in
theorem Read_calls {w : World} {bd : Nat} {O M : Nat → Prop} {D : PD} (h : DiskIs w bd O M D) (hF : D.Fine) (p : ByteArray) :
    Calls Tryd.prog 15 #[.pointer (some ⟨bd, 0, none⟩), .string p] w fun e w' => ∃ v, e = .returned (.tuple #[v, .int .i64 (readE D p)]) ∧ w'.ownsRow w.heap.size 5 1 v (readB D p).length ((readB D p).map b8) ∧ Below w.heap.size w w' := by
  obtain ⟨bs, bn, vl, vf, hd, _⟩ := h
  have hAs := asked_none bd D.down w hd.down
  cases hdn : D.down with
  | true =>
    rw [hdn] at hAs
    have hr : readE D p = 11 := by unfold readE; rw [hdn]; rfl
    have hb : readB D p = [] := by unfold readB; rw [hr]; rfl
    rw [hr, hb]
    clear hdn hr hb hd hF
    go_enter Tryd.func15, Tryd.ntmps15
    go_wp2_with fail
    refine hAs.mono ?_
    rintro e w3 ⟨rfl, rfl⟩
    clear hAs
    go_wp2
    go_ret2
    exact ⟨_, rfl, World.ownsRow_nil _ _ _ _, Below.refl _ _⟩
  | false =>
    rw [hdn] at hAs
    have hnow := hd.nowC
    by_cases he : fileE D.now p = 0
    · obtain ⟨id, hl⟩ := fileE_zero he
      have hid : id < D.files.length := hF.nowIds _ (lookupM_mem hl) rfl
      obtain ⟨g, cap, vb, hfa⟩ := hd.fileAt hid
      have hfc := hd.filesC
      rw [hfa.slice] at hfc
      have hFO := file_ok bd bn D.now p id w hnow hd.now hl g D.files.length cap hfc hid hF.files
      have hr : readE D p = 0 := by unfold readE; rw [hdn]; exact he
      have hb : readB D p = (D.files.getD id ⟨[], 0⟩).b := by unfold readB fileOf fileId; rw [if_pos hr, hl]; rfl
      have hlen := (hF.bytes (D.files.getD id ⟨[], 0⟩) (by rw [← List.getElem_eq_getD (h := hfa.lt)]; exact List.getElem_mem _)).1
      rw [hr, hb]
      have gl := hfa.glt
      have cb := Lib.hid hfa.cellB
      obtain ⟨av, cv, hvb⟩ := hfa.bytes.slice
      have hby := Lib.hid hfa.bytes
      clear hfa hfc hl he hnow hid hr hd hF hb hdn
      generalize (D.files.getD id ⟨[], 0⟩).b = l at *
      subst hvb
      go_enter Tryd.func15, Tryd.ntmps15
      go_wp2_with fail
      refine hAs.mono ?_
      rintro e w3 ⟨rfl, rfl⟩
      clear hAs
      go_wp2_with fail
      refine hFO.mono ?_
      rintro e w3 ⟨rfl, hb3⟩
      clear hFO
      have c3 : w3.cell? ⟨g, id * 2, none⟩ = some (.slice av l.length cv) := (hb3.cell (p := ⟨g, id * 2, none⟩) gl).trans cb.out
      have HC := bytesClone_calls (hby.out.goes (Goes.of_below hb3 (fun _ => False) M) (fun _ q => q.elim)) (by omega)
      have HB3 := Lib.hid hb3
      clear hb3
      go_wp2_with fail
      refine HC.mono ?_
      rintro e w4 ⟨v, rfl, hr, hb4⟩
      have HR := Lib.hid hr
      have HB4 := Lib.hid hb4
      clear hr hb4 HC
      go_wp2
      go_ret2
      exact ⟨v, rfl, ownsRow_lower HR.out HB3.out.size, HB3.out.trans (HB4.out.mono HB3.out.size)⟩
    · have hFO := file_err bd bn D.now p w hnow hd.now he
      have hr : readE D p = fileE D.now p := by unfold readE; rw [hdn]; rfl
      have hb : readB D p = [] := by unfold readB; rw [hr, if_neg he]
      rw [hb, hr]
      have hq : (fileE D.now p != 0) = true := by simpa using he
      clear hr hd hF hnow he hb hdn
      generalize fileE D.now p = q at *
      go_enter Tryd.func15, Tryd.ntmps15
      go_wp2_with fail
      refine hAs.mono ?_
      rintro e w3 ⟨rfl, rfl⟩
      clear hAs
      go_wp2_with fail
      refine hFO.mono ?_
      rintro e w3 ⟨rfl, hb3⟩
      clear hFO
      have HB3 := Lib.hid hb3
      clear hb3
      go_wp2
      go_ret2
      exact ⟨_, rfl, World.ownsRow_nil _ _ _ _, HB3.out⟩

theorem DiskAt.sureTo {w : World} {bd bs bn : Nat} {vl vf : Value} {D : PD} {M : Nat → Prop} (h : DiskAt w bd bs bn vl vf D M) {b2 : Nat} {m : Names} (hm : MapAt w b2 m) (hM : ¬ M b2) :
    DiskAt (w.setCell ⟨bd, 1, none⟩ (.map (some b2))) bd b2 bn vl vf { D with sure := m } M := by
  have hg : Goes (fun k => k = bd) M M w (w.setCell ⟨bd, 1, none⟩ (.map (some b2))) := goes_setCell M w ⟨bd, 1, none⟩ _ rfl
  have hO : ∀ k, k = bd → M k := fun k e => e ▸ h.dM
  obtain ⟨vs, f1, f2⟩ := h.files
  refine ⟨?_, hm.kept (Below.heap_setCell _ _ _ _ (fun e => hM (e ▸ h.dM))), hM, h.now.kept (Below.heap_setCell _ _ _ _ h.ne.symm), h.nowM, h.ne, h.dM, h.loose.goes hg hO, ⟨vs, ?_, f2.goes hg hO⟩, h.filesM, fun k q => by simpa using h.mlt k q⟩
  · simp [World.setCell, Array.getElem?_modify, h.cells]
    rfl
  · refine ⟨f1.1, ?_⟩
    rcases f1.2 with q | ⟨g, cap, cur, rfl, q1, q2, q3⟩
    · exact .inl q
    · exact .inr ⟨g, cap, cur, rfl, q1, (Below.heap_setCell _ _ _ _ ((h.filesM g rfl).2.1)).trans q2, q3⟩

def syncDirsD (D : PD) : PD := { D with sure := D.now, loose := [] }
def Us (bx bd bn : Nat) (w : World) : Prop := w.cell? ⟨bx, 0, none⟩ = some (.pointer (some ⟨bd, 0, none⟩)) ∧ w.cell? ⟨bd, 2, none⟩ = some (.map (some bn))

set_option maxHeartbeats 2000000 in
theorem SyncDirs1_calls {w : World} {bd bs bn : Nat} {vl vf : Value} {D : PD} {M : Nat → Prop} (h : DiskAt w bd bs bn vl vf D M) (bx : Nat) (hx : w.cell? ⟨bx, 0, none⟩ = some (.pointer (some ⟨bd, 0, none⟩))) (hne : bx ≠ bd) :
    Calls Tryd.prog 28 #[.pointer (some ⟨bx, 0, none⟩)] w fun e w' => e = .returned (.tuple #[]) ∧ ∃ bs2, DiskAt w' bd bs2 bn (.slice none 0 0) vf (syncDirsD D) M ∧ Goes (fun k => k = bd) M M w w' := by
  have lx := World.block_lt_of_cell? _ _ hx
  have ld := h.lt
  simp only at lx
  obtain ⟨es, clock, hes, hes2⟩ := h.now
  have hMC := mapsClone_calls bn es clock w.drew hes
  obtain ⟨W2, hW2⟩ : ∃ W2, W2 = w.drew.alloc (.map es clock) := ⟨_, rfl⟩
  have hb2 : Below w.heap.size w W2 := by rw [hW2]; exact (below_drewN (Below.refl _ w) 1).alloc (Nat.le_refl _) _
  have hm2 : MapAt W2 w.heap.size D.now := ⟨es, clock, by rw [hW2]; exact Array.getElem?_push_size, hes2⟩
  have hd2 : DiskAt W2 bd bs bn vl vf D M := h.goes (Goes.of_below hb2 (fun _ => False) M) (fun _ q => q.elim) (fun _ _ q => q)
  have hM2 : ¬ M w.heap.size := fun q => by have := h.mlt _ q; omega
  have hd3 := hd2.sureTo hm2 hM2
  have hd4 := hd3.looseTo (v := .slice none 0 0) (l := []) (.inl ⟨rfl, rfl⟩)
  have hg : Goes (fun k => k = bd) M M w ((W2.setCell ⟨bd, 1, none⟩ (.map (some w.heap.size))).setCell ⟨bd, 3, none⟩ (.slice none 0 0)) :=
    ((Goes.of_below hb2 _ _).trans (goes_setCell (O := fun k => k = bd) M _ ⟨bd, 1, none⟩ _ rfl) (fun _ _ e => e)).trans (goes_setCell (O := fun k => k = bd) M _ ⟨bd, 3, none⟩ _ rfl) (fun _ _ e => e)
  have HG := Lib.hid hg
  have HD4 := Lib.hid hd4
  have c1 := hd2.sureC
  have f1 := hd2.free 1
  have c3 := hd3.looseC
  have f3 := hd3.free 3
  have hU : Hid (Us bx bd bn w.drew) := ⟨hx, h.nowC⟩
  have hU2 : Us bx bd bn W2 := ⟨(hb2.cell (p := ⟨bx, 0, none⟩) lx).trans hx, hd2.nowC⟩
  have hU3 : Us bx bd bn (W2.setCell ⟨bd, 1, none⟩ (.map (some w.heap.size))) := ⟨(World.cell?_setCell_other _ _ _ _ (by simp)).trans hU2.1, hd3.nowC⟩
  have hU4 : Us bx bd bn ((W2.setCell ⟨bd, 1, none⟩ (.map (some w.heap.size))).setCell ⟨bd, 3, none⟩ (.slice none 0 0)) := ⟨(World.cell?_setCell_other _ _ _ _ (by simp)).trans hU3.1, hd4.nowC⟩
  have HU2 := Lib.hid hU2
  have HU3 := Lib.hid hU3
  have HU4 := Lib.hid hU4
  have HW2 := Lib.hid hW2
  clear h hx hes hes2 hm2 hd2 hd3 hd4 hg hU2 hU3 hU4 hW2 hb2 hM2 hne
  go_enter Tryd.func28, Tryd.ntmps28
  go_wp2_with fail
  refine wp_region_F (fun _ => True) [] (Us bx bd bn) (by kernel_rfl) ?_
  refine wpAnyF_takeU (i := 0) (v := ?v0) rfl (by kernel_rfl) (by kernel_rfl) (by kernel_rfl) (by kernel_rfl) (fun _ _ _ h => h) (Or.inl ⟨by rfl, ?y0⟩) trivial hU.out ?n0
  case y0 => intro w' hU; obtain ⟨u1, u2⟩ := hU; go_simp; with_reducible rfl
  simp only [Act.put, List.setIfInBounds_toArray, List.set_cons_succ, List.set_cons_zero]
  refine wpAnyF_takeU (i := 1) (v := ?v1) rfl (by kernel_rfl) (by kernel_rfl) (by kernel_rfl) (by kernel_rfl) (fun _ _ _ h => h) (Or.inl ⟨by rfl, ?y1⟩) trivial hU.out ?n1
  case y1 => intro w' hU; obtain ⟨u1, u2⟩ := hU; go_simp; with_reducible rfl
  simp only [Act.put, List.setIfInBounds_toArray, List.set_cons_succ, List.set_cons_zero]
  refine wpAnyF_takeU (i := 2) (v := ?v2) rfl (by kernel_rfl) (by kernel_rfl) (by kernel_rfl) (by kernel_rfl) (fun _ _ _ h => h) (Or.inl ⟨by rfl, ?y2⟩) trivial hU.out ?n2
  case y2 => intro w' hU; obtain ⟨u1, u2⟩ := hU; go_simp; with_reducible rfl
  simp only [Act.put, List.setIfInBounds_toArray, List.set_cons_succ, List.set_cons_zero]
  refine wpAnyF_takeU (i := 3) (v := ?v3) rfl (by kernel_rfl) (by kernel_rfl) (by kernel_rfl) (by kernel_rfl) (fun _ _ _ h => h) (Or.inl ⟨by rfl, ?y3⟩) trivial hU.out ?n3
  case y3 => intro w' hU; obtain ⟨u1, u2⟩ := hU; go_simp; with_reducible rfl
  simp only [Act.put, List.setIfInBounds_toArray, List.set_cons_succ, List.set_cons_zero]
  refine wpAnyF_takeU (i := 4) (v := ?v4) rfl (by kernel_rfl) (by kernel_rfl) (by kernel_rfl) (by kernel_rfl) (fun _ _ _ h => h) (Or.inl ⟨by rfl, ?y4⟩) trivial hU.out ?n4
  case y4 => intro w' hU; obtain ⟨u1, u2⟩ := hU; go_simp; with_reducible rfl
  simp only [Act.put, List.setIfInBounds_toArray, List.set_cons_succ, List.set_cons_zero]
  refine wpAnyF_takeU (i := 5) (v := ?v5) rfl (by kernel_rfl) (by kernel_rfl) (by kernel_rfl) (by kernel_rfl) (fun _ _ _ h => h) (Or.inl ⟨by rfl, ?y5⟩) trivial hU.out ?n5
  case y5 => intro w' hU; obtain ⟨u1, u2⟩ := hU; go_simp; with_reducible rfl
  simp only [Act.put, List.setIfInBounds_toArray, List.set_cons_succ, List.set_cons_zero]

  refine wpAnyF_one (i := 6) rfl (by kernel_rfl) (fun K hK => ?_)
  go_simp
  refine hMC.mono ?_
  rintro e w2 ⟨rfl, rfl⟩
  clear hMC
  rw [← HW2.out]
  refine hK _ _ (.inr trivial) HU2.out ?_
  clear hK K
  refine wpAnyF_one (i := 7) rfl (by kernel_rfl) (fun K hK => ?_)
  go_simp
  refine hK _ _ (.inr trivial) HU2.out ?_
  clear hK K
  refine wpAnyF_one (i := 8) rfl (by kernel_rfl) (fun K hK => ?_)
  go_simp
  refine hK _ _ (.inr trivial) HU2.out ?_
  clear hK K
  refine wpAnyF_one (i := 9) rfl (by kernel_rfl) (fun K hK => ?_)
  go_simp
  refine hK _ _ (.inr trivial) HU3.out ?_
  clear hK K
  refine wpAnyF_one (i := 10) rfl (by kernel_rfl) (fun K hK => ?_)
  go_simp
  refine hK _ _ (.inr trivial) HU3.out ?_
  clear hK K
  refine wpAnyF_one (i := 11) rfl (by kernel_rfl) (fun K hK => ?_)
  go_simp
  refine hK _ _ (.inr trivial) HU3.out ?_
  clear hK K
  refine wpAnyF_one (i := 12) rfl (by kernel_rfl) (fun K hK => ?_)
  go_simp
  refine hK _ _ (.inr trivial) HU4.out ?_
  clear hK K
  refine wpAnyF_done (by kernel_rfl) ?_ _
  go_wp2
  go_end0
  exact ⟨rfl, _, HD4.out, HG.out⟩
end Go.Proofs.YtihojcjijbidpaaDoor
