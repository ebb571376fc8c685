/- The walk of put's closure. -/
import Derived.Test.YtihojcjijbidpaaDoorD5
import Derived.Deep.AppendLies
import Derived.Maps.AppendAt
namespace Go.Proofs.YtihojcjijbidpaaDoor
open Go.RowKit Go.Shelf Go.Sort

theorem infoFile : (Tryd.prog.info? 54).map (fun i => (i.zero, i.size, i.bytes)) = some (some (.agg #[.slice none 0 0, .int .i64 0]), 2, 32) := by kernel_rfl

def putNd (D : PD) (dir : Bool) : Nd := ⟨dir, if dir then 0 else D.files.length⟩
def putD (D : PD) (p : ByteArray) (dir : Bool) : PD :=
  { D with files := if dir then D.files else D.files ++ [⟨[], 0⟩], now := setM D.now p (putNd D dir), loose := D.loose ++ [[(p, some (putNd D dir))]] }

section
variable {w : World} {bd bs bn : Nat} {vl vf : Value} {D : PD} {M : Nat → Prop}

/-- A change of one name, just laid. -/
theorem change_new {W : World} {M : Nat → Prop} (hM : ∀ k, M k → k < W.heap.size) (p : ByteArray) (x : Nd) (bx : Nat) (hb : bx < W.heap.size) (hx : ¬ M bx) (h0 : W.cell? ⟨bx, 0, none⟩ = some (.bool x.dir)) (h1 : W.cell? ⟨bx, 1, none⟩ = some (.int .i64 x.id)) :
    ChangeAt ((W.alloc (.cells #[.string p] 9)).alloc (.cells #[.pointer (some ⟨bx, 0, none⟩)] 66)) M (.slice (some ⟨W.heap.size, 0, none⟩) 1 1) (.slice (some ⟨W.heap.size + 1, 0, none⟩) 1 1) [(p, some x)] := by
  have e1 : ((W.alloc (.cells #[.string p] 9)).alloc (.cells #[.pointer (some ⟨bx, 0, none⟩)] 66)).heap.size = W.heap.size + 2 := by simp
  have c0 : ∀ i, ((W.alloc (.cells #[.string p] 9)).alloc (.cells #[.pointer (some ⟨bx, 0, none⟩)] 66)).cell? ⟨bx, i, none⟩ = W.cell? ⟨bx, i, none⟩ := fun i => by
    rw [World.cell?_alloc_lt _ _ _ (by simp; omega), World.cell?_alloc_lt _ _ _ hb]
  refine ⟨W.heap.size, W.heap.size + 1, 1, 1, rfl, rfl, by simp, by simp, by omega, by omega, (fun q => by have := hM _ q; omega), (fun q => by have := hM _ q; omega), fun i hi => ?_⟩
  obtain rfl : i = 0 := by simpa using hi
  refine ⟨?_, .pointer (some ⟨bx, 0, none⟩), ?_, bx, rfl, by omega, hx, by rw [c0]; exact h0, by rw [c0]; exact h1⟩
  · rw [World.cell?_alloc_lt _ _ _ (by simp), World.cell?_alloc_new]; rfl
  · have := World.cell?_alloc_new (W.alloc (.cells #[.string p] 9)) #[.pointer (some ⟨bx, 0, none⟩)] 66 0
    rw [World.size_alloc] at this
    rw [this]; rfl

set_option maxHeartbeats 1000000 in
theorem put1_dir (h : DiskAt w bd bs bn vl vf D M) (hll : D.loose.length ≤ 1000000) (p : ByteArray) (b1 b2 b3 : Nat) (h1 : w.cell? ⟨b1, 0, none⟩ = some (.bool true)) (h2 : w.cell? ⟨b2, 0, none⟩ = some (.pointer (some ⟨bd, 0, none⟩))) (h3 : w.cell? ⟨b3, 0, none⟩ = some (.string p)) :
    Calls Tryd.prog 37 #[.pointer (some ⟨b1, 0, none⟩), .pointer (some ⟨b2, 0, none⟩), .pointer (some ⟨b3, 0, none⟩)] w fun e w' => e = .returned (.tuple #[]) ∧
      ∃ vl', DiskAt w' bd bs bn vl' vf (putD D p true) M ∧ Goes (Own bd bn vf) M M w w' := by
  have l1 := World.block_lt_of_cell? _ _ h1
  have l2 := World.block_lt_of_cell? _ _ h2
  have l3 := World.block_lt_of_cell? _ _ h3
  have hg : ∀ o1 o2 o3 : Obj, Goes (fun _ => False) M M w (((w.alloc o1).alloc o2).alloc o3) := fun o1 o2 o3 => Goes.of_below ((((Below.refl _ w).alloc (Nat.le_refl _) _).alloc (by simp) _).alloc (by simp; omega) _) _ _
  have hR := rename_calls (w := ((w.alloc (.cells #[.bool true, .int .i64 0] 60)).alloc (.cells #[.string p] 9)).alloc (.cells #[.pointer (some ⟨w.heap.size, 0, none⟩)] 66))
    (h.goes (hg _ _ _) (fun _ q => q.elim) (fun _ _ q => q)) (vp := .slice (some ⟨w.heap.size + 1, 0, none⟩) 1 1) (vn := .slice (some ⟨w.heap.size + 1 + 1, 0, none⟩) 1 1)
    (by
      have := change_new (W := w.alloc (.cells #[.bool true, .int .i64 0] 60)) (M := M) (fun k q => by have := h.mlt k q; simp; omega) p ⟨true, 0⟩ w.heap.size (by simp) (fun q => by have := h.mlt _ q; omega) (by simp) (by simp)
      rw [World.size_alloc] at this
      exact this) (by simp) hll
  have HG := Lib.hid (hg (.cells #[.bool true, .int .i64 0] 60) (.cells #[.string p] 9) (.cells #[.pointer (some ⟨w.heap.size, 0, none⟩)] 66))
  clear hg h
  go_enter Tryd.func37, Tryd.ntmps37
  go_wp2_with fail
  refine hR.mono ?_
  rintro e w1 ⟨rfl, vl', hD, hG⟩
  have HD := Lib.hid hD
  have HG2 := Lib.hid hG
  clear hD hG
  go_wp2
  go_end0
  exact ⟨rfl, vl', HD.out, HG.out.quietly HG2.out⟩

/-- The list of the files has grown by one. -/
theorem DiskAt.filesTo (h : DiskAt w bd bs bn vl vf D M) {w2 : World} {vs : List Value} {g cap : Nat} (hg : w.grownBy w2 vf.ownBlock) (hF : FileCells w M vs D.files)
    (hr : w2.ownsRow 0 54 2 (.slice (some ⟨g, 0, none⟩) (D.files.length + 1) cap) (D.files.length + 1) (vs ++ [.slice none 0 0, .int .i64 0])) (hat : vf.ownBlock = some g ∨ w.heap.size ≤ g) :
    DiskAt (w2.setCell ⟨bd, 4, none⟩ (.slice (some ⟨g, 0, none⟩) (D.files.length + 1) cap)) bd bs bn vl (.slice (some ⟨g, 0, none⟩) (D.files.length + 1) cap) { D with files := D.files ++ [⟨[], 0⟩] } (fun k => M k ∨ k = g) ∧
    Goes (Own bd bn vf) M (fun k => M k ∨ k = g) w (w2.setCell ⟨bd, 4, none⟩ (.slice (some ⟨g, 0, none⟩) (D.files.length + 1) cap)) ∧
    ∀ k, k < w.heap.size → Own bd bn (.slice (some ⟨g, 0, none⟩) (D.files.length + 1) cap) k → Own bd bn vf k := by
  obtain ⟨gcur, g1, g2, g3, g4, g5⟩ : ∃ cur, w2.heap[g]? = some (.cells cur 54 (0, 0)) ∧ D.files.length + 1 ≤ cap ∧ cap ≤ maxLen ∧ cur.size = cap * 2 ∧ cur.toList.take ((D.files.length + 1) * 2) = vs ++ [.slice none 0 0, .int .i64 0] := by
    rcases hr.2 with ⟨q, _⟩ | ⟨g', cap', cur, q, _, q1, q2, q3, q4, q5⟩
    · cases q
    · simp only [Value.slice.injEq, Option.some.injEq, Addr.mk.injEq, and_true, true_and] at q
      obtain ⟨rfl, rfl⟩ := q
      exact ⟨cur, q1, q2, q3, q4, q5⟩
  have hglt : g < w2.heap.size := (Array.getElem?_eq_some_iff.1 g1).1
  have hG : Goes (fun k => vf.ownBlock = some k) M (fun k => M k ∨ k = g) w w2 := by
    refine ⟨hg.os, hg.tape, hg.output, hg.size, fun k hk ho => hg.block k hk (fun e => ho e.symm), fun k q => ?_, fun k q => .inl q⟩
    rcases q with q | rfl
    · exact .inl q
    · rcases hat with e | e
      · exact .inl (h.filesM _ e).1
      · exact .inr ⟨e, hglt⟩
  have hO : ∀ k, vf.ownBlock = some k → M k := fun k e => (h.filesM k e).1
  have hgd : g ≠ bd := by
    rcases hat with e | e
    · exact (h.filesM g e).2.1
    · have := h.lt; omega
  have hgn : g ≠ bn := by
    rcases hat with e | e
    · exact (h.filesM g e).2.2
    · have := h.now.lt; omega
  have hS : Goes (fun k => k = bd) (fun k => M k ∨ k = g) (fun k => M k ∨ k = g) w2 (w2.setCell ⟨bd, 4, none⟩ (.slice (some ⟨g, 0, none⟩) (D.files.length + 1) cap)) := goes_setCell _ w2 ⟨bd, 4, none⟩ _ rfl
  have hOS : ∀ k, k = bd → M k ∨ k = g := fun k e => .inl (e ▸ h.dM)
  have hGG : Goes (Own bd bn vf) M (fun k => M k ∨ k = g) w (w2.setCell ⟨bd, 4, none⟩ (.slice (some ⟨g, 0, none⟩) (D.files.length + 1) cap)) :=
    (hG.wide (fun _ _ q => .inr (.inr q))).trans hS (fun _ _ e => .inl e)
  have hOO : ∀ k, Own bd bn vf k → M k := h.ownM
  have b1 : w2.heap[bd]? = some (.cells (diskCells D bs bn vl vf) 46 (0, 0)) := (hG.block bd h.lt (fun e => (h.filesM _ e).2.1 rfl)).trans h.cells
  refine ⟨⟨?_, ?_, ?_, ?_, .inl h.nowM, h.ne, .inl h.dM, h.loose.goes hGG hOO, ⟨vs ++ [.slice none 0 0, .int .i64 0], ⟨by simp [hF.1]; omega, .inr ⟨g, cap, gcur, by simp, Nat.zero_le _, ?_, by simp; omega, g3, g4, by simpa using g5⟩⟩, ?_⟩, fun k q => ?_, fun k q => ?_⟩, hGG, ?_⟩
  · simp [World.setCell, Array.getElem?_modify, b1, diskCells]
  · exact h.sure.kept (hGG.block bs h.sure.lt (fun q => h.sureM (hOO _ q)))
  · rintro (q | q)
    · exact h.sureM q
    · rcases hat with e | e
      · exact h.sureM (q ▸ (h.filesM _ e).1)
      · have := h.sure.lt; omega
  · refine h.now.kept ((Below.heap_setCell _ _ _ _ h.ne.symm).trans (hG.block bn h.now.lt (fun e => (h.filesM _ e).2.2 rfl)))
  · exact (Below.heap_setCell _ _ _ _ hgd).trans g1
  · refine ⟨by simp [hF.1]; omega, fun i hi => ?_⟩
    simp at hi
    by_cases e : i < D.files.length
    · obtain ⟨vb, e1, e2, e3⟩ := hF.2 i e
      refine ⟨vb, by rw [List.getElem?_append_left (by rw [hF.1]; omega)]; exact e1, ?_, ?_⟩
      · rw [List.getElem?_append_left (by rw [hF.1]; omega)]
        simp only [List.getElem_append_left e]; exact e2
      · simp only [List.getElem_append_left e]; exact e3.goes hGG hOO
    · obtain rfl : i = D.files.length := by omega
      refine ⟨.slice none 0 0, by rw [List.getElem?_append_right (by rw [hF.1]; omega)]; simp [hF.1], ?_, ?_⟩
      · rw [List.getElem?_append_right (by rw [hF.1]; omega)]; simp [hF.1]
      · simp; exact .inl ⟨none, 0, rfl, rfl, fun _ => rfl⟩
  · simp [Value.ownBlock] at q; subst q; exact ⟨.inr rfl, hgd, hgn⟩
  · simp only [World.size_setCell]
    rcases q with q | rfl
    · exact Nat.lt_of_lt_of_le (h.mlt k q) hg.size
    · exact hglt
  · rintro k hk (q | q | q)
    · exact .inl q
    · exact .inr (.inl q)
    · simp [Value.ownBlock] at q; subst q
      rcases hat with e | e
      · exact .inr (.inr e)
      · omega

def Sf (bd b2 : Nat) (vf : Value) (w : World) : Prop := w.cell? ⟨b2, 0, none⟩ = some (.pointer (some ⟨bd, 0, none⟩)) ∧ w.cell? ⟨bd, 4, none⟩ = some vf ∧ w.frozen? ⟨bd, 4, none⟩ = false

set_option maxHeartbeats 2000000 in
theorem put1_file (h : DiskAt w bd bs bn vl vf D M) (hll : D.loose.length ≤ 1000000) (hfl : D.files.length ≤ 1000000) (p : ByteArray) (b1 b2 b3 : Nat) (h1 : w.cell? ⟨b1, 0, none⟩ = some (.bool false)) (h2 : w.cell? ⟨b2, 0, none⟩ = some (.pointer (some ⟨bd, 0, none⟩))) (h3 : w.cell? ⟨b3, 0, none⟩ = some (.string p))
    (m1 : ¬ M b1) (m2 : ¬ M b2) (m3 : ¬ M b3) :
    Calls Tryd.prog 37 #[.pointer (some ⟨b1, 0, none⟩), .pointer (some ⟨b2, 0, none⟩), .pointer (some ⟨b3, 0, none⟩)] w fun e w' => e = .returned (.tuple #[]) ∧
      ∃ vl' vf' M', DiskAt w' bd bs bn vl' vf' (putD D p false) M' ∧ Goes (Own bd bn vf) M M' w w' ∧ ∀ k, k < w.heap.size → Own bd bn vf' k → Own bd bn vf k := by
  have l1 := World.block_lt_of_cell? _ _ h1
  have l2 := World.block_lt_of_cell? _ _ h2
  have l3 := World.block_lt_of_cell? _ _ h3
  obtain ⟨i0, hi, hz0, hz1, hz2⟩ := info_parts infoFile
  have c4 := h.filesC
  have ld := h.lt
  have H := Lib.hid h; clear h
  have M1 := Lib.hid m1; have M2 := Lib.hid m2; have M3 := Lib.hid m3; clear m1 m2 m3
  obtain ⟨vs, f1, f2⟩ := H.out.files
  have hvl : ∃ ao n cap, vf = .slice ao n cap ∧ n = D.files.length := by
    rcases f1.2 with ⟨q, q'⟩ | ⟨g, cap, cur, q, _⟩
    · exact ⟨none, 0, 0, q, q'.symm⟩
    · exact ⟨_, _, _, q, rfl⟩
  obtain ⟨ao, n, cap, hvf, hn⟩ := hvl
  rw [hvf] at c4
  have hnb : n ≤ 1000000 := by omega
  have HVF := Lib.hid hvf; have HN := Lib.hid hn
  have F1 := Lib.hid f1; have F2 := Lib.hid f2
  clear hvf hn f1 f2
  go_enter Tryd.func37, Tryd.ntmps37
  go_wp2_with fail
  have hW1 : ∃ W1 : World, W1 = w.alloc (.cells #[.bool false, .int .i64 n] 60) := ⟨_, rfl⟩
  obtain ⟨W1, hW1⟩ := hW1
  rw [← hW1]
  have hb1 : Below w.heap.size w W1 := by rw [hW1]; exact (Below.refl _ _).alloc (Nat.le_refl _) _
  have G1 : Hid (Goes (fun _ => False) M M w W1) := Goes.of_below hb1 _ _
  have D1 : Hid (DiskAt W1 bd bs bn vl vf D M) := H.out.goes G1.out (fun _ q => q.elim) (fun _ _ q => q)
  have x1 : W1.cell? ⟨w.heap.size, 0, none⟩ = some (.bool false) ∧ W1.cell? ⟨w.heap.size, 1, none⟩ = some (.int .i64 n) := by rw [hW1]; simp
  have X1 := Lib.hid x1
  have y2 : W1.cell? ⟨b2, 0, none⟩ = some (.pointer (some ⟨bd, 0, none⟩)) := (hb1.cell (p := ⟨b2, 0, none⟩) l2).trans h2
  have Y3 : Hid (W1.cell? ⟨b3, 0, none⟩ = some (.string p)) := (hb1.cell (p := ⟨b3, 0, none⟩) l3).trans h3
  have S1 : Hid (W1.heap.size = w.heap.size + 1) := by rw [hW1]; simp [Hid]
  have F2' : Hid (FileCells W1 M vs D.files) := F2.out.goes G1.out (fun _ q => q.elim)
  clear x1 hb1 c4 h1 h2 h3 F2
  have R1 : Hid (W1.ownsRow 0 54 2 vf n vs) := by
    rw [hW1, HN.out]
    exact F1.out.alloc _
  have hne2 : Hid (vf.ownBlock ≠ some b2) := fun e => M2.out (H.out.filesM _ e).1
  have hned : Hid (vf.ownBlock ≠ some bd) := fun e => (H.out.filesM _ e).2.1 rfl
  clear hW1 F1
  rw [HVF.out] at R1 hne2 hned
  have hSa : Hid (Sf bd b2 (.slice ao n cap) W1.drew) := ⟨y2, by have := D1.out.filesC; rw [HVF.out] at this; exact this, D1.out.free 4⟩
  have hld1 : bd < W1.heap.size := by rw [S1.out]; omega
  have hl21 : b2 < W1.heap.size := by rw [S1.out]; omega
  have hSb : Hid (Sf bd b2 (.slice ao n cap) (W1.alloc (.cells #[.slice none 0 0, .int .i64 0] 54)).drew) :=
    ⟨(World.cell?_alloc_lt _ _ _ hl21).trans hSa.out.1, (World.cell?_alloc_lt _ _ _ hld1).trans hSa.out.2.1, (World.frozen?_alloc_old _ _ _ (by simp; omega)).trans hSa.out.2.2⟩
  refine wp_region_E (Sf bd b2 (.slice ao n cap)) [10] (by kernel_rfl) ?_
  have Y2 := Lib.hid y2
  clear y2
  refine wpAnyE_take (i := 0) (v := ?v0) [0,1,2,3,4,5] rfl (by kernel_rfl) (by kernel_rfl) (by kernel_rfl) (by kernel_rfl) (by kernel_rfl) (fun _ _ _ h => h) (Or.inl ⟨by rfl, ?y0⟩) hSa.out ?n0
  case y0 => intro w' hS; obtain ⟨s1, s2, s3⟩ := hS; go_simp; with_reducible rfl
  simp only [Act.put, List.setIfInBounds_toArray]
  refine wpAnyE_take (i := 1) (v := ?v1) [0,1,2,3,4,5] rfl (by kernel_rfl) (by kernel_rfl) (by kernel_rfl) (by kernel_rfl) (by kernel_rfl) (fun _ _ _ h => h) (Or.inl ⟨by rfl, ?y1⟩) hSa.out ?n1
  case y1 => intro w' hS; obtain ⟨s1, s2, s3⟩ := hS; go_simp; with_reducible rfl
  simp only [Act.put]
  refine wpAnyE_take (i := 2) (v := ?v2) [0,1,2,3,4,5] rfl (by kernel_rfl) (by kernel_rfl) (by kernel_rfl) (by kernel_rfl) (by kernel_rfl) (fun _ _ _ h => h) (Or.inl ⟨by rfl, ?y2⟩) hSa.out ?n2
  case y2 => intro w' hS; obtain ⟨s1, s2, s3⟩ := hS; go_simp; with_reducible rfl
  simp only [Act.put]
  refine wpAnyE_take (i := 3) (v := ?v3) [0,1,2,3,4,5] rfl (by kernel_rfl) (by kernel_rfl) (by kernel_rfl) (by kernel_rfl) (by kernel_rfl) (fun _ _ _ h => h) (Or.inl ⟨by rfl, ?y3⟩) hSa.out ?n3
  case y3 => intro w' hS; obtain ⟨s1, s2, s3⟩ := hS; go_simp; with_reducible rfl
  simp only [Act.put]
  refine wpAnyE_take (i := 4) (v := ?v4) [0,1,2,3,4,5] rfl (by kernel_rfl) (by kernel_rfl) (by kernel_rfl) (by kernel_rfl) (by kernel_rfl) (fun _ _ _ h => h) (Or.inl ⟨by rfl, ?y4⟩) hSa.out ?n4
  case y4 => intro w' hS; obtain ⟨s1, s2, s3⟩ := hS; go_simp; with_reducible rfl
  simp only [Act.put]
  refine wpAnyE_take (i := 5) (v := ?v5) [0,1,2,3,4,5] rfl (by kernel_rfl) (by kernel_rfl) (by kernel_rfl) (by kernel_rfl) (by kernel_rfl) (fun _ _ _ h => h) (Or.inl ⟨by rfl, ?y5⟩) hSa.out ?n5
  case y5 => intro w' hS; obtain ⟨s1, s2, s3⟩ := hS; go_simp; with_reducible rfl
  simp only [Act.put]
  refine wpAnyE_one (i := 6) rfl (by kernel_rfl) (fun K hK => ?_)
  go_simp
  refine hK _ _ (fun _ => hSb.out) ?_
  clear hK K
  refine wpAnyE_one (i := 7) rfl (by kernel_rfl) (fun K hK => ?_)
  refine step_append_lies _ rfl (.tmp 21) (.tmp 23) 44 rfl 0 54 i0 _ 2 32 Tryd.underlying44 hi hz0 hz1 hz2 rfl (by decide) (.slice ao n cap) n vs (by simp [Act.eval]) ((R1.out.alloc (.cells #[.slice none 0 0, .int .i64 0] 54)).drew) ⟨W1.heap.size, 0, none⟩ 1 1 [.slice none 0 0, .int .i64 0] (by simp [Act.eval]) rfl (cell_two_new W1 _ _ _) (by simp [Value.oneCell']) (by omega) (by unfold maxLen; omega) (by omega) (Nat.zero_le _) (W1.heap.size + 1) (by simp) ?_
  intro g cap2 w2 hown hgrow hat hlt
  have hgr0 : W1.grownBy w2 (Value.slice ao n cap).ownBlock := (World.grownBy_alloc W1 _ _).trans (grownBy_of_drew hgrow)
  have hS2 : Hid (Sf bd b2 (.slice ao n cap) w2) := ⟨hgr0.cell hSa.out.1 (fun e => hne2.out e.symm), hgr0.cell hSa.out.2.1 (fun e => hned.out e.symm), (hgr0.frozen_far ⟨bd, 4, none⟩ hld1 (fun e => hned.out e.symm)).trans hSa.out.2.2⟩
  have K3 : Hid (DiskAt (w2.setCell ⟨bd, 4, none⟩ (.slice (some ⟨g, 0, none⟩) (n + 1) cap2)) bd bs bn vl (.slice (some ⟨g, 0, none⟩) (n + 1) cap2) { D with files := D.files ++ [⟨[], 0⟩] } (fun k => M k ∨ k = g) ∧
      Goes (Own bd bn vf) M (fun k => M k ∨ k = g) W1 (w2.setCell ⟨bd, 4, none⟩ (.slice (some ⟨g, 0, none⟩) (n + 1) cap2)) ∧
      ∀ k, k < W1.heap.size → Own bd bn (.slice (some ⟨g, 0, none⟩) (n + 1) cap2) k → Own bd bn vf k) := by
    have q := D1.out.filesTo (w2 := w2) (vs := vs) (g := g) (cap := cap2) (by rw [HVF.out]; exact hgr0) F2'.out (by rw [← HN.out]; exact hown) (by
      rw [HVF.out]
      rcases hat with e | e
      · exact .inl e
      · exact .inr (by omega))
    rw [← HN.out] at q
    exact q
  have hgw : Hid (g ≠ w.heap.size) := by
    intro e
    rcases hat with q | q
    · have := H.out.filesM g (by rw [HVF.out]; exact q)
      have := H.out.mlt g this.1
      omega
    · have := S1.out; omega
  clear hown hgrow hat hlt hgr0
  refine hK _ _ (fun _ => hS2.out) ?_
  clear hK K
  simp only [Act.put, List.setIfInBounds_toArray]
  refine wpAnyE_one (i := 8) rfl (by kernel_rfl) (fun K hK => ?_)
  go_simp
  refine hK _ _ (fun _ => hS2.out) ?_
  clear hK K
  refine wpAnyE_one (i := 9) rfl (by kernel_rfl) (fun K hK => ?_)
  go_simp
  refine hK _ _ (fun _ => hS2.out) ?_
  clear hK K
  refine wpAnyE_one (i := 10) rfl (by kernel_rfl) (fun K hK => ?_)
  have s2 : w2.cell? ⟨bd, 4, none⟩ = some (.slice ao n cap) := hS2.out.2.1
  have s3 : w2.frozen? ⟨bd, 4, none⟩ = false := hS2.out.2.2
  go_simp
  refine hK _ _ (fun h => absurd (by simp) h) ?_
  clear hK K s2 s3 hS2 hSb hSa
  refine wpAnyE_done (by kernel_rfl) ?_ _
  have hW3 : ∃ W3 : World, W3 = w2.setCell ⟨bd, 4, none⟩ (.slice (some ⟨g, 0, none⟩) (n + 1) cap2) := ⟨_, rfl⟩
  obtain ⟨W3, hW3⟩ := hW3
  rw [← hW3] at K3 ⊢
  clear hW3
  have G3 : Hid (Goes (Own bd bn vf) M (fun k => M k ∨ k = g) w W3) := G1.out.quietly K3.out.2.1
  have no2 : ¬ Own bd bn vf b2 := fun q => M2.out (H.out.ownM _ q)
  have no3 : ¬ Own bd bn vf b3 := fun q => M3.out (H.out.ownM _ q)
  have nox : ¬ Own bd bn vf w.heap.size := fun q => by have := H.out.ownLt _ q; omega
  have z2 : W3.cell? ⟨b2, 0, none⟩ = some (.pointer (some ⟨bd, 0, none⟩)) := (K3.out.2.1.cell (a := ⟨b2, 0, none⟩) hl21 no2).trans (by have := D1.out; exact Y2.out)
  have z3 : W3.cell? ⟨b3, 0, none⟩ = some (.string p) := (K3.out.2.1.cell (a := ⟨b3, 0, none⟩) (by show b3 < _; rw [S1.out]; omega) no3).trans Y3.out
  have hs3 : w.heap.size + 1 ≤ W3.heap.size := by have := K3.out.2.1.size; rw [S1.out] at this; exact this
  have l3' : b3 < W3.heap.size := by omega
  have C3 := change_new (W := W3) (M := fun k => M k ∨ k = g) K3.out.1.mlt p ⟨false, n⟩ w.heap.size (by omega) (by
      rintro (q | q)
      · have := H.out.mlt _ q; omega
      · exact hgw.out q.symm)
    ((K3.out.2.1.cell (a := ⟨w.heap.size, 0, none⟩) (by show w.heap.size < _; rw [S1.out]; omega) nox).trans X1.out.1)
    ((K3.out.2.1.cell (a := ⟨w.heap.size, 1, none⟩) (by show w.heap.size < _; rw [S1.out]; omega) nox).trans X1.out.2)
  have hg2 : ∀ o1 o2 : Obj, Goes (fun _ => False) (fun k => M k ∨ k = g) (fun k => M k ∨ k = g) W3 ((W3.alloc o1).alloc o2) := fun o1 o2 => Goes.of_below (((Below.refl _ _).alloc (Nat.le_refl _) _).alloc (by simp) _) _ _
  have hR := rename_calls (K3.out.1.goes (hg2 (.cells #[.string p] 9) (.cells #[.pointer (some ⟨w.heap.size, 0, none⟩)] 66)) (fun _ q => q.elim) (fun _ _ q => q)) C3 (by simp) hll
  have HG2 := Lib.hid (hg2 (.cells #[.string p] 9) (.cells #[.pointer (some ⟨w.heap.size, 0, none⟩)] 66))
  clear hg2 C3 no2 no3 nox
  go_wp2_with fail
  refine hR.mono ?_
  rintro e w4 ⟨rfl, vl', hD, hG⟩
  have HD := Lib.hid hD
  have HG4 := Lib.hid hG
  clear hD hG
  go_wp2
  go_end0
  refine ⟨rfl, vl', _, _, ?_, G3.out.trans (HG2.out.quietly HG4.out) (fun k hk q => K3.out.2.2 k (by have := S1.out; omega) q), fun k hk q => K3.out.2.2 k (by have := S1.out; omega) q⟩
  have e : putD D p false = { D with files := D.files ++ [⟨[], 0⟩], now := applyM D.now [(p, some ⟨false, n⟩)], loose := D.loose ++ [[(p, some ⟨false, n⟩)]] } := by
    simp [putD, putNd, HN.out, applyM, apply1]
  rw [e]
  exact HD.out
end
end Go.Proofs.YtihojcjijbidpaaDoor
