/- The walk of Fork. -/
import Derived.Test.YtihojcjijbidpaaDoorD26
namespace Go.Proofs.YtihojcjijbidpaaDoor
open Go.RowKit Go.Shelf Go.Sort

theorem below_setCell {B : Nat} {w w' : World} (h : Below B w w') {a : Addr} (v : Value) (ha : B ≤ a.block) : Below B w (w'.setCell a v) :=
  ⟨h.os, h.tape, h.output, by simpa using h.size, fun k hk => (Below.heap_setCell _ _ _ _ (by omega)).trans (h.block k hk)⟩

theorem copy_files {w W : World} {M : Nat → Prop} {af : Option Addr} {nf cf g : Nat} {vs : List Value} {fs : List PFile} {Z : Array Value} (hr : w.ownsRow 0 54 2 (.slice af nf cf) nf vs) (hf : FileCells w M vs fs) (hb : Below w.heap.size w W) (hg : W.heap[g]? = some (.cells Z 54 (0, 0))) (hZ : Z.size = nf * 2) (hlt : w.heap.size ≤ g) :
    ∃ W2 cur, (Builtin.copy_ #[44, 44] 3 #[.slice (some ⟨g, 0, none⟩) nf nf, .slice af nf cf]).run Tryd.prog W = .ok (.int .i64 nf) W2 ∧ W2.heap[g]? = some (.cells cur 54 (0, 0)) ∧ cur.size = nf * 2 ∧ cur.toList = vs ∧
      W2.heap.size = W.heap.size ∧ (∀ k, k ≠ g → W2.heap[k]? = W.heap[k]?) ∧ W2.os = W.os ∧ W2.tape = W.tape ∧ W2.output = W.output := by
  obtain ⟨i0, hi, hz0, hz1, hz2⟩ := info_parts infoFile
  have hlv := hr.1
  rcases hr.2 with ⟨q, rfl⟩ | ⟨g0, cap, cur, q, _, q2, q3, q4, q5, q6⟩
  · simp only [Value.slice.injEq] at q
    obtain ⟨rfl, _, rfl⟩ := q
    have hv : vs = [] := List.length_eq_zero_iff.1 (by rw [hlv])
    have hZ0 : Z.toList = [] := List.length_eq_zero_iff.1 (by rw [Array.length_toList, hZ])
    exact ⟨W, Z, run_copy_nil (P := Tryd.prog) W 44 44 3 54 ⟨g, 0, none⟩ 0 0 Tryd.underlying44 (by rw [hi]; rfl), hg, hZ, by rw [hZ0, hv], rfl, fun _ _ => rfl, rfl, rfl, rfl⟩
  · simp only [Value.slice.injEq] at q
    obtain ⟨rfl, _, rfl⟩ := q
    have hlt0 : g0 < w.heap.size := (Array.getElem?_eq_some_iff.1 q2).1
    have g0W : W.heap[g0]? = some (.cells cur 54 (0, 0)) := (hb.block _ hlt0).trans q2
    have hone : ∀ u ∈ vs, u.oneCell' = true := fun u hu => by
      obtain ⟨j, hj, rfl⟩ := List.getElem_of_mem hu
      have hj2 : j / 2 < fs.length := by have := hf.1; omega
      obtain ⟨vb, e1, e2, e3⟩ := hf.2 (j / 2) hj2
      rcases Nat.mod_two_eq_zero_or_one j with q | q
      · rw [show j / 2 * 2 = j by omega, List.getElem?_eq_getElem hj] at e1
        obtain ⟨a, c, e⟩ := e3.slice
        rw [Option.some.inj e1, e]; rfl
      · rw [show j / 2 * 2 + 1 = j by omega, List.getElem?_eq_getElem hj] at e2
        rw [Option.some.inj e2]; rfl
    have hsrc : ∀ j u, vs[j]? = some u → W.cell? ((⟨g0, 0, none⟩ : Addr).add j) = some u := fun j u hj => by
      have ha : (⟨g0, 0, none⟩ : Addr).add j = ⟨g0, j, none⟩ := by unfold Addr.add; split <;> simp_all
      rw [ha]
      rw [← q6, List.getElem?_take] at hj
      split at hj
      · simp only [World.cell?, g0W]; simpa using hj
      · cases hj
    have hrun := run_copy_cells2 (P := Tryd.prog) W 44 44 3 54 2 g nf nf cf ⟨g0, 0, none⟩ Z 54 vs Tryd.underlying44 (by rw [hi]; simp [hz1]) hg hlv hsrc (by omega) hone
    have hd : (vs ++ Z.toList.drop vs.length).toArray.toList = vs := by
      rw [List.drop_of_length_le (by rw [Array.length_toList]; omega), List.append_nil]
    refine ⟨_, _, hrun, ?_, ?_, hd, ?_, fun k hk => ?_, rfl, rfl, rfl⟩
    · simp [World.setRow, Array.getElem?_modify, hg]
    · rw [← Array.length_toList, hd, hlv]
    · simp [World.setRow]
    · simp [World.setRow, Array.getElem?_modify, Ne.symm hk]

def Uc2 (bc bd g nf cf : Nat) (af : Option Addr) (w : World) : Prop := w.cell? ⟨bc, 4, none⟩ = some (.slice (some ⟨g, 0, none⟩) nf nf) ∧ w.cell? ⟨bd, 4, none⟩ = some (.slice af nf cf)
def Uk (bd : Nat) (bs bn : Nat) (vl : Value) (w : World) : Prop := w.cell? ⟨bd, 1, none⟩ = some (.map (some bs)) ∧ w.cell? ⟨bd, 2, none⟩ = some (.map (some bn)) ∧ w.cell? ⟨bd, 3, none⟩ = some vl

set_option maxHeartbeats 4000000 in
theorem Fork_calls {w : World} {bd : Nat} {O M : Nat → Prop} {D : PD} (h : DiskIs w bd O M D) (hF : D.Fine) :
    Calls Tryd.prog 16 #[.pointer (some ⟨bd, 0, none⟩)] w fun e w' => ∃ bd2 O2 M', e = .returned (.pointer (some ⟨bd2, 0, none⟩)) ∧ DiskIs w' bd2 O2 M' D ∧ DiskIs w' bd O M' D ∧ Goes (fun _ => False) M M' w w' ∧ (∀ k, O2 k → w.heap.size ≤ k) := by
  have H0 := Lib.hid h
  obtain ⟨bs, bn, vl, vf, hd, hO⟩ := h
  obtain ⟨al, nl, cl, hvl⟩ : ∃ a n c, vl = .slice a n c := by
    rcases hd.loose with ⟨q, _⟩ | ⟨b, cap, q, _⟩
    · exact ⟨_, _, _, q⟩
    · exact ⟨_, _, _, q⟩
  obtain ⟨vs, hfr, hfc⟩ := hd.files
  obtain ⟨af, cf, hvf⟩ := ownsRow_slice hfr
  obtain ⟨W1, hW1⟩ : ∃ W1, W1 = w.alloc (.cells #[.int .i64 (D.cap : Int), .map (some bs), .map (some bn), vl, vf, .bool D.down, .int .i64 D.ops, .int .i64 D.fails, .bool D.done, .int .i64 D.wrong] 46) := ⟨_, rfl⟩
  have s1 : W1.heap.size = w.heap.size + 1 := by rw [hW1]; simp
  have hb1 : Below w.heap.size w W1 := by rw [hW1]; exact (Below.refl _ _).alloc (Nat.le_refl _) _
  have k1 : W1.heap[w.heap.size]? = some (.cells (diskCells D bs bn vl vf) 46 (0, 0)) := by rw [hW1]; exact heap_new _ _
  obtain ⟨es1, ck1, hes1, hes1'⟩ := hd.sure
  obtain ⟨es2, ck2, hes2, hes2'⟩ := hd.now
  have hw1s : W1.drew.heap[bs]? = some (.map es1 ck1) := (hb1.block _ hd.sure.lt).trans hes1
  have hMC1 := mapsClone_calls bs es1 ck1 W1.drew hw1s
  obtain ⟨W2, hW2⟩ : ∃ W2, W2 = W1.drew.alloc (.map es1 ck1) := ⟨_, rfl⟩
  have s2 : W2.heap.size = w.heap.size + 1 + 1 := by rw [hW2]; simp [s1]
  have hb2 : Below w.heap.size w W2 := by rw [hW2]; exact (hb1.trans (below_drewN (Below.refl _ _) 1)).alloc hb1.size _
  have hb12 : Below W1.heap.size W1 W2 := by rw [hW2]; exact (below_drewN (Below.refl _ W1) 1).alloc (Nat.le_refl _) _
  have k2 : W2.heap[w.heap.size + 1]? = some (.map es1 ck1) := by rw [hW2, ← s1]; exact heap_new W1.drew _
  have hMC2 := mapsClone_calls bn es2 ck2 W2 ((hb2.block _ hd.now.lt).trans hes2)
  obtain ⟨W3, hW3⟩ : ∃ W3, W3 = W2.alloc (.map es2 ck2) := ⟨_, rfl⟩
  have s3 : W3.heap.size = w.heap.size + 1 + 1 + 1 := by rw [hW3]; simp [s2]
  have hb23 : Below W2.heap.size W2 W3 := by rw [hW3]; exact (Below.refl _ W2).alloc (Nat.le_refl _) _
  have hb3 : Below w.heap.size w W3 := hb2.trans (hb23.mono hb2.size)
  have k3 : W3.heap[w.heap.size + 1 + 1]? = some (.map es2 ck2) := by rw [hW3, ← s2]; exact heap_new W2 _
  have k2' : W3.heap[w.heap.size + 1]? = some (.map es1 ck1) := (hb23.block _ (by omega)).trans k2
  have k1' : W3.heap[w.heap.size]? = some (.cells (diskCells D bs bn vl vf) 46 (0, 0)) := ((hb12.trans (hb23.mono hb12.size)).block _ (by omega)).trans k1
  obtain ⟨M2, hM2⟩ : ∃ M2 : Nat → Prop, M2 = fun k => M k ∨ k = w.heap.size ∨ k = w.heap.size + 1 + 1 := ⟨_, rfl⟩
  have hG3 : Goes (fun _ => False) M M2 w W3 := by
    refine ⟨hb3.os, hb3.tape, hb3.output, hb3.size, fun k hk _ => hb3.block k hk, fun k q => ?_, fun k q => by rw [hM2]; exact .inl q⟩
    rw [hM2] at q
    rcases q with q | q | q
    · exact .inl q
    · exact .inr ⟨by omega, by omega⟩
    · exact .inr ⟨by omega, by omega⟩
  have hML : ∀ k, M2 k → k < W3.heap.size := fun k q => by
    rcases hG3.back k q with q | q
    · exact Nat.lt_of_lt_of_le (hd.mlt k q) hG3.size
    · exact q.2
  have hCL := cloneLoose_calls hML (hd.loose.goes hG3 (fun _ q => q.elim)) hF.loose
  have n1 : ∀ k, k < w.heap.size → ¬ (k = w.heap.size) := fun k hk => by omega
  have hUk : Uk bd bs bn vl w := ⟨hd.sureC, hd.nowC, hd.looseC⟩
  have upU : ∀ W', Below w.heap.size w W' → Uk bd bs bn vl W' := fun W' hb => ⟨(hb.cell (p := ⟨bd, 1, none⟩) hd.lt).trans hUk.1, (hb.cell (p := ⟨bd, 2, none⟩) hd.lt).trans hUk.2.1, (hb.cell (p := ⟨bd, 3, none⟩) hd.lt).trans hUk.2.2⟩
  have hU : Hid (Uk bd bs bn vl W1.drew) := upU _ (hb1.trans (below_drewN (Below.refl _ _) 1))
  have hU2 : Hid (Uk bd bs bn vl W2) := upU _ hb2
  have hU3 : Hid (Uk bd bs bn vl W3) := upU _ hb3
  have UP := Lib.hid upU
  have HW1 := Lib.hid hW1
  have HW2 := Lib.hid hW2
  have HW3 := Lib.hid hW3
  have HB3 := Lib.hid hb3
  have HG3 := Lib.hid hG3
  have HF := Lib.hid hF
  have HM2 := Lib.hid hM2
  have HD := Lib.hid hd
  have HO := Lib.hid hO
  have HML := Lib.hid hML
  have K1 := Lib.hid k1'
  have K2 := Lib.hid k2'
  have K3 := Lib.hid k3
  have S3 := Lib.hid s3
  have S2 : Hid (w.heap.size + 1 + 1 = W2.heap.size) := s2.symm
  have S1 : Hid (w.heap.size + 1 = W1.heap.size) := s1.symm
  have HE1 := Lib.hid hes1'
  have HE2 := Lib.hid hes2'
  have HFR := Lib.hid hfr
  have HFC := Lib.hid hfc
  have c0 := hd.cap
  have c1 := hd.sureC
  have c2 := hd.nowC
  have c3 := hd.looseC
  have c4 := hd.filesC
  have c5 := hd.down
  have c6 := hd.ops
  have c7 := hd.fails
  have c8 := hd.done
  have c9 := hd.wrong
  have lbd := hd.lt
  have hfl := hF.files
  clear hW1 hW2 hW3 hb1 hb2 hb3 hb12 hb23 hG3 hF hM2 hd hO hML k1 k1' k2 k2' k3 s1 s2 s3 hes1' hes2' hes1 hes2 hfr hfc n1 upU hUk hw1s
  generalize hnf : D.files.length = nf at *
  have HNF := Lib.hid hnf
  clear hnf
  subst hvl hvf
  go_enter Tryd.func16, Tryd.ntmps16
  go_wp2_with fail
  rw [← HW1.out]
  refine wp_region_F (fun _ => True) [] (Uk bd bs bn (.slice al nl cl)) (by kernel_rfl) ?_
  refine wpAnyF_takeU (i := 0) (v := ?v0) rfl (by kernel_rfl) (by kernel_rfl) (by kernel_rfl) (by kernel_rfl) (fun _ _ _ h => h) (Or.inl ⟨by rfl, ?y0⟩) trivial hU.out ?n0
  case y0 => intro w' hU; obtain ⟨u1, u2, u3⟩ := hU; go_simp; with_reducible rfl
  simp only [Act.put, List.setIfInBounds_toArray]
  refine wpAnyF_takeU (i := 1) (v := ?v1) rfl (by kernel_rfl) (by kernel_rfl) (by kernel_rfl) (by kernel_rfl) (fun _ _ _ h => h) (Or.inl ⟨by rfl, ?y1⟩) trivial hU.out ?n1
  case y1 => intro w' hU; obtain ⟨u1, u2, u3⟩ := hU; go_simp; with_reducible rfl
  simp only [Act.put]
  refine wpAnyF_takeU (i := 2) (v := ?v2) rfl (by kernel_rfl) (by kernel_rfl) (by kernel_rfl) (by kernel_rfl) (fun _ _ _ h => h) (Or.inl ⟨by rfl, ?y2⟩) trivial hU.out ?n2
  case y2 => intro w' hU; obtain ⟨u1, u2, u3⟩ := hU; go_simp; with_reducible rfl
  simp only [Act.put]
  refine wpAnyF_takeU (i := 3) (v := ?v3) rfl (by kernel_rfl) (by kernel_rfl) (by kernel_rfl) (by kernel_rfl) (fun _ _ _ h => h) (Or.inl ⟨by rfl, ?y3⟩) trivial hU.out ?n3
  case y3 => intro w' hU; obtain ⟨u1, u2, u3⟩ := hU; go_simp; with_reducible rfl
  simp only [Act.put]
  refine wpAnyF_takeU (i := 5) (v := ?v5) rfl (by kernel_rfl) (by kernel_rfl) (by kernel_rfl) (by kernel_rfl) (fun _ _ _ h => h) (Or.inl ⟨by rfl, ?y5⟩) trivial hU.out ?n5
  case y5 => intro w' hU; obtain ⟨u1, u2, u3⟩ := hU; go_simp; with_reducible rfl
  simp only [Act.put]
  refine wpAnyF_takeU (i := 6) (v := ?v6) rfl (by kernel_rfl) (by kernel_rfl) (by kernel_rfl) (by kernel_rfl) (fun _ _ _ h => h) (Or.inl ⟨by rfl, ?y6⟩) trivial hU.out ?n6
  case y6 => intro w' hU; obtain ⟨u1, u2, u3⟩ := hU; go_simp; with_reducible rfl
  simp only [Act.put]
  refine wpAnyF_takeU (i := 7) (v := ?v7) rfl (by kernel_rfl) (by kernel_rfl) (by kernel_rfl) (by kernel_rfl) (fun _ _ _ h => h) (Or.inl ⟨by rfl, ?y7⟩) trivial hU.out ?n7
  case y7 => intro w' hU; obtain ⟨u1, u2, u3⟩ := hU; go_simp; with_reducible rfl
  simp only [Act.put]
  refine wpAnyF_takeU (i := 8) (v := ?v8) rfl (by kernel_rfl) (by kernel_rfl) (by kernel_rfl) (by kernel_rfl) (fun _ _ _ h => h) (Or.inl ⟨by rfl, ?y8⟩) trivial hU.out ?n8
  case y8 => intro w' hU; obtain ⟨u1, u2, u3⟩ := hU; go_simp; with_reducible rfl
  simp only [Act.put]
  refine wpAnyF_takeU (i := 10) (v := ?v10) rfl (by kernel_rfl) (by kernel_rfl) (by kernel_rfl) (by kernel_rfl) (fun _ _ _ h => h) (Or.inl ⟨by rfl, ?y10⟩) trivial hU.out ?n10
  case y10 => intro w' hU; obtain ⟨u1, u2, u3⟩ := hU; go_simp; with_reducible rfl
  simp only [Act.put]
  refine wpAnyF_takeU (i := 11) (v := ?v11) rfl (by kernel_rfl) (by kernel_rfl) (by kernel_rfl) (by kernel_rfl) (fun _ _ _ h => h) (Or.inl ⟨by rfl, ?y11⟩) trivial hU.out ?n11
  case y11 => intro w' hU; obtain ⟨u1, u2, u3⟩ := hU; go_simp; with_reducible rfl
  simp only [Act.put]
  refine wpAnyF_takeU (i := 12) (v := ?v12) rfl (by kernel_rfl) (by kernel_rfl) (by kernel_rfl) (by kernel_rfl) (fun _ _ _ h => h) (Or.inl ⟨by rfl, ?y12⟩) trivial hU.out ?n12
  case y12 => intro w' hU; obtain ⟨u1, u2, u3⟩ := hU; go_simp; with_reducible rfl
  simp only [Act.put]
  refine wpAnyF_takeU (i := 13) (v := ?v13) rfl (by kernel_rfl) (by kernel_rfl) (by kernel_rfl) (by kernel_rfl) (fun _ _ _ h => h) (Or.inl ⟨by rfl, ?y13⟩) trivial hU.out ?n13
  case y13 => intro w' hU; obtain ⟨u1, u2, u3⟩ := hU; go_simp; with_reducible rfl
  simp only [Act.put]

  refine wpAnyF_one (i := 4) rfl (by kernel_rfl) (fun K hK => ?_)
  go_simp
  refine hMC1.mono ?_
  rintro e w2 ⟨rfl, rfl⟩
  clear hMC1
  rw [← HW2.out]
  refine hK _ _ (.inr trivial) hU2.out ?_
  clear hK K
  refine wpAnyF_one (i := 9) rfl (by kernel_rfl) (fun K hK => ?_)
  go_simp
  refine hMC2.mono ?_
  rintro e w2 ⟨rfl, rfl⟩
  clear hMC2
  rw [← HW3.out]
  refine hK _ _ (.inr trivial) hU3.out ?_
  clear hK K
  refine wpAnyF_one (i := 14) rfl (by kernel_rfl) (fun K hK => ?_)
  go_simp
  refine hCL.mono ?_
  rintro e W4 ⟨a4, n4, c4', rfl, hl4, hb4⟩
  clear hCL
  have hb4w : Below w.heap.size w W4 := HB3.out.trans (hb4.mono HB3.out.size)
  have hs3 := S3.out
  have g4 : W4.heap[w.heap.size]? = some (.cells (diskCells D bs bn (.slice al nl cl) (.slice af nf cf)) 46 (0, 0)) := (hb4.block _ (by omega)).trans K1.out
  have K2' : Hid (W4.heap[w.heap.size + 1]? = some (.map es1 ck1)) := (hb4.block _ (by omega)).trans K2.out
  have K3' : Hid (W4.heap[w.heap.size + 1 + 1]? = some (.map es2 ck2)) := (hb4.block _ (by omega)).trans K3.out
  obtain ⟨W5, hW5⟩ : ∃ W5, W5 = W4.setCell ⟨w.heap.size, 1, none⟩ (.map (some (w.heap.size + 1))) := ⟨_, rfl⟩
  obtain ⟨W6, hW6⟩ : ∃ W6, W6 = W5.setCell ⟨w.heap.size, 2, none⟩ (.map (some (w.heap.size + 1 + 1))) := ⟨_, rfl⟩
  obtain ⟨W7, hW7⟩ : ∃ W7, W7 = W6.setCell ⟨w.heap.size, 3, none⟩ (.slice a4 n4 c4') := ⟨_, rfl⟩
  have g5 := heap_setCell_same (i := 1) (v := .map (some (w.heap.size + 1))) g4
  rw [← hW5] at g5
  have g6 := heap_setCell_same (i := 2) (v := .map (some (w.heap.size + 1 + 1))) g5
  rw [← hW6] at g6
  have g7 := heap_setCell_same (i := 3) (v := .slice a4 n4 c4') g6
  rw [← hW7] at g7
  have hb5 : Below w.heap.size w W5 := by rw [hW5]; exact below_setCell hb4w _ (Nat.le_refl _)
  have hb6 : Below w.heap.size w W6 := by rw [hW6]; exact below_setCell hb5 _ (Nat.le_refl _)
  have hb7 : Below w.heap.size w W7 := by rw [hW7]; exact below_setCell hb6 _ (Nat.le_refl _)
  have hs7 : W7.heap.size = W4.heap.size := by rw [hW7, hW6, hW5]; simp
  have K2'' : Hid (W7.heap[w.heap.size + 1]? = some (.map es1 ck1)) := by
    unfold Hid; rw [hW7, Below.heap_setCell _ _ _ _ (by simp), hW6, Below.heap_setCell _ _ _ _ (by simp), hW5, Below.heap_setCell _ _ _ _ (by simp)]; exact K2'.out
  have K3'' : Hid (W7.heap[w.heap.size + 1 + 1]? = some (.map es2 ck2)) := by
    unfold Hid; rw [hW7, Below.heap_setCell _ _ _ _ (by simp; omega), hW6, Below.heap_setCell _ _ _ _ (by simp; omega), hW5, Below.heap_setCell _ _ _ _ (by simp; omega)]; exact K3'.out
  have t4 : W4.cell? ⟨w.heap.size, 1, none⟩ = some (.map (some bs)) := by simp [World.cell?, g4, diskCells]
  have t5 : W5.cell? ⟨w.heap.size, 2, none⟩ = some (.map (some bn)) := by simp [World.cell?, g5, diskCells]
  have t6 : W6.cell? ⟨w.heap.size, 3, none⟩ = some (.slice al nl cl) := by simp [World.cell?, g6, diskCells]
  have f4 : W4.frozen? ⟨w.heap.size, 1, none⟩ = false := by simp [World.frozen?, g4]
  have f5 : W5.frozen? ⟨w.heap.size, 2, none⟩ = false := by simp [World.frozen?, g5]
  have f6 : W6.frozen? ⟨w.heap.size, 3, none⟩ = false := by simp [World.frozen?, g6]
  have hU4 : Hid (Uk bd bs bn (.slice al nl cl) W4) := UP.out _ hb4w
  have hU5 : Hid (Uk bd bs bn (.slice al nl cl) W5) := UP.out _ hb5
  have hU6 : Hid (Uk bd bs bn (.slice al nl cl) W6) := UP.out _ hb6
  have hU7 : Hid (Uk bd bs bn (.slice al nl cl) W7) := UP.out _ hb7
  have t7 : W7.cell? ⟨bd, 4, none⟩ = some (.slice af nf cf) := (hb7.cell (p := ⟨bd, 4, none⟩) lbd).trans c4
  have t8 : W7.cell? ⟨w.heap.size, 4, none⟩ = some (.slice af nf cf) := by simp [World.cell?, g7, diskCells]
  have f7 : W7.frozen? ⟨w.heap.size, 4, none⟩ = false := by simp [World.frozen?, g7]
  have T7 := Lib.hid t7
  have T8 := Lib.hid t8
  have F7 := Lib.hid f7
  have G7 := Lib.hid g7
  have HB7 := Lib.hid hb7
  have HS7 := Lib.hid hs7
  have HB4 := Lib.hid hb4
  have HL4 := Lib.hid hl4
  have H47 : Hid (∀ k, k ≠ w.heap.size → W7.heap[k]? = W4.heap[k]?) := fun k hk => by
    rw [hW7, Below.heap_setCell _ _ _ _ hk, hW6, Below.heap_setCell _ _ _ _ hk, hW5, Below.heap_setCell _ _ _ _ hk]
  have HW5 := Lib.hid hW5
  have HW6 := Lib.hid hW6
  have HW7 := Lib.hid hW7
  clear g4 g5 g6 g7 hb5 hb6 hb7 hs7 hb4 hl4 hW5 hW6 hW7 t7 t8 f7 hb4w hs3
  refine hK _ _ (.inr trivial) hU4.out ?_
  clear hK K
  refine wpAnyF_one (i := 15) rfl (by kernel_rfl) (fun K hK => ?_)
  go_simp
  refine hK _ _ (.inr trivial) hU4.out ?_
  clear hK K
  refine wpAnyF_one (i := 16) rfl (by kernel_rfl) (fun K hK => ?_)
  go_simp
  rw [← S1.out, ← HW5.out]
  refine hK _ _ (.inr trivial) hU5.out ?_
  clear hK K
  refine wpAnyF_one (i := 17) rfl (by kernel_rfl) (fun K hK => ?_)
  go_simp
  refine hK _ _ (.inr trivial) hU5.out ?_
  clear hK K
  refine wpAnyF_one (i := 18) rfl (by kernel_rfl) (fun K hK => ?_)
  go_simp
  rw [← S2.out, ← HW6.out]
  refine hK _ _ (.inr trivial) hU6.out ?_
  clear hK K
  refine wpAnyF_one (i := 19) rfl (by kernel_rfl) (fun K hK => ?_)
  go_simp
  refine hK _ _ (.inr trivial) hU6.out ?_
  clear hK K
  refine wpAnyF_one (i := 20) rfl (by kernel_rfl) (fun K hK => ?_)
  go_simp
  rw [← HW7.out]
  refine hK _ _ (.inr trivial) hU7.out ?_
  clear hK K t4 t5 t6 f4 f5 f6 hU4 hU5 hU6 hU7 HW5 HW6 HW7
  refine wpAnyF_done (by kernel_rfl) ?_ _
  obtain ⟨i0, hi, hz0, hz1, hz2⟩ := info_parts infoFile
  obtain ⟨Z, hZ⟩ : ∃ Z, Z = madeCells (Value.agg #[.slice none 0 0, .int .i64 0]).cells (nf * 2) := ⟨_, rfl⟩
  have hZs : Z.size = nf * 2 := by rw [hZ]; exact size_madeCells _ _
  obtain ⟨W8, hW8⟩ : ∃ W8, W8 = W7.alloc (.cells Z 54) := ⟨_, rfl⟩
  have hmk : (Instr.makeSlice 44 (.int .i64 (nf : Int)) (.int .i64 (nf : Int))).run Tryd.prog W7 = .ok (.slice (some ⟨W7.heap.size, 0, none⟩) nf nf) W8 := by
    have := run_makeSlice (P := Tryd.prog) W7 44 54 i0 _ Tryd.underlying44 hi hz0 .i64 .i64 nf nf (by omega) (by omega) (by rw [hz1]; omega) (by rw [hz2]; omega) (by omega)
    rw [hz1] at this
    simp only [Int.toNat_natCast] at this
    rw [hW8, hZ]
    exact this
  have lw7 : w.heap.size < W7.heap.size := by have := HS7.out; have := HB4.out.size; have := S3.out; omega
  have hb78 : Below W7.heap.size W7 W8 := by rw [hW8]; exact (Below.refl _ _).alloc (Nat.le_refl _) _
  have g8 : W8.heap[W7.heap.size]? = some (.cells Z 54 (0, 0)) := by rw [hW8]; exact heap_new _ _
  have t8 : W8.cell? ⟨w.heap.size, 4, none⟩ = some (.slice af nf cf) := (hb78.cell (p := ⟨w.heap.size, 4, none⟩) lw7).trans T8.out
  have f8 : W8.frozen? ⟨w.heap.size, 4, none⟩ = false := (hb78.frozen (p := ⟨w.heap.size, 4, none⟩) lw7).trans F7.out
  have t7 := T7.out
  have G8 := Lib.hid g8
  have HB78 := Lib.hid hb78
  have HW8 := Lib.hid hW8
  have HZS := Lib.hid hZs
  have LW7 := Lib.hid lw7
  clear hW8 hb78 g8 hZ hZs hi hz0 hz1 hz2 lw7
  go_wp2_with fail
  obtain ⟨W9, hW9⟩ : ∃ W9, W9 = W8.setCell ⟨w.heap.size, 4, none⟩ (.slice (some ⟨W7.heap.size, 0, none⟩) nf nf) := ⟨_, rfl⟩
  have hb8 : Below w.heap.size w W8 := HB7.out.trans (HB78.out.mono HB7.out.size)
  have hb9 : Below w.heap.size w W9 := by rw [hW9]; exact below_setCell hb8 _ (Nat.le_refl _)
  have hbcg : w.heap.size ≠ W7.heap.size := by have := LW7.out; omega
  have g9 : W9.heap[W7.heap.size]? = some (.cells Z 54 (0, 0)) := by rw [hW9]; exact (Below.heap_setCell _ _ _ _ hbcg.symm).trans G8.out
  have k9 : W9.heap[w.heap.size]? = some (.cells (diskCells D (w.heap.size + 1) (w.heap.size + 1 + 1) (.slice a4 n4 c4') (.slice (some ⟨W7.heap.size, 0, none⟩) nf nf)) 46 (0, 0)) := by
    rw [hW9]
    exact (heap_setCell_same (i := 4) (v := .slice (some ⟨W7.heap.size, 0, none⟩) nf nf) ((HB78.out.block _ LW7.out).trans G7.out)).trans rfl
  have l79 : W3.heap.size ≤ W7.heap.size := by have := HS7.out; have := HB4.out.size; omega
  have hs3 := S3.out
  have k9a : W9.heap[w.heap.size + 1]? = some (.map es1 ck1) := by rw [hW9]; exact (Below.heap_setCell _ _ _ _ (by simp)).trans ((HB78.out.block _ (by omega)).trans K2''.out)
  have k9b : W9.heap[w.heap.size + 1 + 1]? = some (.map es2 ck2) := by rw [hW9]; exact (Below.heap_setCell _ _ _ _ (by simp; omega)).trans ((HB78.out.block _ (by omega)).trans K3''.out)
  obtain ⟨W10, cur, hcp, p1, p2, p3, p4, p5, p6, p7, p8⟩ := copy_files (W := W9.drew) HFR.out HFC.out (hb9.trans (below_drewN (Below.refl _ _) 1)) g9 HZS.out (Nat.le_of_lt LW7.out)
  have hU9 : Uc2 w.heap.size bd W7.heap.size nf cf af W9.drew := ⟨by show W9.cell? _ = _; simp [World.cell?, k9, diskCells], (hb9.cell (p := ⟨bd, 4, none⟩) lbd).trans c4⟩
  have hU10 : Uc2 w.heap.size bd W7.heap.size nf cf af W10 := ⟨by have k10 := (p5 _ hbcg).trans k9; simp [World.cell?, k10, diskCells], (World.cell?_of_block (a := ⟨bd, 4, none⟩) (p5 bd (by have := LW7.out; omega))).trans hU9.2⟩
  have hsz : W10.heap.size = W8.heap.size := by rw [p4]; show W9.heap.size = _; rw [hW9]; simp
  have hs8 : W8.heap.size = W7.heap.size + 1 := by rw [HW8.out]; simp
  obtain ⟨M3, hM3⟩ : ∃ M3 : Nat → Prop, M3 = fun k => M2 k ∨ k = W7.heap.size := ⟨_, rfl⟩
  have hb10 : Below w.heap.size w W10 := ⟨p6.trans hb9.os, p7.trans hb9.tape, p8.trans hb9.output, by rw [hsz]; exact hb8.size, fun k hk => (p5 k (by have := LW7.out; omega)).trans (hb9.block k hk)⟩
  have hG10 : Goes (fun _ => False) M M3 w W10 := by
    refine ⟨hb10.os, hb10.tape, hb10.output, hb10.size, fun k hk _ => hb10.block k hk, fun k q => ?_, fun k q => by rw [hM3]; exact .inl (HG3.out.new k q)⟩
    rw [hM3] at q
    rcases q with q | q
    · rcases HG3.out.back k q with q | q
      · exact .inl q
      · exact .inr ⟨q.1, by omega⟩
    · exact .inr ⟨by have := LW7.out; omega, by omega⟩
  have hbc2 : M2 w.heap.size := by rw [HM2.out]; exact .inr (.inl rfl)
  have hb22 : M2 (w.heap.size + 1 + 1) := by rw [HM2.out]; exact .inr (.inr rfl)
  have hnb1 : ¬ M3 (w.heap.size + 1) := by
    rw [hM3, HM2.out]
    rintro ((q | q | q) | q)
    · have := HD.out.mlt _ q; omega
    · omega
    · omega
    · omega
  have h410 : Goes (fun k => k = w.heap.size) M2 M3 W4 W10 := by
    refine ⟨?_, ?_, ?_, by have := HS7.out; omega, fun k hk hne => ?_, fun k q => ?_, fun k q => by rw [hM3]; exact .inl q⟩
    · exact hb10.os.trans (HB3.out.trans (HB4.out.mono HB3.out.size)).os.symm
    · exact hb10.tape.trans (HB3.out.trans (HB4.out.mono HB3.out.size)).tape.symm
    · exact hb10.output.trans (HB3.out.trans (HB4.out.mono HB3.out.size)).output.symm
    · have h7 := HS7.out
      refine (p5 k (by omega)).trans ?_
      show W9.heap[k]? = _
      rw [hW9, Below.heap_setCell _ _ _ _ (show k ≠ w.heap.size from hne), HB78.out.block k (by omega)]
      exact H47.out k hne
    · rw [hM3] at q
      rcases q with q | q
      · exact .inl q
      · exact .inr ⟨by have := HS7.out; omega, by omega⟩
  have hDA : DiskAt W10 w.heap.size (w.heap.size + 1) (w.heap.size + 1 + 1) (.slice a4 n4 c4') (.slice (some ⟨W7.heap.size, 0, none⟩) nf nf) D M3 := by
    refine ⟨(p5 _ hbcg).trans k9, ⟨es1, ck1, (p5 _ (by omega)).trans k9a, HE1.out⟩, hnb1, ⟨es2, ck2, (p5 _ (by omega)).trans k9b, HE2.out⟩, by rw [hM3]; exact .inl hb22, by omega, by rw [hM3]; exact .inl hbc2,
      HL4.out.goes h410 (fun k e => e ▸ hbc2), ⟨vs, ⟨HFR.out.1.trans (by rw [HNF.out]), .inr ⟨W7.heap.size, nf, cur, by rw [HNF.out], Nat.zero_le _, p1, by rw [HNF.out]; exact Nat.le_refl _, Nat.le_trans hfl (by decide), p2, ?_⟩⟩, HFC.out.goes hG10 (fun _ q => q.elim)⟩, fun k q => ?_, fun k q => ?_⟩
    · rw [HNF.out, ← p2, ← Array.length_toList, List.take_length, p3]
    · simp [Value.ownBlock] at q
      subst q
      exact ⟨by rw [hM3]; exact .inr rfl, by omega, by omega⟩
    · rcases hG10.back k q with q | q
      · exact Nat.lt_of_lt_of_le (HD.out.mlt k q) hG10.size
      · exact q.2
  have FIN1 : Hid (DiskIs W10 w.heap.size (Own w.heap.size (w.heap.size + 1 + 1) (.slice (some ⟨W7.heap.size, 0, none⟩) nf nf)) M3 D) := ⟨_, _, _, _, hDA, fun _ => Iff.rfl⟩
  have FIN2 : Hid (DiskIs W10 bd O M3 D) := H0.out.goes hG10 (fun _ q => q.elim) (fun _ _ q => q)
  have FIN3 := Lib.hid hG10
  have FIN4 : Hid (∀ k, Own w.heap.size (w.heap.size + 1 + 1) (.slice (some ⟨W7.heap.size, 0, none⟩) nf nf) k → w.heap.size ≤ k) := by
    rintro k (q | q | q)
    · omega
    · omega
    · simp [Value.ownBlock] at q; omega
  have hV := Lib.hid hU9
  have hV2 := Lib.hid hU10
  have HW9 := Lib.hid hW9
  clear hW9 hb8 hb9 hbcg g9 k9 l79 hs3 k9a k9b p1 p2 p3 p4 p5 p6 p7 p8 hU9 hU10 hsz hs8 hM3 hb10 hG10 hbc2 hb22 hnb1 h410 hDA t8 f8 t7 hmk
  rw [← HW9.out]
  refine wp_region_F (fun _ => True) [] (Uc2 w.heap.size bd W7.heap.size nf cf af) (by kernel_rfl) ?_
  refine wpAnyF_takeU (i := 0) (v := ?vv0) rfl (by kernel_rfl) (by kernel_rfl) (by kernel_rfl) (by kernel_rfl) (fun _ _ _ h => h) (Or.inl ⟨by rfl, ?yy0⟩) trivial hV.out ?nn0
  case yy0 => intro w' hU; obtain ⟨u1, u2⟩ := hU; go_simp; with_reducible rfl
  simp only [Act.put, List.setIfInBounds_toArray]
  refine wpAnyF_takeU (i := 1) (v := ?vv1) rfl (by kernel_rfl) (by kernel_rfl) (by kernel_rfl) (by kernel_rfl) (fun _ _ _ h => h) (Or.inl ⟨by rfl, ?yy1⟩) trivial hV.out ?nn1
  case yy1 => intro w' hU; obtain ⟨u1, u2⟩ := hU; go_simp; with_reducible rfl
  simp only [Act.put]
  refine wpAnyF_takeU (i := 2) (v := ?vv2) rfl (by kernel_rfl) (by kernel_rfl) (by kernel_rfl) (by kernel_rfl) (fun _ _ _ h => h) (Or.inl ⟨by rfl, ?yy2⟩) trivial hV.out ?nn2
  case yy2 => intro w' hU; obtain ⟨u1, u2⟩ := hU; go_simp; with_reducible rfl
  simp only [Act.put]
  refine wpAnyF_takeU (i := 3) (v := ?vv3) rfl (by kernel_rfl) (by kernel_rfl) (by kernel_rfl) (by kernel_rfl) (fun _ _ _ h => h) (Or.inl ⟨by rfl, ?yy3⟩) trivial hV.out ?nn3
  case yy3 => intro w' hU; obtain ⟨u1, u2⟩ := hU; go_simp; with_reducible rfl
  simp only [Act.put]
  refine wpAnyF_takeU (i := 4) (v := ?vv4) rfl (by kernel_rfl) (by kernel_rfl) (by kernel_rfl) (by kernel_rfl) (fun _ _ _ h => h) (Or.inl ⟨by rfl, ?yy4⟩) trivial hV.out ?nn4
  case yy4 => intro w' hU; obtain ⟨u1, u2⟩ := hU; go_simp; with_reducible rfl
  simp only [Act.put]
  refine wpAnyF_takeU (i := 5) (v := ?vv5) rfl (by kernel_rfl) (by kernel_rfl) (by kernel_rfl) (by kernel_rfl) (fun _ _ _ h => h) (Or.inl ⟨by rfl, ?yy5⟩) trivial hV.out ?nn5
  case yy5 => intro w' hU; obtain ⟨u1, u2⟩ := hU; go_simp; with_reducible rfl
  simp only [Act.put]

  refine wpAnyF_one (i := 6) rfl (by kernel_rfl) (fun K hK => ?_)
  go_simp
  refine hK _ _ (.inr trivial) hV2.out ?_
  clear hK K
  refine wpAnyF_done (by kernel_rfl) ?_ _
  go_wp2
  go_ret
  exact ⟨_, _, _, rfl, FIN1.out, FIN2.out, FIN3.out, FIN4.out⟩
end Go.Proofs.YtihojcjijbidpaaDoor
