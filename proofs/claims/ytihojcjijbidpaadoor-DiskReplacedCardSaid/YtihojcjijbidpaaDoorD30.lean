/- The walk of Crash. -/
import Derived.Test.YtihojcjijbidpaaDoorD29
namespace Go.Proofs.YtihojcjijbidpaaDoor
open Go.RowKit Go.Shelf Go.Sort

def Uq (bd b2 bx : Nat) (vp vn : Value) (w : World) : Prop := w.cell? ⟨bd, 2, none⟩ = some (.map (some b2)) ∧ w.cell? ⟨bx, 0, none⟩ = some vp ∧ w.cell? ⟨bx, 1, none⟩ = some vn

def S17 (g id : Nat) (ca : Option Addr) (cc cL cS : Nat) (w : World) : Prop := w.cell? ⟨g, id * 2, none⟩ = some (.slice ca cL cc) ∧ w.cell? ⟨g, id * 2 + 1, none⟩ = some (.int .i64 (cS : Int)) ∧ w.frozen? ⟨g, id * 2, none⟩ = false
def S15 (g id cS : Nat) (w : World) : Prop := w.cell? ⟨g, id * 2 + 1, none⟩ = some (.int .i64 (cS : Int)) ∧ w.frozen? ⟨g, id * 2 + 1, none⟩ = false
def U15 (kb ko k0 : Nat) (w : World) : Prop := w.cell? ⟨kb, ko, none⟩ = some (.int .u8 (k0 : Int))

theorem goes_drew' (O M : Nat → Prop) (w : World) : Goes O M M w w.drew := (Goes.of_drewN (fun _ => False) M w 1).wide (fun _ _ q => q.elim)

theorem cell_set_same {w : World} {a : Addr} {u v : Value} (h : w.cell? a = some u) : (w.setCell a v).cell? a = some v := World.cell?_setCell_same' w a v (by rw [h]; rfl)

theorem Amb.goes {w w' : World} {O M M' : Nat → Prop} (h : Amb w) (hg : Goes O M M' w w') (hO : ¬ O 0) : Amb w' := by
  obtain ⟨m, hm⟩ := h
  exact ⟨m, (hg.cell (a := ⟨0, 0, none⟩) (World.block_lt_of_cell? _ _ hm) hO).trans hm⟩

set_option maxHeartbeats 8000000 in
set_option maxRecDepth 10000 in
theorem Crash_calls {w : World} {bd : Nat} {O M : Nat → Prop} {D : PD} (h : DiskIs w bd O M D) (hF : D.Fine) (count : Int) (hF2 : (crashN D count).Fine) (hA : Amb w) (hMx : ¬ M 0) (hc0 : -9223372036854775808 ≤ count) (hc1 : count ≤ 9223372036854775807) (v : Value) (keep : List UInt8) (hv : BytesAt w M v keep) :
    Calls Tryd.prog 14 #[.pointer (some ⟨bd, 0, none⟩), .int .i64 count, v] w fun e w' => e = .returned (.tuple #[]) ∧ Leaves w bd O M (crashR D count keep) w' := by
  obtain ⟨bs, bn, vl, vf, hd, hO⟩ := h
  obtain ⟨al, cl, hvl⟩ : ∃ a c, vl = .slice a D.loose.length c := by
    rcases hd.loose with ⟨q, e⟩ | ⟨b, cap, q, _⟩
    · exact ⟨none, 0, by rw [q, e]; rfl⟩
    · exact ⟨_, _, q⟩
  have hlcap : D.loose.length ≤ cl := by
    rcases hd.loose with ⟨q, e⟩ | ⟨b, cap, q, hh, _⟩
    · rw [e]; simp
    · rw [hvl] at q; simp only [Value.slice.injEq] at q; omega
  obtain ⟨av, cv, hvv⟩ := hv.slice
  have hkcap : keep.length ≤ cv := by
    rcases hv with ⟨_, _, q, e, _⟩ | ⟨b, o, c', q, hh, _⟩
    · rw [e]; simp
    · rw [hvv] at q; simp only [Value.slice.injEq] at q; omega
  obtain ⟨es1, ck1, hes1, hes1'⟩ := hd.sure
  have hMC1 := mapsClone_calls bs es1 ck1 w hes1
  obtain ⟨W1, hW1⟩ : ∃ W1, W1 = (w.alloc (.map es1 ck1)).setCell ⟨bd, 2, none⟩ (.map (some w.heap.size)) := ⟨_, rfl⟩
  have hN := hd.nowNew (W := w.alloc (.map es1 ck1)) (b2 := w.heap.size) (m := D.sure) ((Below.refl _ _).alloc (Nat.le_refl _) _) ⟨es1, ck1, heap_new _ _, hes1'⟩ (Nat.le_refl _)
  rw [← hW1] at hN
  obtain ⟨M1, hM1⟩ : ∃ M1 : Nat → Prop, M1 = fun k => M k ∨ k = w.heap.size := ⟨_, rfl⟩
  rw [← hM1] at hN
  obtain ⟨m, hm⟩ : ∃ m, m = crashM D count := ⟨_, rfl⟩
  have hml : m ≤ D.loose.length := by rw [hm]; unfold crashM; omega
  have hmi : max 0 (min count (D.loose.length : Int)) = (m : Int) := by rw [hm]; unfold crashM; omega
  have c1 := hd.sureC
  have c2 : (w.alloc (.map es1 ck1)).cell? ⟨bd, 2, none⟩ = some (.map (some bn)) := (World.cell?_alloc_lt _ _ _ hd.lt).trans hd.nowC
  have f2 : (w.alloc (.map es1 ck1)).frozen? ⟨bd, 2, none⟩ = false := by
    have h2 : (w.alloc (.map es1 ck1)).heap[bd]? = some (.cells (diskCells D bs bn vl vf) 46 (0, 0)) := (Below.heap_alloc _ _ _ hd.lt).trans hd.cells
    simp [World.frozen?, h2]
  have HD1 := Lib.hid hN.1
  have HG1 := Lib.hid hN.2
  have hW1' : W1 = (w.setCell ⟨bd, 2, none⟩ (.map (some w.heap.size))).alloc (.map es1 ck1) := by rw [hW1]; exact World.setCell_alloc_past _ _ _ _ hd.lt
  have HW1 := Lib.hid hW1'
  have HM1 := Lib.hid hM1
  have HM := Lib.hid hm
  have HD := Lib.hid hd
  have HO := Lib.hid hO
  have HF := Lib.hid hF
  have HF2 := Lib.hid hF2
  have HA := Lib.hid hA
  have HMx := Lib.hid hMx
  have HV := Lib.hid hv
  have lbd := hd.lt
  have c3 := hN.1.looseC
  have hll := hF.loose
  clear hN hW1 hW1' hM1 hm hd hO hF hF2 hA hMx hv hes1 hes1'
  subst hvl hvv
  generalize hnl : D.loose.length = nl at *
  have HNL := Lib.hid hnl
  generalize hkl : keep.length = kl at *
  have HKL := Lib.hid hkl
  clear hnl hkl
  go_enter Tryd.func14, Tryd.ntmps14
  go_wp2_with fail
  refine hMC1.mono ?_
  rintro e w2 ⟨rfl, rfl⟩
  clear hMC1
  go_upto_region 2 with fail
  rw [← HW1.out]
  clear c1 c2 f2 HW1
  go_quiet (fail)
  obtain ⟨Wq, hWq⟩ : ∃ Wq, Wq = W1.drewN nq := ⟨_, rfl⟩
  rw [← hWq]
  have HDq : Hid (DiskAt Wq bd bs w.heap.size (.slice al nl cl) vf { D with now := crashNames D 0 } M1) := by
    unfold Hid
    rw [hWq]
    exact HD1.out.goes (Goes.of_drewN (fun _ => False) M1 W1 nq) (fun _ q => q.elim) (fun _ _ q => q)
  have HGq : Hid (Goes (Own bd bn vf) M M1 w Wq) := by
    unfold Hid
    rw [hWq]
    exact HG1.out.trans ((Goes.of_drewN (fun _ => False) M1 W1 nq).wide (fun _ _ q => q.elim)) (fun _ _ q => q)
  clear hWq HD1 HG1
  go_wp2_with fail
  go_loopw [37] (fun i wr => ∃ k : Nat, k ≤ m ∧ i = .int .i64 k ∧ Hid (DiskAt wr bd bs w.heap.size (.slice al nl cl) vf { D with now := crashNames D k } M1) ∧ Hid (Goes (Own bd w.heap.size vf) M1 M1 Wq wr)) (fun i _ => m - (intOf i).toNat)
  case atStart => exact ⟨0, Nat.zero_le _, rfl, HDq.out, Goes.refl _ _ _⟩
  case round =>
    obtain ⟨k, hk, rfl, HDr, HGr⟩ := hrel
    by_cases hlt : k < m
    · have hkl : k < D.loose.length := by rw [HNL.out]; omega
      obtain ⟨b, rfl, hbW, vp, vn, e1, e2, e3⟩ : ∃ b, al = some ⟨b, 0, none⟩ ∧ b < wr.heap.size ∧ ∃ vp vn, wr.cell? ⟨b, k * 2, none⟩ = some vp ∧ wr.cell? ⟨b, k * 2 + 1, none⟩ = some vn ∧ ChangeAt wr M1 vp vn D.loose[k] := by
        rcases HDr.out.loose with ⟨_, q⟩ | ⟨b, cap, q, _, q2, _, q4⟩
        · have : D.loose.length = 0 := by rw [show D.loose = [] from q]; rfl
          omega
        · simp only [Value.slice.injEq] at q
          exact ⟨b, q.1, q2, q4 k hkl⟩
      have hcl := (HF.out.lnames D.loose[k] (List.getElem_mem _)).1
      have hsucc := crashNames_succ D k hkl
      obtain ⟨W2, hW2⟩ : ∃ W2, W2 = wr.alloc (.cells #[vp, vn] 69) := ⟨_, rfl⟩
      have hb2 : Below wr.heap.size wr W2.drew := by rw [hW2]; exact (((Below.refl _ _).alloc (Nat.le_refl _) _).drew)
      have hd2 : DiskAt W2.drew bd bs w.heap.size (.slice (some ⟨b, 0, none⟩) nl cl) vf { D with now := crashNames D k } M1 := HDr.out.goes (Goes.of_below hb2 (fun _ => False) M1) (fun _ q => q.elim) (fun _ _ q => q)
      have hcA := apply_calls w.heap.size (crashNames D k) D.loose[k] vp vn M1 W2.drew hd2.now hd2.nowM (e3.goes (Goes.of_below hb2 (fun _ => False) M1) (fun _ q => q.elim)) (by omega)
      have lbdr : bd < wr.heap.size := HDr.out.lt
      have lb2r := HDr.out.now.lt
      have x0 : W2.cell? ⟨wr.heap.size, 0, none⟩ = some vp := by rw [hW2, World.cell?_alloc_new]; rfl
      have x1 : W2.cell? ⟨wr.heap.size, 1, none⟩ = some vn := by rw [hW2, World.cell?_alloc_new]; rfl
      have hU : Hid (Uq bd w.heap.size wr.heap.size vp vn W2.drew) := ⟨hd2.nowC, x0, x1⟩
      have hnb : wr.heap.size ≠ w.heap.size := by omega
      have hfin : ∀ W3, MapAt W3 w.heap.size (applyM (crashNames D k) D.loose[k]) → W2.drew.grownBy W3 (some w.heap.size) → Uq bd w.heap.size wr.heap.size vp vn W3 ∧ DiskAt W3 bd bs w.heap.size (.slice (some ⟨b, 0, none⟩) nl cl) vf { D with now := crashNames D (k + 1) } M1 ∧ Goes (Own bd w.heap.size vf) M1 M1 Wq W3 := fun W3 h1 h2 => by
        have hG3 : Goes (fun k => k = w.heap.size) M1 M1 W2.drew W3 := goes_grown M1 h2 (fun k e => by cases e; rfl)
        have hd3 := hd2.nowTo h2 h1
        rw [hsucc]
        have ls : wr.heap.size < W2.drew.heap.size := by show _ < W2.heap.size; rw [hW2]; simp
        exact ⟨⟨hd3.nowC, (hG3.cell (a := ⟨wr.heap.size, 0, none⟩) ls hnb).trans x0, (hG3.cell (a := ⟨wr.heap.size, 1, none⟩) ls hnb).trans x1⟩, hd3,
          (HGr.out.trans ((Goes.of_below hb2 (fun _ => False) M1).wide (fun _ _ q => q.elim)) (fun _ _ q => q)).trans (hG3.wide (fun _ _ q => .inr (.inl q))) (fun _ _ q => q)⟩
      have HFIN := Lib.hid hfin
      have HW2 := Lib.hid hW2
      obtain ⟨bp0, bv0, cp0, cv0, rfl, rfl, _⟩ := e3
      clear hfin hd2 hb2 hW2 x0 x1 hcl hsucc hnb
      go_wp2_with fail
      rw [← HW2.out]
      refine wp_region_F (fun _ => True) [] (Uq bd w.heap.size wr.heap.size (.slice (some ⟨bp0, 0, none⟩) (D.loose[k]).length cp0) (.slice (some ⟨bv0, 0, none⟩) (D.loose[k]).length cv0)) (by kernel_rfl) ?_
      refine wpAnyF_takeU (i := 0) (v := ?va0) rfl (by kernel_rfl) (by kernel_rfl) (by kernel_rfl) (by kernel_rfl) (fun _ _ _ h => h) (Or.inl ⟨by rfl, ?ya0⟩) trivial hU.out ?na0
      case ya0 => intro w' hU; obtain ⟨u1, u2, u3⟩ := hU; go_simp; with_reducible rfl
      simp only [Act.put, List.setIfInBounds_toArray]
      refine wpAnyF_takeU (i := 1) (v := ?va1) rfl (by kernel_rfl) (by kernel_rfl) (by kernel_rfl) (by kernel_rfl) (fun _ _ _ h => h) (Or.inl ⟨by rfl, ?ya1⟩) trivial hU.out ?na1
      case ya1 => intro w' hU; obtain ⟨u1, u2, u3⟩ := hU; go_simp; with_reducible rfl
      simp only [Act.put]
      refine wpAnyF_takeU (i := 2) (v := ?va2) rfl (by kernel_rfl) (by kernel_rfl) (by kernel_rfl) (by kernel_rfl) (fun _ _ _ h => h) (Or.inl ⟨by rfl, ?ya2⟩) trivial hU.out ?na2
      case ya2 => intro w' hU; obtain ⟨u1, u2, u3⟩ := hU; go_simp; with_reducible rfl
      simp only [Act.put]
      refine wpAnyF_takeU (i := 3) (v := ?va3) rfl (by kernel_rfl) (by kernel_rfl) (by kernel_rfl) (by kernel_rfl) (fun _ _ _ h => h) (Or.inl ⟨by rfl, ?ya3⟩) trivial hU.out ?na3
      case ya3 => intro w' hU; obtain ⟨u1, u2, u3⟩ := hU; go_simp; with_reducible rfl
      simp only [Act.put]
      refine wpAnyF_takeU (i := 4) (v := ?va4) rfl (by kernel_rfl) (by kernel_rfl) (by kernel_rfl) (by kernel_rfl) (fun _ _ _ h => h) (Or.inl ⟨by rfl, ?ya4⟩) trivial hU.out ?na4
      case ya4 => intro w' hU; obtain ⟨u1, u2, u3⟩ := hU; go_simp; with_reducible rfl
      simp only [Act.put]
      refine wpAnyF_one (i := 5) rfl (by kernel_rfl) (fun K hK => ?_)
      go_simp
      refine hcA.mono ?_
      rintro e W3 ⟨rfl, h1, h2⟩
      have hf := HFIN.out W3 h1 h2
      have HF3 := Lib.hid hf
      clear hcA h1 h2 hf
      refine hK _ _ (.inr trivial) HF3.out.1 ?_
      clear hK K
      refine wpAnyF_done (by kernel_rfl) ?_ _
      go_wp2
      go_roundw
      case rel => exact ⟨k + 1, by omega, by go_num, HF3.out.2.1, HF3.out.2.2⟩
      case measure => simp [intOf]; omega
    · have hkm : k = m := by omega
      subst hkm
      have hND : ({ D with now := crashNames D k, sure := crashNames D k, loose := [] } : PD) = crashN D count := by unfold crashN; rw [← HM.out]
      obtain ⟨es2, ck2, hes2, hes2'⟩ := HDr.out.now
      have hMC2 := mapsClone_calls w.heap.size es2 ck2 wr hes2
      have lbdr : bd < wr.heap.size := HDr.out.lt
      have hb2 : Below wr.heap.size wr (wr.alloc (.map es2 ck2)) := (Below.refl _ _).alloc (Nat.le_refl _) _
      have hda : DiskAt (wr.alloc (.map es2 ck2)) bd bs w.heap.size (.slice al nl cl) vf { D with now := crashNames D k } M1 := HDr.out.goes (Goes.of_below hb2 (fun _ => False) M1) (fun _ q => q.elim) (fun _ _ q => q)
      have hdb := hda.sureTo (b2 := wr.heap.size) (m := crashNames D k) ⟨es2, ck2, heap_new _ _, hes2'⟩ (fun q => by have := HDr.out.mlt _ q; omega)
      have hdc := hdb.looseTo (v := .slice none 0 0) (l := []) (.inl ⟨rfl, rfl⟩)
      have hgc : Goes (Own bd w.heap.size vf) M1 M1 wr (((wr.alloc (.map es2 ck2)).setCell ⟨bd, 1, none⟩ (.map (some wr.heap.size))).setCell ⟨bd, 3, none⟩ (.slice none 0 0)) :=
        (((Goes.of_below hb2 (Own bd w.heap.size vf) M1)).trans (goes_setCell M1 _ ⟨bd, 1, none⟩ _ (.inl rfl)) (fun _ _ q => q)).trans (goes_setCell M1 _ ⟨bd, 3, none⟩ _ (.inl rfl)) (fun _ _ q => q)
      obtain ⟨WS, hWS⟩ : ∃ WS, WS = ((wr.setCell ⟨bd, 1, none⟩ (.map (some wr.heap.size))).setCell ⟨bd, 3, none⟩ (.slice none 0 0)).alloc (.map es2 ck2) := ⟨_, rfl⟩
      have hWS2 : WS = ((wr.alloc (.map es2 ck2)).setCell ⟨bd, 1, none⟩ (.map (some wr.heap.size))).setCell ⟨bd, 3, none⟩ (.slice none 0 0) := by
        rw [hWS, World.setCell_alloc_past _ _ _ _ lbdr, World.setCell_alloc_past _ _ _ _ (by simpa using lbdr)]
      rw [← hWS2] at hdc hgc
      have hdc2 : DiskAt WS bd wr.heap.size w.heap.size (.slice none 0 0) vf (crashN D count) M1 := by rw [← hND]; exact hdc
      have hG0S : Goes (Own bd bn vf) M M1 w WS := HGq.out.trans (HGr.out.trans hgc (fun _ _ q => q)) (fun k hk q => by
        rcases q with q | q | q
        · exact .inl q
        · omega
        · exact .inr (.inr q))
      have hAS : Amb WS := HA.out.goes hG0S (fun q => HMx.out (HD.out.ownM _ q))
      have hP := paths_calls hdc2 HF2.out hAS HF2.out.keyed
      have hvS : BytesAt WS M1 (.slice av kl cv) keep := HV.out.goes hG0S (fun k q => HD.out.ownM k q)
      have c1 := HDr.out.sureC
      have c2 := HDr.out.nowC
      have c3' := HDr.out.looseC
      have f1 := HDr.out.free 1
      have f3 := HDr.out.free 3
      have HWS := Lib.hid hWS
      have HDS := Lib.hid hdc2
      have HGS := Lib.hid hG0S
      have HVS := Lib.hid hvS
      clear hes2 hes2' hb2 hda hdb hdc hgc hWS hWS2 hdc2 hG0S hAS hvS hND c3
      go_wp2_with fail
      refine hMC2.mono ?_
      rintro e w2 ⟨rfl, rfl⟩
      clear hMC2
      go_upto_region 8 with fail
      rw [← HWS.out]
      go_wp2_with fail
      refine hP.mono ?_
      rintro e W5 ⟨vp, rfl, hrow, hb5⟩
      clear hP c1 c2 c3' f1 f3 HWS
      obtain ⟨wz, rfl⟩ : ∃ wz, wz = wr := ⟨wr, rfl⟩
      obtain ⟨N, hN⟩ : ∃ N, N = crashN D count := ⟨_, rfl⟩
      have hNf : N.files = D.files := by rw [hN]; rfl
      rw [← hN] at hrow HDS HF2
      have HNN := Lib.hid hN
      have HNF := Lib.hid hNf
      clear hN hNf
      obtain ⟨ap, cp, rfl⟩ := ownsRow_slice hrow
      have HD5 : Hid (DiskAt W5 bd wz.heap.size w.heap.size (.slice none 0 0) vf N M1) := HDS.out.goes (Goes.of_below hb5 (fun _ => False) M1) (fun _ q => q.elim) (fun _ _ q => q)
      have HV5 : Hid (BytesAt W5 M1 (.slice av kl cv) keep) := HVS.out.goes (Goes.of_below hb5 (fun _ => False) M1) (fun _ q => q.elim)
      have HG5 : Hid (Goes (Own bd bn vf) M M1 w W5) := HGS.out.trans ((Goes.of_below hb5 (fun _ => False) M1).wide (fun _ _ q => q.elim)) (fun _ _ q => q)
      have HROW : Hid (∀ j (hj : j < (pathsB N).length), ∃ gp, ap = some ⟨gp, 0, none⟩ ∧ WS.heap.size ≤ gp ∧ W5.cell? ⟨gp, j, none⟩ = some (.string (pathsB N)[j])) := fun j hj => by
        rcases hrow.2 with ⟨_, q⟩ | ⟨g, cap, cur, e, q1, q2, q3, q4, q5, q6⟩
        · omega
        · simp only [Value.slice.injEq] at e
          refine ⟨g, e.1, q1, ?_⟩
          have e1 : ((pathsB N).map Value.string)[j]? = some (.string (pathsB N)[j]) := by rw [List.getElem?_map, List.getElem?_eq_getElem hj]; rfl
          rw [← q6, List.getElem?_take] at e1
          split at e1
          · simp only [World.cell?, q2]; simpa using e1
          · cases e1
      have HOWN : Hid (∀ k, Own bd w.heap.size vf k → k < WS.heap.size) := fun k q => HDS.out.ownLt k q
      have hnp : (pathsB N).length ≤ 1000000 := by rw [paths_length]; exact HF2.out.now
      clear hrow hb5 HVS HGS HDS
      obtain ⟨np, hnpe⟩ : ∃ np, np = (pathsB N).length := ⟨_, rfl⟩
      rw [← hnpe] at hnp ⊢
      have HNP := Lib.hid hnpe
      clear hnpe
      have hFO : FilesOk D.files.length D.files := ⟨rfl, HF.out.bytes⟩
      have HFO := Lib.hid hFO
      clear hFO
      have hkl := HKL.out
      subst hkl
      go_wp2_with fail
      go_loopw [2, 62] (fun kv i wr => ∃ (j : Nat) (a : Option Addr) (c : Nat) (rest : List UInt8) (fs : List PFile), j ≤ np ∧ i = .int .i64 j ∧ kv = .slice a rest.length c ∧ rest.length ≤ c ∧ Hid (BytesAt wr M1 (.slice a rest.length c) rest) ∧
        Hid ((fs, rest) = ((pathsB N).take j).foldl (crash1 N.now) (D.files, keep)) ∧ Hid (FilesOk D.files.length fs) ∧ Hid (DiskAt wr bd wz.heap.size w.heap.size (.slice none 0 0) vf { N with files := fs } M1) ∧ Hid (Goes (Own bd w.heap.size vf) M1 M1 W5 wr)) (fun _ i _ => np - (intOf i).toNat)
      case atStart => exact ⟨0, av, cv, keep, D.files, Nat.zero_le _, rfl, rfl, hkcap, HV5.out, rfl, HFO.out, by rw [← HNF.out]; exact HD5.out, Goes.refl _ _ _⟩
      case round =>
        obtain ⟨j, ka, kc, rest, fs, hj, rfl, rfl, hrc, HVr, HS, HFS, HDr2, HGr2⟩ := hrel
        by_cases hlt2 : j < np
        · have hjp : j < (pathsB N).length := by rw [← HNP.out]; exact hlt2
          obtain ⟨gp, rfl, hgpS, hcp⟩ := HROW.out j hjp
          have hgp5 := World.block_lt_of_cell? _ _ hcp
          simp only at hgp5
          obtain ⟨p, hp⟩ : ∃ p, p = (pathsB N)[j] := ⟨_, rfl⟩
          rw [← hp] at hcp
          have hcr : wr.cell? ⟨gp, j, none⟩ = some (.string p) := (HGr2.out.cell (a := ⟨gp, j, none⟩) hgp5 (fun q => by have := HOWN.out _ q; simp only at this; omega)).trans hcp
          have hsuc : ((pathsB N).take (j + 1)).foldl (crash1 N.now) (D.files, keep) = crash1 N.now (fs, rest) p := by
            rw [List.take_succ_eq_append_getElem hjp, List.foldl_append, ← HS.out, ← hp]
            rfl
          have HSUC := Lib.hid hsuc
          have hnow := HDr2.out.nowC
          have lgp : gp < wr.heap.size := Nat.lt_of_lt_of_le hgp5 HGr2.out.size
          have lbd2 : bd < wr.heap.size := HDr2.out.lt
          clear hcp hp hsuc hgp5 hgpS hjp
          by_cases he : fileE N.now p = 0
          case neg =>
            have hFE := file_err bd w.heap.size N.now p wr hnow HDr2.out.now he
            have hq : (fileE N.now p != 0) = true := by simpa using he
            have hC1 : crash1 N.now (fs, rest) p = (fs, rest) := by unfold crash1; rw [if_neg he]
            rw [hC1] at HSUC
            clear hC1 he
            generalize fileE N.now p = q at *
            go_wp2_with fail
            refine hFE.mono ?_
            rintro e w4 ⟨rfl, hb4⟩
            clear hFE
            have HB4 := Lib.hid hb4
            clear hb4
            go_wp2
            go_roundw
            case rel => exact ⟨j + 1, ka, kc, rest, fs, by omega, by go_num, rfl, hrc, HVr.out.goes (Goes.of_below HB4.out (fun _ => False) M1) (fun _ q => q.elim), HSUC.out.symm, HFS.out, HDr2.out.goes (Goes.of_below HB4.out (fun _ => False) M1) (fun _ q => q.elim) (fun _ _ q => q), HGr2.out.trans ((Goes.of_below HB4.out (fun _ => False) M1).wide (fun _ _ q => q.elim)) (fun _ _ q => q)⟩
            case measure => simp [intOf]; omega
          case pos =>
          obtain ⟨id, hl⟩ := fileE_zero he
          have hid0 : id < N.files.length := HF2.out.nowIds _ (lookupM_mem hl) rfl
          have hid : id < fs.length := by rw [HFS.out.1, ← HNF.out]; exact hid0
          obtain ⟨g, cap, vb, hfa⟩ := HDr2.out.fileAt hid
          have hfc := HDr2.out.filesC
          rw [hfa.slice] at hfc
          have hfsl : fs.length ≤ 1000000 := by rw [HFS.out.1]; exact HF.out.files
          have hFE := file_ok bd w.heap.size N.now p id wr hnow HDr2.out.now hl g fs.length cap hfc hid hfsl
          obtain ⟨ca, cc, hvb⟩ := hfa.bytes.slice
          have hok := HFS.out.get id
          have hC1 : crash1 N.now (fs, rest) p = (fs.set id (crashF (fs.getD id ⟨[], 0⟩) rest).1, (crashF (fs.getD id ⟨[], 0⟩) rest).2) := by
            unfold crash1; rw [if_pos he, hl]; rfl
          rw [hC1] at HSUC
          have hcapc : (fs.getD id ⟨[], 0⟩).b.length ≤ cc := by
            rcases hfa.bytes with ⟨_, _, _, e2, _⟩ | ⟨b, o, c', e, h1, _⟩
            · simp only at e2; rw [e2]; simp
            · rw [hvb] at e; simp only [Value.slice.injEq] at e; simp only at h1; omega
          have HFOK : Hid (FilesOk D.files.length (fs.set id (crashF (fs.getD id ⟨[], 0⟩) rest).1)) := by
            have := crash1_ok (now := N.now) (s := (fs, rest)) p HFS.out
            rw [hC1] at this
            exact this
          subst hvb
          have hgM := HDr2.out.filesM g (by rw [hfa.slice]; rfl)
          -- what the round leaves
          have HEND : Hid (∀ (Wc : World) (s' : Nat) (fs2 : List PFile), DiskAt Wc bd wz.heap.size w.heap.size (.slice none 0 0) vf { N with files := fs2 } M1 → Goes (Own bd w.heap.size vf) M1 M1 wr Wc → fs2.length = fs.length → fs2.getD id ⟨[], 0⟩ = ⟨(fs.getD id ⟨[], 0⟩).b, s'⟩ → fs2.set id ⟨(fs.getD id ⟨[], 0⟩).b.take s', s'⟩ = fs.set id ⟨(fs.getD id ⟨[], 0⟩).b.take s', s'⟩ →
              Wc.cell? ⟨g, id * 2, none⟩ = some (.slice ca (fs.getD id ⟨[], 0⟩).b.length cc) → s' ≤ (fs.getD id ⟨[], 0⟩).b.length →
              DiskAt ((Wc.setCell ⟨g, id * 2, none⟩ (.slice ca s' s')).drew) bd wz.heap.size w.heap.size (.slice none 0 0) vf { N with files := fs.set id ⟨(fs.getD id ⟨[], 0⟩).b.take s', s'⟩ } M1 ∧ Goes (Own bd w.heap.size vf) M1 M1 W5 ((Wc.setCell ⟨g, id * 2, none⟩ (.slice ca s' s')).drew)) := fun Wc s' fs2 h1 h2 h3 h4 h5 h6 h7 => by
            obtain ⟨g2, cap2, vb2, hfa2⟩ := h1.fileAt (id := id) (by simp only; rw [h3]; exact hid)
            have eg : g2 = g := by
              have e := hfa.slice.symm.trans hfa2.slice
              simp only [Value.slice.injEq, Option.some.injEq, Addr.mk.injEq, and_true] at e
              exact e.1.symm
            subst eg
            have evb := hfa2.cellB.symm.trans h6
            simp only [Option.some.injEq] at evb
            subst evb
            have hby := hfa2.bytes
            simp only [h4] at hby
            have s1 := h1.fileB (v := .slice ca s' s') (l := (fs.getD id ⟨[], 0⟩).b.take s') hfa2 (Below.refl _ _) (hby.cut h7)
            simp only [h4, h5] at s1
            have hq := Goes.of_drewN (fun _ => False) M1 (Wc.setCell ⟨g2, id * 2, none⟩ (.slice ca s' s')) 1
            exact ⟨s1.1.goes hq (fun _ q => q.elim) (fun _ _ q => q), ((HGr2.out.trans h2 (fun _ _ q => q)).trans s1.2 (fun _ _ q => q)).trans (hq.wide (fun _ _ q => q.elim)) (fun _ _ q => q)⟩
          have HFA := Lib.hid hfa
          have lg : g < wr.heap.size := hfa.glt
          have cB0 := Lib.hid hfa.cellB
          have cS0 := Lib.hid hfa.cellS
          have fR0 := Lib.hid hfa.free
          have hIDF := Lib.hid hid
          have HGM := Lib.hid hgM.1
          have HOG : Hid (Own bd w.heap.size vf g) := .inr (.inr (by rw [hfa.slice]; rfl))
          clear hl hid0 hid hfa hfc hC1 hnow he hgM
          generalize hfd : fs.getD id ⟨[], 0⟩ = f at *
          have HFD := Lib.hid hfd
          clear hfd
          obtain ⟨cL, hcL⟩ : ∃ cL, cL = f.b.length := ⟨_, rfl⟩
          obtain ⟨cS, hcS⟩ : ∃ cS, cS = f.safe := ⟨_, rfl⟩
          rw [← hcL] at cB0 hcapc hok
          rw [← hcS] at hok
          have HCL := Lib.hid hcL
          have HCS := Lib.hid hcS
          clear hcL hcS
          go_wp2_with fail
          refine hFE.mono ?_
          rintro e w4 ⟨rfl, hb4⟩
          clear hFE
          have HB4 := Lib.hid hb4
          have cB := (hb4.cell (p := ⟨g, id * 2, none⟩) lg).trans cB0.out
          have cS' : w4.cell? ⟨g, id * 2 + 1, none⟩ = some (.int .i64 (cS : Int)) := by
            have := (hb4.cell (p := ⟨g, id * 2 + 1, none⟩) lg).trans cS0.out
            simp only [← HCS.out] at this
            exact this
          have cF : w4.frozen? ⟨g, id * 2, none⟩ = false := (hb4.frozen (p := ⟨g, id * 2, none⟩) lg).trans (fR0.out _)
          have cF1 : w4.frozen? ⟨g, id * 2 + 1, none⟩ = false := (hb4.frozen (p := ⟨g, id * 2 + 1, none⟩) lg).trans (fR0.out _)
          have lg4 : g < w4.heap.size := Nat.lt_of_lt_of_le lg hb4.size
          have hsc : cS ≤ cc := Nat.le_trans hok.2 hcapc
          clear hb4
          obtain ⟨ls, hls⟩ : ∃ ls, ls = cL - cS := ⟨_, rfl⟩
          have hsub : IntKind.i64.wrap ((cL : Int) - cS) = (ls : Int) := by rw [IntWalk.i64_in _ (by omega)]; omega
          have HLS := Lib.hid hls
          clear hls
          have CF := Lib.hid cF
          have CF1 := Lib.hid cF1
          clear cF cF1
          go_upto_region 13 with fail
          go_quiet (fail)
          obtain ⟨Wc, hWc⟩ : ∃ Wc, Wc = w4.drewN nq := ⟨_, rfl⟩
          rw [← hWc]
          have hGW : Goes (fun _ => False) M1 M1 wr Wc := by rw [hWc]; exact (Goes.of_below HB4.out _ _).trans (Goes.of_drewN _ _ _ _) (fun _ _ q => q)
          have tB : Hid (Wc.cell? ⟨g, id * 2, none⟩ = some (.slice ca cL cc)) := by rw [hWc]; exact cB
          have tS : Hid (Wc.cell? ⟨g, id * 2 + 1, none⟩ = some (.int .i64 (cS : Int))) := by rw [hWc]; exact cS'
          have tF : Hid (Wc.frozen? ⟨g, id * 2, none⟩ = false) := by rw [hWc]; exact CF.out
          have tF1 : Hid (Wc.frozen? ⟨g, id * 2 + 1, none⟩ = false) := by rw [hWc]; exact CF1.out
          have lgc : g < Wc.heap.size := by rw [hWc]; exact lg4
          clear hWc cB cS' hsub lg4
          by_cases hz : 0 < ls
          case neg =>
            have qa : decide ((0 : Int) < (ls : Int)) = false := decide_eq_false (by omega)
            go_wp2_with fail
            have hC2 : crashF f rest = (⟨f.b.take f.safe, f.safe⟩, rest) := by
              unfold crashF
              rw [if_neg (fun q => by have := q.1; rw [← HCL.out, ← HCS.out, ← HLS.out] at this; omega)]
            have HSU : Hid (((pathsB N).take (j + 1)).foldl (crash1 N.now) (D.files, keep) = (fs.set id ⟨f.b.take f.safe, f.safe⟩, rest)) := by unfold Hid; rw [HSUC.out, hC2]
            have HFK : Hid (FilesOk D.files.length (fs.set id ⟨f.b.take f.safe, f.safe⟩)) := by have := HFOK.out; rw [hC2] at this; exact this
            have hGc : Goes (fun _ => False) M1 M1 wr Wc := hGW
            have hE := HEND.out Wc cS fs (HDr2.out.goes hGc (fun _ q => q.elim) (fun _ _ q => q)) (hGc.wide (fun _ _ q => q.elim)) rfl (by rw [HFD.out, HCS.out]) rfl (by rw [← HCL.out]; exact tB.out) (by rw [← HCL.out]; exact hok.2)
            rw [HCS.out] at hE
            rw [← HCS.out] at hE
            have HVc : Hid (BytesAt (Wc.setCell ⟨g, id * 2, none⟩ (.slice ca cS cS)).drew M1 (.slice ka rest.length kc) rest) := (HVr.out.goes hGc (fun _ q => q.elim)).goes ((goes_setCell (O := fun k => k = g) M1 Wc ⟨g, id * 2, none⟩ (.slice ca cS cS) rfl).trans (goes_drew' _ _ _) (fun _ _ q => q)) (fun k e => e ▸ HGM.out)
            have HE1 := Lib.hid hE.1
            have HE2 := Lib.hid hE.2
            have hS17 : Hid (S17 g id ca cc cL cS Wc.drew) := ⟨tB.out, tS.out, tF.out⟩
            clear hE hC2 hGc
            refine wp_region_F (S17 g id ca cc cL cS) [16] (fun _ => True) (by kernel_rfl) ?_
            refine wpAnyF_takeU (i := 0) (v := ?vc0) rfl (by kernel_rfl) (by kernel_rfl) (by kernel_rfl) (by kernel_rfl) (fun _ _ _ h => h) (Or.inl ⟨by rfl, ?yc0⟩) hS17.out trivial ?nc0
            case yc0 => intro w' hU; skip; go_simp; with_reducible rfl
            simp only [Act.put, List.setIfInBounds_toArray]
            refine wpAnyF_takeU (i := 1) (v := ?vc1) rfl (by kernel_rfl) (by kernel_rfl) (by kernel_rfl) (by kernel_rfl) (fun _ _ _ h => h) (Or.inl ⟨by rfl, ?yc1⟩) hS17.out trivial ?nc1
            case yc1 => intro w' hU; skip; go_simp; with_reducible rfl
            simp only [Act.put]
            refine wpAnyF_takeU (i := 2) (v := ?vc2) rfl (by kernel_rfl) (by kernel_rfl) (by kernel_rfl) (by kernel_rfl) (fun _ _ _ h => h) (Or.inl ⟨by rfl, ?yc2⟩) hS17.out trivial ?nc2
            case yc2 => intro w' hU; skip; go_simp; with_reducible rfl
            simp only [Act.put]
            refine wpAnyF_takeU (i := 3) (v := ?vc3) rfl (by kernel_rfl) (by kernel_rfl) (by kernel_rfl) (by kernel_rfl) (fun _ _ _ h => h) (Or.inl ⟨by rfl, ?yc3⟩) hS17.out trivial ?nc3
            case yc3 => intro w' hU; skip; go_simp; with_reducible rfl
            simp only [Act.put]
            refine wpAnyF_take (i := 4) (v := ?vc4) rfl (by kernel_rfl) (by kernel_rfl) (by kernel_rfl) (by kernel_rfl) (by kernel_rfl) (by kernel_rfl) (fun _ _ _ h => h) (Or.inl ⟨by rfl, ?yc4⟩) hS17.out trivial ?nc4
            case yc4 => intro w' hS; obtain ⟨s1, s2, s3⟩ := hS; go_simp; with_reducible rfl
            simp only [Act.put]
            refine wpAnyF_takeU (i := 5) (v := ?vc5) rfl (by kernel_rfl) (by kernel_rfl) (by kernel_rfl) (by kernel_rfl) (fun _ _ _ h => h) (Or.inl ⟨by rfl, ?yc5⟩) hS17.out trivial ?nc5
            case yc5 => intro w' hU; skip; go_simp; with_reducible rfl
            simp only [Act.put]
            refine wpAnyF_takeU (i := 6) (v := ?vc6) rfl (by kernel_rfl) (by kernel_rfl) (by kernel_rfl) (by kernel_rfl) (fun _ _ _ h => h) (Or.inl ⟨by rfl, ?yc6⟩) hS17.out trivial ?nc6
            case yc6 => intro w' hU; skip; go_simp; with_reducible rfl
            simp only [Act.put]
            refine wpAnyF_takeU (i := 7) (v := ?vc7) rfl (by kernel_rfl) (by kernel_rfl) (by kernel_rfl) (by kernel_rfl) (fun _ _ _ h => h) (Or.inl ⟨by rfl, ?yc7⟩) hS17.out trivial ?nc7
            case yc7 => intro w' hU; skip; go_simp; with_reducible rfl
            simp only [Act.put]
            refine wpAnyF_take (i := 8) (v := ?vc8) rfl (by kernel_rfl) (by kernel_rfl) (by kernel_rfl) (by kernel_rfl) (by kernel_rfl) (by kernel_rfl) (fun _ _ _ h => h) (Or.inl ⟨by rfl, ?yc8⟩) hS17.out trivial ?nc8
            case yc8 => intro w' hS; obtain ⟨s1, s2, s3⟩ := hS; go_simp; with_reducible rfl
            simp only [Act.put]
            refine wpAnyF_takeU (i := 9) (v := ?vc9) rfl (by kernel_rfl) (by kernel_rfl) (by kernel_rfl) (by kernel_rfl) (fun _ _ _ h => h) (Or.inl ⟨by rfl, ?yc9⟩) hS17.out trivial ?nc9
            case yc9 => intro w' hU; skip; go_simp; with_reducible rfl
            simp only [Act.put]
            refine wpAnyF_takeU (i := 10) (v := ?vc10) rfl (by kernel_rfl) (by kernel_rfl) (by kernel_rfl) (by kernel_rfl) (fun _ _ _ h => h) (Or.inl ⟨by rfl, ?yc10⟩) hS17.out trivial ?nc10
            case yc10 => intro w' hU; skip; go_simp; with_reducible rfl
            simp only [Act.put]
            refine wpAnyF_takeU (i := 11) (v := ?vc11) rfl (by kernel_rfl) (by kernel_rfl) (by kernel_rfl) (by kernel_rfl) (fun _ _ _ h => h) (Or.inl ⟨by rfl, ?yc11⟩) hS17.out trivial ?nc11
            case yc11 => intro w' hU; skip; go_simp; with_reducible rfl
            simp only [Act.put]
            refine wpAnyF_take (i := 12) (v := ?vc12) rfl (by kernel_rfl) (by kernel_rfl) (by kernel_rfl) (by kernel_rfl) (by kernel_rfl) (by kernel_rfl) (fun _ _ _ h => h) (Or.inl ⟨by rfl, ?yc12⟩) hS17.out trivial ?nc12
            case yc12 => intro w' hS; obtain ⟨s1, s2, s3⟩ := hS; go_simp; with_reducible rfl
            simp only [Act.put]
            refine wpAnyF_one (i := 13) rfl (by kernel_rfl) (fun K hK => ?_)
            go_simp
            refine hK _ _ (.inr hS17.out) trivial ?_
            clear hK K
            refine wpAnyF_one (i := 14) rfl (by kernel_rfl) (fun K hK => ?_)
            go_simp
            refine hK _ _ (.inr hS17.out) trivial ?_
            clear hK K
            refine wpAnyF_one (i := 15) rfl (by kernel_rfl) (fun K hK => ?_)
            go_simp
            refine hK _ _ (.inr hS17.out) trivial ?_
            clear hK K
            refine wpAnyF_one (i := 16) rfl (by kernel_rfl) (fun K hK => ?_)
            have q1 : Wc.cell? ⟨g, id * 2, none⟩ = some (.slice ca cL cc) := hS17.out.1
            have q3 : Wc.frozen? ⟨g, id * 2, none⟩ = false := hS17.out.2.2
            go_simp
            refine hK _ _ (.inl (by kernel_rfl)) trivial ?_
            clear hK K q1 q3
            refine wpAnyF_done (by kernel_rfl) ?_ _
            go_wp2
            go_roundw
            case rel => exact ⟨j + 1, ka, kc, rest, fs.set id ⟨f.b.take f.safe, f.safe⟩, by omega, by go_num, rfl, hrc, HVc.out, HSU.out.symm, HFK.out, by rw [← HCS.out]; exact HE1.out, HE2.out⟩
            case measure => simp [intOf]; omega
          case pos =>
          have qa : decide ((0 : Int) < (ls : Int)) = true := decide_eq_true (by omega)
          by_cases hr0 : 0 < rest.length
          case neg =>
            have qb : decide ((0 : Int) < (rest.length : Int)) = false := decide_eq_false (by omega)
            go_wp2_with fail
            have hC2 : crashF f rest = (⟨f.b.take f.safe, f.safe⟩, rest) := by
              unfold crashF
              rw [if_neg (fun q => q.2 (List.length_eq_zero_iff.1 (by omega)))]
            have HSU : Hid (((pathsB N).take (j + 1)).foldl (crash1 N.now) (D.files, keep) = (fs.set id ⟨f.b.take f.safe, f.safe⟩, rest)) := by unfold Hid; rw [HSUC.out, hC2]
            have HFK : Hid (FilesOk D.files.length (fs.set id ⟨f.b.take f.safe, f.safe⟩)) := by have := HFOK.out; rw [hC2] at this; exact this
            have hGc : Goes (fun _ => False) M1 M1 wr Wc := hGW
            have hE := HEND.out Wc cS fs (HDr2.out.goes hGc (fun _ q => q.elim) (fun _ _ q => q)) (hGc.wide (fun _ _ q => q.elim)) rfl (by rw [HFD.out, HCS.out]) rfl (by rw [← HCL.out]; exact tB.out) (by rw [← HCL.out]; exact hok.2)
            rw [HCS.out] at hE
            rw [← HCS.out] at hE
            have HVc : Hid (BytesAt (Wc.setCell ⟨g, id * 2, none⟩ (.slice ca cS cS)).drew M1 (.slice ka rest.length kc) rest) := (HVr.out.goes hGc (fun _ q => q.elim)).goes ((goes_setCell (O := fun k => k = g) M1 Wc ⟨g, id * 2, none⟩ (.slice ca cS cS) rfl).trans (goes_drew' _ _ _) (fun _ _ q => q)) (fun k e => e ▸ HGM.out)
            have HE1 := Lib.hid hE.1
            have HE2 := Lib.hid hE.2
            have hS17 : Hid (S17 g id ca cc cL cS Wc.drew) := ⟨tB.out, tS.out, tF.out⟩
            clear hE hC2 hGc
            refine wp_region_F (S17 g id ca cc cL cS) [16] (fun _ => True) (by kernel_rfl) ?_
            refine wpAnyF_takeU (i := 0) (v := ?vd0) rfl (by kernel_rfl) (by kernel_rfl) (by kernel_rfl) (by kernel_rfl) (fun _ _ _ h => h) (Or.inl ⟨by rfl, ?yd0⟩) hS17.out trivial ?nd0
            case yd0 => intro w' hU; skip; go_simp; with_reducible rfl
            simp only [Act.put, List.setIfInBounds_toArray]
            refine wpAnyF_takeU (i := 1) (v := ?vd1) rfl (by kernel_rfl) (by kernel_rfl) (by kernel_rfl) (by kernel_rfl) (fun _ _ _ h => h) (Or.inl ⟨by rfl, ?yd1⟩) hS17.out trivial ?nd1
            case yd1 => intro w' hU; skip; go_simp; with_reducible rfl
            simp only [Act.put]
            refine wpAnyF_takeU (i := 2) (v := ?vd2) rfl (by kernel_rfl) (by kernel_rfl) (by kernel_rfl) (by kernel_rfl) (fun _ _ _ h => h) (Or.inl ⟨by rfl, ?yd2⟩) hS17.out trivial ?nd2
            case yd2 => intro w' hU; skip; go_simp; with_reducible rfl
            simp only [Act.put]
            refine wpAnyF_takeU (i := 3) (v := ?vd3) rfl (by kernel_rfl) (by kernel_rfl) (by kernel_rfl) (by kernel_rfl) (fun _ _ _ h => h) (Or.inl ⟨by rfl, ?yd3⟩) hS17.out trivial ?nd3
            case yd3 => intro w' hU; skip; go_simp; with_reducible rfl
            simp only [Act.put]
            refine wpAnyF_take (i := 4) (v := ?vd4) rfl (by kernel_rfl) (by kernel_rfl) (by kernel_rfl) (by kernel_rfl) (by kernel_rfl) (by kernel_rfl) (fun _ _ _ h => h) (Or.inl ⟨by rfl, ?yd4⟩) hS17.out trivial ?nd4
            case yd4 => intro w' hS; obtain ⟨s1, s2, s3⟩ := hS; go_simp; with_reducible rfl
            simp only [Act.put]
            refine wpAnyF_takeU (i := 5) (v := ?vd5) rfl (by kernel_rfl) (by kernel_rfl) (by kernel_rfl) (by kernel_rfl) (fun _ _ _ h => h) (Or.inl ⟨by rfl, ?yd5⟩) hS17.out trivial ?nd5
            case yd5 => intro w' hU; skip; go_simp; with_reducible rfl
            simp only [Act.put]
            refine wpAnyF_takeU (i := 6) (v := ?vd6) rfl (by kernel_rfl) (by kernel_rfl) (by kernel_rfl) (by kernel_rfl) (fun _ _ _ h => h) (Or.inl ⟨by rfl, ?yd6⟩) hS17.out trivial ?nd6
            case yd6 => intro w' hU; skip; go_simp; with_reducible rfl
            simp only [Act.put]
            refine wpAnyF_takeU (i := 7) (v := ?vd7) rfl (by kernel_rfl) (by kernel_rfl) (by kernel_rfl) (by kernel_rfl) (fun _ _ _ h => h) (Or.inl ⟨by rfl, ?yd7⟩) hS17.out trivial ?nd7
            case yd7 => intro w' hU; skip; go_simp; with_reducible rfl
            simp only [Act.put]
            refine wpAnyF_take (i := 8) (v := ?vd8) rfl (by kernel_rfl) (by kernel_rfl) (by kernel_rfl) (by kernel_rfl) (by kernel_rfl) (by kernel_rfl) (fun _ _ _ h => h) (Or.inl ⟨by rfl, ?yd8⟩) hS17.out trivial ?nd8
            case yd8 => intro w' hS; obtain ⟨s1, s2, s3⟩ := hS; go_simp; with_reducible rfl
            simp only [Act.put]
            refine wpAnyF_takeU (i := 9) (v := ?vd9) rfl (by kernel_rfl) (by kernel_rfl) (by kernel_rfl) (by kernel_rfl) (fun _ _ _ h => h) (Or.inl ⟨by rfl, ?yd9⟩) hS17.out trivial ?nd9
            case yd9 => intro w' hU; skip; go_simp; with_reducible rfl
            simp only [Act.put]
            refine wpAnyF_takeU (i := 10) (v := ?vd10) rfl (by kernel_rfl) (by kernel_rfl) (by kernel_rfl) (by kernel_rfl) (fun _ _ _ h => h) (Or.inl ⟨by rfl, ?yd10⟩) hS17.out trivial ?nd10
            case yd10 => intro w' hU; skip; go_simp; with_reducible rfl
            simp only [Act.put]
            refine wpAnyF_takeU (i := 11) (v := ?vd11) rfl (by kernel_rfl) (by kernel_rfl) (by kernel_rfl) (by kernel_rfl) (fun _ _ _ h => h) (Or.inl ⟨by rfl, ?yd11⟩) hS17.out trivial ?nd11
            case yd11 => intro w' hU; skip; go_simp; with_reducible rfl
            simp only [Act.put]
            refine wpAnyF_take (i := 12) (v := ?vd12) rfl (by kernel_rfl) (by kernel_rfl) (by kernel_rfl) (by kernel_rfl) (by kernel_rfl) (by kernel_rfl) (fun _ _ _ h => h) (Or.inl ⟨by rfl, ?yd12⟩) hS17.out trivial ?nd12
            case yd12 => intro w' hS; obtain ⟨s1, s2, s3⟩ := hS; go_simp; with_reducible rfl
            simp only [Act.put]
            refine wpAnyF_one (i := 13) rfl (by kernel_rfl) (fun K hK => ?_)
            go_simp
            refine hK _ _ (.inr hS17.out) trivial ?_
            clear hK K
            refine wpAnyF_one (i := 14) rfl (by kernel_rfl) (fun K hK => ?_)
            go_simp
            refine hK _ _ (.inr hS17.out) trivial ?_
            clear hK K
            refine wpAnyF_one (i := 15) rfl (by kernel_rfl) (fun K hK => ?_)
            go_simp
            refine hK _ _ (.inr hS17.out) trivial ?_
            clear hK K
            refine wpAnyF_one (i := 16) rfl (by kernel_rfl) (fun K hK => ?_)
            have q1 : Wc.cell? ⟨g, id * 2, none⟩ = some (.slice ca cL cc) := hS17.out.1
            have q3 : Wc.frozen? ⟨g, id * 2, none⟩ = false := hS17.out.2.2
            go_simp
            refine hK _ _ (.inl (by kernel_rfl)) trivial ?_
            clear hK K q1 q3
            refine wpAnyF_done (by kernel_rfl) ?_ _
            go_wp2
            go_roundw
            case rel => exact ⟨j + 1, ka, kc, rest, fs.set id ⟨f.b.take f.safe, f.safe⟩, by omega, by go_num, rfl, hrc, HVc.out, HSU.out.symm, HFK.out, by rw [← HCS.out]; exact HE1.out, HE2.out⟩
            case measure => simp [intOf]; omega
          case pos =>
          have qb : decide ((0 : Int) < (rest.length : Int)) = true := decide_eq_true (by omega)
          obtain ⟨kb, ko, rfl, hkb, hkM, hkc⟩ : ∃ kb ko, ka = some ⟨kb, ko, none⟩ ∧ kb < wr.heap.size ∧ ¬ M1 kb ∧ ∀ i (h : i < rest.length), wr.cell? ⟨kb, ko + i, none⟩ = some (b8 rest[i]) := by
            rcases HVr.out with ⟨_, _, _, e, _⟩ | ⟨b, o, c, e, _, h2, h3, h4⟩
            · rw [e] at hr0; simp at hr0
            · simp only [Value.slice.injEq] at e
              exact ⟨b, o, e.1, h2, h3, h4⟩
          have HKC := Lib.hid hkc
          have HKM := Lib.hid hkM
          obtain ⟨k0, hk0⟩ : ∃ k0, k0 = (rest[0]).toNat := ⟨_, rfl⟩
          have hk0b : k0 < 256 := by rw [hk0]; exact UInt8.toNat_lt _
          have hbyte : Wc.cell? ⟨kb, ko, none⟩ = some (.int .u8 (k0 : Int)) := (hGW.cell (a := ⟨kb, ko, none⟩) hkb (fun q => q)).trans (by have := hkc 0 hr0; rw [hk0]; exact this)
          obtain ⟨l1, hl1⟩ : ∃ l1, l1 = ls + 1 := ⟨_, rfl⟩
          obtain ⟨rr, hrr⟩ : ∃ rr, rr = k0 % l1 := ⟨_, rfl⟩
          obtain ⟨s', hs'⟩ : ∃ s', s' = cS + rr := ⟨_, rfl⟩
          have hls := HLS.out
          have hrrlt : rr < ls + 1 := by rw [hrr, hl1]; exact Nat.mod_lt _ (by omega)
          have w1 : IntKind.i64.wrap ((ls : Int) + 1) = (l1 : Int) := by rw [IntWalk.i64_in _ (by omega)]; omega
          have w2 : IntKind.i64.wrap (k0 : Int) = (k0 : Int) := IntWalk.i64_in _ (by omega)
          have w3 : Int.tmod (k0 : Int) (l1 : Int) = (rr : Int) := by rw [hrr]; rfl
          have w4' : IntKind.i64.wrap (rr : Int) = (rr : Int) := IntWalk.i64_in _ (by omega)
          have w5 : IntKind.i64.wrap ((cS : Int) + rr) = (s' : Int) := by rw [IntWalk.i64_in _ (by omega)]; omega
          have w7 : ¬ l1 = 0 := by omega
          have hsL : s' ≤ cL := by omega
          have hsc' : s' ≤ cc := by omega
          have HK0 := Lib.hid hk0
          have HL1 := Lib.hid hl1
          have HRR := Lib.hid hrr
          have HSS := Lib.hid hs'
          have HGW := Lib.hid hGW
          have hDSafe : Hid ((Wc.setCell ⟨g, id * 2 + 1, none⟩ (.int .i64 (s' : Int))).cell? ⟨g, id * 2 + 1, none⟩ = some (.int .i64 (s' : Int))) := cell_set_same tS.out
          have hU15 : Hid (U15 kb ko k0 Wc.drew) := hbyte
          have hS15 : Hid (S15 g id cS Wc.drew) := ⟨tS.out, tF1.out⟩
          have lkb : kb < Wc.heap.size := Nat.lt_of_lt_of_le hkb hGW.size
          have hU15' : Hid (U15 kb ko k0 (Wc.drew.setCell ⟨g, id * 2 + 1, none⟩ (.int .i64 (s' : Int)))) := (World.cell?_setCell_other _ _ _ _ (fun e => hkM (by have := congrArg Addr.block e; simp only at this; rw [← this]; exact HGM.out))).trans hbyte
          clear hk0 hl1 hrr hs' hls hrrlt hkc hkM hbyte hGW
          go_wp2_with fail
          refine wp_region_F (S15 g id cS) [14] (U15 kb ko k0) (by kernel_rfl) ?_
          refine wpAnyF_takeU (i := 0) (v := ?vb0) rfl (by kernel_rfl) (by kernel_rfl) (by kernel_rfl) (by kernel_rfl) (fun _ _ _ h => h) (Or.inl ⟨by rfl, ?yb0⟩) hS15.out hU15.out ?nb0
          case yb0 => intro w' hU; have u1 : w'.cell? ⟨kb, ko, none⟩ = some (.int .u8 (k0 : Int)) := hU; go_simp; with_reducible rfl
          simp only [Act.put, List.setIfInBounds_toArray]
          refine wpAnyF_takeU (i := 1) (v := ?vb1) rfl (by kernel_rfl) (by kernel_rfl) (by kernel_rfl) (by kernel_rfl) (fun _ _ _ h => h) (Or.inl ⟨by rfl, ?yb1⟩) hS15.out hU15.out ?nb1
          case yb1 => intro w' hU; have u1 : w'.cell? ⟨kb, ko, none⟩ = some (.int .u8 (k0 : Int)) := hU; go_simp; with_reducible rfl
          simp only [Act.put]
          refine wpAnyF_takeU (i := 2) (v := ?vb2) rfl (by kernel_rfl) (by kernel_rfl) (by kernel_rfl) (by kernel_rfl) (fun _ _ _ h => h) (Or.inl ⟨by rfl, ?yb2⟩) hS15.out hU15.out ?nb2
          case yb2 => intro w' hU; have u1 : w'.cell? ⟨kb, ko, none⟩ = some (.int .u8 (k0 : Int)) := hU; go_simp; with_reducible rfl
          simp only [Act.put]
          refine wpAnyF_take (i := 3) (v := ?vb3) rfl (by kernel_rfl) (by kernel_rfl) (by kernel_rfl) (by kernel_rfl) (by kernel_rfl) (by kernel_rfl) (fun _ _ _ h => h) (Or.inl ⟨by rfl, ?yb3⟩) hS15.out hU15.out ?nb3
          case yb3 => intro w' hS; obtain ⟨s1, s2⟩ := hS; go_simp; with_reducible rfl
          simp only [Act.put]
          refine wpAnyF_takeU (i := 4) (v := ?vb4) rfl (by kernel_rfl) (by kernel_rfl) (by kernel_rfl) (by kernel_rfl) (fun _ _ _ h => h) (Or.inl ⟨by rfl, ?yb4⟩) hS15.out hU15.out ?nb4
          case yb4 => intro w' hU; have u1 : w'.cell? ⟨kb, ko, none⟩ = some (.int .u8 (k0 : Int)) := hU; go_simp; with_reducible rfl
          simp only [Act.put]
          refine wpAnyF_takeU (i := 5) (v := ?vb5) rfl (by kernel_rfl) (by kernel_rfl) (by kernel_rfl) (by kernel_rfl) (fun _ _ _ h => h) (Or.inl ⟨by rfl, ?yb5⟩) hS15.out hU15.out ?nb5
          case yb5 => intro w' hU; have u1 : w'.cell? ⟨kb, ko, none⟩ = some (.int .u8 (k0 : Int)) := hU; go_simp; with_reducible rfl
          simp only [Act.put]
          refine wpAnyF_takeU (i := 6) (v := ?vb6) rfl (by kernel_rfl) (by kernel_rfl) (by kernel_rfl) (by kernel_rfl) (fun _ _ _ h => h) (Or.inl ⟨by rfl, ?yb6⟩) hS15.out hU15.out ?nb6
          case yb6 => intro w' hU; have u1 : w'.cell? ⟨kb, ko, none⟩ = some (.int .u8 (k0 : Int)) := hU; go_simp; with_reducible rfl
          simp only [Act.put]
          refine wpAnyF_takeU (i := 7) (v := ?vb7) rfl (by kernel_rfl) (by kernel_rfl) (by kernel_rfl) (by kernel_rfl) (fun _ _ _ h => h) (Or.inl ⟨by rfl, ?yb7⟩) hS15.out hU15.out ?nb7
          case yb7 => intro w' hU; have u1 : w'.cell? ⟨kb, ko, none⟩ = some (.int .u8 (k0 : Int)) := hU; go_simp; with_reducible rfl
          simp only [Act.put]
          refine wpAnyF_takeU (i := 8) (v := ?vb8) rfl (by kernel_rfl) (by kernel_rfl) (by kernel_rfl) (by kernel_rfl) (fun _ _ _ h => h) (Or.inl ⟨by rfl, ?yb8⟩) hS15.out hU15.out ?nb8
          case yb8 => intro w' hU; have u1 : w'.cell? ⟨kb, ko, none⟩ = some (.int .u8 (k0 : Int)) := hU; go_simp; with_reducible rfl
          simp only [Act.put]
          refine wpAnyF_takeU (i := 9) (v := ?vb9) rfl (by kernel_rfl) (by kernel_rfl) (by kernel_rfl) (by kernel_rfl) (fun _ _ _ h => h) (Or.inl ⟨by rfl, ?yb9⟩) hS15.out hU15.out ?nb9
          case yb9 => intro w' hU; have u1 : w'.cell? ⟨kb, ko, none⟩ = some (.int .u8 (k0 : Int)) := hU; go_simp; with_reducible rfl
          simp only [Act.put]
          refine wpAnyF_takeU (i := 10) (v := ?vb10) rfl (by kernel_rfl) (by kernel_rfl) (by kernel_rfl) (by kernel_rfl) (fun _ _ _ h => h) (Or.inl ⟨by rfl, ?yb10⟩) hS15.out hU15.out ?nb10
          case yb10 => intro w' hU; have u1 : w'.cell? ⟨kb, ko, none⟩ = some (.int .u8 (k0 : Int)) := hU; go_simp; with_reducible rfl
          simp only [Act.put]
          refine wpAnyF_takeU (i := 11) (v := ?vb11) rfl (by kernel_rfl) (by kernel_rfl) (by kernel_rfl) (by kernel_rfl) (fun _ _ _ h => h) (Or.inl ⟨by rfl, ?yb11⟩) hS15.out hU15.out ?nb11
          case yb11 => intro w' hU; have u1 : w'.cell? ⟨kb, ko, none⟩ = some (.int .u8 (k0 : Int)) := hU; go_simp; with_reducible rfl
          simp only [Act.put]
          refine wpAnyF_one (i := 12) rfl (by kernel_rfl) (fun K hK => ?_)
          go_simp
          refine hK _ _ (.inr hS15.out) hU15.out ?_
          clear hK K
          refine wpAnyF_one (i := 13) rfl (by kernel_rfl) (fun K hK => ?_)
          go_simp
          refine hK _ _ (.inr hS15.out) hU15.out ?_
          clear hK K
          refine wpAnyF_one (i := 14) rfl (by kernel_rfl) (fun K hK => ?_)
          have q1 : Wc.cell? ⟨g, id * 2 + 1, none⟩ = some (.int .i64 (cS : Int)) := hS15.out.1
          have q3 : Wc.frozen? ⟨g, id * 2 + 1, none⟩ = false := hS15.out.2
          go_simp
          refine hK _ _ (.inl (by kernel_rfl)) hU15'.out ?_
          clear hK K q1 q3
          refine wpAnyF_done (by kernel_rfl) ?_ _
          have h1r : 1 ≤ rest.length := hr0
          have h1c : rest.length - 1 ≤ kc - 1 := by omega
          obtain ⟨Wd, hWd⟩ : ∃ Wd, Wd = (Wc.setCell ⟨g, id * 2 + 1, none⟩ (.int .i64 (s' : Int))).drew := ⟨_, rfl⟩
          have hGd : Goes (Own bd w.heap.size vf) M1 M1 wr Wd := by
            rw [hWd]
            exact ((HGW.out.wide (fun _ _ q => q.elim)).trans (goes_setCell M1 Wc ⟨g, id * 2 + 1, none⟩ _ HOG.out) (fun _ _ q => q)).trans (goes_drew' _ _ _) (fun _ _ q => q)
          have hDc : DiskAt Wc bd wz.heap.size w.heap.size (.slice none 0 0) vf { N with files := fs } M1 := HDr2.out.goes HGW.out (fun _ q => q.elim) (fun _ _ q => q)
          have hFc : FileAt Wc vf { N with files := fs } M1 id g cap (.slice ca cL cc) := ⟨HFA.out.slice, HFA.out.lt, tB.out, by simp only [HFD.out, ← HCS.out]; exact tS.out, fun i => (HGW.out.frozen (a := ⟨g, i, none⟩) lg (fun q => q)).trans (HFA.out.free i), by
            have := HFA.out.bytes.goes HGW.out (fun _ q => q.elim)
            simp only [HFD.out] at this ⊢
            rw [← HCL.out] at this
            exact this, lgc⟩
          have hDd := (hDc.fileS s' hFc).1.goes (goes_drew' (fun _ => False) M1 _) (fun _ q => q.elim) (fun _ _ q => q)
          rw [← hWd] at hDd
          have hC2 : crashF f rest = (⟨f.b.take s', s'⟩, rest.tail) := by
            unfold crashF
            have e0 : (rest.headD 0).toNat = k0 := by
              rw [HK0.out]
              cases rest with
              | nil => simp at hr0
              | cons x xs => rfl
            have es : f.safe + (rest.headD 0).toNat % (f.b.length - f.safe + 1) = s' := by rw [e0, ← HCL.out, ← HCS.out, ← HLS.out, HSS.out, HRR.out, HL1.out]
            rw [if_pos ⟨by rw [← HCL.out, ← HCS.out, ← HLS.out]; exact hz, fun e => by rw [e] at hr0; simp at hr0⟩, es]
          have hgf : fs.getD id ⟨[], 0⟩ = f := HFD.out
          have hidf := hIDF.out
          have hE := HEND.out Wd s' (fs.set id ⟨f.b, s'⟩) (by simp only [hgf] at hDd; exact hDd) hGd (by simp) (by simp [List.getD, hidf]) (by rw [List.set_set]) (by rw [← HCL.out, hWd]; exact (World.cell?_setCell_other _ _ _ _ (by simp)).trans tB.out) (by rw [← HCL.out]; exact hsL)
          have HSU : Hid (((pathsB N).take (j + 1)).foldl (crash1 N.now) (D.files, keep) = (fs.set id ⟨f.b.take s', s'⟩, rest.tail)) := by unfold Hid; rw [HSUC.out, hC2]
          have HFK : Hid (FilesOk D.files.length (fs.set id ⟨f.b.take s', s'⟩)) := by have := HFOK.out; rw [hC2] at this; exact this
          have htl : rest.tail.length = rest.length - 1 := by simp
          obtain ⟨ko2, kc2, hko⟩ : ∃ ko2 kc2, (kc = 1 ∧ ko2 = ko ∧ kc2 = 0) ∨ (kc ≠ 1 ∧ ko2 = ko + 1 ∧ kc2 = kc - 1) := by
            by_cases hk1 : kc = 1
            · exact ⟨_, _, .inl ⟨hk1, rfl, rfl⟩⟩
            · exact ⟨_, _, .inr ⟨hk1, rfl, rfl⟩⟩
          have h1n : rest.length - 1 ≤ kc2 := by omega
          have hVt : BytesAt wr M1 (.slice (some ⟨kb, ko2, none⟩) (rest.length - 1) kc2) rest.tail := by
            refine .inr ⟨kb, ko2, kc2, by rw [htl], by rw [htl]; exact h1n, hkb, HKM.out, fun i hi => ?_⟩
            rw [htl] at hi
            have := HKC.out (i + 1) (by omega)
            rw [show ko2 + i = ko + (i + 1) by omega, this]
            simp
          have HVc : Hid (BytesAt (Wd.setCell ⟨g, id * 2, none⟩ (.slice ca s' s')).drew M1 (.slice (some ⟨kb, ko2, none⟩) (rest.length - 1) kc2) rest.tail) :=
            (hVt.goes hGd (fun k q => HDr2.out.ownM k q)).goes ((goes_setCell (O := fun k => k = g) M1 Wd ⟨g, id * 2, none⟩ (.slice ca s' s') rfl).trans (goes_drew' _ _ _) (fun _ _ q => q)) (fun k e => e ▸ HGM.out)
          have HE1 := Lib.hid hE.1
          have HE2 := Lib.hid hE.2
          have hS17 : Hid (S17 g id ca cc cL s' Wd.drew) := by
            refine ⟨?_, ?_, ?_⟩
            · show Wd.cell? _ = _; rw [hWd]; exact (World.cell?_setCell_other _ _ _ _ (by simp)).trans tB.out
            · show Wd.cell? _ = _; rw [hWd]; exact hDSafe.out
            · show Wd.frozen? _ = _; rw [hWd]; exact (World.frozen?_setCell _ _ _ _).trans tF.out
          have HTL := Lib.hid htl
          have HWd := Lib.hid hWd
          have H1N : Hid (rest.tail.length ≤ kc2) := by unfold Hid; rw [htl]; exact h1n
          clear hE hC2 hDd hFc hDc hGd hWd htl hVt h1n hgf hidf w1 w2 w3 w4' w5 w7
          rcases hko with ⟨rfl, rfl, rfl⟩ | ⟨hk1, rfl, rfl⟩
          · -- the last byte that there is room for
            go_wp2_with fail
            rw [← HWd.out]
            refine wp_region_F (S17 g id ca cc cL s') [16] (fun _ => True) (by kernel_rfl) ?_
            refine wpAnyF_takeU (i := 0) (v := ?ve0) rfl (by kernel_rfl) (by kernel_rfl) (by kernel_rfl) (by kernel_rfl) (fun _ _ _ h => h) (Or.inl ⟨by rfl, ?ye0⟩) hS17.out trivial ?ne0
            case ye0 => intro w' hU; skip; go_simp; with_reducible rfl
            simp only [Act.put, List.setIfInBounds_toArray]
            refine wpAnyF_takeU (i := 1) (v := ?ve1) rfl (by kernel_rfl) (by kernel_rfl) (by kernel_rfl) (by kernel_rfl) (fun _ _ _ h => h) (Or.inl ⟨by rfl, ?ye1⟩) hS17.out trivial ?ne1
            case ye1 => intro w' hU; skip; go_simp; with_reducible rfl
            simp only [Act.put]
            refine wpAnyF_takeU (i := 2) (v := ?ve2) rfl (by kernel_rfl) (by kernel_rfl) (by kernel_rfl) (by kernel_rfl) (fun _ _ _ h => h) (Or.inl ⟨by rfl, ?ye2⟩) hS17.out trivial ?ne2
            case ye2 => intro w' hU; skip; go_simp; with_reducible rfl
            simp only [Act.put]
            refine wpAnyF_takeU (i := 3) (v := ?ve3) rfl (by kernel_rfl) (by kernel_rfl) (by kernel_rfl) (by kernel_rfl) (fun _ _ _ h => h) (Or.inl ⟨by rfl, ?ye3⟩) hS17.out trivial ?ne3
            case ye3 => intro w' hU; skip; go_simp; with_reducible rfl
            simp only [Act.put]
            refine wpAnyF_take (i := 4) (v := ?ve4) rfl (by kernel_rfl) (by kernel_rfl) (by kernel_rfl) (by kernel_rfl) (by kernel_rfl) (by kernel_rfl) (fun _ _ _ h => h) (Or.inl ⟨by rfl, ?ye4⟩) hS17.out trivial ?ne4
            case ye4 => intro w' hS; obtain ⟨s1, s2, s3⟩ := hS; go_simp; with_reducible rfl
            simp only [Act.put]
            refine wpAnyF_takeU (i := 5) (v := ?ve5) rfl (by kernel_rfl) (by kernel_rfl) (by kernel_rfl) (by kernel_rfl) (fun _ _ _ h => h) (Or.inl ⟨by rfl, ?ye5⟩) hS17.out trivial ?ne5
            case ye5 => intro w' hU; skip; go_simp; with_reducible rfl
            simp only [Act.put]
            refine wpAnyF_takeU (i := 6) (v := ?ve6) rfl (by kernel_rfl) (by kernel_rfl) (by kernel_rfl) (by kernel_rfl) (fun _ _ _ h => h) (Or.inl ⟨by rfl, ?ye6⟩) hS17.out trivial ?ne6
            case ye6 => intro w' hU; skip; go_simp; with_reducible rfl
            simp only [Act.put]
            refine wpAnyF_takeU (i := 7) (v := ?ve7) rfl (by kernel_rfl) (by kernel_rfl) (by kernel_rfl) (by kernel_rfl) (fun _ _ _ h => h) (Or.inl ⟨by rfl, ?ye7⟩) hS17.out trivial ?ne7
            case ye7 => intro w' hU; skip; go_simp; with_reducible rfl
            simp only [Act.put]
            refine wpAnyF_take (i := 8) (v := ?ve8) rfl (by kernel_rfl) (by kernel_rfl) (by kernel_rfl) (by kernel_rfl) (by kernel_rfl) (by kernel_rfl) (fun _ _ _ h => h) (Or.inl ⟨by rfl, ?ye8⟩) hS17.out trivial ?ne8
            case ye8 => intro w' hS; obtain ⟨s1, s2, s3⟩ := hS; go_simp; with_reducible rfl
            simp only [Act.put]
            refine wpAnyF_takeU (i := 9) (v := ?ve9) rfl (by kernel_rfl) (by kernel_rfl) (by kernel_rfl) (by kernel_rfl) (fun _ _ _ h => h) (Or.inl ⟨by rfl, ?ye9⟩) hS17.out trivial ?ne9
            case ye9 => intro w' hU; skip; go_simp; with_reducible rfl
            simp only [Act.put]
            refine wpAnyF_takeU (i := 10) (v := ?ve10) rfl (by kernel_rfl) (by kernel_rfl) (by kernel_rfl) (by kernel_rfl) (fun _ _ _ h => h) (Or.inl ⟨by rfl, ?ye10⟩) hS17.out trivial ?ne10
            case ye10 => intro w' hU; skip; go_simp; with_reducible rfl
            simp only [Act.put]
            refine wpAnyF_takeU (i := 11) (v := ?ve11) rfl (by kernel_rfl) (by kernel_rfl) (by kernel_rfl) (by kernel_rfl) (fun _ _ _ h => h) (Or.inl ⟨by rfl, ?ye11⟩) hS17.out trivial ?ne11
            case ye11 => intro w' hU; skip; go_simp; with_reducible rfl
            simp only [Act.put]
            refine wpAnyF_take (i := 12) (v := ?ve12) rfl (by kernel_rfl) (by kernel_rfl) (by kernel_rfl) (by kernel_rfl) (by kernel_rfl) (by kernel_rfl) (fun _ _ _ h => h) (Or.inl ⟨by rfl, ?ye12⟩) hS17.out trivial ?ne12
            case ye12 => intro w' hS; obtain ⟨s1, s2, s3⟩ := hS; go_simp; with_reducible rfl
            simp only [Act.put]
            refine wpAnyF_one (i := 13) rfl (by kernel_rfl) (fun K hK => ?_)
            go_simp
            refine hK _ _ (.inr hS17.out) trivial ?_
            clear hK K
            refine wpAnyF_one (i := 14) rfl (by kernel_rfl) (fun K hK => ?_)
            go_simp
            refine hK _ _ (.inr hS17.out) trivial ?_
            clear hK K
            refine wpAnyF_one (i := 15) rfl (by kernel_rfl) (fun K hK => ?_)
            go_simp
            refine hK _ _ (.inr hS17.out) trivial ?_
            clear hK K
            refine wpAnyF_one (i := 16) rfl (by kernel_rfl) (fun K hK => ?_)
            have q1 : Wd.cell? ⟨g, id * 2, none⟩ = some (.slice ca cL cc) := hS17.out.1
            have q3 : Wd.frozen? ⟨g, id * 2, none⟩ = false := hS17.out.2.2
            go_simp
            refine hK _ _ (.inl (by kernel_rfl)) trivial ?_
            clear hK K q1 q3
            refine wpAnyF_done (by kernel_rfl) ?_ _
            go_wp2
            go_roundw
            case rel => exact ⟨j + 1, some ⟨kb, ko2, none⟩, 0, rest.tail, fs.set id ⟨f.b.take s', s'⟩, by omega, by go_num, by rw [HTL.out, show rest.length - 1 = 0 by omega], H1N.out, by rw [HTL.out]; exact HVc.out, HSU.out.symm, HFK.out, HE1.out, HE2.out⟩
            case measure => simp [intOf]; omega
          · -- there is room for more
            go_wp2_with fail
            rw [← HWd.out]
            refine wp_region_F (S17 g id ca cc cL s') [16] (fun _ => True) (by kernel_rfl) ?_
            refine wpAnyF_takeU (i := 0) (v := ?vf0) rfl (by kernel_rfl) (by kernel_rfl) (by kernel_rfl) (by kernel_rfl) (fun _ _ _ h => h) (Or.inl ⟨by rfl, ?yf0⟩) hS17.out trivial ?nf0
            case yf0 => intro w' hU; skip; go_simp; with_reducible rfl
            simp only [Act.put, List.setIfInBounds_toArray]
            refine wpAnyF_takeU (i := 1) (v := ?vf1) rfl (by kernel_rfl) (by kernel_rfl) (by kernel_rfl) (by kernel_rfl) (fun _ _ _ h => h) (Or.inl ⟨by rfl, ?yf1⟩) hS17.out trivial ?nf1
            case yf1 => intro w' hU; skip; go_simp; with_reducible rfl
            simp only [Act.put]
            refine wpAnyF_takeU (i := 2) (v := ?vf2) rfl (by kernel_rfl) (by kernel_rfl) (by kernel_rfl) (by kernel_rfl) (fun _ _ _ h => h) (Or.inl ⟨by rfl, ?yf2⟩) hS17.out trivial ?nf2
            case yf2 => intro w' hU; skip; go_simp; with_reducible rfl
            simp only [Act.put]
            refine wpAnyF_takeU (i := 3) (v := ?vf3) rfl (by kernel_rfl) (by kernel_rfl) (by kernel_rfl) (by kernel_rfl) (fun _ _ _ h => h) (Or.inl ⟨by rfl, ?yf3⟩) hS17.out trivial ?nf3
            case yf3 => intro w' hU; skip; go_simp; with_reducible rfl
            simp only [Act.put]
            refine wpAnyF_take (i := 4) (v := ?vf4) rfl (by kernel_rfl) (by kernel_rfl) (by kernel_rfl) (by kernel_rfl) (by kernel_rfl) (by kernel_rfl) (fun _ _ _ h => h) (Or.inl ⟨by rfl, ?yf4⟩) hS17.out trivial ?nf4
            case yf4 => intro w' hS; obtain ⟨s1, s2, s3⟩ := hS; go_simp; with_reducible rfl
            simp only [Act.put]
            refine wpAnyF_takeU (i := 5) (v := ?vf5) rfl (by kernel_rfl) (by kernel_rfl) (by kernel_rfl) (by kernel_rfl) (fun _ _ _ h => h) (Or.inl ⟨by rfl, ?yf5⟩) hS17.out trivial ?nf5
            case yf5 => intro w' hU; skip; go_simp; with_reducible rfl
            simp only [Act.put]
            refine wpAnyF_takeU (i := 6) (v := ?vf6) rfl (by kernel_rfl) (by kernel_rfl) (by kernel_rfl) (by kernel_rfl) (fun _ _ _ h => h) (Or.inl ⟨by rfl, ?yf6⟩) hS17.out trivial ?nf6
            case yf6 => intro w' hU; skip; go_simp; with_reducible rfl
            simp only [Act.put]
            refine wpAnyF_takeU (i := 7) (v := ?vf7) rfl (by kernel_rfl) (by kernel_rfl) (by kernel_rfl) (by kernel_rfl) (fun _ _ _ h => h) (Or.inl ⟨by rfl, ?yf7⟩) hS17.out trivial ?nf7
            case yf7 => intro w' hU; skip; go_simp; with_reducible rfl
            simp only [Act.put]
            refine wpAnyF_take (i := 8) (v := ?vf8) rfl (by kernel_rfl) (by kernel_rfl) (by kernel_rfl) (by kernel_rfl) (by kernel_rfl) (by kernel_rfl) (fun _ _ _ h => h) (Or.inl ⟨by rfl, ?yf8⟩) hS17.out trivial ?nf8
            case yf8 => intro w' hS; obtain ⟨s1, s2, s3⟩ := hS; go_simp; with_reducible rfl
            simp only [Act.put]
            refine wpAnyF_takeU (i := 9) (v := ?vf9) rfl (by kernel_rfl) (by kernel_rfl) (by kernel_rfl) (by kernel_rfl) (fun _ _ _ h => h) (Or.inl ⟨by rfl, ?yf9⟩) hS17.out trivial ?nf9
            case yf9 => intro w' hU; skip; go_simp; with_reducible rfl
            simp only [Act.put]
            refine wpAnyF_takeU (i := 10) (v := ?vf10) rfl (by kernel_rfl) (by kernel_rfl) (by kernel_rfl) (by kernel_rfl) (fun _ _ _ h => h) (Or.inl ⟨by rfl, ?yf10⟩) hS17.out trivial ?nf10
            case yf10 => intro w' hU; skip; go_simp; with_reducible rfl
            simp only [Act.put]
            refine wpAnyF_takeU (i := 11) (v := ?vf11) rfl (by kernel_rfl) (by kernel_rfl) (by kernel_rfl) (by kernel_rfl) (fun _ _ _ h => h) (Or.inl ⟨by rfl, ?yf11⟩) hS17.out trivial ?nf11
            case yf11 => intro w' hU; skip; go_simp; with_reducible rfl
            simp only [Act.put]
            refine wpAnyF_take (i := 12) (v := ?vf12) rfl (by kernel_rfl) (by kernel_rfl) (by kernel_rfl) (by kernel_rfl) (by kernel_rfl) (by kernel_rfl) (fun _ _ _ h => h) (Or.inl ⟨by rfl, ?yf12⟩) hS17.out trivial ?nf12
            case yf12 => intro w' hS; obtain ⟨s1, s2, s3⟩ := hS; go_simp; with_reducible rfl
            simp only [Act.put]
            refine wpAnyF_one (i := 13) rfl (by kernel_rfl) (fun K hK => ?_)
            go_simp
            refine hK _ _ (.inr hS17.out) trivial ?_
            clear hK K
            refine wpAnyF_one (i := 14) rfl (by kernel_rfl) (fun K hK => ?_)
            go_simp
            refine hK _ _ (.inr hS17.out) trivial ?_
            clear hK K
            refine wpAnyF_one (i := 15) rfl (by kernel_rfl) (fun K hK => ?_)
            go_simp
            refine hK _ _ (.inr hS17.out) trivial ?_
            clear hK K
            refine wpAnyF_one (i := 16) rfl (by kernel_rfl) (fun K hK => ?_)
            have q1 : Wd.cell? ⟨g, id * 2, none⟩ = some (.slice ca cL cc) := hS17.out.1
            have q3 : Wd.frozen? ⟨g, id * 2, none⟩ = false := hS17.out.2.2
            go_simp
            refine hK _ _ (.inl (by kernel_rfl)) trivial ?_
            clear hK K q1 q3
            refine wpAnyF_done (by kernel_rfl) ?_ _
            go_wp2
            go_roundw
            case rel => exact ⟨j + 1, some ⟨kb, _, none⟩, _, rest.tail, fs.set id ⟨f.b.take s', s'⟩, by omega, by go_num, by rw [HTL.out], H1N.out, by rw [HTL.out]; exact HVc.out, HSU.out.symm, HFK.out, HE1.out, HE2.out⟩
            case measure => simp [intOf]; omega
        · have hjn : j = np := by omega
          subst hjn
          have hS := HS.out
          rw [List.take_of_length_le (by rw [← HNP.out]; exact Nat.le_refl _)] at hS
          have hR : ({ N with files := fs, down := false, done := false, fails := -1, wrong := -1 } : PD) = crashR D count keep := by
            unfold crashR
            rw [← HNN.out, ← hS]
          have d0 := HDr2.out
          have d1 : DiskAt (wr.setCell ⟨bd, 5, none⟩ (.bool false)) bd wz.heap.size w.heap.size (.slice none 0 0) vf { N with files := fs, down := false } M1 := d0.store rfl rfl rfl rfl rfl
          have d2 : DiskAt ((wr.setCell ⟨bd, 5, none⟩ (.bool false)).setCell ⟨bd, 8, none⟩ (.bool false)) bd wz.heap.size w.heap.size (.slice none 0 0) vf { N with files := fs, down := false, done := false } M1 := d1.store rfl rfl rfl rfl rfl
          have d3 : DiskAt (((wr.setCell ⟨bd, 5, none⟩ (.bool false)).setCell ⟨bd, 8, none⟩ (.bool false)).setCell ⟨bd, 7, none⟩ (.int .i64 (-1))) bd wz.heap.size w.heap.size (.slice none 0 0) vf { N with files := fs, down := false, done := false, fails := -1 } M1 := d2.store rfl rfl rfl rfl rfl
          have d4 : DiskAt ((((wr.setCell ⟨bd, 5, none⟩ (.bool false)).setCell ⟨bd, 8, none⟩ (.bool false)).setCell ⟨bd, 7, none⟩ (.int .i64 (-1))).setCell ⟨bd, 9, none⟩ (.int .i64 (-1))) bd wz.heap.size w.heap.size (.slice none 0 0) vf { N with files := fs, down := false, done := false, fails := -1, wrong := -1 } M1 := d3.store rfl rfl rfl rfl rfl
          rw [hR] at d4
          have hg4 : Goes (Own bd w.heap.size vf) M1 M1 wr ((((wr.setCell ⟨bd, 5, none⟩ (.bool false)).setCell ⟨bd, 8, none⟩ (.bool false)).setCell ⟨bd, 7, none⟩ (.int .i64 (-1))).setCell ⟨bd, 9, none⟩ (.int .i64 (-1))) :=
            (((goes_setCell M1 wr ⟨bd, 5, none⟩ _ (.inl rfl)).trans (goes_setCell M1 _ ⟨bd, 8, none⟩ _ (.inl rfl)) (fun _ _ q => q)).trans (goes_setCell M1 _ ⟨bd, 7, none⟩ _ (.inl rfl)) (fun _ _ q => q)).trans (goes_setCell M1 _ ⟨bd, 9, none⟩ _ (.inl rfl)) (fun _ _ q => q)
          have hlow : ∀ k, k < w.heap.size → Own bd w.heap.size vf k → Own bd bn vf k := fun k hk q => by
            rcases q with q | q | q
            · exact .inl q
            · omega
            · exact .inr (.inr q)
          have hLv : Leaves w bd O M (crashR D count keep) ((((wr.setCell ⟨bd, 5, none⟩ (.bool false)).setCell ⟨bd, 8, none⟩ (.bool false)).setCell ⟨bd, 7, none⟩ (.int .i64 (-1))).setCell ⟨bd, 9, none⟩ (.int .i64 (-1))) :=
            ⟨Own bd w.heap.size vf, M1, ⟨_, _, _, _, d4, fun _ => Iff.rfl⟩, ⟨(HG5.out.trans (HGr2.out.trans hg4 (fun _ _ q => q)) hlow).wide (fun k _ q => (HO.out k).2 q), fun k hk q => (HO.out k).2 (hlow k hk q)⟩⟩
          have HLV := Lib.hid hLv
          have e5 := d0.down
          have e7 := d0.fails
          have e8 := d0.done
          have e9 := d0.wrong
          have f5 := d0.free 5
          have f7 := d0.free 7
          have f8 := d0.free 8
          have f9 := d0.free 9
          clear hS hR d0 d1 d2 d3 d4 hg4 hlow hLv
          go_wp2
          go_end0
          exact ⟨rfl, HLV.out⟩
end Go.Proofs.YtihojcjijbidpaaDoor
