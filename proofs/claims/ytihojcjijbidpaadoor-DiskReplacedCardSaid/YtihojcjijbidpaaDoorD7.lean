/- The walk of put (Create, Mkdir). -/
import Derived.Test.YtihojcjijbidpaaDoorD6
namespace Go.Proofs.YtihojcjijbidpaaDoor
open Go.RowKit Go.Shelf Go.Sort

/-- Block bd of w is the disk D; O: its own blocks; M: the blocks that may be written at all. -/
def DiskIs (w : World) (bd : Nat) (O M : Nat → Prop) (D : PD) : Prop := ∃ bs bn vl vf, DiskAt w bd bs bn vl vf D M ∧ ∀ k, O k ↔ Own bd bn vf k

structure Moves (O M O' M' : Nat → Prop) (w w' : World) : Prop where
  goes : Goes O M M' w w'
  own : ∀ k, k < w.heap.size → O' k → O k

theorem Moves.refl (O M : Nat → Prop) (w : World) : Moves O M O M w w := ⟨Goes.refl _ _ _, fun _ _ h => h⟩
theorem Moves.trans {O O' O'' M M' M'' : Nat → Prop} {a b c : World} (h : Moves O M O' M' a b) (k : Moves O' M' O'' M'' b c) : Moves O M O'' M'' a c :=
  ⟨h.goes.trans k.goes h.own, fun i hi q => h.own i hi (k.own i (Nat.lt_of_lt_of_le hi h.goes.size) q)⟩
theorem Moves.below {O M : Nat → Prop} {a b : World} (h : Below a.heap.size a b) : Moves O M O M a b := ⟨Goes.of_below h _ _, fun _ _ h => h⟩

theorem DiskIs.below {w w' : World} {bd : Nat} {O M : Nat → Prop} {D : PD} (h : DiskIs w bd O M D) (hb : Below w.heap.size w w') : DiskIs w' bd O M D := by
  obtain ⟨bs, bn, vl, vf, h1, h2⟩ := h
  exact ⟨bs, bn, vl, vf, h1.goes (Goes.of_below hb (fun _ => False) M) (fun _ q => q.elim) (fun _ _ q => q), h2⟩
theorem DiskIs.ownM {w : World} {bd : Nat} {O M : Nat → Prop} {D : PD} (h : DiskIs w bd O M D) : ∀ k, O k → M k := by
  obtain ⟨bs, bn, vl, vf, h1, h2⟩ := h
  exact fun k q => h1.ownM k ((h2 k).1 q)
theorem DiskIs.mlt {w : World} {bd : Nat} {O M : Nat → Prop} {D : PD} (h : DiskIs w bd O M D) : ∀ k, M k → k < w.heap.size := by
  obtain ⟨bs, bn, vl, vf, h1, h2⟩ := h
  exact h1.mlt
/-- Another disk's step. -/
theorem DiskIs.goes {w w' : World} {bd : Nat} {O M O2 M' : Nat → Prop} {D : PD} (h : DiskIs w bd O M D) (hg : Goes O2 M M' w w') (hO : ∀ k, O2 k → M k) (hd : ∀ k, O k → ¬ O2 k) : DiskIs w' bd O M' D := by
  obtain ⟨bs, bn, vl, vf, h1, h2⟩ := h
  exact ⟨bs, bn, vl, vf, h1.goes hg hO (fun k q => hd k ((h2 k).2 q)), h2⟩

/-- What every call on a disk leaves. -/
def Leaves (w : World) (bd : Nat) (O M : Nat → Prop) (D' : PD) (w' : World) : Prop := ∃ O' M', DiskIs w' bd O' M' D' ∧ Moves O M O' M' w w'

theorem Leaves.same {w w' : World} {bd : Nat} {O M : Nat → Prop} {D : PD} (h : DiskIs w bd O M D) (hb : Below w.heap.size w w') : Leaves w bd O M D w' := ⟨O, M, h.below hb, Moves.below hb⟩
theorem Leaves.after {w a w' : World} {bd : Nat} {O M : Nat → Prop} {D' : PD} (hb : Below w.heap.size w a) (h : Leaves a bd O M D' w') : Leaves w bd O M D' w' := by
  obtain ⟨O', M', h1, h2⟩ := h
  exact ⟨O', M', h1, (Moves.below hb).trans h2⟩

def putR (D : PD) (p : ByteArray) (dir : Bool) : PD × Int :=
  if askedE D.down [p] ≠ 0 then (D, askedE D.down [p]) else if parentE D.now p ≠ 0 then (D, parentE D.now p) else if (lookupM D.now p).isSome then (D, 7)
  else (if stepDoes D then putD (stepD D) p dir else stepD D, stepE D)

theorem asked_one (bd : Nat) (down : Bool) (p : ByteArray) (W : World) (hA : Amb W) (hd : W.cell? ⟨bd, 5, none⟩ = some (.bool down)) :
    Calls Tryd.prog 26 #[.pointer (some ⟨bd, 0, none⟩), .slice (some ⟨W.heap.size, 0, none⟩) 1 1] (W.alloc (.cells #[.string p] 9)) fun e w' => e = .returned (.int .i64 (askedE down [p])) ∧ Below W.heap.size W w' := by
  refine (asked_calls bd W.heap.size 1 down [p] (W.alloc (.cells #[.string p] 9)) (hA.alloc _) (by simp) ((World.cell?_alloc_lt _ _ _ (World.block_lt_of_cell? _ _ hd)).trans hd) (fun i hi => by
    obtain rfl : i = 0 := by simpa using hi
    rw [World.cell?_alloc_new]; rfl)).mono ?_
  rintro e w' ⟨he, hb⟩
  exact ⟨he, ((Below.refl _ W).alloc (Nat.le_refl _) _).trans (hb.mono (by simp))⟩

set_option maxHeartbeats 2000000 in
theorem put_calls {w : World} {bd : Nat} {O M : Nat → Prop} {D : PD} (h : DiskIs w bd O M D) (hF : D.Fine) (hA : Amb w) (p : ByteArray) (hs : p.size ≤ 1000000) (dir : Bool) :
    Calls Tryd.prog 18 #[.pointer (some ⟨bd, 0, none⟩), .string p, .bool dir] w fun e w' => e = .returned (.int .i64 (putR D p dir).2) ∧ Leaves w bd O M (putR D p dir).1 w' := by
  obtain ⟨W1, hW1⟩ : ∃ W1, W1 = ((w.alloc (.cells #[.pointer (some ⟨bd, 0, none⟩)] 25)).alloc (.cells #[.string p] 9)).alloc (.cells #[.bool dir] 4) := ⟨_, rfl⟩
  have hb1 : Below w.heap.size w W1 := by rw [hW1]; exact (((Below.refl _ _).alloc (Nat.le_refl _) _).alloc (by simp) _).alloc (by simp; omega) _
  have hs1 : W1.heap.size = w.heap.size + 3 := by rw [hW1]; simp
  have x0 : W1.cell? ⟨w.heap.size, 0, none⟩ = some (.pointer (some ⟨bd, 0, none⟩)) := by
    rw [hW1, World.cell?_alloc_lt _ _ _ (by simp; omega), World.cell?_alloc_lt _ _ _ (by simp), World.cell?_alloc_new]; rfl
  have x1 : W1.cell? ⟨w.heap.size + 1, 0, none⟩ = some (.string p) := by
    rw [hW1, World.cell?_alloc_lt _ _ _ (by simp)]
    have := World.cell?_alloc_new (w.alloc (.cells #[.pointer (some ⟨bd, 0, none⟩)] 25)) #[.string p] 9 0
    rw [World.size_alloc] at this
    rw [this]; rfl
  have x2 : W1.cell? ⟨w.heap.size + 2, 0, none⟩ = some (.bool dir) := by
    rw [hW1]
    have := World.cell?_alloc_new ((w.alloc (.cells #[.pointer (some ⟨bd, 0, none⟩)] 25)).alloc (.cells #[.string p] 9)) #[.bool dir] 4 0
    rw [World.size_alloc, World.size_alloc] at this
    rw [this]; rfl
  have h1 := h.below hb1
  have hm := h.mlt
  have H1 := Lib.hid h1
  obtain ⟨bs, bn, vl, vf, hd, hO⟩ := h1
  have HD := Lib.hid hd
  have HO := Lib.hid hO
  have HM := Lib.hid hm
  have HF := Lib.hid hF
  have HB1 := Lib.hid hb1
  have hAs := asked_one bd D.down p W1 (hA.below hb1) hd.down
  have HR : Hid (putR D p dir = if askedE D.down [p] ≠ 0 then (D, askedE D.down [p]) else if parentE D.now p ≠ 0 then (D, parentE D.now p) else if (lookupM D.now p).isSome then (D, 7)
      else (if stepDoes D then putD (stepD D) p dir else stepD D, stepE D)) := rfl
  have HW1 := Lib.hid hW1
  have ed : w.heap.size + 1 + 1 + 1 = W1.heap.size := by omega
  have X0 := Lib.hid x0; have X1 := Lib.hid x1; have X2 := Lib.hid x2
  have ED := Lib.hid ed
  have HA1 := Lib.hid (hA.below hb1)
  have fin0 : Hid (∀ w', Below W1.heap.size W1 w' → Leaves w bd O M D w') := fun w' hb => (Leaves.same H1.out hb).after hb1
  clear hd hO hm hF hb1 hW1 ed x0 x1 x2 hA h hs1
  go_enter Tryd.func18, Tryd.ntmps18
  go_wp2_with fail
  rw [← HW1.out, ED.out]
  refine hAs.mono ?_
  rintro e w2 ⟨rfl, hb2⟩
  have HB2 := Lib.hid hb2
  have hs2 := hb2.size
  clear hb2 hAs
  generalize hq : askedE D.down [p] = q at *
  by_cases h0 : q = 0
  · subst h0
    have hx : putR D p dir = if parentE D.now p ≠ 0 then (D, parentE D.now p) else if (lookupM D.now p).isSome then (D, 7) else (if stepDoes D then putD (stepD D) p dir else stepD D, stepE D) := HR.out
    have HX := Lib.hid hx
    clear hx HR hq
    have l0 : w.heap.size < W1.heap.size := by have := ED.out; omega
    have l1 : w.heap.size + 1 < W1.heap.size := by have := ED.out; omega
    have y0 : w2.cell? ⟨w.heap.size, 0, none⟩ = some (.pointer (some ⟨bd, 0, none⟩)) := (HB2.out.cell (p := ⟨w.heap.size, 0, none⟩) l0).trans X0.out
    have y1 : w2.cell? ⟨w.heap.size + 1, 0, none⟩ = some (.string p) := (HB2.out.cell (p := ⟨w.heap.size + 1, 0, none⟩) l1).trans X1.out
    have D2 : Hid (DiskAt w2 bd bs bn vl vf D M) := HD.out.goes (Goes.of_below HB2.out (fun _ => False) M) (fun _ q => q.elim) (fun _ _ q => q)
    have hP := parent_calls bd bn D.now p w2 hs D2.out.nowC D2.out.now
    go_wp2_with fail
    refine hP.mono ?_
    rintro e w3 ⟨rfl, hb3⟩
    have HB3 := Lib.hid hb3
    have hs3 := hb3.size
    clear hb3 hP y0 y1
    generalize parentE D.now p = q at *
    by_cases h0 : q = 0
    · subst h0
      have hx : putR D p dir = if (lookupM D.now p).isSome then (D, 7) else (if stepDoes D then putD (stepD D) p dir else stepD D, stepE D) := HX.out
      have HX2 := Lib.hid hx
      clear hx HX
      have z0 : w3.cell? ⟨w.heap.size, 0, none⟩ = some (.pointer (some ⟨bd, 0, none⟩)) := (HB3.out.cell (p := ⟨w.heap.size, 0, none⟩) (Nat.lt_of_lt_of_le l0 HB2.out.size)).trans ((HB2.out.cell (p := ⟨w.heap.size, 0, none⟩) l0).trans X0.out)
      have z1 : w3.cell? ⟨w.heap.size + 1, 0, none⟩ = some (.string p) := (HB3.out.cell (p := ⟨w.heap.size + 1, 0, none⟩) (Nat.lt_of_lt_of_le l1 HB2.out.size)).trans ((HB2.out.cell (p := ⟨w.heap.size + 1, 0, none⟩) l1).trans X1.out)
      have D3 : Hid (DiskAt w3 bd bs bn vl vf D M) := D2.out.goes (Goes.of_below HB3.out (fun _ => False) M) (fun _ q => q.elim) (fun _ _ q => q)
      have n3 := D3.out.nowC
      have k1 := (show MapAt w3.drew bn D.now from D3.out.now).look_is p
      have k2 := (show MapAt (w3.alloc (.cells #[.bool false, .int .i64 0] 60)).drew bn D.now from D3.out.now.kept (Below.heap_alloc _ _ _ D3.out.now.lt)).look_is p
      have ld3 := D3.out.lt
      have l03 : w.heap.size < w3.heap.size := by have := HB2.out.size; omega
      have l13 : w.heap.size + 1 < w3.heap.size := by have := HB2.out.size; omega
      generalize (lookupM D.now p).isSome = is at *
      generalize ((lookupM D.now p).getD zNd).dir = nd at *
      generalize (((lookupM D.now p).getD zNd).id : Int) = ni at *
      go_wp2_with fail
      go_upto_region 7 with fail
      go_cut [10] (fun s10 wx => s10 = .bool is ∧ Hid (Below w3.heap.size w3 wx))
      case first =>
        go_region
        all_goals (go_wp2_with fail; go_meet; exact ⟨rfl, ((Below.refl _ _).alloc (Nat.le_refl _) _).drew⟩)
      case rest =>
        obtain ⟨rfl, HB4⟩ := hcut
        have HBc : Hid (Below W1.heap.size W1 wc) := (HB2.out.trans (HB3.out.mono HB2.out.size)).trans (HB4.out.mono (Nat.le_trans HB2.out.size HB3.out.size))
        clear k1 k2 z0 z1 n3
        cases is with
        | true =>
          go_wp2
          go_ret
          exact ⟨by rw [HX2.out]; rfl, by rw [HX2.out]; exact fin0.out _ HBc.out⟩
        | false =>
          have hx : putR D p dir = (if stepDoes D then putD (stepD D) p dir else stepD D, stepE D) := HX2.out
          have HX := Lib.hid hx
          clear hx HX2
          have D4 : Hid (DiskAt wc bd bs bn vl vf D M) := HD.out.goes (Goes.of_below HBc.out (fun _ => False) M) (fun _ q => q.elim) (fun _ _ q => q)
          have v0 : wc.cell? ⟨w.heap.size, 0, none⟩ = some (.pointer (some ⟨bd, 0, none⟩)) := (HBc.out.cell (p := ⟨w.heap.size, 0, none⟩) l0).trans X0.out
          have V0 := Lib.hid v0
          have l2 : w.heap.size + 2 < W1.heap.size := by have := ED.out; omega
          have V1 : Hid (wc.cell? ⟨w.heap.size + 1, 0, none⟩ = some (.string p)) := (HBc.out.cell (p := ⟨w.heap.size + 1, 0, none⟩) l1).trans X1.out
          have V2 : Hid (wc.cell? ⟨w.heap.size + 2, 0, none⟩ = some (.bool dir)) := (HBc.out.cell (p := ⟨w.heap.size + 2, 0, none⟩) l2).trans X2.out
          have hszc : W1.heap.size ≤ wc.heap.size := HBc.out.size
          have hbdl : ¬ M (w.heap.size) ∧ ¬ M (w.heap.size + 1) ∧ ¬ M (w.heap.size + 2) := ⟨fun q => by have := HM.out _ q; omega, fun q => by have := HM.out _ q; omega, fun q => by have := HM.out _ q; omega⟩
          have HBD := Lib.hid hbdl
          have hST := step_calls D4.out HF.out 37 #[.pointer (some ⟨w.heap.size + 1 + 1, 0, none⟩), .pointer (some ⟨w.heap.size, 0, none⟩), .pointer (some ⟨w.heap.size + 1, 0, none⟩)] (enters_of Tryd.func37 (by kernel_rfl) rfl)
            (fun w' => Leaves w bd O M (putD (stepD D) p dir) w') (fun _ W hW hG => by
              have n0 : ∀ k, ¬ M k → k ≠ bd := fun k q e => q (e ▸ D4.out.dM)
              have u0 := (hG.cell (a := ⟨w.heap.size, 0, none⟩) (Nat.lt_of_lt_of_le l0 hszc) (n0 _ HBD.out.1)).trans V0.out
              have u1 := (hG.cell (a := ⟨w.heap.size + 1, 0, none⟩) (Nat.lt_of_lt_of_le l1 hszc) (n0 _ HBD.out.2.1)).trans V1.out
              have u2 := (hG.cell (a := ⟨w.heap.size + 2, 0, none⟩) (Nat.lt_of_lt_of_le l2 hszc) (n0 _ HBD.out.2.2)).trans V2.out
              have mv : Moves O M O M w W := (Moves.below (HB1.out.trans (HBc.out.mono HB1.out.size))).trans ⟨hG.wide (fun k _ e => (HO.out k).2 (.inl e)), fun _ _ q => q⟩
              have el : (stepD D).loose = D.loose ∧ (stepD D).files = D.files := by unfold stepD PD.stepped; split <;> exact ⟨rfl, rfl⟩
              cases dir with
              | true =>
                refine (put1_dir hW (by rw [el.1]; exact HF.out.loose) p _ _ _ u2 u0 u1).mono ?_
                rintro e w' ⟨he, vl', h1, h2⟩
                exact ⟨he, O, M, ⟨bs, bn, vl', vf, h1, HO.out⟩, mv.trans ⟨h2.wide (fun k _ q => (HO.out k).2 q), fun _ _ q => q⟩⟩
              | false =>
                refine (put1_file hW (by rw [el.1]; exact HF.out.loose) (by rw [el.2]; exact HF.out.files) p _ _ _ u2 u0 u1 HBD.out.2.2 HBD.out.1 HBD.out.2.1).mono ?_
                rintro e w' ⟨he, vl', vf', M', h1, h2, h3⟩
                exact ⟨he, Own bd bn vf', M', ⟨bs, bn, vl', vf', h1, fun _ => Iff.rfl⟩, mv.trans ⟨h2.wide (fun k _ q => (HO.out k).2 q), fun k hk q => (HO.out k).2 (h3 k hk q)⟩⟩)
          clear v0 hbdl V1 V2
          have v0 := V0.out
          clear V0
          go_wp2_with fail
          refine hST.mono ?_
          rintro e w5 ⟨rfl, hP⟩
          have HP := Lib.hid hP
          clear hP hST
          go_wp2
          go_ret
          refine ⟨by rw [HX.out]; rfl, ?_⟩
          rw [HX.out]
          have hp := HP.out
          unfold StepPost at hp
          split at hp
          · rename_i q
            simp only [q, if_true]
            exact hp
          · rename_i q
            simp only [q, if_false]
            exact ⟨O, M, ⟨bs, bn, vl, vf, hp.1, HO.out⟩, (Moves.below (HB1.out.trans (HBc.out.mono HB1.out.size))).trans ⟨hp.2.wide (fun k _ e => (HO.out k).2 (.inl e)), fun _ _ q => q⟩⟩
    · have hx : putR D p dir = (D, q) := by rw [HX.out, if_pos h0]
      have HX2 := Lib.hid hx
      clear hx HX
      have hq' : (q == 0) = false := by simpa using h0
      have hq'' : (q != 0) = true := by simpa using h0
      clear h0
      go_wp2
      go_ret
      exact ⟨by rw [HX2.out]; rfl, by rw [HX2.out]; exact fin0.out _ (HB2.out.trans (HB3.out.mono HB2.out.size))⟩
  · have hx : putR D p dir = (D, q) := by rw [HR.out, if_pos h0]
    have HX := Lib.hid hx
    clear hx HR hq
    have hq' : (q == 0) = false := by simpa using h0
    have hq'' : (q != 0) = true := by simpa using h0
    clear h0
    go_wp2
    go_ret
    exact ⟨by rw [HX.out]; rfl, by rw [HX.out]; exact fin0.out _ HB2.out⟩
end Go.Proofs.YtihojcjijbidpaaDoor
