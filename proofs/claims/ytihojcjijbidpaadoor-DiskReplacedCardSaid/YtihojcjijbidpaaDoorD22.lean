/- Rename. -/
import Derived.Test.YtihojcjijbidpaaDoorD21
namespace Go.Proofs.YtihojcjijbidpaaDoor
open Go.RowKit Go.Shelf Go.Sort

theorem asked_two (bd : Nat) (down : Bool) (p q : ByteArray) (W : World) (hA : Amb W) (hd : W.cell? ⟨bd, 5, none⟩ = some (.bool down)) :
    Calls Tryd.prog 26 #[.pointer (some ⟨bd, 0, none⟩), .slice (some ⟨W.heap.size, 0, none⟩) 2 2] (W.alloc (.cells #[.string p, .string q] 9)) fun e w' => e = .returned (.int .i64 (askedE down [p, q])) ∧ Below W.heap.size W w' := by
  refine (asked_calls bd W.heap.size 2 down [p, q] (W.alloc (.cells #[.string p, .string q] 9)) (hA.alloc _) (by simp) ((World.cell?_alloc_lt _ _ _ (World.block_lt_of_cell? _ _ hd)).trans hd) (fun i hi => by
    have hi2 : i = 0 ∨ i = 1 := by simp at hi; omega
    rcases hi2 with rfl | rfl
    · rw [World.cell?_alloc_new]; rfl
    · rw [World.cell?_alloc_new]; rfl)).mono ?_
  rintro e w' ⟨he, hb⟩
  exact ⟨he, ((Below.refl _ W).alloc (Nat.le_refl _) _).trans (hb.mono (by simp))⟩

def ndOf (D : PD) (p : ByteArray) : Nd := (lookupM D.now p).getD zNd
def renameR (D : PD) (a b : ByteArray) : PD × Int :=
  if askedE D.down [a, b] ≠ 0 then (D, askedE D.down [a, b]) else if fileE D.now a ≠ 0 then (D, fileE D.now a) else if parentE D.now b ≠ 0 then (D, parentE D.now b)
  else if ((lookupM D.now b).isSome && (ndOf D b).dir) = true then (D, 9) else (if stepDoes D then (stepD D).changed [(a, none), (b, some (ndOf D a))] else stepD D, stepE D)

/-- What the walk reads in any world behind W1. -/
structure RenRd (W1 : World) (B bd bs bn : Nat) (vl vf : Value) (D : PD) (M : Nat → Prop) (a b : ByteArray) (w' : World) : Prop where
  x0 : w'.cell? ⟨B, 0, none⟩ = some (.pointer (some ⟨bd, 0, none⟩))
  x1 : w'.cell? ⟨B + 1, 0, none⟩ = some (.string a)
  x2 : w'.cell? ⟨B + 1 + 1, 0, none⟩ = some (.string b)
  d : DiskAt w' bd bs bn vl vf D M
  l : W1.heap.size ≤ w'.heap.size

set_option maxHeartbeats 4000000 in
theorem Rename_calls {w : World} {bd : Nat} {O M : Nat → Prop} {D : PD} (h : DiskIs w bd O M D) (hF : D.Fine) (hA : Amb w) (a b : ByteArray) (hsa : a.size ≤ 1000000) (hsb : b.size ≤ 1000000) :
    Calls Tryd.prog 13 #[.pointer (some ⟨bd, 0, none⟩), .string a, .string b] w fun e w' => e = .returned (.int .i64 (renameR D a b).2) ∧ Leaves w bd O M (renameR D a b).1 w' := by
  have H0 := h
  obtain ⟨bs, bn, vl, vf, hd, hO⟩ := h
  obtain ⟨Wa, hWa⟩ : ∃ Wa, Wa = w.alloc (.cells #[.pointer (some ⟨bd, 0, none⟩)] 25) := ⟨_, rfl⟩
  obtain ⟨Wb, hWb⟩ : ∃ Wb, Wb = Wa.alloc (.cells #[.string a] 9) := ⟨_, rfl⟩
  obtain ⟨W1, hW1⟩ : ∃ W1, W1 = Wb.alloc (.cells #[.string b] 9) := ⟨_, rfl⟩
  have hsA : Wa.heap.size = w.heap.size + 1 := by rw [hWa]; simp
  have hsB : Wb.heap.size = w.heap.size + 1 + 1 := by rw [hWb]; simp [hsA]
  have hs1 : W1.heap.size = w.heap.size + 1 + 1 + 1 := by rw [hW1]; simp [hsB]
  have hb1 : Below w.heap.size w W1 := by
    rw [hW1, hWb, hWa]; exact (((Below.refl _ _).alloc (Nat.le_refl _) _).alloc (by simp) _).alloc (by simp; omega) _
  have x0 : W1.cell? ⟨w.heap.size, 0, none⟩ = some (.pointer (some ⟨bd, 0, none⟩)) := by
    rw [hW1, World.cell?_alloc_lt _ _ _ (by simp [hsB]; omega), hWb, World.cell?_alloc_lt _ _ _ (by simp [hsA]), hWa, World.cell?_alloc_new]; rfl
  have x1 : W1.cell? ⟨w.heap.size + 1, 0, none⟩ = some (.string a) := by
    rw [hW1, World.cell?_alloc_lt _ _ _ (by simp [hsB]), hWb, ← hsA, World.cell?_alloc_new]; rfl
  have x2 : W1.cell? ⟨w.heap.size + 1 + 1, 0, none⟩ = some (.string b) := by
    rw [hW1, ← hsB, World.cell?_alloc_new]; rfl
  have hd1 : DiskAt W1 bd bs bn vl vf D M := hd.goes (Goes.of_below hb1 (fun _ => False) M) (fun _ q => q.elim) (fun _ _ q => q)
  have q0 : w.heap.size < W1.heap.size := by omega
  have q1 : w.heap.size + 1 < W1.heap.size := by omega
  have q2 : w.heap.size + 1 + 1 < W1.heap.size := by omega
  have hAs := asked_two bd D.down a b W1 (hA.below hb1) hd1.down
  have HRD : Hid (∀ w', Below W1.heap.size W1 w' → RenRd W1 w.heap.size bd bs bn vl vf D M a b w') := fun w' hb =>
    ⟨(hb.cell (p := ⟨w.heap.size, 0, none⟩) q0).trans x0, (hb.cell (p := ⟨w.heap.size + 1, 0, none⟩) q1).trans x1, (hb.cell (p := ⟨w.heap.size + 1 + 1, 0, none⟩) q2).trans x2,
      hd1.goes (Goes.of_below hb (fun _ => False) M) (fun _ q => q.elim) (fun _ _ q => q), hb.size⟩
  have fin0 : Hid (∀ w', Below W1.heap.size W1 w' → Leaves w bd O M D w') := fun w' hb => Leaves.same H0 (hb1.trans (hb.mono hb1.size))
  have HB1 := Lib.hid hb1
  have hM1 : ∀ k, w.heap.size ≤ k → ¬ M k := fun k hk q => by have := hd.mlt _ q; omega
  have HM1 := Lib.hid hM1
  have hR : renameR D a b = if askedE D.down [a, b] ≠ 0 then (D, askedE D.down [a, b]) else if fileE D.now a ≠ 0 then (D, fileE D.now a) else if parentE D.now b ≠ 0 then (D, parentE D.now b)
    else if ((lookupM D.now b).isSome && (ndOf D b).dir) = true then (D, 9) else (if stepDoes D then (stepD D).changed [(a, none), (b, some (ndOf D a))] else stepD D, stepE D) := rfl
  have HR := Lib.hid hR
  have HWa := Lib.hid hWa
  have HWb := Lib.hid hWb
  have HW1 := Lib.hid hW1
  have HF := Lib.hid hF
  have HO := Lib.hid hO
  have HS1 := Lib.hid hs1
  have HSB : Hid (w.heap.size + 1 + 1 + 1 = W1.heap.size) := hs1.symm
  have Q0 := Lib.hid q0
  have Q1 := Lib.hid q1
  have Q2 := Lib.hid q2
  clear hR hWa hWb hW1 hF hO hs1 hsA hsB H0 hd hd1 x0 x1 x2 hb1 hA hM1
  go_enter Tryd.func13, Tryd.ntmps13
  go_wp2_with fail
  rw [← HWa.out, ← HWb.out, ← HW1.out]
  have R1 := Lib.hid (HRD.out W1 (Below.refl _ _))
  have x0 := R1.out.x0
  have x1 := R1.out.x1
  have x2 := R1.out.x2
  go_wp2_with fail
  rw [HSB.out]
  refine hAs.mono ?_
  rintro e w2 ⟨rfl, hb2⟩
  clear x0 x1 x2 R1 hAs
  have HB2 := Lib.hid hb2
  clear hb2
  generalize hq : askedE D.down [a, b] = q at *
  by_cases h0 : q = 0
  case neg =>
    have hx : renameR D a b = (D, q) := by rw [HR.out, if_pos h0]
    have HX := Lib.hid hx
    clear hx HR hq
    have hq'' : (q != 0) = true := by simpa using h0
    clear h0
    go_wp2
    go_ret
    exact ⟨by rw [HX.out]; rfl, by rw [HX.out]; exact fin0.out _ HB2.out⟩
  case pos =>
  subst h0
  have hx : renameR D a b = if fileE D.now a ≠ 0 then (D, fileE D.now a) else if parentE D.now b ≠ 0 then (D, parentE D.now b)
    else if ((lookupM D.now b).isSome && (ndOf D b).dir) = true then (D, 9) else (if stepDoes D then (stepD D).changed [(a, none), (b, some (ndOf D a))] else stepD D, stepE D) := HR.out
  have HX := Lib.hid hx
  clear hx HR hq
  have R2 := Lib.hid (HRD.out w2 HB2.out)
  have x0 := R2.out.x0
  have x1 := R2.out.x1
  have hnow := R2.out.d.nowC
  by_cases he : fileE D.now a = 0
  case neg =>
    have hFO := file_err bd bn D.now a w2 hnow R2.out.d.now he
    have hx : renameR D a b = (D, fileE D.now a) := by rw [HX.out, if_pos he]
    have HX2 := Lib.hid hx
    have hq : (fileE D.now a != 0) = true := by simpa using he
    clear hx HX he hnow
    generalize fileE D.now a = q at *
    go_wp2_with fail
    refine hFO.mono ?_
    rintro e w3 ⟨rfl, hb3⟩
    clear hFO
    have HB3 := Lib.hid hb3
    clear hb3 x0 x1
    go_wp2
    go_ret
    exact ⟨by rw [HX2.out]; rfl, by rw [HX2.out]; exact fin0.out _ (HB2.out.trans (HB3.out.mono HB2.out.size))⟩
  case pos =>
  obtain ⟨id, hl⟩ := fileE_zero he
  have hid : id < D.files.length := HF.out.nowIds _ (lookupM_mem hl) rfl
  obtain ⟨g, cap, vb, hfa⟩ := R2.out.d.fileAt hid
  have hfc := R2.out.d.filesC
  rw [hfa.slice] at hfc
  have hFO := file_ok bd bn D.now a id w2 hnow R2.out.d.now hl g D.files.length cap hfc hid HF.out.files
  have hx : renameR D a b = if parentE D.now b ≠ 0 then (D, parentE D.now b)
    else if ((lookupM D.now b).isSome && (ndOf D b).dir) = true then (D, 9) else (if stepDoes D then (stepD D).changed [(a, none), (b, some (ndOf D a))] else stepD D, stepE D) := by rw [HX.out, if_neg (by simpa using he)]
  have HX2 := Lib.hid hx
  have HL := Lib.hid hl
  clear hx HX hl he hid hfa hfc hnow
  go_wp2_with fail
  refine hFO.mono ?_
  rintro e w3 ⟨rfl, hb3⟩
  clear hFO x0 x1 R2
  have HB3 : Hid (Below W1.heap.size W1 w3) := HB2.out.trans (hb3.mono HB2.out.size)
  clear hb3
  have R3 := Lib.hid (HRD.out w3 HB3.out)
  have x0 := R3.out.x0
  have x2 := R3.out.x2
  have hP := parent_calls bd bn D.now b w3 hsb R3.out.d.nowC R3.out.d.now
  go_wp2_with fail
  refine hP.mono ?_
  rintro e w4 ⟨rfl, hb4⟩
  clear hP x0 x2 R3
  have HB4 : Hid (Below W1.heap.size W1 w4) := HB3.out.trans (hb4.mono HB3.out.size)
  clear hb4
  generalize hq : parentE D.now b = q at *
  by_cases h0 : q = 0
  case neg =>
    have hx : renameR D a b = (D, q) := by rw [HX2.out, if_pos h0]
    have HX := Lib.hid hx
    clear hx HX2 hq
    have hq'' : (q != 0) = true := by simpa using h0
    clear h0
    go_wp2
    go_ret
    exact ⟨by rw [HX.out]; rfl, by rw [HX.out]; exact fin0.out _ HB4.out⟩
  case pos =>
  subst h0
  have hx : renameR D a b = if ((lookupM D.now b).isSome && (ndOf D b).dir) = true then (D, 9) else (if stepDoes D then (stepD D).changed [(a, none), (b, some (ndOf D a))] else stepD D, stepE D) := HX2.out
  have HX := Lib.hid hx
  clear hx HX2 hq
  have R4 := Lib.hid (HRD.out w4 HB4.out)
  have x0 := R4.out.x0
  have x2 := R4.out.x2
  have n4 := R4.out.d.nowC
  have k1 := (show MapAt w4.drew bn D.now from R4.out.d.now).look_is b
  have k2 := (show MapAt (w4.alloc (.cells #[.bool false, .int .i64 0] 60)).drew bn D.now from R4.out.d.now.kept (Below.heap_alloc _ _ _ R4.out.d.now.lt)).look_is b
  have ld4 := R4.out.d.lt
  have l40 : w.heap.size < w4.heap.size := Nat.lt_of_lt_of_le Q0.out R4.out.l
  have l42 : w.heap.size + 1 + 1 < w4.heap.size := Nat.lt_of_lt_of_le Q2.out R4.out.l
  unfold ndOf at HX
  have HNA : Hid ((lookupM D.now a).getD zNd = ⟨false, id⟩) := by unfold Hid; rw [HL.out]; rfl
  rw [HNA.out] at HX
  generalize (lookupM D.now b).isSome = is at *
  generalize ((lookupM D.now b).getD zNd).dir = nd at *
  generalize (((lookupM D.now b).getD zNd).id : Int) = ni at *
  go_wp2_with fail
  go_upto_region 10 with fail
  go_cut [11, 12] (fun s11 s12 wx => s11 = .pointer (some ⟨w4.heap.size, 0, none⟩) ∧ s12 = .bool is ∧ Hid (wx.cell? ⟨w4.heap.size, 0, none⟩ = some (.bool nd)) ∧ Hid (Below w4.heap.size w4 wx))
  case first =>
    go_region
    all_goals (go_wp2_with fail; go_meet; exact ⟨rfl, rfl, (World.cell?_alloc_new _ _ _ _).trans rfl, ((Below.refl _ _).alloc (Nat.le_refl _) _).drew⟩)
  case rest =>
  obtain ⟨rfl, rfl, hcx, HB5'⟩ := hcut
  have HB5 : Hid (Below W1.heap.size W1 wc) := HB4.out.trans (HB5'.out.mono HB4.out.size)
  clear k1 k2 x0 x2 n4 ld4 l40 l42 R4 HB5'
  have hcx' := hcx.out
  by_cases hb : (is && nd) = true
  case pos =>
    have hx : renameR D a b = (D, 9) := by rw [HX.out, if_pos hb]
    have HX2 := Lib.hid hx
    simp only [Bool.and_eq_true] at hb
    obtain ⟨rfl, rfl⟩ := hb
    clear hx HX
    go_wp2
    go_ret
    exact ⟨by rw [HX2.out]; rfl, by rw [HX2.out]; exact fin0.out _ HB5.out⟩
  case neg =>
  have hx : renameR D a b = (if stepDoes D then (stepD D).changed [(a, none), (b, some ⟨false, id⟩)] else stepD D, stepE D) := by rw [HX.out, if_neg hb]
  have HX2 := Lib.hid hx
  clear hx HX
  have R5 := Lib.hid (HRD.out wc HB5.out)
  have x0 := R5.out.x0
  have x1 := R5.out.x1
  have n5 := R5.out.d.nowC
  have k1 := (show MapAt wc.drew bn D.now from R5.out.d.now).look1_is a
  have k2 := (show MapAt (wc.alloc (.cells #[.bool false, .int .i64 0] 60)).drew bn D.now from R5.out.d.now.kept (Below.heap_alloc _ _ _ R5.out.d.now.lt)).look1_is a
  rw [HNA.out] at k1 k2
  simp only at k1 k2
  have ld5 := R5.out.d.lt
  have l50 : w.heap.size < wc.heap.size := Nat.lt_of_lt_of_le Q0.out R5.out.l
  have l51 : w.heap.size + 1 < wc.heap.size := Nat.lt_of_lt_of_le Q1.out R5.out.l
  have hST : Hid (∀ w6, Below W1.heap.size W1 w6 → ∀ bx, w.heap.size ≤ bx → w6.cell? ⟨bx, 0, none⟩ = some (.bool false) → w6.cell? ⟨bx, 1, none⟩ = some (.int .i64 id) →
      Calls Tryd.prog 27 #[.pointer (some ⟨bd, 0, none⟩), .func (.func 32) #[] #[.pointer (some ⟨w.heap.size, 0, none⟩), .pointer (some ⟨w.heap.size + 1, 0, none⟩), .pointer (some ⟨w.heap.size + 1 + 1, 0, none⟩), .pointer (some ⟨bx, 0, none⟩)]] w6
        fun e w' => e = .returned (.int .i64 (renameR D a b).2) ∧ Leaves w bd O M (renameR D a b).1 w') := fun w6 hb6 bx hbx hc0 hc1 => by
    have R6 := HRD.out w6 hb6
    have hb06 : Below w.heap.size w w6 := HB1.out.trans (hb6.mono HB1.out.size)
    have lb := World.block_lt_of_cell? _ _ hc0
    simp only at lb
    have nb : ∀ k, w.heap.size ≤ k → k ≠ bd := fun k hk e => HM1.out k hk (e ▸ R6.d.dM)
    have c0 : w.heap.size < w6.heap.size := Nat.lt_of_lt_of_le Q0.out R6.l
    have c1 : w.heap.size + 1 < w6.heap.size := Nat.lt_of_lt_of_le Q1.out R6.l
    have c2 : w.heap.size + 1 + 1 < w6.heap.size := Nat.lt_of_lt_of_le Q2.out R6.l
    have := step_calls R6.d HF.out 32 #[.pointer (some ⟨w.heap.size, 0, none⟩), .pointer (some ⟨w.heap.size + 1, 0, none⟩), .pointer (some ⟨w.heap.size + 1 + 1, 0, none⟩), .pointer (some ⟨bx, 0, none⟩)] (enters_of Tryd.func32 (by kernel_rfl) rfl)
      (fun w' => Leaves w bd O M ((stepD D).changed [(a, none), (b, some ⟨false, id⟩)]) w') (fun _ W hW hG => by
        have el : (stepD D).loose = D.loose := by unfold stepD PD.stepped; split <;> rfl
        refine (Rename1_calls hW (by rw [el]; exact HF.out.loose) a b ⟨false, id⟩ w.heap.size (w.heap.size + 1) (w.heap.size + 1 + 1) bx ((hG.cell (a := ⟨w.heap.size, 0, none⟩) c0 (nb _ (Nat.le_refl _))).trans R6.x0)
          ((hG.cell (a := ⟨w.heap.size + 1, 0, none⟩) c1 (nb (w.heap.size + 1) (by omega))).trans R6.x1) ((hG.cell (a := ⟨w.heap.size + 1 + 1, 0, none⟩) c2 (nb (w.heap.size + 1 + 1) (by omega))).trans R6.x2)
          ((hG.cell (a := ⟨bx, 0, none⟩) lb (nb _ hbx)).trans hc0) ((hG.cell (a := ⟨bx, 1, none⟩) lb (nb _ hbx)).trans hc1) (HM1.out _ hbx)).mono ?_
        rintro e w' ⟨he, vl', h1, h2⟩
        exact ⟨he, O, M, ⟨bs, bn, vl', vf, h1, HO.out⟩, (Moves.below hb06).trans (⟨(hG.wide (O' := O) (fun k _ e => (HO.out k).2 (.inl e))).trans (h2.wide (O' := O) (fun k _ q => (HO.out k).2 q)) (fun _ _ q => q), fun _ _ q => q⟩)⟩)
    refine this.mono ?_
    rintro e w' ⟨he, hP⟩
    rw [HX2.out]
    exact ⟨he, step_leaves HO.out hb06 hP⟩
  have fin : ∀ (is nd : Bool), (is && nd) = false → True := fun _ _ _ => trivial
  have hb' : (is && nd) = false := by simpa using hb
  clear hb fin HX2
  have hrest : Hid (w.heap.size ≤ wc.heap.size) := Nat.le_of_lt l50
  have hcase : is = false ∨ (is = true ∧ nd = false) := by cases is <;> cases nd <;> simp_all
  clear hb'
  obtain ⟨wd, rfl⟩ : ∃ wd, wd = wc := ⟨wc, rfl⟩
  rcases hcase with rfl | ⟨rfl, rfl⟩
  all_goals
    go_wp2_with fail
    go_upto_region 13 with fail
    go_cut [13] (fun s13 wx => s13 = .pointer (some ⟨wd.heap.size, 0, none⟩) ∧ Hid (wx.cell? ⟨wd.heap.size, 0, none⟩ = some (.bool false)) ∧ Hid (wx.cell? ⟨wd.heap.size, 1, none⟩ = some (.int .i64 id)) ∧ Hid (Below wd.heap.size wd wx))
    case first =>
      go_region
      all_goals (go_wp2_with fail; go_meet; exact ⟨rfl, (World.cell?_alloc_new _ _ _ _).trans rfl, (World.cell?_alloc_new _ _ _ _).trans rfl, ((Below.refl _ _).alloc (Nat.le_refl _) _).drew⟩)
    case rest =>
      obtain ⟨rfl, e0, e1, e2⟩ := hcut
      have HB6 : Hid (Below W1.heap.size W1 wc) := HB5.out.trans (e2.out.mono HB5.out.size)
      have HC := hST.out _ HB6.out _ hrest.out e0.out e1.out
      have x0 := (HRD.out _ HB6.out).x0
      go_wp2_with fail
      refine HC.mono ?_
      rintro e w7 ⟨rfl, hL⟩
      have HL := Lib.hid hL
      clear hL HC
      go_wp2
      go_ret
      exact ⟨rfl, HL.out⟩
end Go.Proofs.YtihojcjijbidpaaDoor
