/- The walk of with. -/
import Derived.Test.YtihojcjijbidpaaDoorD9
namespace Go.Proofs.YtihojcjijbidpaaDoor
open Go.RowKit Go.Shelf Go.Sort

def withR (D : PD) (p : ByteArray) (mayE : Int) (D' : PD) : PD × Int :=
  if askedE D.down [p] ≠ 0 then (D, askedE D.down [p]) else if fileE D.now p ≠ 0 then (D, fileE D.now p) else if mayE ≠ 0 then (D, mayE)
  else (if stepDoes D then D' else stepD D, stepE D)

theorem fileE_zero {m : Names} {p : ByteArray} (h : fileE m p = 0) : ∃ id, lookupM m p = some ⟨false, id⟩ := by
  unfold fileE at h
  cases hl : lookupM m p with
  | none => rw [hl] at h; simp at h
  | some x =>
    rw [hl] at h
    obtain ⟨dir, id⟩ := x
    cases dir with
    | true => simp at h
    | false => exact ⟨id, rfl⟩
theorem lookupM_mem {p : ByteArray} {x : Nd} : ∀ {m : Names}, lookupM m p = some x → (p, x) ∈ m
  | [], h => by simp [lookupM] at h
  | q :: m, h => by
    unfold lookupM at h
    split at h
    · rename_i e; cases h; subst e; simp
    · simp [lookupM_mem h]

set_option maxHeartbeats 2000000 in
theorem with_calls {w : World} {bd bs bn : Nat} {vl vf : Value} {D : PD} {M : Nat → Prop} (h : DiskAt w bd bs bn vl vf D M) (hF : D.Fine) (hA : Amb w) (p : ByteArray) (hs : p.size ≤ 1000000) (fm fd : Nat) (cm cd : Array Value)
    (em : ∀ args w, (callFunc fm args).run Tryd.prog w = .ok (.enter fm args) w) (ed : ∀ args w, (callFunc fd args).run Tryd.prog w = .ok (.enter fd args) w) (mayE : Int) (D' : PD) (R : World → Prop)
    (hmay : ∀ (id g cap : Nat) (vb : Value) (W : World), lookupM D.now p = some ⟨false, id⟩ → FileAt W vf D M id g cap vb → DiskAt W bd bs bn vl vf D M → Below w.heap.size w W →
      Calls Tryd.prog fm (#[.pointer (some ⟨g, id * 2, none⟩)] ++ cm) W fun e w' => e = .returned (.int .i64 mayE) ∧ Below W.heap.size W w')
    (hdo : mayE = 0 → ∀ (id g cap : Nat) (vb : Value) (W : World), lookupM D.now p = some ⟨false, id⟩ → FileAt W vf D M id g cap vb → DiskAt W bd bs bn vl vf (stepD D) M → Goes (Own bd bn vf) M M w W →
      Calls Tryd.prog fd (#[.pointer (some ⟨g, id * 2, none⟩)] ++ cd) W fun e w' => e = .returned (.tuple #[]) ∧ DiskAt w' bd bs bn vl vf D' M ∧ Goes (Own bd bn vf) M M W w') :
    Calls Tryd.prog 19 #[.pointer (some ⟨bd, 0, none⟩), .string p, .func (.func fm) #[] cm, .func (.func fd) #[] cd] w fun e w' => e = .returned (.int .i64 (withR D p mayE D').2) ∧
      DiskAt w' bd bs bn vl vf (withR D p mayE D').1 M ∧ Goes (Own bd bn vf) M M w w' := by
  obtain ⟨W1, hW1⟩ : ∃ W1, W1 = w.alloc (.cells #[.func (.func fd) #[] cd] 55) := ⟨_, rfl⟩
  have hb1 : Below w.heap.size w W1 := by rw [hW1]; exact (Below.refl _ _).alloc (Nat.le_refl _) _
  have hs1 : W1.heap.size = w.heap.size + 1 := by rw [hW1]; simp
  have x0 : W1.cell? ⟨w.heap.size, 0, none⟩ = some (.func (.func fd) #[] cd) := by rw [hW1]; simp
  have hAs := asked_one bd D.down p W1 (hA.below hb1) ((hb1.cell (p := ⟨bd, 5, none⟩) h.lt).trans h.down)
  have HR : Hid (withR D p mayE D' = if askedE D.down [p] ≠ 0 then (D, askedE D.down [p]) else if fileE D.now p ≠ 0 then (D, fileE D.now p) else if mayE ≠ 0 then (D, mayE)
      else (if stepDoes D then D' else stepD D, stepE D)) := rfl
  have H := Lib.hid h
  have HF := Lib.hid hF
  have X0 := Lib.hid x0
  have HB1 := Lib.hid hb1
  have HS1 := Lib.hid hs1
  have HW1 := Lib.hid hW1
  have ED : Hid (w.heap.size + 1 = W1.heap.size) := hs1.symm
  have HMAY := Lib.hid hmay
  have HDO := Lib.hid hdo
  have atB : Hid (∀ w', Below w.heap.size w w' → DiskAt w' bd bs bn vl vf D M ∧ Goes (Own bd bn vf) M M w w') := fun w' hb => ⟨h.goes (Goes.of_below hb (fun _ => False) M) (fun _ q => q.elim) (fun _ _ q => q), Goes.of_below hb _ _⟩
  clear h hF x0 hb1 hs1 hW1 hmay hdo hA
  go_enter Tryd.func19, Tryd.ntmps19
  go_wp2_with fail
  rw [← HW1.out, ED.out]
  refine hAs.mono ?_
  rintro e w2 ⟨rfl, hb2⟩
  have HB2 : Hid (Below w.heap.size w w2) := HB1.out.trans (hb2.mono HB1.out.size)
  have HB2' := Lib.hid hb2
  clear hb2 hAs
  generalize hq : askedE D.down [p] = q at *
  by_cases h0 : q = 0
  · subst h0
    have hx : withR D p mayE D' = if fileE D.now p ≠ 0 then (D, fileE D.now p) else if mayE ≠ 0 then (D, mayE) else (if stepDoes D then D' else stepD D, stepE D) := HR.out
    have HX := Lib.hid hx
    clear hx HR hq
    have D2 := Lib.hid (atB.out w2 HB2.out).1
    have hnow := D2.out.nowC
    by_cases he : fileE D.now p = 0
    · obtain ⟨id, hl⟩ := fileE_zero he
      have hx : withR D p mayE D' = if mayE ≠ 0 then (D, mayE) else (if stepDoes D then D' else stepD D, stepE D) := by rw [HX.out, if_neg (by simpa using he)]
      have HX2 := Lib.hid hx
      clear hx HX
      have hid : id < D.files.length := HF.out.nowIds _ (lookupM_mem hl) rfl
      obtain ⟨g, cap, vb, hfa⟩ := D2.out.fileAt hid
      have hfc := D2.out.filesC
      rw [hfa.slice] at hfc
      have hFO := file_ok bd bn D.now p id w2 hnow D2.out.now hl g D.files.length cap hfc hid HF.out.files
      have HL := Lib.hid hl
      have HFA := Lib.hid hfa
      clear hfa hfc hl he hnow hid
      go_wp2_with fail
      refine hFO.mono ?_
      rintro e w3 ⟨rfl, hb3⟩
      clear hFO
      have HB3 : Hid (Below w.heap.size w w3) := HB2.out.trans (hb3.mono HB2.out.size)
      have HB3' : Hid (Below W1.heap.size W1 w3) := HB2'.out.trans (hb3.mono HB2'.out.size)
      have lw : w.heap.size < w3.heap.size := by have := HB3'.out.size; have := HS1.out; omega
      have HB23 := Lib.hid hb3
      clear hb3
      -- may(f)
      go_wp2_with fail
      have hb4 : Below w.heap.size w (w3.alloc (.cells #[.pointer (some ⟨g, id * 2, none⟩)] 49)) := HB3.out.alloc HB3.out.size _
      have D4 := (atB.out _ hb4).1
      have FA4 : FileAt (w3.alloc (.cells #[.pointer (some ⟨g, id * 2, none⟩)] 49)) vf D M id g cap vb := by
        have e2 : Below w2.heap.size w2 w3 := HB23.out
        exact HFA.out.goes (Goes.of_below (e2.trans ((Below.refl _ _).alloc e2.size _)) (fun _ => False) M) (fun _ q => q.elim) (fun q => q) rfl
      have hM := HMAY.out id g cap vb _ HL.out FA4 D4 hb4
      have HB4 := Lib.hid hb4
      have FA4' := Lib.hid FA4
      clear FA4 D4 hb4
      refine hM.mono ?_
      rintro e w5 ⟨rfl, hb5⟩
      clear hM
      have HB5 : Hid (Below w.heap.size w w5) := HB4.out.trans (hb5.mono HB4.out.size)
      have y1 : Hid (w5.cell? ⟨w3.heap.size, 0, none⟩ = some (.pointer (some ⟨g, id * 2, none⟩))) := (hb5.cell (p := ⟨w3.heap.size, 0, none⟩) (by simp)).trans (by simp)
      have y0 : Hid (w5.cell? ⟨w.heap.size, 0, none⟩ = some (.func (.func fd) #[] cd)) := by
        refine (hb5.cell (p := ⟨w.heap.size, 0, none⟩) (by simp; omega)).trans ((World.cell?_alloc_lt _ _ _ lw).trans ((HB3'.out.cell (p := ⟨w.heap.size, 0, none⟩) (by show w.heap.size < _; rw [HS1.out]; omega)).trans X0.out))
      have hs5 : w3.heap.size < w5.heap.size := by have := hb5.size; simp at this; omega
      have FA5 : Hid (FileAt w5 vf D M id g cap vb) := FA4'.out.goes (Goes.of_below hb5 (fun _ => False) M) (fun _ q => q.elim) (fun q => q) rfl
      have D5 : Hid (DiskAt w5 bd bs bn vl vf D M) := (atB.out _ HB5.out).1
      clear hb5
      by_cases hm : mayE = 0
      · have hx : withR D p mayE D' = (if stepDoes D then D' else stepD D, stepE D) := by rw [HX2.out, if_neg (by simpa using hm)]
        have HX3 := Lib.hid hx
        have el : (stepD D).files = D.files := by unfold stepD PD.stepped; split <;> rfl
        have hST := step_calls D5.out HF.out 38 #[.pointer (some ⟨w.heap.size, 0, none⟩), .pointer (some ⟨w3.heap.size, 0, none⟩)] (enters_of Tryd.func38 (by kernel_rfl) rfl)
          (fun w' => DiskAt w' bd bs bn vl vf D' M ∧ Goes (Own bd bn vf) M M w w') (fun _ W hW hG => by
            have hlt := D5.out.mlt
            have n0 : ∀ k, w.heap.size ≤ k → k ≠ bd := fun k q e => by have := H.out.lt; omega
            have u0 := (hG.cell (a := ⟨w.heap.size, 0, none⟩) (Nat.lt_trans lw hs5) (n0 _ (Nat.le_refl _))).trans y0.out
            have u1 := (hG.cell (a := ⟨w3.heap.size, 0, none⟩) hs5 (n0 _ (Nat.le_of_lt lw))).trans y1.out
            have mv : Goes (Own bd bn vf) M M w W := (Goes.of_below HB5.out (fun _ => False) M).quietly (hG.wide (fun k _ e => .inl e))
            have hgd : g ≠ bd := (D5.out.filesM g (by rw [FA5.out.slice]; rfl)).2.1
            have FW : FileAt W vf D M id g cap vb := FA5.out.goes hG (fun k e => e ▸ D5.out.dM) hgd rfl
            refine (with1_calls _ _ fd cd _ W ed u0 u1 (fun w' => DiskAt w' bd bs bn vl vf D' M ∧ Goes (Own bd bn vf) M M W w') ⟨_, rfl⟩ (HDO.out hm id g cap vb W HL.out FW hW mv)).mono ?_
            rintro e w' ⟨he, h1, h2⟩
            exact ⟨he, h1, mv.trans h2 (fun _ _ q => q)⟩)
        subst hm
        clear hx HX2 el
        go_wp2_with fail
        refine hST.mono ?_
        rintro e w6 ⟨rfl, hP⟩
        have HP := Lib.hid hP
        clear hP hST
        go_wp2
        go_ret
        refine ⟨by rw [HX3.out]; rfl, ?_⟩
        rw [HX3.out]
        have hp := HP.out
        unfold StepPost at hp
        split at hp
        · rename_i q
          simp only [q, if_true]
          exact hp
        · rename_i q
          simp only [q, if_false]
          exact ⟨hp.1, (Goes.of_below HB5.out (fun _ => False) M).quietly (hp.2.wide (fun k _ e => .inl e))⟩
      · have hx : withR D p mayE D' = (D, mayE) := by rw [HX2.out, if_pos hm]
        have HX3 := Lib.hid hx
        clear hx HX2
        have hq' : (mayE == 0) = false := by simpa using hm
        have hq'' : (mayE != 0) = true := by simpa using hm
        clear hm
        go_wp2
        go_ret
        have q := atB.out _ HB5.out
        exact ⟨by rw [HX3.out]; rfl, by rw [HX3.out]; exact q.1, q.2⟩
    · have hx : withR D p mayE D' = (D, fileE D.now p) := by rw [HX.out, if_pos he]
      have hFE := file_err bd bn D.now p w2 hnow D2.out.now he
      have HX2 := Lib.hid hx
      clear hx HX
      generalize fileE D.now p = q at *
      have hq' : (q == 0) = false := by simpa using he
      have hq'' : (q != 0) = true := by simpa using he
      clear he
      go_wp2_with fail
      refine hFE.mono ?_
      rintro e w3 ⟨rfl, hb3⟩
      have HB3 : Hid (Below w.heap.size w w3) := HB2.out.trans (hb3.mono HB2.out.size)
      clear hb3 hFE
      go_wp2
      go_ret
      have q := atB.out _ (HB3.out.alloc HB3.out.size (.cells #[.pointer none] 49))
      exact ⟨by rw [HX2.out]; rfl, by rw [HX2.out]; exact q.1, q.2⟩
  · have hx : withR D p mayE D' = (D, q) := by rw [HR.out, if_pos h0]
    have HX := Lib.hid hx
    clear hx HR hq
    have hq' : (q == 0) = false := by simpa using h0
    have hq'' : (q != 0) = true := by simpa using h0
    clear h0
    go_wp2
    go_ret
    have q := atB.out _ HB2.out
    exact ⟨by rw [HX.out]; rfl, by rw [HX.out]; exact q.1, q.2⟩
end Go.Proofs.YtihojcjijbidpaaDoor
