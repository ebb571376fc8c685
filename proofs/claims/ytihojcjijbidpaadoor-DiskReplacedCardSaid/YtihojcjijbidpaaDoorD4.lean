/- The walk of step. -/
import Derived.Test.YtihojcjijbidpaaDoorD1
import Derived.Deep.DeepCutAuto
import Derived.Deep.CutBlock
namespace Go.Proofs.YtihojcjijbidpaaDoor
open Go.RowKit Go.Shelf Go.Sort

def ticked (n : Int) : Int := if n = -1 then -1 else n - 1
/-- tick, whatever the count; the world behind it. -/
def tickW (w : World) (a : Addr) (n : Int) : World := if n = -1 then w else w.setCell a (.int .i64 (n - 1))
theorem tick_any (a : Addr) (n : Int) (w : World) (h0 : -1 ≤ n) (h1 : n ≤ 9223372036854775807) (hc : w.cell? a = some (.int .i64 n)) (hf : w.frozen? a = false) :
    Calls Tryd.prog 40 #[.pointer (some a)] w fun e w' => e = .returned (.bool (n == 0)) ∧ tickW w a n = w' := by
  unfold tickW
  by_cases h : n = -1
  · subst h
    rw [if_pos rfl]
    exact tick_never a w hc
  · rw [if_neg h]
    exact tick_more a n w (by omega) h1 hc hf

/-- What step does ahead of the call: the counts. -/
def PD.stepped (D : PD) : PD := { D with ops := D.ops + 1, fails := ticked D.fails, wrong := ticked D.wrong }

section
variable {w : World} {bd bs bn : Nat} {vl vf : Value} {D : PD} {M : Nat → Prop}
theorem DiskAt.store (h : DiskAt w bd bs bn vl vf D M) {i : Nat} {v : Value} {D' : PD} (hc : (diskCells D bs bn vl vf).setIfInBounds i v = diskCells D' bs bn vl vf) (hs : D'.sure = D.sure) (hn : D'.now = D.now) (hl : D'.loose = D.loose) (hf : D'.files = D.files) :
    DiskAt (w.setCell ⟨bd, i, none⟩ v) bd bs bn vl vf D' M := by
  have hg : Goes (fun k => k = bd) M M w (w.setCell ⟨bd, i, none⟩ v) := goes_setCell M w ⟨bd, i, none⟩ v rfl
  have hO : ∀ k, k = bd → M k := fun k e => e ▸ h.dM
  obtain ⟨vs, f1, f2⟩ := h.files
  refine ⟨?_, by rw [hs]; exact h.sure.kept (Below.heap_setCell _ _ _ _ (fun e => h.sureM (e ▸ h.dM))), h.sureM, by rw [hn]; exact h.now.kept (Below.heap_setCell _ _ _ _ h.ne.symm), h.nowM, h.ne, h.dM, by rw [hl]; exact h.loose.goes hg hO, ⟨vs, ?_, by rw [hf]; exact f2.goes hg hO⟩, h.filesM, fun k q => by simpa using h.mlt k q⟩
  · rw [← hc]
    simp [World.setCell, Array.getElem?_modify, h.cells]
  · rw [hf]
    refine ⟨f1.1, ?_⟩
    rcases f1.2 with q | ⟨g, cap, cur, rfl, q1, q2, q3⟩
    · exact .inl q
    · exact .inr ⟨g, cap, cur, rfl, q1, (Below.heap_setCell _ _ _ _ ((h.filesM g rfl).2.1)).trans q2, q3⟩
theorem DiskAt.store' (h : DiskAt w bd bs bn vl vf D M) {D' : PD} (hc : D' = D) : DiskAt w bd bs bn vl vf D' M := hc ▸ h
theorem DiskAt.tickFails (h : DiskAt w bd bs bn vl vf D M) : DiskAt (tickW w ⟨bd, 7, none⟩ D.fails) bd bs bn vl vf { D with fails := ticked D.fails } M := by
  unfold tickW ticked
  split
  · rename_i e; exact h.store' (by cases D; simp at e ⊢; exact e.symm)
  · exact h.store rfl rfl rfl rfl rfl
theorem DiskAt.tickWrong (h : DiskAt w bd bs bn vl vf D M) : DiskAt (tickW w ⟨bd, 9, none⟩ D.wrong) bd bs bn vl vf { D with wrong := ticked D.wrong } M := by
  unfold tickW ticked
  split
  · rename_i e; exact h.store' (by cases D; simp at e ⊢; exact e.symm)
  · exact h.store rfl rfl rfl rfl rfl
theorem tickW_goes (w : World) (bd i : Nat) (n : Int) (M : Nat → Prop) : Goes (fun k => k = bd) M M w (tickW w ⟨bd, i, none⟩ n) := by
  unfold tickW
  split
  · exact Goes.refl _ _ _
  · exact goes_setCell M w ⟨bd, i, none⟩ _ rfl

def stepD (D : PD) : PD := if D.fails = 0 then { D.stepped with down := true } else D.stepped
def stepDoes (D : PD) : Bool := if D.fails = 0 then D.done else decide (D.wrong ≠ 0)
def stepE (D : PD) : Int := if D.fails = 0 then 11 else if D.wrong = 0 then 12 else 0
def StepPost (bd bs bn : Nat) (vl vf : Value) (D : PD) (M : Nat → Prop) (R : World → Prop) (w w' : World) : Prop :=
  if stepDoes D then R w' else DiskAt w' bd bs bn vl vf (stepD D) M ∧ Goes (fun k => k = bd) M M w w'

set_option maxHeartbeats 1000000 in
theorem step_calls (h : DiskAt w bd bs bn vl vf D M) (hF : D.Fine) (f : Nat) (caps : Array Value) (eg : ∀ args w, (callFunc f args).run Tryd.prog w = .ok (.enter f args) w) (R : World → Prop)
    (hdo : stepDoes D = true → ∀ W, DiskAt W bd bs bn vl vf (stepD D) M → Goes (fun k => k = bd) M M w W → Calls Tryd.prog f caps W fun e w' => e = .returned (.tuple #[]) ∧ R w') :
    Calls Tryd.prog 27 #[.pointer (some ⟨bd, 0, none⟩), .func (.func f) #[] caps] w fun e w' => e = .returned (.int .i64 (stepE D)) ∧ StepPost bd bs bn vl vf D M R w w' := by
  have c6 := h.ops
  have f6 := h.free 6
  have o0 := hF.ops0
  have o1 := hF.ops1
  -- behind ops++
  have HW : Hid (DiskAt (w.setCell ⟨bd, 6, none⟩ (.int .i64 (D.ops + 1))) bd bs bn vl vf { D with ops := D.ops + 1 } M ∧ Goes (fun k => k = bd) M M w (w.setCell ⟨bd, 6, none⟩ (.int .i64 (D.ops + 1)))) :=
    ⟨h.store rfl rfl rfl rfl rfl, goes_setCell M w ⟨bd, 6, none⟩ _ rfl⟩
  have hF' := Lib.hid hF
  clear h hF
  go_enter Tryd.func27, Tryd.ntmps27
  go_wp2_with fail
  obtain ⟨W0, hW0⟩ : ∃ W0, W0 = w.setCell ⟨bd, 6, none⟩ (.int .i64 (D.ops + 1)) := ⟨_, rfl⟩
  rw [← hW0] at HW ⊢
  clear hW0 c6 f6
  have e0 : DiskAt W0.drew bd bs bn vl vf { D with ops := D.ops + 1 } M := HW.out.1.goes (Goes.of_drewN (fun _ => False) M W0 1) (fun _ h => h.elim) (fun _ _ h => h)
  have e1 := e0.tickFails
  have T1 := tick_any ⟨bd, 7, none⟩ D.fails W0.drew hF'.out.fails0 hF'.out.fails1 e0.fails (e0.free 7)
  have T2 := tick_any ⟨bd, 9, none⟩ D.wrong (tickW W0.drew ⟨bd, 7, none⟩ D.fails) hF'.out.wrong0 hF'.out.wrong1 e1.wrong (e1.free 9)
  have H3 : Hid (DiskAt (tickW (tickW W0.drew ⟨bd, 7, none⟩ D.fails) ⟨bd, 9, none⟩ D.wrong) bd bs bn vl vf D.stepped M ∧ Goes (fun k => k = bd) M M w (tickW (tickW W0.drew ⟨bd, 7, none⟩ D.fails) ⟨bd, 9, none⟩ D.wrong)) :=
    ⟨e1.tickWrong, ((HW.out.2.trans (Goes.of_drewN (fun _ => False) M W0 1) (fun _ _ h => h.elim)).trans (tickW_goes _ bd 7 D.fails M) (fun _ _ e => e)).trans (tickW_goes _ bd 9 D.wrong M) (fun _ _ e => e)⟩
  clear e0 e1 hF' HW
  go_cut [5, 6] (fun s5 s6 wx => s5 = .bool (D.fails == 0) ∧ s6 = .bool (D.wrong == 0) ∧ Hid (DiskAt wx bd bs bn vl vf D.stepped M) ∧ Hid (Goes (fun k => k = bd) M M w wx))
  case first =>
    go_region_with (first | (go_at_call_of 40 (Value.pointer (some ⟨bd, 7, none⟩)); refine T1.mono ?_; rintro e w1 ⟨rfl, rfl⟩) | (go_at_call_of 40 (Value.pointer (some ⟨bd, 9, none⟩)); refine T2.mono ?_; rintro e w1 ⟨rfl, rfl⟩))
    all_goals (go_wp2_with fail; go_meet; exact ⟨rfl, rfl, H3.out.1, H3.out.2⟩)
  case rest =>
    obtain ⟨rfl, rfl, HD, HG⟩ := hcut
    clear T1 T2 H3
    have d5 := HD.out.down
    have d8 := HD.out.done
    have f5 := HD.out.free 5
    have HE : Hid (stepE D = if D.fails = 0 then 11 else if D.wrong = 0 then 12 else 0) := rfl
    have HP : Hid (∀ w', StepPost bd bs bn vl vf D M R w w' = if stepDoes D then R w' else DiskAt w' bd bs bn vl vf (stepD D) M ∧ Goes (fun k => k = bd) M M w w') := fun _ => rfl
    by_cases hf : D.fails = 0
    · have hfb : (D.fails == 0) = true := by simpa using hf
      have hX : DiskAt (wc.setCell ⟨bd, 5, none⟩ (.bool true)) bd bs bn vl vf (stepD D) M := by
        have : stepD D = { D.stepped with down := true } := by simp [stepD, hf]
        rw [this]
        exact HD.out.store rfl rfl rfl rfl rfl
      have HX := Lib.hid hX; clear hX
      have HG2 : Hid (Goes (fun k => k = bd) M M w (wc.setCell ⟨bd, 5, none⟩ (.bool true))) := HG.out.trans (goes_setCell (O := fun k => k = bd) M wc ⟨bd, 5, none⟩ _ rfl) (fun _ _ e => e)
      have hsd : stepDoes D = D.done := by simp [stepDoes, hf]
      have hse : stepE D = 11 := by simp [stepE, hf]
      rw [hsd] at hdo HP
      have HSE := Lib.hid hse
      clear hsd hse hf HE
      have hdd : D.stepped.done = D.done := rfl
      rw [hdd] at d8
      clear hdd
      generalize D.done = dn at *
      rw [hfb]
      cases dn with
      | false =>
        clear hdo
        go_wp2
        go_ret
        exact ⟨by rw [HSE.out]; rfl, by rw [HP.out]; exact ⟨HX.out, HG2.out⟩⟩
      | true =>
        have hC := hdo rfl _ HX.out HG2.out
        clear hdo
        go_wp2_with fail
        refine hC.mono ?_
        rintro e w2 ⟨rfl, hR⟩
        have HR := Lib.hid hR; clear hR
        go_wp2
        go_ret
        exact ⟨by rw [HSE.out]; rfl, by rw [HP.out]; exact HR.out⟩
    · have hfb : (D.fails == 0) = false := by simpa using hf
      have hsD : stepD D = D.stepped := by simp [stepD, hf]
      have hsd : stepDoes D = decide (D.wrong ≠ 0) := by simp [stepDoes, hf]
      have hse : stepE D = if D.wrong = 0 then 12 else 0 := by simp [stepE, hf]
      rw [hsd, hsD] at hdo
      rw [hsd, hsD] at HP
      rw [hfb]
      by_cases hw : D.wrong = 0
      · have hwb : (D.wrong == 0) = true := by simpa using hw
        rw [if_pos hw] at hse
        have hd : decide (D.wrong ≠ 0) = false := by simpa using hw
        rw [hd] at HP
        have HSE := Lib.hid hse
        clear hdo hse HE hsd hsD hd hw hf
        rw [hwb]
        go_wp2
        go_ret
        exact ⟨by rw [HSE.out]; rfl, by rw [HP.out]; exact ⟨HD.out, HG.out⟩⟩
      · have hwb : (D.wrong == 0) = false := by simpa using hw
        rw [if_neg hw] at hse
        have hd : decide (D.wrong ≠ 0) = true := by simpa using hw
        rw [hd] at HP hdo
        have HSE := Lib.hid hse
        have hC := hdo rfl _ HD.out HG.out
        clear hdo hse HE hsd hsD hd hw hf
        rw [hwb]
        go_wp2_with fail
        refine hC.mono ?_
        rintro e w2 ⟨rfl, hR⟩
        have HR := Lib.hid hR; clear hR
        go_wp2
        go_ret
        exact ⟨by rw [HSE.out]; rfl, by rw [HP.out]; exact HR.out⟩
end
end Go.Proofs.YtihojcjijbidpaaDoor
