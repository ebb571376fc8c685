/- SyncDirs. -/
import Derived.Test.YtihojcjijbidpaaDoorD19
namespace Go.Proofs.YtihojcjijbidpaaDoor
open Go.RowKit Go.Shelf Go.Sort

def syncDirsR (D : PD) : PD × Int := if D.down then (D, 11) else (if stepDoes D then syncDirsD (stepD D) else stepD D, stepE D)

theorem step_leaves {w W1 w' : World} {bd bs bn : Nat} {vl vf : Value} {O M : Nat → Prop} {D D2 : PD} (hO : ∀ k, O k ↔ Own bd bn vf k) (hb : Below w.heap.size w W1) (h : StepPost bd bs bn vl vf D M (fun w' => Leaves w bd O M D2 w') W1 w') :
    Leaves w bd O M (if stepDoes D then D2 else stepD D) w' := by
  unfold StepPost at h
  split at h
  · rename_i q
    simp only [q, if_true]
    exact h
  · rename_i q
    simp only [q, if_false]
    exact ⟨O, M, ⟨bs, bn, vl, vf, h.1, hO⟩, (Moves.below hb).trans ⟨h.2.wide (fun k _ e => (hO k).2 (.inl e)), fun _ _ q => q⟩⟩
theorem to_leaves {w W1 W w' : World} {bd bs2 bn : Nat} {vl vf : Value} {O M : Nat → Prop} {D : PD} (hO : ∀ k, O k ↔ Own bd bn vf k) (hb : Below w.heap.size w W1) (hG : Goes (fun k => k = bd) M M W1 W) (h1 : DiskAt w' bd bs2 bn vl vf D M) (h2 : Goes (fun k => k = bd ∨ k = bn) M M W w') : Leaves w bd O M D w' :=
  ⟨O, M, ⟨bs2, bn, vl, vf, h1, hO⟩, (Moves.below hb).trans ⟨((hG.wide (O' := fun k => k = bd ∨ k = bn) (fun _ _ e => .inl e)).trans h2 (fun _ _ q => q) |>.wide (fun k _ e => (hO k).2 (by rcases e with e | e; exact .inl e; exact .inr (.inl e)))), fun _ _ q => q⟩⟩

set_option maxHeartbeats 1000000 in
theorem SyncDirs_calls {w : World} {bd : Nat} {O M : Nat → Prop} {D : PD} (h : DiskIs w bd O M D) (hF : D.Fine) :
    Calls Tryd.prog 9 #[.pointer (some ⟨bd, 0, none⟩)] w fun e w' => e = .returned (.int .i64 (syncDirsR D).2) ∧ Leaves w bd O M (syncDirsR D).1 w' := by
  have H0 := h
  obtain ⟨bs, bn, vl, vf, hd, hO⟩ := h
  obtain ⟨W1, hW1⟩ : ∃ W1, W1 = w.alloc (.cells #[.pointer (some ⟨bd, 0, none⟩)] 25) := ⟨_, rfl⟩
  have hb1 : Below w.heap.size w W1 := by rw [hW1]; exact (Below.refl _ _).alloc (Nat.le_refl _) _
  have x0 : W1.cell? ⟨w.heap.size, 0, none⟩ = some (.pointer (some ⟨bd, 0, none⟩)) := by rw [hW1]; simp
  have l0 : w.heap.size < W1.heap.size := by rw [hW1]; simp
  have hd1 : DiskAt W1 bd bs bn vl vf D M := hd.goes (Goes.of_below hb1 (fun _ => False) M) (fun _ q => q.elim) (fun _ _ q => q)
  have hAs := asked_none bd D.down W1 hd1.down
  cases hdn : D.down with
  | true =>
    rw [hdn] at hAs
    have hr : syncDirsR D = (D, 11) := by unfold syncDirsR; rw [hdn]; rfl
    rw [hr]
    have HL : Hid (Leaves w bd O M D W1) := Leaves.same H0 hb1
    have HW1 := Lib.hid hW1
    clear hdn hr hd hd1 hO H0 hb1 l0 x0 hW1 hF
    go_enter Tryd.func9, Tryd.ntmps9
    go_wp2_with fail
    rw [← HW1.out]
    refine hAs.mono ?_
    rintro e w3 ⟨rfl, rfl⟩
    clear hAs
    go_wp2
    go_ret
    exact ⟨rfl, HL.out⟩
  | false =>
    rw [hdn] at hAs
    have hr : syncDirsR D = (if stepDoes D then syncDirsD (stepD D) else stepD D, stepE D) := by unfold syncDirsR; rw [hdn]; rfl
    have hne : w.heap.size ≠ bd := by have := hd.lt; omega
    have hST := step_calls hd1 hF 28 #[.pointer (some ⟨w.heap.size, 0, none⟩)] (enters_of Tryd.func28 (by kernel_rfl) rfl)
      (fun w' => Leaves w bd O M (syncDirsD (stepD D)) w') (fun _ W hW hG => by
        refine (SyncDirs1_calls hW w.heap.size ((hG.cell (a := ⟨w.heap.size, 0, none⟩) l0 hne).trans x0) hne).mono ?_
        rintro e w' ⟨he, bs2, h1, h2⟩
        exact ⟨he, to_leaves hO hb1 hG h1 (h2.wide (fun _ _ e => .inl e))⟩)
    have hL : ∀ w', StepPost bd bs bn vl vf D M (fun w' => Leaves w bd O M (syncDirsD (stepD D)) w') W1 w' → Leaves w bd O M (if stepDoes D then syncDirsD (stepD D) else stepD D) w' := fun w' hq => step_leaves hO hb1 hq
    rw [hr]
    generalize (if stepDoes D then syncDirsD (stepD D) else stepD D) = D2 at *
    have HL := Lib.hid hL
    have HST := Lib.hid hST
    have HW1 := Lib.hid hW1
    clear hdn hr hd hd1 hO H0 hb1 hW1 hF hL hST
    go_enter Tryd.func9, Tryd.ntmps9
    go_wp2_with fail
    rw [← HW1.out]
    refine hAs.mono ?_
    rintro e w3 ⟨rfl, rfl⟩
    clear hAs
    go_wp2_with fail
    refine HST.out.mono ?_
    rintro e w3 ⟨rfl, hP⟩
    have HP := Lib.hid hP
    clear hP
    go_wp2
    go_ret
    exact ⟨rfl, HL.out _ HP.out⟩
end Go.Proofs.YtihojcjijbidpaaDoor
