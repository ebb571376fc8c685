/- Create, Mkdir, Down, Ops, Safe, Fail, Fault. -/
import Derived.Test.YtihojcjijbidpaaDoorD17
namespace Go.Proofs.YtihojcjijbidpaaDoor
open Go.RowKit Go.Shelf Go.Sort

theorem Create_calls {w : World} {bd : Nat} {O M : Nat → Prop} {D : PD} (h : DiskIs w bd O M D) (hF : D.Fine) (hA : Amb w) (p : ByteArray) (hs : p.size ≤ 1000000) :
    Calls Tryd.prog 6 #[.pointer (some ⟨bd, 0, none⟩), .string p] w fun e w' => e = .returned (.int .i64 (putR D p false).2) ∧ Leaves w bd O M (putR D p false).1 w' := by
  have HW := put_calls h hF hA p hs false
  clear h hF hA
  go_enter Tryd.func6, Tryd.ntmps6
  go_wp2_with fail
  refine HW.mono ?_
  rintro e w' ⟨rfl, hL⟩
  have HL := Lib.hid hL
  clear hL HW
  go_wp2
  go_ret
  exact ⟨rfl, HL.out⟩

theorem Down_calls {w : World} {bd : Nat} {O M : Nat → Prop} {D : PD} (h : DiskIs w bd O M D) :
    Calls Tryd.prog 12 #[.pointer (some ⟨bd, 0, none⟩)] w fun e w' => e = .returned (.bool D.down) ∧ w' = w := by
  obtain ⟨bs, bn, vl, vf, hd, _⟩ := h
  have c5 := hd.down
  clear hd
  generalize D.down = q at *
  go_enter Tryd.func12, Tryd.ntmps12
  go_wp2
  go_ret
  exact ⟨rfl, rfl⟩

def safeR (D : PD) (p : ByteArray) : Nat := if fileE D.now p = 0 then (fileOf D p).safe else 0

set_option maxHeartbeats 1000000 in
theorem Safe_calls {w : World} {bd : Nat} {O M : Nat → Prop} {D : PD} (h : DiskIs w bd O M D) (hF : D.Fine) (p : ByteArray) :
    Calls Tryd.prog 11 #[.pointer (some ⟨bd, 0, none⟩), .string p] w fun e w' => e = .returned (.int .i64 (safeR D p : Nat)) ∧ Below w.heap.size w w' := by
  obtain ⟨bs, bn, vl, vf, hd, _⟩ := h
  have hnow := hd.nowC
  by_cases he : fileE D.now p = 0
  · obtain ⟨id, hl⟩ := fileE_zero he
    have hid : id < D.files.length := hF.nowIds _ (lookupM_mem hl) rfl
    obtain ⟨g, cap, vb, hfa⟩ := hd.fileAt hid
    have hfc := hd.filesC
    rw [hfa.slice] at hfc
    have hFO := file_ok bd bn D.now p id w hnow hd.now hl g D.files.length cap hfc hid hF.files
    have hr : safeR D p = (D.files.getD id ⟨[], 0⟩).safe := by unfold safeR fileOf fileId; rw [if_pos he, hl]; rfl
    rw [hr]
    have cs := Lib.hid hfa.cellS
    have gl := hfa.glt
    clear hfa hfc hl he hnow hid hr hd hF
    generalize (D.files.getD id ⟨[], 0⟩).safe = s at *
    go_enter Tryd.func11, Tryd.ntmps11
    go_wp2_with fail
    refine hFO.mono ?_
    rintro e w3 ⟨rfl, hb3⟩
    clear hFO
    have c3 : w3.cell? ⟨g, id * 2 + 1, none⟩ = some (.int .i64 (s : Int)) := (hb3.cell (p := ⟨g, id * 2 + 1, none⟩) gl).trans cs.out
    have HB3 := Lib.hid hb3
    clear hb3
    go_wp2
    go_ret
    exact ⟨rfl, HB3.out⟩
  · have hFO := file_err bd bn D.now p w hnow hd.now he
    have hr : safeR D p = 0 := by unfold safeR; rw [if_neg he]
    rw [hr]
    have hq : (fileE D.now p != 0) = true := by simpa using he
    clear hr hd hF hnow he
    generalize fileE D.now p = q at *
    go_enter Tryd.func11, Tryd.ntmps11
    go_wp2_with fail
    refine hFO.mono ?_
    rintro e w3 ⟨rfl, hb3⟩
    clear hFO
    have HB3 := Lib.hid hb3
    clear hb3
    go_wp2
    go_ret
    exact ⟨rfl, HB3.out⟩

def failR (D : PD) (n : Int) (done : Bool) : PD × Int := if D.down then (D, 11) else if n < 0 then (D, 2) else ({ D with fails := n, done := done }, 0)
def faultR (D : PD) (n : Int) : PD × Int := if D.down then (D, 11) else if n < 0 then (D, 2) else ({ D with wrong := n }, 0)

set_option maxHeartbeats 1000000 in
theorem Fail_calls {w : World} {bd : Nat} {O M : Nat → Prop} {D : PD} (h : DiskIs w bd O M D) (n : Int) (done : Bool) :
    Calls Tryd.prog 10 #[.pointer (some ⟨bd, 0, none⟩), .int .i64 n, .bool done] w fun e w' => e = .returned (.int .i64 (failR D n done).2) ∧ Leaves w bd O M (failR D n done).1 w' := by
  have H0 := h
  obtain ⟨bs, bn, vl, vf, hd, hO⟩ := h
  have hAs := asked_none bd D.down w hd.down
  cases hdn : D.down with
  | true =>
    rw [hdn] at hAs
    have hr : failR D n done = (D, 11) := by unfold failR; rw [hdn]; rfl
    rw [hr]
    have HL : Hid (Leaves w bd O M D w) := Leaves.same H0 (Below.refl _ _)
    clear hdn hr hd hO H0
    go_enter Tryd.func10, Tryd.ntmps10
    go_wp2_with fail
    refine hAs.mono ?_
    rintro e w3 ⟨rfl, rfl⟩
    clear hAs
    go_wp2
    go_ret
    exact ⟨rfl, HL.out⟩
  | false =>
    rw [hdn] at hAs
    by_cases hn : n < 0
    · have hr : failR D n done = (D, 2) := by unfold failR; rw [hdn]; simp [hn]
      rw [hr]
      have HL : Hid (Leaves w bd O M D w) := Leaves.same H0 (Below.refl _ _)
      have hn' : decide (n < 0) = true := by simpa using hn
      clear hdn hr hd hO H0 hn
      go_enter Tryd.func10, Tryd.ntmps10
      go_wp2_with fail
      refine hAs.mono ?_
      rintro e w3 ⟨rfl, rfl⟩
      clear hAs
      go_wp2
      go_ret
      exact ⟨rfl, HL.out⟩
    · have hr : failR D n done = ({ D with fails := n, done := done }, 0) := by unfold failR; rw [hdn]; simp [hn]
      rw [hr]
      have hd1 : DiskAt (w.setCell ⟨bd, 7, none⟩ (.int .i64 n)) bd bs bn vl vf { D with fails := n } M := hd.store rfl rfl rfl rfl rfl
      have hd2 : DiskAt ((w.setCell ⟨bd, 7, none⟩ (.int .i64 n)).setCell ⟨bd, 8, none⟩ (.bool done)) bd bs bn vl vf { D with fails := n, done := done } M := hd1.store rfl rfl rfl rfl rfl
      have hg : Goes (fun k => k = bd) M M w ((w.setCell ⟨bd, 7, none⟩ (.int .i64 n)).setCell ⟨bd, 8, none⟩ (.bool done)) := (goes_setCell (O := fun k => k = bd) M w ⟨bd, 7, none⟩ _ rfl).trans (goes_setCell (O := fun k => k = bd) M _ ⟨bd, 8, none⟩ _ rfl) (fun _ _ e => e)
      have HL : Hid (Leaves w bd O M { D with fails := n, done := done } ((w.setCell ⟨bd, 7, none⟩ (.int .i64 n)).setCell ⟨bd, 8, none⟩ (.bool done))) := leaves_of_at hO hd2 (hg.wide (fun k _ e => .inl e))
      have c7 := hd.fails
      have f7 := hd.free 7
      have f8 := hd1.free 8
      have c8 := hd1.done
      have hn' : decide (n < 0) = false := by simpa using hn
      clear hdn hr hd hd1 hd2 hg hO H0 hn
      go_enter Tryd.func10, Tryd.ntmps10
      go_wp2_with fail
      refine hAs.mono ?_
      rintro e w3 ⟨rfl, rfl⟩
      clear hAs
      go_wp2
      go_ret
      exact ⟨rfl, HL.out⟩

end Go.Proofs.YtihojcjijbidpaaDoor
