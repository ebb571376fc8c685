/- awake, plain. -/
import Derived.Test.YtihojcjijbidpaaDoorG1
namespace Go.Proofs.YtihojcjijbidpaaDoor
open Go.RowKit Go.Shelf Go.Sort

def pT : ByteArray := ⟨#[116]⟩
def pA : ByteArray := ⟨#[97]⟩
theorem checkT : checkB pT = 0 := by kernel_rfl
theorem checkA : checkB pA = 0 := by kernel_rfl
theorem parentT (m : Names) : parentE m pT = 0 := by
  have : (parentB pT).toList.isEmpty = true := by kernel_rfl
  unfold parentE
  rw [if_pos this]
theorem parentA (m : Names) : parentE m pA = 0 := by
  have : (parentB pA).toList.isEmpty = true := by kernel_rfl
  unfold parentE
  rw [if_pos this]
theorem tA : pT ≠ pA := by decide

/-! ### awake's disks -/
def fT : Nd := ⟨false, 0⟩
def cT : Change := [(pT, some fT)]
def cR : Change := [(pT, none), (pA, some fT)]
def ab : List UInt8 := [97, 98]
def aw0 : PD := newD 100
def aw1 : PD := ⟨100, [], [(pT, fT)], [cT], [⟨[], 0⟩], false, 1, -1, false, -1⟩
def aw2 : PD := ⟨100, [], [(pT, fT)], [cT], [⟨ab, 0⟩], false, 2, -1, false, -1⟩
def aw3 : PD := ⟨100, [], [(pT, fT)], [cT], [⟨ab, 2⟩], false, 3, -1, false, -1⟩
def aw4 : PD := ⟨100, [], [(pA, fT)], [cT, cR], [⟨ab, 2⟩], false, 4, -1, false, -1⟩
def aw5 : PD := ⟨100, [(pT, fT)], [(pT, fT)], [], [⟨ab, 2⟩], false, 4, -1, false, -1⟩
def af1 : PD := ⟨100, [(pA, fT)], [(pA, fT)], [], [⟨ab, 2⟩], false, 5, -1, false, -1⟩
theorem aw1_is : putR aw0 pT false = (aw1, 0) := by kernel_rfl
theorem aw2_is : appendR aw1 pT ab = (aw2, 0) := by kernel_rfl
theorem aw3_is : syncR aw2 pT = (aw3, 0) := by kernel_rfl
theorem aw4_is : renameR aw3 pT pA = (aw4, 0) := by kernel_rfl
theorem paths_one {D : PD} {p : ByteArray} {x : Nd} (h : D.now = [(p, x)]) : pathsB D = [p] := by unfold pathsB; rw [h]; simp
theorem aw5_is : crashR aw4 1 [] = aw5 := by
  have h : pathsB (crashN aw4 1) = [pT] := paths_one (x := fT) (by kernel_rfl)
  have e : ∀ ps, ps = [pT] → ({ crashN aw4 1 with files := (ps.foldl (crash1 (crashN aw4 1).now) (aw4.files, [])).1, down := false, done := false, fails := -1, wrong := -1 } : PD) = aw5 := by
    rintro ps rfl
    show (_ : PD) = _
    kernel_rfl
  exact e _ h
theorem af1_is : syncDirsR aw4 = (af1, 0) := by kernel_rfl
theorem af2_is : crashR af1 0 [] = af1 := by
  have h : pathsB (crashN af1 0) = [pA] := paths_one (x := fT) (by kernel_rfl)
  have e : ∀ ps, ps = [pA] → ({ crashN af1 0 with files := (ps.foldl (crash1 (crashN af1 0).now) (af1.files, [])).1, down := false, done := false, fails := -1, wrong := -1 } : PD) = af1 := by
    rintro ps rfl
    show (_ : PD) = _
    kernel_rfl
  exact e _ h
theorem read5 : readE aw5 pT = 0 ∧ readB aw5 pT = ab := ⟨by kernel_rfl, by kernel_rfl⟩
theorem readf : readE af1 pA = 0 ∧ readB af1 pA = ab := ⟨by kernel_rfl, by kernel_rfl⟩
def pXY : ByteArray := ⟨#[120, 47, 121]⟩
theorem putXY : putR aw5 pXY false = (aw5, 8) := by kernel_rfl
theorem list5 : (listB aw5).length = 1 := by
  unfold listB
  rw [paths_one (D := aw5) (p := pT) (x := fT) rfl]
  rfl
end Go.Proofs.YtihojcjijbidpaaDoor
