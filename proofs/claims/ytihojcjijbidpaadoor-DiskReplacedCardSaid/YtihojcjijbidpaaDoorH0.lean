/- DiskReplaced, plain: how the disk is ahead of the failure. -/
import Derived.Test.YtihojcjijbidpaaDoorG3
namespace Go.Proofs.YtihojcjijbidpaaDoor
open Go.RowKit Go.Shelf Go.Sort

theorem withR_go {D D' : PD} {p : ByteArray} {e : Int} (h1 : askedE D.down [p] = 0) (h2 : fileE D.now p = 0) (h3 : e = 0) : withR D p e D' = (if stepDoes D then D' else stepD D, stepE D) := by
  unfold withR
  rw [if_neg (by simpa using h1), if_neg (by simpa using h2), if_neg (by simpa using h3)]

def fA : Nd := ⟨false, 0⟩
def dr1 : PD := ⟨10000, [], [(pA, fA)], [[(pA, some fA)]], [⟨[], 0⟩], false, 1, -1, false, -1⟩
def dr2 (old : List UInt8) : PD := ⟨10000, [], [(pA, fA)], [[(pA, some fA)]], [⟨old, 0⟩], false, 2, -1, false, -1⟩
def dr3 (old : List UInt8) : PD := ⟨10000, [], [(pA, fA)], [[(pA, some fA)]], [⟨old, old.length⟩], false, 3, -1, false, -1⟩
def dr4 (old : List UInt8) : PD := ⟨10000, [(pA, fA)], [(pA, fA)], [], [⟨old, old.length⟩], false, 4, -1, false, -1⟩
theorem dr1_is : putR (newD 10000) pA false = (dr1, 0) := by kernel_rfl
theorem dr2_is {old : List UInt8} (h : old.length ≤ 500) : appendR dr1 pA old = (dr2 old, 0) := by
  have h3 : appendE dr1 old.length = 0 := by
    unfold appendE
    rw [show usedN dr1 = 0 by kernel_rfl, if_neg]
    show ¬ ((10000 : Int) - 0 < _)
    omega
  unfold appendR
  rw [withR_go (by kernel_rfl) (by kernel_rfl) h3]
  show (_ : PD × Int) = _
  kernel_rfl
theorem dr3_is (old : List UInt8) : syncR (dr2 old) pA = (dr3 old, 0) := by
  unfold syncR
  rw [withR_go (by show askedE false [pA] = 0; kernel_rfl) (by show fileE [(pA, fA)] pA = 0; kernel_rfl) rfl]
  show (_ : PD × Int) = _
  kernel_rfl
theorem dr4_is (old : List UInt8) : syncDirsR (dr3 old) = (dr4 old, 0) := by kernel_rfl
end Go.Proofs.YtihojcjijbidpaaDoor
