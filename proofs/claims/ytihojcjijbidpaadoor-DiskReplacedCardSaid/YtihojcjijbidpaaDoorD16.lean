/- Cut, Append. -/
import Derived.Test.YtihojcjijbidpaaDoorD15
namespace Go.Proofs.YtihojcjijbidpaaDoor
open Go.RowKit Go.Shelf Go.Sort

theorem BytesAt.cut {w : World} {M : Nat → Prop} {a : Option Addr} {n c k : Nat} {l : List UInt8} (h : BytesAt w M (.slice a n c) l) (hk : k ≤ l.length) : BytesAt w M (.slice a k k) (l.take k) := by
  rcases h with ⟨a', c', e, rfl, _⟩ | ⟨b, o, c', e, h1, h2, h3, h4⟩
  · simp only [Value.slice.injEq] at e
    obtain ⟨rfl, _, _⟩ := e
    have : k = 0 := by simpa using hk
    subst this
    exact .inl ⟨_, 0, rfl, rfl, fun _ => rfl⟩
  · simp only [Value.slice.injEq] at e
    obtain ⟨rfl, _, _⟩ := e
    have hl : (l.take k).length = k := by simp; omega
    refine .inr ⟨b, o, k, by rw [hl], by omega, h2, h3, fun i hi => ?_⟩
    rw [hl] at hi
    have := h4 i (by omega)
    rw [this]; simp

section
variable {w : World} {bd bs bn : Nat} {vl vf : Value} {D : PD} {M : Nat → Prop}
theorem FileAt.step {id g cap : Nat} {vb : Value} (h : FileAt w vf D M id g cap vb) : FileAt w vf (stepD D) M id g cap vb :=
  ⟨by rw [stepD_files]; exact h.slice, by rw [stepD_files]; exact h.lt, h.cellB, by rw [stepD_files]; exact h.cellS, h.free, by rw [stepD_files]; exact h.bytes, h.glt⟩
end

end Go.Proofs.YtihojcjijbidpaaDoor
