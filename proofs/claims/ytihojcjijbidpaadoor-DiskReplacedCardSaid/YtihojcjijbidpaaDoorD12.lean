/- The closures that store into a file. -/
import Derived.Test.YtihojcjijbidpaaDoorD11
import Derived.Test.YtihojcjijbidpaaDoorR2
namespace Go.Proofs.YtihojcjijbidpaaDoor
open Go.RowKit Go.Shelf Go.Sort

def Sc (g id n c : Nat) (a : Option Addr) (s : Int) (w : World) : Prop :=
  w.cell? ⟨g, id * 2, none⟩ = some (.slice a n c) ∧ w.cell? ⟨g, id * 2 + 1, none⟩ = some (.int .i64 s) ∧ w.frozen? ⟨g, id * 2, none⟩ = false ∧ w.frozen? ⟨g, id * 2 + 1, none⟩ = false
def Uc (bx : Nat) (k : Int) (w : World) : Prop := w.cell? ⟨bx, 0, none⟩ = some (.int .i64 k)

end Go.Proofs.YtihojcjijbidpaaDoor
