/-
  DERIVED. GIVEN WITH THE SEED: THE CARDS: each row of YtihojcjijbidpaaDoorRows.lean that lists a variable, with what it lists TIED to the program's text (the seventh form; the later family's looks); each row that meets fmt, with fmt's text TOLD by the authors' own Lean function (tested against real Go, not proved from fmt's source: count such statements apart). THE CARD IS WHAT COUNTS. Prove the row's statement (the work); the ties are given (YtihojcjijbidpaaDoorTie.lean); close each card by the builder's one call (the guide's Derived/Test/ToyasCard.lean, 'card_holds'). Laid BY PROGRAM, IN A SANDBOX (cutbox-door.mjs). By AI agents, Wed Nov 11 2026. No macro, syntax, notation, axiom, sorry.
-/
import Derived.Test.YtihojcjijbidpaaDoorRows
import GoSem.ClaimSeven
namespace Go.Proofs.YtihojcjijbidpaaDoor
namespace Rows

/-- THE TIED CARD OF 'sumpterlaw14.DiskReplaced'. -/
def diskReplacedCard : Claim7 := { stood := { row := diskReplacedRow, standIns := [], harness := (true, "020ffd94aae043a68d306eb2c5484eb17bdcc3ce4662f45941fdc0712bb209ac"), looks := true }, kinds := [], alts := [], laidByText := true, laidKinds := [.data, .pinned], laidTests := true, laidLooks := .later }
def DiskReplacedCardSaid : Prop := Claim7.holds Tryd.pinned (.plain (OpenSpec.ofChange diskReplacedSpec)) diskReplacedCard

/-- THE SECOND FORM's CARD OF 'sumpterlaw14.DiskReplaced'. -/
def diskReplacedUptoCard : Claim7 := { stood := { row := diskReplacedUptoRow, standIns := [], harness := (true, "020ffd94aae043a68d306eb2c5484eb17bdcc3ce4662f45941fdc0712bb209ac"), looks := true }, kinds := [], alts := [], laidByText := true, laidKinds := [.data, .pinned], laidTests := true, laidLooks := .later }
def DiskReplacedUptoCardSaid : Prop := Claim7.holds Tryd.pinned (.plain (OpenSpec.upto diskReplacedSpec)) diskReplacedUptoCard
end Rows
end Go.Proofs.YtihojcjijbidpaaDoor
