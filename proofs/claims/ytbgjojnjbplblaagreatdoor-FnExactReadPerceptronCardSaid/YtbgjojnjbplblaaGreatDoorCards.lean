/-
  DERIVED. GIVEN WITH THE SEED: THE CARDS: each row of YtbgjojnjbplblaaGreatDoorRows.lean that lists a variable, with what it lists TIED to the program's text (the seventh form; the later family's looks); each row that meets fmt, with fmt's text TOLD by the authors' own Lean function (tested against real Go, not proved from fmt's source: count such statements apart). THE CARD IS WHAT COUNTS. Prove the row's statement (the work); the ties are given (YtbgjojnjbplblaaGreatDoorTie.lean); close each card by the builder's one call (the guide's Derived/Test/ToyasCard.lean, 'card_holds'). Laid BY PROGRAM, IN A SANDBOX (cutbox-door.mjs). By AI agents, Wed Nov 11 2026. No macro, syntax, notation, axiom, sorry.
-/
import Derived.Test.YtbgjojnjbplblaaGreatDoorRows
import GoSem.ClaimSeven
namespace Go.Proofs.YtbgjojnjbplblaaGreatDoor
namespace Rows

/-- THE TIED CARD OF 'laws.FnExactReadLattice'. -/
def fnExactReadLatticeCard : Claim7 := { stood := { row := fnExactReadLatticeRow, standIns := [], harness := (true, "80b2738d41be3b3297276c829962738d6e47aa00124fd2ab3bca9a754bb98ce3"), looks := true }, kinds := [], alts := [], laidByText := true, laidKinds := [.data, .data, .data, .data, .sentinel, .sentinel, .pinned], laidTests := true, laidLooks := .later }
def FnExactReadLatticeCardSaid : Prop := Claim7.holds Tryz.pinned (.plain (OpenSpec.ofChange fnExactReadLatticeSpec)) fnExactReadLatticeCard

/-- THE TIED CARD OF 'laws.FnExactReadPerceptron'. -/
def fnExactReadPerceptronCard : Claim7 := { stood := { row := fnExactReadPerceptronRow, standIns := [], harness := (true, "80b2738d41be3b3297276c829962738d6e47aa00124fd2ab3bca9a754bb98ce3"), looks := true }, kinds := [], alts := [], laidByText := true, laidKinds := [.data, .data, .data, .data, .sentinel, .sentinel, .pinned], laidTests := true, laidLooks := .later }
def FnExactReadPerceptronCardSaid : Prop := Claim7.holds Tryz.pinned (.plain (OpenSpec.ofChange fnExactReadPerceptronSpec)) fnExactReadPerceptronCard

/-- THE SECOND FORM's CARD OF 'laws.FnExactReadLattice'. -/
def fnExactReadLatticeUptoCard : Claim7 := { stood := { row := fnExactReadLatticeUptoRow, standIns := [], harness := (true, "80b2738d41be3b3297276c829962738d6e47aa00124fd2ab3bca9a754bb98ce3"), looks := true }, kinds := [], alts := [], laidByText := true, laidKinds := [.data, .data, .data, .data, .sentinel, .sentinel, .pinned], laidTests := true, laidLooks := .later }
def FnExactReadLatticeUptoCardSaid : Prop := Claim7.holds Tryz.pinned (.plain (OpenSpec.upto fnExactReadLatticeSpec)) fnExactReadLatticeUptoCard

/-- THE SECOND FORM's CARD OF 'laws.FnExactReadPerceptron'. -/
def fnExactReadPerceptronUptoCard : Claim7 := { stood := { row := fnExactReadPerceptronUptoRow, standIns := [], harness := (true, "80b2738d41be3b3297276c829962738d6e47aa00124fd2ab3bca9a754bb98ce3"), looks := true }, kinds := [], alts := [], laidByText := true, laidKinds := [.data, .data, .data, .data, .sentinel, .sentinel, .pinned], laidTests := true, laidLooks := .later }
def FnExactReadPerceptronUptoCardSaid : Prop := Claim7.holds Tryz.pinned (.plain (OpenSpec.upto fnExactReadPerceptronSpec)) fnExactReadPerceptronUptoCard
end Rows
end Go.Proofs.YtbgjojnjbplblaaGreatDoor
