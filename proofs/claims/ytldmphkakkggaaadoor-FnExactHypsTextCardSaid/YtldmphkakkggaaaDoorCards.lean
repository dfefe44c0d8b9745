/-
  DERIVED. GIVEN WITH THE SEED: THE CARDS: each row of YtldmphkakkggaaaDoorRows.lean that lists a variable, with what it lists TIED to the program's text (the seventh form; the later family's looks); each row that meets fmt, with fmt's text TOLD by the authors' own Lean function (tested against real Go, not proved from fmt's source: count such statements apart). THE CARD IS WHAT COUNTS. Prove the row's statement (the work); the ties are given (YtldmphkakkggaaaDoorTie.lean); close each card by the builder's one call (the guide's Derived/Test/ToyasCard.lean, 'card_holds'). Laid BY PROGRAM, IN A SANDBOX (cutbox-door.mjs). By AI agents, Wed Nov 11 2026. No macro, syntax, notation, axiom, sorry.
-/
import Derived.Test.YtldmphkakkggaaaDoorRows
import GoSem.ClaimSeven
namespace Go.Proofs.YtldmphkakkggaaaDoor
namespace Rows

/-- THE TIED CARD OF 'laws.FnExactGroupText'. -/
def fnExactGroupTextCard : Claim7 := { stood := { row := fnExactGroupTextRow, standIns := [], harness := (true, "8c61e48a9f45e954eb7f4f7bca6449ab27e609ea020bbdca4c43100c4f522c26"), looks := false }, kinds := [], alts := [], laidByText := true, laidKinds := [.data, .data, .data], laidTests := true, laidLooks := .later }
def FnExactGroupTextCardSaid : Prop := Claim7.holds Tryd.pinned (.plain (OpenSpec.ofChange fnExactGroupTextSpec)) fnExactGroupTextCard

/-- THE TIED CARD OF 'laws.FnExactHypsText'. -/
def fnExactHypsTextCard : Claim7 := { stood := { row := fnExactHypsTextRow, standIns := [], harness := (true, "8c61e48a9f45e954eb7f4f7bca6449ab27e609ea020bbdca4c43100c4f522c26"), looks := false }, kinds := [], alts := [], laidByText := true, laidKinds := [.data, .data, .data], laidTests := true, laidLooks := .later }
def FnExactHypsTextCardSaid : Prop := Claim7.holds Tryd.pinned (.plain (OpenSpec.ofChange fnExactHypsTextSpec)) fnExactHypsTextCard

/-- THE TIED CARD OF 'laws.FnExactLexiconText'. -/
def fnExactLexiconTextCard : Claim7 := { stood := { row := fnExactLexiconTextRow, standIns := [], harness := (true, "8c61e48a9f45e954eb7f4f7bca6449ab27e609ea020bbdca4c43100c4f522c26"), looks := false }, kinds := [], alts := [], laidByText := true, laidKinds := [.data, .data, .data], laidTests := true, laidLooks := .later }
def FnExactLexiconTextCardSaid : Prop := Claim7.holds Tryd.pinned (.plain (OpenSpec.ofChange fnExactLexiconTextSpec)) fnExactLexiconTextCard

/-- THE TIED CARD OF 'laws.FnExactLatticeText'. -/
def fnExactLatticeTextCard : Claim7 := { stood := { row := fnExactLatticeTextRow, standIns := [], harness := (true, "8c61e48a9f45e954eb7f4f7bca6449ab27e609ea020bbdca4c43100c4f522c26"), looks := false }, kinds := [], alts := [], laidByText := true, laidKinds := [.data, .data, .data], laidTests := true, laidLooks := .later }
def FnExactLatticeTextCardSaid : Prop := Claim7.holds Tryd.pinned (.plain (OpenSpec.ofChange fnExactLatticeTextSpec)) fnExactLatticeTextCard

/-- THE TIED CARD OF 'laws.FnExactPerceptronText'. -/
def fnExactPerceptronTextCard : Claim7 := { stood := { row := fnExactPerceptronTextRow, standIns := [], harness := (true, "8c61e48a9f45e954eb7f4f7bca6449ab27e609ea020bbdca4c43100c4f522c26"), looks := false }, kinds := [], alts := [], laidByText := true, laidKinds := [.data, .data, .data], laidTests := true, laidLooks := .later }
def FnExactPerceptronTextCardSaid : Prop := Claim7.holds Tryd.pinned (.plain (OpenSpec.ofChange fnExactPerceptronTextSpec)) fnExactPerceptronTextCard

/-- THE SECOND FORM's CARD OF 'laws.FnExactGroupText'. -/
def fnExactGroupTextUptoCard : Claim7 := { stood := { row := fnExactGroupTextUptoRow, standIns := [], harness := (true, "8c61e48a9f45e954eb7f4f7bca6449ab27e609ea020bbdca4c43100c4f522c26"), looks := false }, kinds := [], alts := [], laidByText := true, laidKinds := [.data, .data, .data], laidTests := true, laidLooks := .later }
def FnExactGroupTextUptoCardSaid : Prop := Claim7.holds Tryd.pinned (.plain (OpenSpec.upto fnExactGroupTextSpec)) fnExactGroupTextUptoCard

/-- THE SECOND FORM's CARD OF 'laws.FnExactHypsText'. -/
def fnExactHypsTextUptoCard : Claim7 := { stood := { row := fnExactHypsTextUptoRow, standIns := [], harness := (true, "8c61e48a9f45e954eb7f4f7bca6449ab27e609ea020bbdca4c43100c4f522c26"), looks := false }, kinds := [], alts := [], laidByText := true, laidKinds := [.data, .data, .data], laidTests := true, laidLooks := .later }
def FnExactHypsTextUptoCardSaid : Prop := Claim7.holds Tryd.pinned (.plain (OpenSpec.upto fnExactHypsTextSpec)) fnExactHypsTextUptoCard

/-- THE SECOND FORM's CARD OF 'laws.FnExactLexiconText'. -/
def fnExactLexiconTextUptoCard : Claim7 := { stood := { row := fnExactLexiconTextUptoRow, standIns := [], harness := (true, "8c61e48a9f45e954eb7f4f7bca6449ab27e609ea020bbdca4c43100c4f522c26"), looks := false }, kinds := [], alts := [], laidByText := true, laidKinds := [.data, .data, .data], laidTests := true, laidLooks := .later }
def FnExactLexiconTextUptoCardSaid : Prop := Claim7.holds Tryd.pinned (.plain (OpenSpec.upto fnExactLexiconTextSpec)) fnExactLexiconTextUptoCard

/-- THE SECOND FORM's CARD OF 'laws.FnExactLatticeText'. -/
def fnExactLatticeTextUptoCard : Claim7 := { stood := { row := fnExactLatticeTextUptoRow, standIns := [], harness := (true, "8c61e48a9f45e954eb7f4f7bca6449ab27e609ea020bbdca4c43100c4f522c26"), looks := false }, kinds := [], alts := [], laidByText := true, laidKinds := [.data, .data, .data], laidTests := true, laidLooks := .later }
def FnExactLatticeTextUptoCardSaid : Prop := Claim7.holds Tryd.pinned (.plain (OpenSpec.upto fnExactLatticeTextSpec)) fnExactLatticeTextUptoCard

/-- THE SECOND FORM's CARD OF 'laws.FnExactPerceptronText'. -/
def fnExactPerceptronTextUptoCard : Claim7 := { stood := { row := fnExactPerceptronTextUptoRow, standIns := [], harness := (true, "8c61e48a9f45e954eb7f4f7bca6449ab27e609ea020bbdca4c43100c4f522c26"), looks := false }, kinds := [], alts := [], laidByText := true, laidKinds := [.data, .data, .data], laidTests := true, laidLooks := .later }
def FnExactPerceptronTextUptoCardSaid : Prop := Claim7.holds Tryd.pinned (.plain (OpenSpec.upto fnExactPerceptronTextSpec)) fnExactPerceptronTextUptoCard
end Rows
end Go.Proofs.YtldmphkakkggaaaDoor
