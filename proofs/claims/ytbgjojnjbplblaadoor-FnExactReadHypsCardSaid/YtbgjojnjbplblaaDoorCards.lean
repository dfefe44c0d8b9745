/-
  DERIVED. GIVEN WITH THE SEED: THE CARDS: each row of YtbgjojnjbplblaaDoorRows.lean that lists a variable, with what it lists TIED to the program's text (the seventh form; the later family's looks); each row that meets fmt, with fmt's text TOLD by the authors' own Lean function (tested against real Go, not proved from fmt's source: count such statements apart). THE CARD IS WHAT COUNTS. Prove the row's statement (the work); the ties are given (YtbgjojnjbplblaaDoorTie.lean); close each card by the builder's one call (the guide's Derived/Test/ToyasCard.lean, 'card_holds'). Laid BY PROGRAM, IN A SANDBOX (cutbox-door.mjs). By AI agents, Wed Nov 11 2026. No macro, syntax, notation, axiom, sorry.
-/
import Derived.Test.YtbgjojnjbplblaaDoorRows
import GoSem.ClaimSeven
namespace Go.Proofs.YtbgjojnjbplblaaDoor
namespace Rows

/-- THE TIED CARD OF 'laws.FnExactReadLexicon'. -/
def fnExactReadLexiconCard : Claim7 := { stood := { row := fnExactReadLexiconRow, standIns := [], harness := (true, "3f83b5526a4e43a24fde11cd84e2ec55b9e6b92b8da14a9685e941fe0f50f977"), looks := true }, kinds := [], alts := [], laidByText := true, laidKinds := [.data, .data, .data, .data, .sentinel, .sentinel, .pinned], laidTests := true, laidLooks := .later }
def FnExactReadLexiconCardSaid : Prop := Claim7.holds Tryd.pinned (.plain (OpenSpec.ofChange fnExactReadLexiconSpec)) fnExactReadLexiconCard

/-- THE TIED CARD OF 'laws.FnExactReadHyps'. -/
def fnExactReadHypsCard : Claim7 := { stood := { row := fnExactReadHypsRow, standIns := [], harness := (true, "3f83b5526a4e43a24fde11cd84e2ec55b9e6b92b8da14a9685e941fe0f50f977"), looks := true }, kinds := [], alts := [], laidByText := true, laidKinds := [.data, .data, .data, .data, .sentinel, .sentinel, .pinned], laidTests := true, laidLooks := .later }
def FnExactReadHypsCardSaid : Prop := Claim7.holds Tryd.pinned (.plain (OpenSpec.ofChange fnExactReadHypsSpec)) fnExactReadHypsCard

/-- THE SECOND FORM's CARD OF 'laws.FnExactReadLexicon'. -/
def fnExactReadLexiconUptoCard : Claim7 := { stood := { row := fnExactReadLexiconUptoRow, standIns := [], harness := (true, "3f83b5526a4e43a24fde11cd84e2ec55b9e6b92b8da14a9685e941fe0f50f977"), looks := true }, kinds := [], alts := [], laidByText := true, laidKinds := [.data, .data, .data, .data, .sentinel, .sentinel, .pinned], laidTests := true, laidLooks := .later }
def FnExactReadLexiconUptoCardSaid : Prop := Claim7.holds Tryd.pinned (.plain (OpenSpec.upto fnExactReadLexiconSpec)) fnExactReadLexiconUptoCard

/-- THE SECOND FORM's CARD OF 'laws.FnExactReadHyps'. -/
def fnExactReadHypsUptoCard : Claim7 := { stood := { row := fnExactReadHypsUptoRow, standIns := [], harness := (true, "3f83b5526a4e43a24fde11cd84e2ec55b9e6b92b8da14a9685e941fe0f50f977"), looks := true }, kinds := [], alts := [], laidByText := true, laidKinds := [.data, .data, .data, .data, .sentinel, .sentinel, .pinned], laidTests := true, laidLooks := .later }
def FnExactReadHypsUptoCardSaid : Prop := Claim7.holds Tryd.pinned (.plain (OpenSpec.upto fnExactReadHypsSpec)) fnExactReadHypsUptoCard
end Rows
end Go.Proofs.YtbgjojnjbplblaaDoor
