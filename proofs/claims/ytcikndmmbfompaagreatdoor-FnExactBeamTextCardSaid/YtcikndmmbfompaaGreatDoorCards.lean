/-
  DERIVED. GIVEN WITH THE SEED: THE CARDS: each row of YtcikndmmbfompaaGreatDoorRows.lean that lists a variable, with what it lists TIED to the program's text (the seventh form; the later family's looks); each row that meets fmt, with fmt's text TOLD by the authors' own Lean function (tested against real Go, not proved from fmt's source: count such statements apart). THE CARD IS WHAT COUNTS. Prove the row's statement (the work); the ties are given (YtcikndmmbfompaaGreatDoorTie.lean); close each card by the builder's one call (the guide's Derived/Test/ToyasCard.lean, 'card_holds'). Laid BY PROGRAM, IN A SANDBOX (cutbox-door.mjs). By AI agents, Wed Nov 11 2026. No macro, syntax, notation, axiom, sorry.
-/
import Derived.Test.YtcikndmmbfompaaGreatDoorRows
import GoSem.ClaimSeven
namespace Go.Proofs.YtcikndmmbfompaaGreatDoor
namespace Rows

/-- THE TIED CARD OF 'laws.FnExactBeamText'. -/
def fnExactBeamTextCard : Claim7 := { stood := { row := fnExactBeamTextRow, standIns := [], harness := (true, "cf05209c16ddffc1f86f3ed9553f049eb184f89bfdd96453639dfe09c43c29d5"), looks := false }, kinds := [], alts := [], laidByText := true, laidKinds := [.data, .data, .data], laidTests := true, laidLooks := .later }
def FnExactBeamTextCardSaid : Prop := Claim7.holds Tryz.pinned (.plain (OpenSpec.ofChange fnExactBeamTextSpec)) fnExactBeamTextCard

/-- THE SECOND FORM's CARD OF 'laws.FnExactBeamText'. -/
def fnExactBeamTextUptoCard : Claim7 := { stood := { row := fnExactBeamTextUptoRow, standIns := [], harness := (true, "cf05209c16ddffc1f86f3ed9553f049eb184f89bfdd96453639dfe09c43c29d5"), looks := false }, kinds := [], alts := [], laidByText := true, laidKinds := [.data, .data, .data], laidTests := true, laidLooks := .later }
def FnExactBeamTextUptoCardSaid : Prop := Claim7.holds Tryz.pinned (.plain (OpenSpec.upto fnExactBeamTextSpec)) fnExactBeamTextUptoCard
end Rows
end Go.Proofs.YtcikndmmbfompaaGreatDoor
