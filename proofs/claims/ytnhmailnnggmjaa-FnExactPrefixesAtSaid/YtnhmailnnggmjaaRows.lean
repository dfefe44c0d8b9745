/-
  No cell of these rows narrows 'for every input' (looked for: loops, veiled, ifaces, maps, wideKeys, modest, calm, conditions, laid).
  DERIVED. THE GIVEN ROWS OF THIS SEAT. 6 by the template 'for every input the law returns true; each argument reads behind the call as it read before'; 0 by the template 'total and deterministic' (their statements: YtnhmailnnggmjaaTotals.lean).
  GIVEN WITH THE SEED: the statements are not yours to turn. If you find one false, say at which input.
  Laid BY PROGRAM, IN A SANDBOX (cutbox-rows.mjs): the forced cells as the released guide's own fill.sh prints them over the translation d6f600b44daf756e… (all of the seat's roots in one cut). By AI agents, Wed Nov 11 2026. No macro, syntax, notation, axiom, sorry.
-/
import Derived.Test.YtnhmailnnggmjaaChecked
import GoSem.Claim
import GoSem.ClaimJoined
import GoSem.ClaimMapViews
import Derived.JoinedTies
import Derived.KernelRfl
namespace Go.Proofs.Ytnhmailnnggmjaa
/- THE CELL 'sum', in the pinned program and in every row, IS THE sha256 OF THE DUMP (.gsa) THAT YtnhmailnnggmjaaProg.lean LOADS. Nothing in Lean hashes anything: it is a label: what it is worth is what the hold of that sum in a sandbox is worth. -/
noncomputable def Try.pinned : Pinned := { name := "ytnhmailnnggmjaa", sum := "d6f600b44daf756e9ea52050c8f02cb9268f7eba42c3926e01ba996359a02a4a", checked := Try.checked }
namespace Rows
def none {H : Type} : Left H := { results := [], args := [] }

/-- 'laws.FnExactBestReading': WHATEVER THE INPUT: true; the input reads as it did. -/
def fnExactBestReadingSpec : ChangeSpec := { name := "fnExactBestReading", fn := fun _ => fun
  | [d] => { results := [.lit (.bool true)], args := [d] }
  | _ => none }
def fnExactBestReadingRow : OpenClaim := { program := "ytnhmailnnggmjaa", sum := "d6f600b44daf756e9ea52050c8f02cb9268f7eba42c3926e01ba996359a02a4a", func := "loop.example/g00918/laws.FnExactBestReading", spec := "fnExactBestReading", inPlace := ["internal/bytealg.IndexByteString", "internal/bytealg.IndexString"], unfollowed := true, recurses := true, named := ["internal/bytealg.MaxLen"], apart := false }
def FnExactBestReadingSaid : Prop := fnExactBestReadingRow.holds Try.pinned (OpenSpec.ofChange fnExactBestReadingSpec)

/-- ITS FALSE NEIGHBOUR: 'it returns false'. Refute it at one input. -/
def fnExactBestReadingWrong : ChangeSpec := { name := "fnExactBestReading", fn := fun _ => fun
  | [d] => { results := [.lit (.bool false)], args := [d] }
  | _ => none }
def FnExactBestReadingWrongFalsely : Prop := fnExactBestReadingRow.holds Try.pinned (OpenSpec.ofChange fnExactBestReadingWrong)

/-- 'laws.FnExactBestReadings': WHATEVER THE INPUT: true; the input reads as it did. -/
def fnExactBestReadingsSpec : ChangeSpec := { name := "fnExactBestReadings", fn := fun _ => fun
  | [d1, d2] => { results := [.lit (.bool true)], args := [d1, d2] }
  | _ => none }
def fnExactBestReadingsRow : OpenClaim := { program := "ytnhmailnnggmjaa", sum := "d6f600b44daf756e9ea52050c8f02cb9268f7eba42c3926e01ba996359a02a4a", func := "loop.example/g00918/laws.FnExactBestReadings", spec := "fnExactBestReadings", inPlace := ["internal/bytealg.IndexByteString", "internal/bytealg.IndexString"], unfollowed := true, recurses := true, named := ["internal/bytealg.MaxLen"], apart := false }
def FnExactBestReadingsSaid : Prop := fnExactBestReadingsRow.holds Try.pinned (OpenSpec.ofChange fnExactBestReadingsSpec)

/-- ITS FALSE NEIGHBOUR: 'it returns false'. Refute it at one input. -/
def fnExactBestReadingsWrong : ChangeSpec := { name := "fnExactBestReadings", fn := fun _ => fun
  | [d1, d2] => { results := [.lit (.bool false)], args := [d1, d2] }
  | _ => none }
def FnExactBestReadingsWrongFalsely : Prop := fnExactBestReadingsRow.holds Try.pinned (OpenSpec.ofChange fnExactBestReadingsWrong)

/-- 'laws.FnExactPrefixesAt': WHATEVER THE INPUT: true; the input reads as it did. -/
def fnExactPrefixesAtSpec : ChangeSpec := { name := "fnExactPrefixesAt", fn := fun _ => fun
  | [d1, d2, d3] => { results := [.lit (.bool true)], args := [d1, d2, d3] }
  | _ => none }
def fnExactPrefixesAtRow : OpenClaim := { program := "ytnhmailnnggmjaa", sum := "d6f600b44daf756e9ea52050c8f02cb9268f7eba42c3926e01ba996359a02a4a", func := "loop.example/g00918/laws.FnExactPrefixesAt", spec := "fnExactPrefixesAt", inPlace := ["internal/bytealg.IndexByteString", "internal/bytealg.IndexString"], unfollowed := true, recurses := true, named := ["internal/bytealg.MaxLen"], apart := false }
def FnExactPrefixesAtSaid : Prop := fnExactPrefixesAtRow.holds Try.pinned (OpenSpec.ofChange fnExactPrefixesAtSpec)

/-- ITS FALSE NEIGHBOUR: 'it returns false'. Refute it at one input. -/
def fnExactPrefixesAtWrong : ChangeSpec := { name := "fnExactPrefixesAt", fn := fun _ => fun
  | [d1, d2, d3] => { results := [.lit (.bool false)], args := [d1, d2, d3] }
  | _ => none }
def FnExactPrefixesAtWrongFalsely : Prop := fnExactPrefixesAtRow.holds Try.pinned (OpenSpec.ofChange fnExactPrefixesAtWrong)

/-- 'laws.FnExactBeamWord': WHATEVER THE INPUT: true; the input reads as it did. -/
def fnExactBeamWordSpec : ChangeSpec := { name := "fnExactBeamWord", fn := fun _ => fun
  | [d1, d2, d3] => { results := [.lit (.bool true)], args := [d1, d2, d3] }
  | _ => none }
def fnExactBeamWordRow : OpenClaim := { program := "ytnhmailnnggmjaa", sum := "d6f600b44daf756e9ea52050c8f02cb9268f7eba42c3926e01ba996359a02a4a", func := "loop.example/g00918/laws.FnExactBeamWord", spec := "fnExactBeamWord", inPlace := ["internal/bytealg.IndexByteString", "internal/bytealg.IndexString"], unfollowed := true, recurses := true, named := ["internal/bytealg.MaxLen"], apart := false }
def FnExactBeamWordSaid : Prop := fnExactBeamWordRow.holds Try.pinned (OpenSpec.ofChange fnExactBeamWordSpec)

/-- ITS FALSE NEIGHBOUR: 'it returns false'. Refute it at one input. -/
def fnExactBeamWordWrong : ChangeSpec := { name := "fnExactBeamWord", fn := fun _ => fun
  | [d1, d2, d3] => { results := [.lit (.bool false)], args := [d1, d2, d3] }
  | _ => none }
def FnExactBeamWordWrongFalsely : Prop := fnExactBeamWordRow.holds Try.pinned (OpenSpec.ofChange fnExactBeamWordWrong)

/-- 'laws.FnExactBeamSizes': WHATEVER THE INPUT: true; the input reads as it did. -/
def fnExactBeamSizesSpec : ChangeSpec := { name := "fnExactBeamSizes", fn := fun _ => fun
  | [d1, d2, d3] => { results := [.lit (.bool true)], args := [d1, d2, d3] }
  | _ => none }
def fnExactBeamSizesRow : OpenClaim := { program := "ytnhmailnnggmjaa", sum := "d6f600b44daf756e9ea52050c8f02cb9268f7eba42c3926e01ba996359a02a4a", func := "loop.example/g00918/laws.FnExactBeamSizes", spec := "fnExactBeamSizes", inPlace := ["internal/bytealg.IndexByteString", "internal/bytealg.IndexString"], unfollowed := true, recurses := true, named := ["internal/bytealg.MaxLen"], apart := false }
def FnExactBeamSizesSaid : Prop := fnExactBeamSizesRow.holds Try.pinned (OpenSpec.ofChange fnExactBeamSizesSpec)

/-- ITS FALSE NEIGHBOUR: 'it returns false'. Refute it at one input. -/
def fnExactBeamSizesWrong : ChangeSpec := { name := "fnExactBeamSizes", fn := fun _ => fun
  | [d1, d2, d3] => { results := [.lit (.bool false)], args := [d1, d2, d3] }
  | _ => none }
def FnExactBeamSizesWrongFalsely : Prop := fnExactBeamSizesRow.holds Try.pinned (OpenSpec.ofChange fnExactBeamSizesWrong)

/-- 'laws.FnExactBeamStates': WHATEVER THE INPUT: true; the input reads as it did. -/
def fnExactBeamStatesSpec : ChangeSpec := { name := "fnExactBeamStates", fn := fun _ => fun
  | [d1, d2, d3, d4] => { results := [.lit (.bool true)], args := [d1, d2, d3, d4] }
  | _ => none }
def fnExactBeamStatesRow : OpenClaim := { program := "ytnhmailnnggmjaa", sum := "d6f600b44daf756e9ea52050c8f02cb9268f7eba42c3926e01ba996359a02a4a", func := "loop.example/g00918/laws.FnExactBeamStates", spec := "fnExactBeamStates", inPlace := ["internal/bytealg.IndexByteString", "internal/bytealg.IndexString"], unfollowed := true, recurses := true, named := ["internal/bytealg.MaxLen"], apart := false }
def FnExactBeamStatesSaid : Prop := fnExactBeamStatesRow.holds Try.pinned (OpenSpec.ofChange fnExactBeamStatesSpec)

/-- ITS FALSE NEIGHBOUR: 'it returns false'. Refute it at one input. -/
def fnExactBeamStatesWrong : ChangeSpec := { name := "fnExactBeamStates", fn := fun _ => fun
  | [d1, d2, d3, d4] => { results := [.lit (.bool false)], args := [d1, d2, d3, d4] }
  | _ => none }
def FnExactBeamStatesWrongFalsely : Prop := fnExactBeamStatesRow.holds Try.pinned (OpenSpec.ofChange fnExactBeamStatesWrong)

/- THE SECOND FORM. 'bulk': how many values and letters a reading holds, each counted each time it is reached (what is shared counts as often as it is met; a slice's spare places count too). A statement '..UptoSaid' is the law's where the arguments, and the package variables that the reading takes, are together of bulk at most 1048576: NARROWER than '..Said'. Prove '..Said' where nothing that the law and all that it calls make is longer than what came in: it says more and counts as full. Else prove '..UptoSaid'. A law counts once. -/
mutual
def uptoBulk {H : Type} : DataW H → Nat
  | .lit (.string bytes) => bytes.length + 1
  | .lit _ => 1
  | .nil => 1
  | .ptr d => uptoBulk d + 1
  | .slice elems spare => uptoBulkAll elems + uptoBulkAll spare + 1
  | .agg parts => uptoBulkAll parts + 1
  | .iface _ d => uptoBulk d + 1
  | .map entries => uptoBulkEntries entries + 1
  | .held _ => 1
def uptoBulkAll {H : Type} : List (DataW H) → Nat
  | [] => 0
  | d :: r => uptoBulk d + uptoBulkAll r
def uptoBulkEntries {H : Type} : List (Lit × DataW H) → Nat
  | [] => 0
  | x :: r => uptoBulkEntry x + uptoBulkEntries r
def uptoBulkEntry {H : Type} : Lit × DataW H → Nat
  | (.string bytes, d) => bytes.length + uptoBulk d + 1
  | (_, d) => uptoBulk d + 1
 end
def uptoSmall : (H : Type) → List (DataW H) → Bool := fun _ ds => decide (uptoBulkAll ds ≤ 1048576)
def OpenSpec.upto (s : _root_.Go.ChangeSpec) : _root_.Go.OpenSpec := { _root_.Go.OpenSpec.ofChange s with cond := some uptoSmall }

/-- 'laws.FnExactBestReading', WHERE WHAT IT READS IS OF BULK AT MOST 1048576: true; the input reads as it did. -/
def fnExactBestReadingUptoRow : OpenClaim := { program := "ytnhmailnnggmjaa", sum := "d6f600b44daf756e9ea52050c8f02cb9268f7eba42c3926e01ba996359a02a4a", func := "loop.example/g00918/laws.FnExactBestReading", spec := "fnExactBestReading", inPlace := ["internal/bytealg.IndexByteString", "internal/bytealg.IndexString"], unfollowed := true, recurses := true, named := ["internal/bytealg.MaxLen"], apart := false, narrowed := true }
def FnExactBestReadingUptoSaid : Prop := fnExactBestReadingUptoRow.holds Try.pinned (OpenSpec.upto fnExactBestReadingSpec)

/-- 'laws.FnExactBestReadings', WHERE WHAT IT READS IS OF BULK AT MOST 1048576: true; the input reads as it did. -/
def fnExactBestReadingsUptoRow : OpenClaim := { program := "ytnhmailnnggmjaa", sum := "d6f600b44daf756e9ea52050c8f02cb9268f7eba42c3926e01ba996359a02a4a", func := "loop.example/g00918/laws.FnExactBestReadings", spec := "fnExactBestReadings", inPlace := ["internal/bytealg.IndexByteString", "internal/bytealg.IndexString"], unfollowed := true, recurses := true, named := ["internal/bytealg.MaxLen"], apart := false, narrowed := true }
def FnExactBestReadingsUptoSaid : Prop := fnExactBestReadingsUptoRow.holds Try.pinned (OpenSpec.upto fnExactBestReadingsSpec)

/-- 'laws.FnExactPrefixesAt', WHERE WHAT IT READS IS OF BULK AT MOST 1048576: true; the input reads as it did. -/
def fnExactPrefixesAtUptoRow : OpenClaim := { program := "ytnhmailnnggmjaa", sum := "d6f600b44daf756e9ea52050c8f02cb9268f7eba42c3926e01ba996359a02a4a", func := "loop.example/g00918/laws.FnExactPrefixesAt", spec := "fnExactPrefixesAt", inPlace := ["internal/bytealg.IndexByteString", "internal/bytealg.IndexString"], unfollowed := true, recurses := true, named := ["internal/bytealg.MaxLen"], apart := false, narrowed := true }
def FnExactPrefixesAtUptoSaid : Prop := fnExactPrefixesAtUptoRow.holds Try.pinned (OpenSpec.upto fnExactPrefixesAtSpec)

/-- 'laws.FnExactBeamWord', WHERE WHAT IT READS IS OF BULK AT MOST 1048576: true; the input reads as it did. -/
def fnExactBeamWordUptoRow : OpenClaim := { program := "ytnhmailnnggmjaa", sum := "d6f600b44daf756e9ea52050c8f02cb9268f7eba42c3926e01ba996359a02a4a", func := "loop.example/g00918/laws.FnExactBeamWord", spec := "fnExactBeamWord", inPlace := ["internal/bytealg.IndexByteString", "internal/bytealg.IndexString"], unfollowed := true, recurses := true, named := ["internal/bytealg.MaxLen"], apart := false, narrowed := true }
def FnExactBeamWordUptoSaid : Prop := fnExactBeamWordUptoRow.holds Try.pinned (OpenSpec.upto fnExactBeamWordSpec)

/-- 'laws.FnExactBeamSizes', WHERE WHAT IT READS IS OF BULK AT MOST 1048576: true; the input reads as it did. -/
def fnExactBeamSizesUptoRow : OpenClaim := { program := "ytnhmailnnggmjaa", sum := "d6f600b44daf756e9ea52050c8f02cb9268f7eba42c3926e01ba996359a02a4a", func := "loop.example/g00918/laws.FnExactBeamSizes", spec := "fnExactBeamSizes", inPlace := ["internal/bytealg.IndexByteString", "internal/bytealg.IndexString"], unfollowed := true, recurses := true, named := ["internal/bytealg.MaxLen"], apart := false, narrowed := true }
def FnExactBeamSizesUptoSaid : Prop := fnExactBeamSizesUptoRow.holds Try.pinned (OpenSpec.upto fnExactBeamSizesSpec)

/-- 'laws.FnExactBeamStates', WHERE WHAT IT READS IS OF BULK AT MOST 1048576: true; the input reads as it did. -/
def fnExactBeamStatesUptoRow : OpenClaim := { program := "ytnhmailnnggmjaa", sum := "d6f600b44daf756e9ea52050c8f02cb9268f7eba42c3926e01ba996359a02a4a", func := "loop.example/g00918/laws.FnExactBeamStates", spec := "fnExactBeamStates", inPlace := ["internal/bytealg.IndexByteString", "internal/bytealg.IndexString"], unfollowed := true, recurses := true, named := ["internal/bytealg.MaxLen"], apart := false, narrowed := true }
def FnExactBeamStatesUptoSaid : Prop := fnExactBeamStatesUptoRow.holds Try.pinned (OpenSpec.upto fnExactBeamStatesSpec)

end Rows
end Go.Proofs.Ytnhmailnnggmjaa
