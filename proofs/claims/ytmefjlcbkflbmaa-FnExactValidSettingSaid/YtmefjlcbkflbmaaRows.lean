/-
  No cell of these rows narrows 'for every input' (looked for: loops, veiled, ifaces, maps, wideKeys, modest, calm, conditions, laid).
  DERIVED. THE GIVEN ROWS OF THIS SEAT. 6 by the template 'for every input the law returns true; each argument reads behind the call as it read before'; 0 by the template 'total and deterministic' (their statements: YtmefjlcbkflbmaaTotals.lean).
  GIVEN WITH THE SEED: the statements are not yours to turn. If you find one false, say at which input.
  Laid BY PROGRAM, IN A SANDBOX (cutbox-rows.mjs): the forced cells as the released guide's own fill.sh prints them over the translation 5ea8883c6c358279… (all of the seat's roots in one cut). By AI agents, Wed Nov 11 2026. No macro, syntax, notation, axiom, sorry.
-/
import Derived.Test.YtmefjlcbkflbmaaChecked
import GoSem.Claim
import GoSem.ClaimJoined
import GoSem.ClaimMapViews
import Derived.JoinedTies
import Derived.KernelRfl
namespace Go.Proofs.Ytmefjlcbkflbmaa
/- THE CELL 'sum', in the pinned program and in every row, IS THE sha256 OF THE DUMP (.gsa) THAT YtmefjlcbkflbmaaProg.lean LOADS. Nothing in Lean hashes anything: it is a label: what it is worth is what the hold of that sum in a sandbox is worth. -/
noncomputable def Try.pinned : Pinned := { name := "ytmefjlcbkflbmaa", sum := "5ea8883c6c3582798dbfcdca7ac47dc3e25e263f3d9a383ddc9ef120740d872c", checked := Try.checked }
namespace Rows
def none {H : Type} : Left H := { results := [], args := [] }

/-- 'laws.FnExactValidSetting': WHATEVER THE INPUT: true; the input reads as it did. -/
def fnExactValidSettingSpec : ChangeSpec := { name := "fnExactValidSetting", fn := fun _ => fun
  | [d] => { results := [.lit (.bool true)], args := [d] }
  | _ => none }
def fnExactValidSettingRow : OpenClaim := { program := "ytmefjlcbkflbmaa", sum := "5ea8883c6c3582798dbfcdca7ac47dc3e25e263f3d9a383ddc9ef120740d872c", func := "loop.example/g00918/laws.FnExactValidSetting", spec := "fnExactValidSetting", apart := false }
def FnExactValidSettingSaid : Prop := fnExactValidSettingRow.holds Try.pinned (OpenSpec.ofChange fnExactValidSettingSpec)

/-- ITS FALSE NEIGHBOUR: 'it returns false'. Refute it at one input. -/
def fnExactValidSettingWrong : ChangeSpec := { name := "fnExactValidSetting", fn := fun _ => fun
  | [d] => { results := [.lit (.bool false)], args := [d] }
  | _ => none }
def FnExactValidSettingWrongFalsely : Prop := fnExactValidSettingRow.holds Try.pinned (OpenSpec.ofChange fnExactValidSettingWrong)

/-- 'laws.FnExactSameLexicon': WHATEVER THE INPUT: true; the input reads as it did. -/
def fnExactSameLexiconSpec : ChangeSpec := { name := "fnExactSameLexicon", fn := fun _ => fun
  | [d1, d2] => { results := [.lit (.bool true)], args := [d1, d2] }
  | _ => none }
def fnExactSameLexiconRow : OpenClaim := { program := "ytmefjlcbkflbmaa", sum := "5ea8883c6c3582798dbfcdca7ac47dc3e25e263f3d9a383ddc9ef120740d872c", func := "loop.example/g00918/laws.FnExactSameLexicon", spec := "fnExactSameLexicon", apart := false }
def FnExactSameLexiconSaid : Prop := fnExactSameLexiconRow.holds Try.pinned (OpenSpec.ofChange fnExactSameLexiconSpec)

/-- ITS FALSE NEIGHBOUR: 'it returns false'. Refute it at one input. -/
def fnExactSameLexiconWrong : ChangeSpec := { name := "fnExactSameLexicon", fn := fun _ => fun
  | [d1, d2] => { results := [.lit (.bool false)], args := [d1, d2] }
  | _ => none }
def FnExactSameLexiconWrongFalsely : Prop := fnExactSameLexiconRow.holds Try.pinned (OpenSpec.ofChange fnExactSameLexiconWrong)

/-- 'laws.FnExactValidLexicon': WHATEVER THE INPUT: true; the input reads as it did. -/
def fnExactValidLexiconSpec : ChangeSpec := { name := "fnExactValidLexicon", fn := fun _ => fun
  | [d] => { results := [.lit (.bool true)], args := [d] }
  | _ => none }
def fnExactValidLexiconRow : OpenClaim := { program := "ytmefjlcbkflbmaa", sum := "5ea8883c6c3582798dbfcdca7ac47dc3e25e263f3d9a383ddc9ef120740d872c", func := "loop.example/g00918/laws.FnExactValidLexicon", spec := "fnExactValidLexicon", apart := false }
def FnExactValidLexiconSaid : Prop := fnExactValidLexiconRow.holds Try.pinned (OpenSpec.ofChange fnExactValidLexiconSpec)

/-- ITS FALSE NEIGHBOUR: 'it returns false'. Refute it at one input. -/
def fnExactValidLexiconWrong : ChangeSpec := { name := "fnExactValidLexicon", fn := fun _ => fun
  | [d] => { results := [.lit (.bool false)], args := [d] }
  | _ => none }
def FnExactValidLexiconWrongFalsely : Prop := fnExactValidLexiconRow.holds Try.pinned (OpenSpec.ofChange fnExactValidLexiconWrong)

/-- 'laws.FnExactEntryCost': WHATEVER THE INPUT: true; the input reads as it did. -/
def fnExactEntryCostSpec : ChangeSpec := { name := "fnExactEntryCost", fn := fun _ => fun
  | [d1, d2] => { results := [.lit (.bool true)], args := [d1, d2] }
  | _ => none }
def fnExactEntryCostRow : OpenClaim := { program := "ytmefjlcbkflbmaa", sum := "5ea8883c6c3582798dbfcdca7ac47dc3e25e263f3d9a383ddc9ef120740d872c", func := "loop.example/g00918/laws.FnExactEntryCost", spec := "fnExactEntryCost", unfollowed := true, recurses := true, apart := false }
def FnExactEntryCostSaid : Prop := fnExactEntryCostRow.holds Try.pinned (OpenSpec.ofChange fnExactEntryCostSpec)

/-- ITS FALSE NEIGHBOUR: 'it returns false'. Refute it at one input. -/
def fnExactEntryCostWrong : ChangeSpec := { name := "fnExactEntryCost", fn := fun _ => fun
  | [d1, d2] => { results := [.lit (.bool false)], args := [d1, d2] }
  | _ => none }
def FnExactEntryCostWrongFalsely : Prop := fnExactEntryCostRow.holds Try.pinned (OpenSpec.ofChange fnExactEntryCostWrong)

/-- 'laws.FnExactDropEntry': WHATEVER THE INPUT: true; the input reads as it did. -/
def fnExactDropEntrySpec : ChangeSpec := { name := "fnExactDropEntry", fn := fun _ => fun
  | [d1, d2] => { results := [.lit (.bool true)], args := [d1, d2] }
  | _ => none }
def fnExactDropEntryRow : OpenClaim := { program := "ytmefjlcbkflbmaa", sum := "5ea8883c6c3582798dbfcdca7ac47dc3e25e263f3d9a383ddc9ef120740d872c", func := "loop.example/g00918/laws.FnExactDropEntry", spec := "fnExactDropEntry", unfollowed := true, recurses := true, apart := false }
def FnExactDropEntrySaid : Prop := fnExactDropEntryRow.holds Try.pinned (OpenSpec.ofChange fnExactDropEntrySpec)

/-- ITS FALSE NEIGHBOUR: 'it returns false'. Refute it at one input. -/
def fnExactDropEntryWrong : ChangeSpec := { name := "fnExactDropEntry", fn := fun _ => fun
  | [d1, d2] => { results := [.lit (.bool false)], args := [d1, d2] }
  | _ => none }
def FnExactDropEntryWrongFalsely : Prop := fnExactDropEntryRow.holds Try.pinned (OpenSpec.ofChange fnExactDropEntryWrong)

/-- 'laws.FnExactSetEntry': WHATEVER THE INPUT: true; the input reads as it did. -/
def fnExactSetEntrySpec : ChangeSpec := { name := "fnExactSetEntry", fn := fun _ => fun
  | [d1, d2] => { results := [.lit (.bool true)], args := [d1, d2] }
  | _ => none }
def fnExactSetEntryRow : OpenClaim := { program := "ytmefjlcbkflbmaa", sum := "5ea8883c6c3582798dbfcdca7ac47dc3e25e263f3d9a383ddc9ef120740d872c", func := "loop.example/g00918/laws.FnExactSetEntry", spec := "fnExactSetEntry", inPlace := ["slices.overlaps[loop.example/g00918/impl.Entry]"], unfollowed := true, recurses := true, apart := false }
def FnExactSetEntrySaid : Prop := fnExactSetEntryRow.holds Try.pinned (OpenSpec.ofChange fnExactSetEntrySpec)

/-- ITS FALSE NEIGHBOUR: 'it returns false'. Refute it at one input. -/
def fnExactSetEntryWrong : ChangeSpec := { name := "fnExactSetEntry", fn := fun _ => fun
  | [d1, d2] => { results := [.lit (.bool false)], args := [d1, d2] }
  | _ => none }
def FnExactSetEntryWrongFalsely : Prop := fnExactSetEntryRow.holds Try.pinned (OpenSpec.ofChange fnExactSetEntryWrong)

/- THE SECOND FORM. 'bulk': how many values and letters a reading holds, each counted each time it is reached (what is shared counts as often as it is met; a slice's spare places count too). A statement '..UptoSaid' is the law's where the arguments, and the package variables that the reading takes, are together of bulk at most 1048576: NARROWER than '..Said'. Prove '..Said' where nothing that the law and all that it calls make is longer than what came in: it says more and counts as full. Else prove '..UptoSaid'. A law counts once. -/
mutual
def uptoBulk {H : Type} : DataW H → Nat
  | .lit (.string bytes) => bytes.length + 1
  | .lit _ => 1
  | .nil => 1
  | .ptr d => uptoBulk d + 1
  | .slice elems spare => uptoBulkAll elems + uptoBulkAll spare + 1
  | .agg parts => uptoBulkAll parts + 1
  | .iface _ d => uptoBulk d + 1
  | .map entries => uptoBulkEntries entries + 1
  | .held _ => 1
def uptoBulkAll {H : Type} : List (DataW H) → Nat
  | [] => 0
  | d :: r => uptoBulk d + uptoBulkAll r
def uptoBulkEntries {H : Type} : List (Lit × DataW H) → Nat
  | [] => 0
  | x :: r => uptoBulkEntry x + uptoBulkEntries r
def uptoBulkEntry {H : Type} : Lit × DataW H → Nat
  | (.string bytes, d) => bytes.length + uptoBulk d + 1
  | (_, d) => uptoBulk d + 1
 end
def uptoSmall : (H : Type) → List (DataW H) → Bool := fun _ ds => decide (uptoBulkAll ds ≤ 1048576)
def OpenSpec.upto (s : _root_.Go.ChangeSpec) : _root_.Go.OpenSpec := { _root_.Go.OpenSpec.ofChange s with cond := some uptoSmall }

/-- 'laws.FnExactValidSetting', WHERE WHAT IT READS IS OF BULK AT MOST 1048576: true; the input reads as it did. -/
def fnExactValidSettingUptoRow : OpenClaim := { program := "ytmefjlcbkflbmaa", sum := "5ea8883c6c3582798dbfcdca7ac47dc3e25e263f3d9a383ddc9ef120740d872c", func := "loop.example/g00918/laws.FnExactValidSetting", spec := "fnExactValidSetting", apart := false, narrowed := true }
def FnExactValidSettingUptoSaid : Prop := fnExactValidSettingUptoRow.holds Try.pinned (OpenSpec.upto fnExactValidSettingSpec)

/-- 'laws.FnExactSameLexicon', WHERE WHAT IT READS IS OF BULK AT MOST 1048576: true; the input reads as it did. -/
def fnExactSameLexiconUptoRow : OpenClaim := { program := "ytmefjlcbkflbmaa", sum := "5ea8883c6c3582798dbfcdca7ac47dc3e25e263f3d9a383ddc9ef120740d872c", func := "loop.example/g00918/laws.FnExactSameLexicon", spec := "fnExactSameLexicon", apart := false, narrowed := true }
def FnExactSameLexiconUptoSaid : Prop := fnExactSameLexiconUptoRow.holds Try.pinned (OpenSpec.upto fnExactSameLexiconSpec)

/-- 'laws.FnExactValidLexicon', WHERE WHAT IT READS IS OF BULK AT MOST 1048576: true; the input reads as it did. -/
def fnExactValidLexiconUptoRow : OpenClaim := { program := "ytmefjlcbkflbmaa", sum := "5ea8883c6c3582798dbfcdca7ac47dc3e25e263f3d9a383ddc9ef120740d872c", func := "loop.example/g00918/laws.FnExactValidLexicon", spec := "fnExactValidLexicon", apart := false, narrowed := true }
def FnExactValidLexiconUptoSaid : Prop := fnExactValidLexiconUptoRow.holds Try.pinned (OpenSpec.upto fnExactValidLexiconSpec)

/-- 'laws.FnExactEntryCost', WHERE WHAT IT READS IS OF BULK AT MOST 1048576: true; the input reads as it did. -/
def fnExactEntryCostUptoRow : OpenClaim := { program := "ytmefjlcbkflbmaa", sum := "5ea8883c6c3582798dbfcdca7ac47dc3e25e263f3d9a383ddc9ef120740d872c", func := "loop.example/g00918/laws.FnExactEntryCost", spec := "fnExactEntryCost", unfollowed := true, recurses := true, apart := false, narrowed := true }
def FnExactEntryCostUptoSaid : Prop := fnExactEntryCostUptoRow.holds Try.pinned (OpenSpec.upto fnExactEntryCostSpec)

/-- 'laws.FnExactDropEntry', WHERE WHAT IT READS IS OF BULK AT MOST 1048576: true; the input reads as it did. -/
def fnExactDropEntryUptoRow : OpenClaim := { program := "ytmefjlcbkflbmaa", sum := "5ea8883c6c3582798dbfcdca7ac47dc3e25e263f3d9a383ddc9ef120740d872c", func := "loop.example/g00918/laws.FnExactDropEntry", spec := "fnExactDropEntry", unfollowed := true, recurses := true, apart := false, narrowed := true }
def FnExactDropEntryUptoSaid : Prop := fnExactDropEntryUptoRow.holds Try.pinned (OpenSpec.upto fnExactDropEntrySpec)

/-- 'laws.FnExactSetEntry', WHERE WHAT IT READS IS OF BULK AT MOST 1048576: true; the input reads as it did. -/
def fnExactSetEntryUptoRow : OpenClaim := { program := "ytmefjlcbkflbmaa", sum := "5ea8883c6c3582798dbfcdca7ac47dc3e25e263f3d9a383ddc9ef120740d872c", func := "loop.example/g00918/laws.FnExactSetEntry", spec := "fnExactSetEntry", inPlace := ["slices.overlaps[loop.example/g00918/impl.Entry]"], unfollowed := true, recurses := true, apart := false, narrowed := true }
def FnExactSetEntryUptoSaid : Prop := fnExactSetEntryUptoRow.holds Try.pinned (OpenSpec.upto fnExactSetEntrySpec)

end Rows
end Go.Proofs.Ytmefjlcbkflbmaa
