/-
  No cell of these rows narrows 'for every input' (looked for: loops, veiled, ifaces, maps, wideKeys, modest, calm, conditions, laid).
  DERIVED. THE GIVEN ROWS OF THIS SEAT. 6 by the template 'for every input the law returns true; each argument reads behind the call as it read before'; 0 by the template 'total and deterministic' (their statements: YtnanegdcoegahaaTotals.lean).
  GIVEN WITH THE SEED: the statements are not yours to turn. If you find one false, say at which input.
  Laid BY PROGRAM, IN A SANDBOX (cutbox-rows.mjs): the forced cells as the released guide's own fill.sh prints them over the translation b4c9d7ddf139dd7b… (all of the seat's roots in one cut). By AI agents, Wed Nov 11 2026. No macro, syntax, notation, axiom, sorry.
-/
import Derived.Test.YtnanegdcoegahaaChecked
import GoSem.Claim
import GoSem.ClaimJoined
import GoSem.ClaimMapViews
import Derived.JoinedTies
import Derived.KernelRfl
namespace Go.Proofs.Ytnanegdcoegahaa
/- THE CELL 'sum', in the pinned program and in every row, IS THE sha256 OF THE DUMP (.gsa) THAT YtnanegdcoegahaaProg.lean LOADS. Nothing in Lean hashes anything: it is a label: what it is worth is what the hold of that sum in a sandbox is worth. -/
noncomputable def Try.pinned : Pinned := { name := "ytnanegdcoegahaa", sum := "b4c9d7ddf139dd7b3116e5f25dd2fd1819612092811b45d87058dd2dbb80bf65", checked := Try.checked }
namespace Rows
def none {H : Type} : Left H := { results := [], args := [] }

/-- 'laws.FnExactFindWord': WHATEVER THE INPUT: true; the input reads as it did. -/
def fnExactFindWordSpec : ChangeSpec := { name := "fnExactFindWord", fn := fun _ => fun
  | [d1, d2] => { results := [.lit (.bool true)], args := [d1, d2] }
  | _ => none }
def fnExactFindWordRow : OpenClaim := { program := "ytnanegdcoegahaa", sum := "b4c9d7ddf139dd7b3116e5f25dd2fd1819612092811b45d87058dd2dbb80bf65", func := "loop.example/g00918/laws.FnExactFindWord", spec := "fnExactFindWord", inPlace := ["internal/bytealg.IndexByteString", "internal/bytealg.IndexString"], unfollowed := true, recurses := true, named := ["internal/bytealg.MaxLen"], apart := false }
def FnExactFindWordSaid : Prop := fnExactFindWordRow.holds Try.pinned (OpenSpec.ofChange fnExactFindWordSpec)

/-- ITS FALSE NEIGHBOUR: 'it returns false'. Refute it at one input. -/
def fnExactFindWordWrong : ChangeSpec := { name := "fnExactFindWord", fn := fun _ => fun
  | [d1, d2] => { results := [.lit (.bool false)], args := [d1, d2] }
  | _ => none }
def FnExactFindWordWrongFalsely : Prop := fnExactFindWordRow.holds Try.pinned (OpenSpec.ofChange fnExactFindWordWrong)

/-- 'laws.FnExactFindWords': WHATEVER THE INPUT: true; the input reads as it did. -/
def fnExactFindWordsSpec : ChangeSpec := { name := "fnExactFindWords", fn := fun _ => fun
  | [d1, d2, d3] => { results := [.lit (.bool true)], args := [d1, d2, d3] }
  | _ => none }
def fnExactFindWordsRow : OpenClaim := { program := "ytnanegdcoegahaa", sum := "b4c9d7ddf139dd7b3116e5f25dd2fd1819612092811b45d87058dd2dbb80bf65", func := "loop.example/g00918/laws.FnExactFindWords", spec := "fnExactFindWords", inPlace := ["internal/bytealg.IndexByteString", "internal/bytealg.IndexString"], unfollowed := true, recurses := true, named := ["internal/bytealg.MaxLen"], apart := false }
def FnExactFindWordsSaid : Prop := fnExactFindWordsRow.holds Try.pinned (OpenSpec.ofChange fnExactFindWordsSpec)

/-- ITS FALSE NEIGHBOUR: 'it returns false'. Refute it at one input. -/
def fnExactFindWordsWrong : ChangeSpec := { name := "fnExactFindWords", fn := fun _ => fun
  | [d1, d2, d3] => { results := [.lit (.bool false)], args := [d1, d2, d3] }
  | _ => none }
def FnExactFindWordsWrongFalsely : Prop := fnExactFindWordsRow.holds Try.pinned (OpenSpec.ofChange fnExactFindWordsWrong)

/-- 'laws.FnExactAddEdge': WHATEVER THE INPUT: true; the input reads as it did. -/
def fnExactAddEdgeSpec : ChangeSpec := { name := "fnExactAddEdge", fn := fun _ => fun
  | [d1, d2] => { results := [.lit (.bool true)], args := [d1, d2] }
  | _ => none }
def fnExactAddEdgeRow : OpenClaim := { program := "ytnanegdcoegahaa", sum := "b4c9d7ddf139dd7b3116e5f25dd2fd1819612092811b45d87058dd2dbb80bf65", func := "loop.example/g00918/laws.FnExactAddEdge", spec := "fnExactAddEdge", inPlace := ["internal/bytealg.IndexByteString", "internal/bytealg.IndexString", "slices.overlaps[loop.example/g00918/impl.Edge]"], unfollowed := true, recurses := true, named := ["internal/bytealg.MaxLen"], apart := false }
def FnExactAddEdgeSaid : Prop := fnExactAddEdgeRow.holds Try.pinned (OpenSpec.ofChange fnExactAddEdgeSpec)

/-- ITS FALSE NEIGHBOUR: 'it returns false'. Refute it at one input. -/
def fnExactAddEdgeWrong : ChangeSpec := { name := "fnExactAddEdge", fn := fun _ => fun
  | [d1, d2] => { results := [.lit (.bool false)], args := [d1, d2] }
  | _ => none }
def FnExactAddEdgeWrongFalsely : Prop := fnExactAddEdgeRow.holds Try.pinned (OpenSpec.ofChange fnExactAddEdgeWrong)

/-- 'laws.FnExactCountCosts': WHATEVER THE INPUT: true; the input reads as it did. -/
def fnExactCountCostsSpec : ChangeSpec := { name := "fnExactCountCosts", fn := fun _ => fun
  | [d1, d2] => { results := [.lit (.bool true)], args := [d1, d2] }
  | _ => none }
def fnExactCountCostsRow : OpenClaim := { program := "ytnanegdcoegahaa", sum := "b4c9d7ddf139dd7b3116e5f25dd2fd1819612092811b45d87058dd2dbb80bf65", func := "loop.example/g00918/laws.FnExactCountCosts", spec := "fnExactCountCosts", unfollowed := true, recurses := true, apart := false }
def FnExactCountCostsSaid : Prop := fnExactCountCostsRow.holds Try.pinned (OpenSpec.ofChange fnExactCountCostsSpec)

/-- ITS FALSE NEIGHBOUR: 'it returns false'. Refute it at one input. -/
def fnExactCountCostsWrong : ChangeSpec := { name := "fnExactCountCosts", fn := fun _ => fun
  | [d1, d2] => { results := [.lit (.bool false)], args := [d1, d2] }
  | _ => none }
def FnExactCountCostsWrongFalsely : Prop := fnExactCountCostsRow.holds Try.pinned (OpenSpec.ofChange fnExactCountCostsWrong)

/-- 'laws.FnExactSetEntry': WHATEVER THE INPUT: true; the input reads as it did. -/
def fnExactSetEntrySpec : ChangeSpec := { name := "fnExactSetEntry", fn := fun _ => fun
  | [d1, d2] => { results := [.lit (.bool true)], args := [d1, d2] }
  | _ => none }
def fnExactSetEntryRow : OpenClaim := { program := "ytnanegdcoegahaa", sum := "b4c9d7ddf139dd7b3116e5f25dd2fd1819612092811b45d87058dd2dbb80bf65", func := "loop.example/g00918/laws.FnExactSetEntry", spec := "fnExactSetEntry", inPlace := ["slices.overlaps[loop.example/g00918/impl.Entry]"], unfollowed := true, recurses := true, apart := false }
def FnExactSetEntrySaid : Prop := fnExactSetEntryRow.holds Try.pinned (OpenSpec.ofChange fnExactSetEntrySpec)

/-- ITS FALSE NEIGHBOUR: 'it returns false'. Refute it at one input. -/
def fnExactSetEntryWrong : ChangeSpec := { name := "fnExactSetEntry", fn := fun _ => fun
  | [d1, d2] => { results := [.lit (.bool false)], args := [d1, d2] }
  | _ => none }
def FnExactSetEntryWrongFalsely : Prop := fnExactSetEntryRow.holds Try.pinned (OpenSpec.ofChange fnExactSetEntryWrong)

/-- 'laws.FnExactMergeHyps': WHATEVER THE INPUT: true; the input reads as it did. -/
def fnExactMergeHypsSpec : ChangeSpec := { name := "fnExactMergeHyps", fn := fun _ => fun
  | [d1, d2, d3] => { results := [.lit (.bool true)], args := [d1, d2, d3] }
  | _ => none }
def fnExactMergeHypsRow : OpenClaim := { program := "ytnanegdcoegahaa", sum := "b4c9d7ddf139dd7b3116e5f25dd2fd1819612092811b45d87058dd2dbb80bf65", func := "loop.example/g00918/laws.FnExactMergeHyps", spec := "fnExactMergeHyps", inPlace := ["internal/bytealg.IndexByteString", "internal/bytealg.IndexString"], unfollowed := true, recurses := true, named := ["internal/bytealg.MaxLen"], apart := false }
def FnExactMergeHypsSaid : Prop := fnExactMergeHypsRow.holds Try.pinned (OpenSpec.ofChange fnExactMergeHypsSpec)

/-- ITS FALSE NEIGHBOUR: 'it returns false'. Refute it at one input. -/
def fnExactMergeHypsWrong : ChangeSpec := { name := "fnExactMergeHyps", fn := fun _ => fun
  | [d1, d2, d3] => { results := [.lit (.bool false)], args := [d1, d2, d3] }
  | _ => none }
def FnExactMergeHypsWrongFalsely : Prop := fnExactMergeHypsRow.holds Try.pinned (OpenSpec.ofChange fnExactMergeHypsWrong)

/- THE SECOND FORM. 'bulk': how many values and letters a reading holds, each counted each time it is reached (what is shared counts as often as it is met; a slice's spare places count too). A statement '..UptoSaid' is the law's where the arguments, and the package variables that the reading takes, are together of bulk at most 1048576: NARROWER than '..Said'. Prove '..Said' where nothing that the law and all that it calls make is longer than what came in: it says more and counts as full. Else prove '..UptoSaid'. A law counts once. -/
mutual
def uptoBulk {H : Type} : DataW H → Nat
  | .lit (.string bytes) => bytes.length + 1
  | .lit _ => 1
  | .nil => 1
  | .ptr d => uptoBulk d + 1
  | .slice elems spare => uptoBulkAll elems + uptoBulkAll spare + 1
  | .agg parts => uptoBulkAll parts + 1
  | .iface _ d => uptoBulk d + 1
  | .map entries => uptoBulkEntries entries + 1
  | .held _ => 1
def uptoBulkAll {H : Type} : List (DataW H) → Nat
  | [] => 0
  | d :: r => uptoBulk d + uptoBulkAll r
def uptoBulkEntries {H : Type} : List (Lit × DataW H) → Nat
  | [] => 0
  | x :: r => uptoBulkEntry x + uptoBulkEntries r
def uptoBulkEntry {H : Type} : Lit × DataW H → Nat
  | (.string bytes, d) => bytes.length + uptoBulk d + 1
  | (_, d) => uptoBulk d + 1
 end
def uptoSmall : (H : Type) → List (DataW H) → Bool := fun _ ds => decide (uptoBulkAll ds ≤ 1048576)
def OpenSpec.upto (s : _root_.Go.ChangeSpec) : _root_.Go.OpenSpec := { _root_.Go.OpenSpec.ofChange s with cond := some uptoSmall }

/-- 'laws.FnExactFindWord', WHERE WHAT IT READS IS OF BULK AT MOST 1048576: true; the input reads as it did. -/
def fnExactFindWordUptoRow : OpenClaim := { program := "ytnanegdcoegahaa", sum := "b4c9d7ddf139dd7b3116e5f25dd2fd1819612092811b45d87058dd2dbb80bf65", func := "loop.example/g00918/laws.FnExactFindWord", spec := "fnExactFindWord", inPlace := ["internal/bytealg.IndexByteString", "internal/bytealg.IndexString"], unfollowed := true, recurses := true, named := ["internal/bytealg.MaxLen"], apart := false, narrowed := true }
def FnExactFindWordUptoSaid : Prop := fnExactFindWordUptoRow.holds Try.pinned (OpenSpec.upto fnExactFindWordSpec)

/-- 'laws.FnExactFindWords', WHERE WHAT IT READS IS OF BULK AT MOST 1048576: true; the input reads as it did. -/
def fnExactFindWordsUptoRow : OpenClaim := { program := "ytnanegdcoegahaa", sum := "b4c9d7ddf139dd7b3116e5f25dd2fd1819612092811b45d87058dd2dbb80bf65", func := "loop.example/g00918/laws.FnExactFindWords", spec := "fnExactFindWords", inPlace := ["internal/bytealg.IndexByteString", "internal/bytealg.IndexString"], unfollowed := true, recurses := true, named := ["internal/bytealg.MaxLen"], apart := false, narrowed := true }
def FnExactFindWordsUptoSaid : Prop := fnExactFindWordsUptoRow.holds Try.pinned (OpenSpec.upto fnExactFindWordsSpec)

/-- 'laws.FnExactAddEdge', WHERE WHAT IT READS IS OF BULK AT MOST 1048576: true; the input reads as it did. -/
def fnExactAddEdgeUptoRow : OpenClaim := { program := "ytnanegdcoegahaa", sum := "b4c9d7ddf139dd7b3116e5f25dd2fd1819612092811b45d87058dd2dbb80bf65", func := "loop.example/g00918/laws.FnExactAddEdge", spec := "fnExactAddEdge", inPlace := ["internal/bytealg.IndexByteString", "internal/bytealg.IndexString", "slices.overlaps[loop.example/g00918/impl.Edge]"], unfollowed := true, recurses := true, named := ["internal/bytealg.MaxLen"], apart := false, narrowed := true }
def FnExactAddEdgeUptoSaid : Prop := fnExactAddEdgeUptoRow.holds Try.pinned (OpenSpec.upto fnExactAddEdgeSpec)

/-- 'laws.FnExactCountCosts', WHERE WHAT IT READS IS OF BULK AT MOST 1048576: true; the input reads as it did. -/
def fnExactCountCostsUptoRow : OpenClaim := { program := "ytnanegdcoegahaa", sum := "b4c9d7ddf139dd7b3116e5f25dd2fd1819612092811b45d87058dd2dbb80bf65", func := "loop.example/g00918/laws.FnExactCountCosts", spec := "fnExactCountCosts", unfollowed := true, recurses := true, apart := false, narrowed := true }
def FnExactCountCostsUptoSaid : Prop := fnExactCountCostsUptoRow.holds Try.pinned (OpenSpec.upto fnExactCountCostsSpec)

/-- 'laws.FnExactSetEntry', WHERE WHAT IT READS IS OF BULK AT MOST 1048576: true; the input reads as it did. -/
def fnExactSetEntryUptoRow : OpenClaim := { program := "ytnanegdcoegahaa", sum := "b4c9d7ddf139dd7b3116e5f25dd2fd1819612092811b45d87058dd2dbb80bf65", func := "loop.example/g00918/laws.FnExactSetEntry", spec := "fnExactSetEntry", inPlace := ["slices.overlaps[loop.example/g00918/impl.Entry]"], unfollowed := true, recurses := true, apart := false, narrowed := true }
def FnExactSetEntryUptoSaid : Prop := fnExactSetEntryUptoRow.holds Try.pinned (OpenSpec.upto fnExactSetEntrySpec)

/-- 'laws.FnExactMergeHyps', WHERE WHAT IT READS IS OF BULK AT MOST 1048576: true; the input reads as it did. -/
def fnExactMergeHypsUptoRow : OpenClaim := { program := "ytnanegdcoegahaa", sum := "b4c9d7ddf139dd7b3116e5f25dd2fd1819612092811b45d87058dd2dbb80bf65", func := "loop.example/g00918/laws.FnExactMergeHyps", spec := "fnExactMergeHyps", inPlace := ["internal/bytealg.IndexByteString", "internal/bytealg.IndexString"], unfollowed := true, recurses := true, named := ["internal/bytealg.MaxLen"], apart := false, narrowed := true }
def FnExactMergeHypsUptoSaid : Prop := fnExactMergeHypsUptoRow.holds Try.pinned (OpenSpec.upto fnExactMergeHypsSpec)

end Rows
end Go.Proofs.Ytnanegdcoegahaa
