/-
  No cell of these rows narrows 'for every input' (looked for: loops, veiled, ifaces, maps, wideKeys, modest, calm, conditions, laid).
  DERIVED. THE GIVEN ROWS OF THIS SEAT. 6 by the template 'for every input the law returns true; each argument reads behind the call as it read before'; 0 by the template 'total and deterministic' (their statements: YtkgfonchklnckaaTotals.lean).
  GIVEN WITH THE SEED: the statements are not yours to turn. If you find one false, say at which input.
  Laid BY PROGRAM, IN A SANDBOX (cutbox-rows.mjs): the forced cells as the released guide's own fill.sh prints them over the translation 35b71435edf075be… (all of the seat's roots in one cut). By AI agents, Wed Nov 11 2026. No macro, syntax, notation, axiom, sorry.
-/
import Derived.Test.YtkgfonchklnckaaChecked
import GoSem.Claim
import GoSem.ClaimJoined
import GoSem.ClaimMapViews
import Derived.JoinedTies
import Derived.KernelRfl
namespace Go.Proofs.Ytkgfonchklnckaa
/- THE CELL 'sum', in the pinned program and in every row, IS THE sha256 OF THE DUMP (.gsa) THAT YtkgfonchklnckaaProg.lean LOADS. Nothing in Lean hashes anything: it is a label: what it is worth is what the hold of that sum in a sandbox is worth. -/
noncomputable def Try.pinned : Pinned := { name := "ytkgfonchklnckaa", sum := "35b71435edf075bedd033e2ff88763c97962e27581c695d2a9739d5e4e40db1f", checked := Try.checked }
namespace Rows
def none {H : Type} : Left H := { results := [], args := [] }

/-- 'laws.FnExactSameLattice': WHATEVER THE INPUT: true; the input reads as it did. -/
def fnExactSameLatticeSpec : ChangeSpec := { name := "fnExactSameLattice", fn := fun _ => fun
  | [d1, d2] => { results := [.lit (.bool true)], args := [d1, d2] }
  | _ => none }
def fnExactSameLatticeRow : OpenClaim := { program := "ytkgfonchklnckaa", sum := "35b71435edf075bedd033e2ff88763c97962e27581c695d2a9739d5e4e40db1f", func := "loop.example/g00918/laws.FnExactSameLattice", spec := "fnExactSameLattice", apart := false }
def FnExactSameLatticeSaid : Prop := fnExactSameLatticeRow.holds Try.pinned (OpenSpec.ofChange fnExactSameLatticeSpec)

/-- ITS FALSE NEIGHBOUR: 'it returns false'. Refute it at one input. -/
def fnExactSameLatticeWrong : ChangeSpec := { name := "fnExactSameLattice", fn := fun _ => fun
  | [d1, d2] => { results := [.lit (.bool false)], args := [d1, d2] }
  | _ => none }
def FnExactSameLatticeWrongFalsely : Prop := fnExactSameLatticeRow.holds Try.pinned (OpenSpec.ofChange fnExactSameLatticeWrong)

/-- 'laws.FnExactValidLattice': WHATEVER THE INPUT: true; the input reads as it did. -/
def fnExactValidLatticeSpec : ChangeSpec := { name := "fnExactValidLattice", fn := fun _ => fun
  | [d] => { results := [.lit (.bool true)], args := [d] }
  | _ => none }
def fnExactValidLatticeRow : OpenClaim := { program := "ytkgfonchklnckaa", sum := "35b71435edf075bedd033e2ff88763c97962e27581c695d2a9739d5e4e40db1f", func := "loop.example/g00918/laws.FnExactValidLattice", spec := "fnExactValidLattice", inPlace := ["internal/bytealg.IndexByteString", "internal/bytealg.IndexString"], named := ["internal/bytealg.MaxLen"], apart := false }
def FnExactValidLatticeSaid : Prop := fnExactValidLatticeRow.holds Try.pinned (OpenSpec.ofChange fnExactValidLatticeSpec)

/-- ITS FALSE NEIGHBOUR: 'it returns false'. Refute it at one input. -/
def fnExactValidLatticeWrong : ChangeSpec := { name := "fnExactValidLattice", fn := fun _ => fun
  | [d] => { results := [.lit (.bool false)], args := [d] }
  | _ => none }
def FnExactValidLatticeWrongFalsely : Prop := fnExactValidLatticeRow.holds Try.pinned (OpenSpec.ofChange fnExactValidLatticeWrong)

/-- 'laws.FnExactPathCount': WHATEVER THE INPUT: true; the input reads as it did. -/
def fnExactPathCountSpec : ChangeSpec := { name := "fnExactPathCount", fn := fun _ => fun
  | [d] => { results := [.lit (.bool true)], args := [d] }
  | _ => none }
def fnExactPathCountRow : OpenClaim := { program := "ytkgfonchklnckaa", sum := "35b71435edf075bedd033e2ff88763c97962e27581c695d2a9739d5e4e40db1f", func := "loop.example/g00918/laws.FnExactPathCount", spec := "fnExactPathCount", inPlace := ["internal/bytealg.IndexByteString", "internal/bytealg.IndexString"], named := ["internal/bytealg.MaxLen"], apart := false }
def FnExactPathCountSaid : Prop := fnExactPathCountRow.holds Try.pinned (OpenSpec.ofChange fnExactPathCountSpec)

/-- ITS FALSE NEIGHBOUR: 'it returns false'. Refute it at one input. -/
def fnExactPathCountWrong : ChangeSpec := { name := "fnExactPathCount", fn := fun _ => fun
  | [d] => { results := [.lit (.bool false)], args := [d] }
  | _ => none }
def FnExactPathCountWrongFalsely : Prop := fnExactPathCountRow.holds Try.pinned (OpenSpec.ofChange fnExactPathCountWrong)

/-- 'laws.FnExactTextCost': WHATEVER THE INPUT: true; the input reads as it did. -/
def fnExactTextCostSpec : ChangeSpec := { name := "fnExactTextCost", fn := fun _ => fun
  | [d1, d2] => { results := [.lit (.bool true)], args := [d1, d2] }
  | _ => none }
def fnExactTextCostRow : OpenClaim := { program := "ytkgfonchklnckaa", sum := "35b71435edf075bedd033e2ff88763c97962e27581c695d2a9739d5e4e40db1f", func := "loop.example/g00918/laws.FnExactTextCost", spec := "fnExactTextCost", inPlace := ["internal/bytealg.IndexByteString", "internal/bytealg.IndexString"], named := ["internal/bytealg.MaxLen"], apart := false }
def FnExactTextCostSaid : Prop := fnExactTextCostRow.holds Try.pinned (OpenSpec.ofChange fnExactTextCostSpec)

/-- ITS FALSE NEIGHBOUR: 'it returns false'. Refute it at one input. -/
def fnExactTextCostWrong : ChangeSpec := { name := "fnExactTextCost", fn := fun _ => fun
  | [d1, d2] => { results := [.lit (.bool false)], args := [d1, d2] }
  | _ => none }
def FnExactTextCostWrongFalsely : Prop := fnExactTextCostRow.holds Try.pinned (OpenSpec.ofChange fnExactTextCostWrong)

/-- 'laws.FnExactPruneLattice': WHATEVER THE INPUT: true; the input reads as it did. -/
def fnExactPruneLatticeSpec : ChangeSpec := { name := "fnExactPruneLattice", fn := fun _ => fun
  | [d1, d2] => { results := [.lit (.bool true)], args := [d1, d2] }
  | _ => none }
def fnExactPruneLatticeRow : OpenClaim := { program := "ytkgfonchklnckaa", sum := "35b71435edf075bedd033e2ff88763c97962e27581c695d2a9739d5e4e40db1f", func := "loop.example/g00918/laws.FnExactPruneLattice", spec := "fnExactPruneLattice", inPlace := ["internal/bytealg.IndexByteString", "internal/bytealg.IndexString"], named := ["internal/bytealg.MaxLen"], apart := false }
def FnExactPruneLatticeSaid : Prop := fnExactPruneLatticeRow.holds Try.pinned (OpenSpec.ofChange fnExactPruneLatticeSpec)

/-- ITS FALSE NEIGHBOUR: 'it returns false'. Refute it at one input. -/
def fnExactPruneLatticeWrong : ChangeSpec := { name := "fnExactPruneLattice", fn := fun _ => fun
  | [d1, d2] => { results := [.lit (.bool false)], args := [d1, d2] }
  | _ => none }
def FnExactPruneLatticeWrongFalsely : Prop := fnExactPruneLatticeRow.holds Try.pinned (OpenSpec.ofChange fnExactPruneLatticeWrong)

/-- 'laws.FnExactJoinLattices': WHATEVER THE INPUT: true; the input reads as it did. -/
def fnExactJoinLatticesSpec : ChangeSpec := { name := "fnExactJoinLattices", fn := fun _ => fun
  | [d1, d2] => { results := [.lit (.bool true)], args := [d1, d2] }
  | _ => none }
def fnExactJoinLatticesRow : OpenClaim := { program := "ytkgfonchklnckaa", sum := "35b71435edf075bedd033e2ff88763c97962e27581c695d2a9739d5e4e40db1f", func := "loop.example/g00918/laws.FnExactJoinLattices", spec := "fnExactJoinLattices", inPlace := ["internal/bytealg.IndexByteString", "internal/bytealg.IndexString"], named := ["internal/bytealg.MaxLen"], apart := false }
def FnExactJoinLatticesSaid : Prop := fnExactJoinLatticesRow.holds Try.pinned (OpenSpec.ofChange fnExactJoinLatticesSpec)

/-- ITS FALSE NEIGHBOUR: 'it returns false'. Refute it at one input. -/
def fnExactJoinLatticesWrong : ChangeSpec := { name := "fnExactJoinLattices", fn := fun _ => fun
  | [d1, d2] => { results := [.lit (.bool false)], args := [d1, d2] }
  | _ => none }
def FnExactJoinLatticesWrongFalsely : Prop := fnExactJoinLatticesRow.holds Try.pinned (OpenSpec.ofChange fnExactJoinLatticesWrong)

/- THE SECOND FORM. 'bulk': how many values and letters a reading holds, each counted each time it is reached (what is shared counts as often as it is met; a slice's spare places count too). A statement '..UptoSaid' is the law's where the arguments, and the package variables that the reading takes, are together of bulk at most 1048576: NARROWER than '..Said'. Prove '..Said' where nothing that the law and all that it calls make is longer than what came in: it says more and counts as full. Else prove '..UptoSaid'. A law counts once. -/
mutual
def uptoBulk {H : Type} : DataW H → Nat
  | .lit (.string bytes) => bytes.length + 1
  | .lit _ => 1
  | .nil => 1
  | .ptr d => uptoBulk d + 1
  | .slice elems spare => uptoBulkAll elems + uptoBulkAll spare + 1
  | .agg parts => uptoBulkAll parts + 1
  | .iface _ d => uptoBulk d + 1
  | .map entries => uptoBulkEntries entries + 1
  | .held _ => 1
def uptoBulkAll {H : Type} : List (DataW H) → Nat
  | [] => 0
  | d :: r => uptoBulk d + uptoBulkAll r
def uptoBulkEntries {H : Type} : List (Lit × DataW H) → Nat
  | [] => 0
  | x :: r => uptoBulkEntry x + uptoBulkEntries r
def uptoBulkEntry {H : Type} : Lit × DataW H → Nat
  | (.string bytes, d) => bytes.length + uptoBulk d + 1
  | (_, d) => uptoBulk d + 1
 end
def uptoSmall : (H : Type) → List (DataW H) → Bool := fun _ ds => decide (uptoBulkAll ds ≤ 1048576)
def OpenSpec.upto (s : _root_.Go.ChangeSpec) : _root_.Go.OpenSpec := { _root_.Go.OpenSpec.ofChange s with cond := some uptoSmall }

/-- 'laws.FnExactSameLattice', WHERE WHAT IT READS IS OF BULK AT MOST 1048576: true; the input reads as it did. -/
def fnExactSameLatticeUptoRow : OpenClaim := { program := "ytkgfonchklnckaa", sum := "35b71435edf075bedd033e2ff88763c97962e27581c695d2a9739d5e4e40db1f", func := "loop.example/g00918/laws.FnExactSameLattice", spec := "fnExactSameLattice", apart := false, narrowed := true }
def FnExactSameLatticeUptoSaid : Prop := fnExactSameLatticeUptoRow.holds Try.pinned (OpenSpec.upto fnExactSameLatticeSpec)

/-- 'laws.FnExactValidLattice', WHERE WHAT IT READS IS OF BULK AT MOST 1048576: true; the input reads as it did. -/
def fnExactValidLatticeUptoRow : OpenClaim := { program := "ytkgfonchklnckaa", sum := "35b71435edf075bedd033e2ff88763c97962e27581c695d2a9739d5e4e40db1f", func := "loop.example/g00918/laws.FnExactValidLattice", spec := "fnExactValidLattice", inPlace := ["internal/bytealg.IndexByteString", "internal/bytealg.IndexString"], named := ["internal/bytealg.MaxLen"], apart := false, narrowed := true }
def FnExactValidLatticeUptoSaid : Prop := fnExactValidLatticeUptoRow.holds Try.pinned (OpenSpec.upto fnExactValidLatticeSpec)

/-- 'laws.FnExactPathCount', WHERE WHAT IT READS IS OF BULK AT MOST 1048576: true; the input reads as it did. -/
def fnExactPathCountUptoRow : OpenClaim := { program := "ytkgfonchklnckaa", sum := "35b71435edf075bedd033e2ff88763c97962e27581c695d2a9739d5e4e40db1f", func := "loop.example/g00918/laws.FnExactPathCount", spec := "fnExactPathCount", inPlace := ["internal/bytealg.IndexByteString", "internal/bytealg.IndexString"], named := ["internal/bytealg.MaxLen"], apart := false, narrowed := true }
def FnExactPathCountUptoSaid : Prop := fnExactPathCountUptoRow.holds Try.pinned (OpenSpec.upto fnExactPathCountSpec)

/-- 'laws.FnExactTextCost', WHERE WHAT IT READS IS OF BULK AT MOST 1048576: true; the input reads as it did. -/
def fnExactTextCostUptoRow : OpenClaim := { program := "ytkgfonchklnckaa", sum := "35b71435edf075bedd033e2ff88763c97962e27581c695d2a9739d5e4e40db1f", func := "loop.example/g00918/laws.FnExactTextCost", spec := "fnExactTextCost", inPlace := ["internal/bytealg.IndexByteString", "internal/bytealg.IndexString"], named := ["internal/bytealg.MaxLen"], apart := false, narrowed := true }
def FnExactTextCostUptoSaid : Prop := fnExactTextCostUptoRow.holds Try.pinned (OpenSpec.upto fnExactTextCostSpec)

/-- 'laws.FnExactPruneLattice', WHERE WHAT IT READS IS OF BULK AT MOST 1048576: true; the input reads as it did. -/
def fnExactPruneLatticeUptoRow : OpenClaim := { program := "ytkgfonchklnckaa", sum := "35b71435edf075bedd033e2ff88763c97962e27581c695d2a9739d5e4e40db1f", func := "loop.example/g00918/laws.FnExactPruneLattice", spec := "fnExactPruneLattice", inPlace := ["internal/bytealg.IndexByteString", "internal/bytealg.IndexString"], named := ["internal/bytealg.MaxLen"], apart := false, narrowed := true }
def FnExactPruneLatticeUptoSaid : Prop := fnExactPruneLatticeUptoRow.holds Try.pinned (OpenSpec.upto fnExactPruneLatticeSpec)

/-- 'laws.FnExactJoinLattices', WHERE WHAT IT READS IS OF BULK AT MOST 1048576: true; the input reads as it did. -/
def fnExactJoinLatticesUptoRow : OpenClaim := { program := "ytkgfonchklnckaa", sum := "35b71435edf075bedd033e2ff88763c97962e27581c695d2a9739d5e4e40db1f", func := "loop.example/g00918/laws.FnExactJoinLattices", spec := "fnExactJoinLattices", inPlace := ["internal/bytealg.IndexByteString", "internal/bytealg.IndexString"], named := ["internal/bytealg.MaxLen"], apart := false, narrowed := true }
def FnExactJoinLatticesUptoSaid : Prop := fnExactJoinLatticesUptoRow.holds Try.pinned (OpenSpec.upto fnExactJoinLatticesSpec)

end Rows
end Go.Proofs.Ytkgfonchklnckaa
