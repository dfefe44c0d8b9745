/- Two lattices joined, and the reference's call that joins them. -/
import Derived.Test.YthooeaappnkjgaaLtPath
import Derived.Test.YthooeaappnkjgaaApp3
import Derived.Test.YthooeaappnkjgaaReg
import Derived.Deep.AppendLies
namespace Go.Proofs.Ythooeaappnkjgaa
open Go.RowKit
attribute [local go_sem ↓] Go.wp_at_zero Go.wp_at_succ

def shiftE (d : Int) (e : DEdge) : DEdge := ⟨e.frm + d, e.to_ + d, e.label, e.cost⟩
def fullJ (a b : XLattice) : Bool := decide (20 < a.1 + b.1 - 1) || decide (200 < a.2.length + b.2.length)
def joinLt (a b : XLattice) : XLattice := if validLt a && validLt b && !fullJ a b then (a.1 + b.1 - 1, a.2 ++ b.2.map (shiftE (a.1 - 1))) else (0, [])
def joinC (a b : XLattice) : Int := if validLt a && validLt b then (if fullJ a b then 5 else 0) else 1
theorem okJoin {a b : XLattice} (_ : okLattice a) (_ : okLattice b) : okLattice (joinLt a b) := by
  unfold joinLt okLattice
  split
  · rename_i h
    simp [fullJ] at h
    simp; omega
  · simp
theorem infEdge : (Try.prog.info? 35).map (fun i => (i.zero, i.size, i.bytes)) = some (some (.agg #[.int .i64 0, .int .i64 0, .string ByteArray.empty, .int .i64 0]), eEdge.sz, 40) := by kernel_rfl
theorem rLt_new {w w' : World} {B : Nat} {u : Value} {n : Int} {x : List DEdge} (h : Own eEdge 35 B w' u x) (hB : w.heap.size ≤ B) : rLattice.own w.heap.size w'.heap.size w' (.agg #[.int .i64 n, u]) (n, x) :=
  ⟨u, rfl, (h.mono hB).in_⟩
theorem map_take_succ {α β : Type} (f : α → β) {x : List α} {k : Nat} {e : α} (h : x[k]? = some e) : (x.take (k + 1)).map f = (x.take k).map f ++ [f e] := by
  rw [List.take_add_one, h]; simp

end Go.Proofs.Ythooeaappnkjgaa
