/- The number of paths of a lattice, and the calls that count them. -/
import Derived.Test.YthooeaappnkjgaaLtValid
import Derived.Test.YthooeaappnkjgaaCmp
import Derived.Deep.RegionHeld3
import Derived.Deep.DrawnRows
import Derived.StillTailTactics
import Derived.IntWalk
namespace Go.Proofs.Ythooeaappnkjgaa
open Go.RowKit
attribute [local go_sem ↓] Go.wp_at_zero Go.wp_at_succ

def stepW (node : Nat) (ws : List Int) (e : DEdge) : List Int :=
  if e.frm = node then ws.set e.to_.toNat (min 1000001 (ws.getD e.to_.toNat 0 + ws.getD node 0)) else ws
def rowW (x : List DEdge) (ws : List Int) (node : Nat) : List Int := x.foldl (stepW node) ws
def waysW (n : Nat) (x : List DEdge) (k : Nat) : List Int := (List.range k).foldl (rowW x) ((List.replicate n 0).set 0 1)
def waysLt (x : XLattice) : Int := (waysW x.1.toNat x.2 x.1.toNat).getD (x.1.toNat - 1) 0
def pathN (x : XLattice) : Int := if validLt x then (if 1000000 < waysLt x then 0 else waysLt x) else 0
def pathC (x : XLattice) : Int := if validLt x then (if 1000000 < waysLt x then 5 else 0) else 1

def okW (n : Nat) (ws : List Int) : Prop := n = ws.length ∧ ∀ (k : Nat) (u : Int), ws[k]? = some u → 0 ≤ u ∧ u ≤ 1000001
theorem okW_set {n : Nat} {ws : List Int} (h : okW n ws) {k : Nat} {u : Int} (h0 : 0 ≤ u) (h1 : u ≤ 1000001) : okW n (ws.set k u) := by
  refine ⟨by simpa using h.1, fun j v hj => ?_⟩
  rw [List.getElem?_set] at hj
  split at hj
  · split at hj
    · cases hj; exact ⟨h0, h1⟩
    · cases hj
  · exact h.2 j v hj
theorem okW_start (n : Nat) : okW n ((List.replicate n 0).set 0 1) := by
  refine okW_set ⟨by simp, fun k u h => ?_⟩ (by omega) (by omega)
  rw [List.getElem?_replicate] at h
  split at h
  · cases h; omega
  · cases h
theorem okW_get {n : Nat} {ws : List Int} (h : okW n ws) {k : Nat} (hk : k < n) : ∃ u, ws[k]? = some u ∧ ws.getD k 0 = u ∧ 0 ≤ u ∧ u ≤ 1000001 := by
  have hlt : k < ws.length := by rw [← h.1]; exact hk
  have h1 := List.getElem?_eq_getElem hlt
  exact ⟨ws[k], h1, by simp [List.getD, h1], h.2 k _ h1⟩
theorem rowW_take {x : List DEdge} {ws : List Int} {node k : Nat} {e : DEdge} (h : x[k]? = some e) : rowW (x.take (k + 1)) ws node = stepW node (rowW (x.take k) ws node) e := by
  unfold rowW
  rw [List.take_add_one, h]; simp
theorem waysW_succ (n : Nat) (x : List DEdge) (k : Nat) : waysW n x (k + 1) = rowW x (waysW n x k) k := by
  unfold waysW
  rw [List.range_succ]; simp
theorem fit_of {n : Int} {e : DEdge} (h : fitE n e = true) : 0 ≤ e.frm ∧ e.frm < e.to_ ∧ e.to_ < n ∧ 0 ≤ e.cost ∧ e.cost ≤ 1000000 := by
  simp [fitE, inB] at h; omega
theorem valid_fit {n : Int} {x : List DEdge} (h : validLt (n, x) = true) {k : Nat} {e : DEdge} (he : x[k]? = some e) : 0 ≤ e.frm ∧ e.frm < e.to_ ∧ e.to_ < n ∧ 0 ≤ e.cost ∧ e.cost ≤ 1000000 := by
  have h1 : validEd n x = true := by simp [validLt] at h; exact h.2
  have h2 := validEd_mem h1 he
  simp [edOk] at h2
  exact fit_of h2.1.1
theorem valid_bd {n : Int} {x : List DEdge} (h : validLt (n, x) = true) : 1 ≤ n ∧ n ≤ 20 ∧ x.length ≤ 200 := by
  simp [validLt, inB] at h; omega

end Go.Proofs.Ythooeaappnkjgaa
