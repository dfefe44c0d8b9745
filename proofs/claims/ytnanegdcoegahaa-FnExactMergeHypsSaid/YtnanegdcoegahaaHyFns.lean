/- The first hypothesis, the margin, the cost of a label: what the calls return. -/
import Derived.Test.YtnanegdcoegahaaHyValid2
import Derived.Test.YtnanegdcoegahaaApp2
import Derived.IntWalk
namespace Go.Proofs.Ytnanegdcoegahaa
open Go.RowKit

def hy0 : DHyp := ⟨ByteArray.empty, 0⟩
def bestHy (x : List DHyp) : DHyp := if validHy x then x.headD hy0 else hy0
def bestC (x : List DHyp) : Int := if validHy x then (if x.length = 0 then 3 else 0) else 1
def marginHy (x : List DHyp) : Int := if validHy x then (match x with | a :: b :: _ => b.cost - a.cost | _ => 0) else 0
def marginC (x : List DHyp) : Int := if validHy x then (if x.length < 2 then 6 else 0) else 1
def isLab (s : ByteArray) (e : DHyp) : Bool := eqS e.label s
def costHy (x : List DHyp) (s : ByteArray) : Int := if validHy x then (match x.findIdx? (isLab s) with | none => 0 | some k => (x.getD k hy0).cost) else 0
def costC (x : List DHyp) (s : ByteArray) : Int := if validHy x then (match x.findIdx? (isLab s) with | none => 3 | some _ => 0) else 1
theorem find_get {α : Type} {x : List α} {q : α → Bool} {k : Nat} (h : x.findIdx? q = some k) : ∃ e, x[k]? = some e := by
  rw [List.findIdx?_eq_some_iff_getElem] at h
  obtain ⟨hk, _, _⟩ := h
  exact ⟨x[k], List.getElem?_eq_getElem hk⟩
theorem hy_bd {x : List DHyp} (h : validHy x = true) {k : Nat} {e : DHyp} (he : x[k]? = some e) : 0 ≤ e.cost ∧ e.cost ≤ 1000000 := by
  cases hi : inB e.cost 0 1000000 with
  | true => exact inB_true.1 hi
  | false => rw [allHy_at he (by simp [hyOk, hi])] at h; cases h

end Go.Proofs.Ytnanegdcoegahaa
