/- Slices of strings, told by their cells: what an argument holds. -/
import Derived.Test.YthooeaappnkjgaaWrStringS
import Derived.Test.YthooeaappnkjgaaOpen
import Derived.Test.YthooeaappnkjgaaArgs
namespace Go.Proofs.Ythooeaappnkjgaa
open Go.ChangeShapes Go.WideShapes Go.ChangeAt Go.RowKit Go.Deep

theorem decStrO (w : World) (cs : List Value) (h : Rd Try.prog w 9 cs) : ∃ s : ByteArray, cs = eStr.row s ∧ s.size ≤ maxLen := by
  obtain ⟨s, rfl, hs⟩ := rd_string Try.underlying9 h
  exact ⟨s, rfl, hs⟩
set_option maxRecDepth 100000 in
theorem openStringS {H : Type} {enc : TypeId × Value → H} {W : World} {base : Nat} {spare : Nat → Bool} {held : Bool} {v : Value} {d : DataW H} {ps : List MemPlace} {b0 : Nat} {r : Reach}
    (hv : Value.okWide Try.prog W r b0 40 v) (h : DataW.Trod enc Try.prog W base spare held 40 v d ps) : ∃ x, rStringS.at_ 0 W.heap.size W v x ∧ goodStringS x := by
  have hr := rd_of_trod h
  obtain ⟨a, len, cap, rfl⟩ := okWide_slice Try.underlying40 hv
  obtain ⟨xs, hx⟩ := rd_slice (R := fun _ cs x => cs = eStr.row x ∧ x.size ≤ maxLen) (sz := 1) Try.underlying40 (by kernel_rfl) (by omega) (decStrO W) (v := .slice a len cap) (by simpa [Value.cells] using hr)
  have hA := ArrR.arr (E := eStr) hx
  exact ⟨xs, hA.1.in_, hA.2⟩
end Go.Proofs.Ythooeaappnkjgaa
