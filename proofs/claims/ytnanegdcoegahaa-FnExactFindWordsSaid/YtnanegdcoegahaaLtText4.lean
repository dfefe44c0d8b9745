/- The cost of the reading with a text: both calls. -/
import Derived.Test.YtnanegdcoegahaaLtText3
import Derived.Test.YtnanegdcoegahaaWrLattice
namespace Go.Proofs.Ytnanegdcoegahaa
open Go.RowKit
attribute [local go_sem ↓] Go.wp_at_zero Go.wp_at_succ

theorem textR_val {m : Nat} {x : List DEdge} (s : ByteArray) (hv : validLt ((m : Int), x) = true) : (textR ((m : Int), x) s = NW ∧ enc1 (textR ((m : Int), x) s) = -1) ∨ (textR ((m : Int), x) s < NW ∧ enc1 (textR ((m : Int), x) s) = textR ((m : Int), x) s ∧ 0 ≤ textR ((m : Int), x) s) := by
  obtain ⟨n1, n2, x2⟩ := valid_bd hv
  have e := NW_eq
  have := okC_row (valid_good hv) s s.size (m - 1)
  have hr : textR ((m : Int), x) s = rowC s x s.size (m - 1) := by unfold textR; simp only [Int.toNat_natCast]
  rw [hr]
  rcases this with h | h
  · exact .inl ⟨h, by rw [h]; exact enc1_no⟩
  · have : rowC s x s.size (m - 1) ≠ NW := by omega
    exact .inr ⟨by omega, enc1_yes this, h.1⟩
end Go.Proofs.Ytnanegdcoegahaa
