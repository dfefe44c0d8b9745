/- The lesser and the greater of two numbers. -/
import Derived.Test.YtnhmailnnggmjaaRows
import Derived.Test.YtnhmailnnggmjaaBase
namespace Go.Proofs.Ytnhmailnnggmjaa
open Go.RowKit

theorem ret_i {k : IntKind} {a b : Int} (h : a = b) : Ending.returned (.int k a) = .returned (.int k b) := by rw [h]
end Go.Proofs.Ytnhmailnnggmjaa
