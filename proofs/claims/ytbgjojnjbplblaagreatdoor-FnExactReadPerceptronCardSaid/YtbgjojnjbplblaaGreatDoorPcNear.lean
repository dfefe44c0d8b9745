/- The nearest quotient: both calls. -/
import Derived.Test.YtbgjojnjbplblaaGreatDoorPcPlain
import Derived.Test.YtbgjojnjbplblaaGreatDoorReg
namespace Go.Proofs.YtbgjojnjbplblaaGreatDoor
open Go.RowKit

theorem ediv_bd {c n : Int} (h0 : 0 ≤ c) (hn : 1 ≤ n) : 0 ≤ c / n ∧ c / n ≤ c ∧ 0 ≤ c / n * n ∧ c / n * n ≤ c := by
  have h1 := Int.ediv_nonneg h0 (by omega : (0 : Int) ≤ n)
  have h2 := Int.ediv_le_self n h0
  have h3 := Int.mul_nonneg h1 (by omega : (0 : Int) ≤ n)
  have h4 := Int.emod_add_mul_ediv c n
  have h5 := Int.emod_nonneg c (by omega : n ≠ 0)
  rw [Int.mul_comm] at h4
  omega
end Go.Proofs.YtbgjojnjbplblaaGreatDoor
