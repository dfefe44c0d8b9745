/- HomeOf: the reference and the implementation. -/
import Derived.Test.YtdadmphmpojjhaaInkHome
namespace Go.Proofs.Ytdadmphmpojjhaa
open Go.RowKit

def homeX (X : XInk) (n : Int) : Int := if validInk X then if inB n 0 (X.length - 1) then homeI X n.toNat else 0 else 0
def homeC (X : XInk) (n : Int) : Int := if validInk X then if inB n 0 (X.length - 1) then 0 else 2 else 1
theorem home_inv {X : XInk} {n : Int} (h : validInk X = false) : homeX X n = 0 ∧ homeC X n = 1 := by simp [homeX, homeC, h]
theorem home_out {X : XInk} {n : Int} (h : validInk X = true) (hi : inB n 0 (X.length - 1) = false) : homeX X n = 0 ∧ homeC X n = 2 := by simp [homeX, homeC, h, hi]
theorem home_in {X : XInk} {n : Int} (h : validInk X = true) (hi : inB n 0 (X.length - 1) = true) : homeX X n = homeI X n.toNat ∧ homeC X n = 0 := by simp [homeX, homeC, h, hi]
theorem strokes_shape {w : World} {u : Value} {x : XInk} (h : Strokes w u x) : ∃ sa sc, u = .slice sa x.length sc := by obtain ⟨_, _, ao, cap, _, rfl, _⟩ := h.slice; exact ⟨_, _, rfl⟩

end Go.Proofs.Ytdadmphmpojjhaa
