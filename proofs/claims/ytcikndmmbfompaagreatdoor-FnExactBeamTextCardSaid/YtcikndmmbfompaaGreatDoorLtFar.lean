/- The reference's least costs from the first node. -/
import Derived.Test.YtcikndmmbfompaaGreatDoorLtDist
import Derived.Test.YtcikndmmbfompaaGreatDoorApp
import Derived.Deep.DrawnRows
import Derived.StillTailTactics
import Derived.IntWalk
namespace Go.Proofs.YtcikndmmbfompaaGreatDoor
open Go.RowKit
attribute [local go_sem ↓] Go.wp_at_zero Go.wp_at_succ

theorem cell_eqN {w w2 : World} {n : Nat} (h : w2 = w.drewN n) {a : Addr} {v : Value} (hc : w.cell? a = some v) : w2.cell? a = some v := by subst h; exact hc
theorem okV_enc {f : Nat → Int} {D : List Int} (h : okV f D) {k : Nat} {r : Int} (hr : D[k]? = some r) (hf : f k ≤ 20000000) : (r = NW ∧ enc1 r = -1) ∨ (r ≠ NW ∧ enc1 r = r ∧ 0 ≤ r ∧ r ≤ 20000000) := by
  rcases h k r hr with e | ⟨h1, h2⟩
  · exact .inl ⟨e, by rw [e]; exact enc1_no⟩
  · have : r ≠ NW := by rw [NW_eq]; omega
    exact .inr ⟨this, enc1_yes this, h1, by omega⟩
end Go.Proofs.YtcikndmmbfompaaGreatDoor
