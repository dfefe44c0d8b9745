/- ScoresOf: both calls. -/
import Derived.Test.YtdifhnckhocmdabGreatPcScores
namespace Go.Proofs.YtdifhnckhocmdabGreat
open Go.RowKit

def scOk (x : XPerceptron) (y : XFeatS) : Bool := pcOk x && featsOk y
def scX (x : XPerceptron) (y : XFeatS) : List Int := if scOk x y then scoresF x.2 (inpF y) else []
def scC (x : XPerceptron) (y : XFeatS) : Int := if scOk x y then 0 else 1
theorem pcOk_rows {x : XPerceptron} (h : pcOk x = true) : (∀ r ∈ x.2, rowOk r = true) ∧ x.2.length = x.1.length ∧ 1 ≤ x.1.length ∧ x.1.length ≤ 12 := by
  unfold pcOk labsOk at h
  simp only [Bool.and_eq_true, decide_eq_true_eq, inB_true] at h
  obtain ⟨⟨_, h1⟩, h2, h3⟩ := h
  rw [List.all_eq_true] at h3
  exact ⟨h3, h2, by omega, by omega⟩
theorem scX_len (x : XPerceptron) (y : XFeatS) : (scX x y).length ≤ 12 := by
  unfold scX scOk
  cases hp : pcOk x
  · simp
  · have := pcOk_rows hp
    split
    · rw [scoresF_len]; omega
    · simp
theorem okSc (x : XPerceptron) (y : XFeatS) : okInt64S (scX x y) := by have := scX_len x y; unfold okInt64S; omega
theorem rInt64S_own3 {w' : World} {lo g : Nat} {u : Value} {x : XInt64S} (h : rInt64S.own g w'.heap.size w' u x) (hB : lo ≤ g) : rInt64S.own lo w'.heap.size w' u x := rInt64S.own_mono h hB (Nat.le_refl _)

end Go.Proofs.YtdifhnckhocmdabGreat
