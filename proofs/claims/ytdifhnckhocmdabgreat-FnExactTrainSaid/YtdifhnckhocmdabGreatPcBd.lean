/- Bounds of the marks of perceptrons and samples. Plain lemmas. -/
import Derived.Test.YtdifhnckhocmdabGreatWrPcp
import Derived.Test.YtdifhnckhocmdabGreatWrSmp
namespace Go.Proofs.YtdifhnckhocmdabGreat
theorem cntPerceptron_bd2 {x : XPerceptron} (h : okPerceptron x) : 0 ≤ cntPerceptron x ∧ cntPerceptron x ≤ 2200000 := by
  have h1 := h.1
  have h2 := h.2
  unfold okStringS at h1
  unfold okInt64SS at h2
  unfold cntPerceptron cntStringS cntInt64SS
  omega
theorem cntSampleS_bd2 {x : XSampleS} (h : okSampleS x) : 0 ≤ cntSampleS x ∧ cntSampleS x ≤ 3200000 := by unfold okSampleS at h; unfold cntSampleS; omega
theorem cntSample_bd2 {x : XSample} (h : okSample x) : 0 ≤ cntSample x ∧ cntSample x ≤ 3200000 := by unfold okSample okFeatS at h; unfold cntSample cntFeatS; omega
theorem cntInt64S_bd2 {x : XInt64S} (h : okInt64S x) : 0 ≤ cntInt64S x ∧ cntInt64S x ≤ 1048576 := by unfold okInt64S at h; unfold cntInt64S; omega
end Go.Proofs.YtdifhnckhocmdabGreat
