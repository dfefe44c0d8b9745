/- Classify: plain lemmas. -/
import Derived.Test.YtdifhnckhocmdaaPcScOf
import Derived.Test.YtdifhnckhocmdaaPcMar
namespace Go.Proofs.Ytdifhnckhocmdaa
open Go.RowKit

def clsI (x : XPerceptron) (y : XFeatS) : Nat := bestI (scoresF x.2 (inpF y))
def clsL (x : XPerceptron) (y : XFeatS) : ByteArray := if scOk x y then (x.1[clsI x y]?).getD ⟨#[]⟩ else ⟨#[]⟩
def clsM (x : XPerceptron) (y : XFeatS) : Int := if scOk x y then marginL (scoresF x.2 (inpF y)) else 0
theorem scores_bd {W : List (List Int)} {x : List Int} (hW : ∀ r ∈ W, rowOk r = true) (hx : okInp x) {k : Nat} {c : Int} (h : (scoresF W x)[k]? = some c) : -4915200000000 ≤ c ∧ c ≤ 4915200000000 := by
  unfold scoresF at h
  rw [List.getElem?_map] at h
  cases hr : W[k]? with
  | none => rw [hr] at h; cases h
  | some r =>
    rw [hr] at h
    cases h
    exact score_bd (hW r (List.mem_of_getElem? hr)) hx
theorem cls_lab {x : XPerceptron} {y : XFeatS} (hp : pcOk x = true) : ∃ s, x.1[clsI x y]? = some s := by
  have h := pcOk_rows hp
  have := bestI_lt (l := scoresF x.2 (inpF y)) (by rw [scoresF_len]; omega)
  rw [scoresF_len] at this
  exact ⟨_, List.getElem?_eq_getElem (by unfold clsI; omega)⟩
end Go.Proofs.Ytdifhnckhocmdaa
