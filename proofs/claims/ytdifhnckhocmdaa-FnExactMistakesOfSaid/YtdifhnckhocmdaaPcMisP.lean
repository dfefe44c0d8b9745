/- MistakesOf: plain lemmas. -/
import Derived.Test.YtdifhnckhocmdaaPcTrP
import Derived.Test.YtdifhnckhocmdaaPcClsP
namespace Go.Proofs.Ytdifhnckhocmdaa
open Go.RowKit

def gotL (x : XPerceptron) (s : XSample) : ByteArray := (x.1[clsI x s.2]?).getD ⟨#[]⟩
def wrongB (x : XPerceptron) (s : XSample) : Bool := !((gotL x s).toList == s.1.toList)
def misAt (x : XPerceptron) (l : XSampleS) (k : Nat) : List Int := match l[k]? with
  | some s => if wrongB x s then [(k : Int)] else []
  | none => []
def misTo (x : XPerceptron) (l : XSampleS) : Nat → List Int
  | 0 => []
  | k + 1 => misTo x l k ++ misAt x l k
def misX (x : XPerceptron) (l : XSampleS) : List Int := if trCode x l = 0 then misTo x l l.length else []
theorem misAt_len (x : XPerceptron) (l : XSampleS) (k : Nat) : (misAt x l k).length ≤ 1 := by
  unfold misAt
  split
  · split <;> simp
  · simp
theorem misTo_len (x : XPerceptron) (l : XSampleS) : ∀ k, (misTo x l k).length ≤ k
  | 0 => Nat.le_refl _
  | k + 1 => by rw [misTo, List.length_append]; have := misTo_len x l k; have := misAt_len x l k; omega
theorem misAt_t {x : XPerceptron} {l : XSampleS} {k : Nat} {s : XSample} (h : l[k]? = some s) (hw : wrongB x s = true) : misTo x l (k + 1) = misTo x l k ++ [(k : Int)] := by
  rw [misTo, misAt, h]; simp [hw]
theorem misAt_f {x : XPerceptron} {l : XSampleS} {k : Nat} {s : XSample} (h : l[k]? = some s) (hw : wrongB x s = false) : misTo x l (k + 1) = misTo x l k := by
  rw [misTo, misAt, h]; simp [hw]
theorem okMis {x : XPerceptron} {l : XSampleS} (ok : okSampleS l) : okInt64S (misX x l) := by
  have h := misTo_len x l l.length
  unfold okSampleS at ok
  unfold okInt64S misX
  split
  · omega
  · simp
end Go.Proofs.Ytdifhnckhocmdaa
