/- Samples for a training: plain lemmas, no program. -/
import Derived.Test.YtdifhnckhocmdabGreatPcOk
import Derived.Test.YtdifhnckhocmdabGreatPcFeats
import Derived.Test.YtdifhnckhocmdabGreatWrSmp
import Derived.Test.YtdifhnckhocmdabGreatCmp
namespace Go.Proofs.YtdifhnckhocmdabGreat

def okSl (l : XSampleS) : Prop := l.length ≤ 1048576 ∧ ∀ (k : Nat) (s : XSample), l[k]? = some s → okSample s
theorem okSl_of {l : XSampleS} (h : okSampleS l) : okSl l := ⟨by unfold okSampleS at h; omega, fun _ _ he => okSampleS_st h he⟩
theorem okSl_one {s : XSample} (h : okSample s) : okSl [s] := ⟨by simp, fun k t he => by
  cases k with
  | zero => simp at he; subst he; exact h
  | succ k => simp at he⟩
theorem goodSl_one {s : XSample} (h : goodSample s) : goodSampleS [s] := fun t ht => by rw [List.mem_singleton.1 ht]; exact h

def smpOk (s : XSample) : Bool := isLabelB s.1 && featsOk s.2
def labIx (L : XStringS) (s : ByteArray) : Option Nat := L.findIdx? (fun t => eqS t s)
def known (x : XPerceptron) (s : XSample) : Bool := (labIx x.1 s.1).isSome
def trCode (x : XPerceptron) (l : XSampleS) : Int := if pcOk x && l.all smpOk then (if l.all (known x) then (if 40 < l.length then 2 else 0) else 3) else 1
theorem eqS_symm (a b : ByteArray) : eqS a b = eqS b a := by
  unfold eqS
  cases h : (a.toList == b.toList)
  · rw [beq_eq_false_iff_ne] at h
    exact (beq_eq_false_iff_ne.2 (fun e => h e.symm)).symm
  · rw [beq_iff_eq] at h
    rw [h]; exact (beq_self_eq_true _).symm
theorem trCode_zero {x : XPerceptron} {l : XSampleS} (h : trCode x l = 0) : pcOk x = true ∧ (∀ s ∈ l, smpOk s = true) ∧ (∀ s ∈ l, known x s = true) ∧ l.length ≤ 40 := by
  unfold trCode at h
  split at h
  · rename_i h1
    rw [Bool.and_eq_true, List.all_eq_true] at h1
    split at h
    · rename_i h2
      rw [List.all_eq_true] at h2
      split at h
      · cases h
      · exact ⟨h1.1, h1.2, h2, by omega⟩
    · cases h
  · cases h
theorem smpOk_feats {s : XSample} (h : smpOk s = true) : featsOk s.2 = true := by unfold smpOk at h; rw [Bool.and_eq_true] at h; exact h.2
end Go.Proofs.YtdifhnckhocmdabGreat
