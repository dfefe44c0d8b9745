/- An entry set in a lexicon, and the calls that set it. -/
import Derived.Test.YtcikndmmbfompaaGreatDoorLxDrop
import Derived.Test.YtcikndmmbfompaaGreatDoorSubAddr
namespace Go.Proofs.YtcikndmmbfompaaGreatDoor
open Go.RowKit

def insAt (l : XLexicon) (k : Nat) (e : DEntry) : XLexicon := l.take k ++ e :: l.drop k
def putLx (l : XLexicon) (e : DEntry) : XLexicon := insAt l (lowLx l e.word) e

theorem cells_one (e : DEntry) (w : World) : ∀ j u, (eEntry.flat [e])[j]? = some u → (w.alloc (.cells #[.string e.word, .int .i64 e.cost] 75)).cell? ((⟨w.heap.size, 0, none⟩ : Addr).add j) = some u := by
  intro j u hu
  match j, hu with
  | 0, hu => cases hu; simp [Addr.add]
  | 1, hu => cases hu; simp [Addr.add]
  | j + 2, hu => simp [Enc.flat, eEntry] at hu



theorem sorted_pair {x : XLexicon} (h : Sorted x) : x.Pairwise (fun a b => ltB a.word b.word = true) := by
  rw [List.pairwise_iff_getElem]
  intro i j hi hj hij
  exact h i j _ _ hij (List.getElem?_eq_getElem hi) (List.getElem?_eq_getElem hj)
theorem pair_sorted {x : XLexicon} (h : x.Pairwise (fun a b => ltB a.word b.word = true)) : Sorted x := by
  rw [List.pairwise_iff_getElem] at h
  intro i j a b hij ha hb
  obtain ⟨hi, rfl⟩ := List.getElem?_eq_some_iff.1 ha
  obtain ⟨hj, rfl⟩ := List.getElem?_eq_some_iff.1 hb
  exact h i j hi hj hij
theorem sorted_without {x : XLexicon} (h : Sorted x) (s : ByteArray) : Sorted (without x s) := pair_sorted ((sorted_pair h).filter _)
theorem without_ne {x : XLexicon} {s : ByteArray} : ∀ a ∈ without x s, eqS a.word s = false := by
  intro a ha
  have := (List.mem_filter.1 ha).2
  simpa using this

def setLx (x : XLexicon) (e : DEntry) : XLexicon := if validLx x && isWordB e.word && inB e.cost 0 1000000 then (if 60 ≤ (without x e.word).length then [] else putLx (without x e.word) e) else []
def setCode (x : XLexicon) (e : DEntry) : Int := if validLx x then (if isWordB e.word then (if inB e.cost 0 1000000 then (if 60 ≤ (without x e.word).length then 5 else 0) else 2) else 7) else 1
theorem putLx_len (l : XLexicon) (e : DEntry) : (putLx l e).length = l.length + 1 := by
  have := low_le l e.word
  simp [putLx, insAt]; omega
theorem okSet {x : XLexicon} {e : DEntry} (_ : okLexicon x) : okLexicon (setLx x e) := by
  unfold okLexicon setLx
  split
  · split
    · simp
    · rw [putLx_len]; omega
  · simp

end Go.Proofs.YtcikndmmbfompaaGreatDoor
