/- Entries dropped from a lexicon, and the calls that drop them. -/
import Derived.Test.YtcikndmmbfompaaGreatDoorLxCost
import Derived.Test.YtcikndmmbfompaaGreatDoorApp
import Derived.Deep.RegionLaw
import Derived.Lib.SliceRun
namespace Go.Proofs.YtcikndmmbfompaaGreatDoor
open Go.RowKit

def without (x : XLexicon) (s : ByteArray) : XLexicon := x.filter (fun e => !eqS e.word s)
theorem without_le (x : XLexicon) (s : ByteArray) : (without x s).length ≤ x.length := List.length_filter_le _ _
def dropLx (x : XLexicon) (s : ByteArray) : XLexicon := if validLx x then (match findLx x s with | none => [] | some _ => without x s) else []
def dropCode (x : XLexicon) (s : ByteArray) : Int := codeLx x s
theorem okDrop {x : XLexicon} {s : ByteArray} (h : okLexicon x) : okLexicon (dropLx x s) := by
  unfold okLexicon at *
  unfold dropLx
  have := without_le x s
  split
  · split <;> simp <;> omega
  · simp
theorem take_without {x : XLexicon} {s : ByteArray} {k : Nat} {e : DEntry} (h : x[k]? = some e) : without (x.take (k + 1)) s = without (x.take k) s ++ (if eqS e.word s then [] else [e]) := by
  rw [List.take_add_one, h]
  unfold without
  rw [List.filter_append]
  cases hq : eqS e.word s <;> simp [hq]

theorem infEntry : (Tryz.prog.info? 75).map (fun i => (i.zero, i.size, i.bytes)) = some (some (.agg #[.string ByteArray.empty, .int .i64 0]), eEntry.sz, 24) := by kernel_rfl


theorem grown_trans {w1 w2 w3 : World} {g : Nat} (h1 : w1.grownBy w2 (some g)) (h2 : w2.grownBy w3 (some g)) : w1.grownBy w3 (some g) :=
  ⟨h2.os.trans h1.os, h2.tape.trans h1.tape, h2.output.trans h1.output, Nat.le_trans h1.size h2.size, fun k hk hne => (h2.block k (Nat.lt_of_lt_of_le hk h1.size) hne).trans (h1.block k hk hne)⟩

theorem erase_flat {α : Type} (E : Enc α) (x : List α) (k : Nat) (hk : k < x.length) (zs : List Value) :
    (setFrom (setFrom (E.flat x) (k * E.sz) (E.flat (x.drop (k + 1)))) ((x.length - 1) * E.sz) zs).take ((x.length - 1) * E.sz) = E.flat (x.eraseIdx k) := by
  rw [List.eraseIdx_eq_take_drop_succ, E.flat_append]
  have hl1 : (E.flat (x.take k)).length = k * E.sz := by rw [E.flat_len, List.length_take, Nat.min_eq_left (by omega)]
  have hl2 : (E.flat (x.drop (k + 1))).length = (x.length - 1) * E.sz - k * E.sz := by rw [E.flat_len, List.length_drop, ← Nat.sub_mul]; congr 1; omega
  have hle : k * E.sz ≤ (x.length - 1) * E.sz := Nat.mul_le_mul_right _ (by omega)
  have hle2 : (x.length - 1) * E.sz ≤ x.length * E.sz := Nat.mul_le_mul_right _ (by omega)
  have hsp : E.flat x = E.flat (x.take k) ++ E.flat (x.drop k) := by rw [← E.flat_append, List.take_append_drop]
  refine List.ext_getElem? fun i => ?_
  rw [List.getElem?_take]
  by_cases h : i < (x.length - 1) * E.sz
  · rw [if_pos h, setFrom_get, if_neg (by omega), setFrom_get, hl2, E.flat_len]
    by_cases h1 : i < k * E.sz
    · rw [if_neg (by omega), List.getElem?_append_left (by omega), hsp, List.getElem?_append_left (by omega)]
    · rw [if_pos (by omega), List.getElem?_append_right (by omega), hl1]
  · rw [if_neg h, List.getElem?_eq_none_iff.2 (by rw [List.length_append, hl1, hl2]; omega)]


theorem rLx_new {w w' : World} {B : Nat} {u : Value} {x : XLexicon} (h : Own eEntry 75 B w' u x) (hB : w.heap.size ≤ B) : rLexicon.own w.heap.size w'.heap.size w' (.agg #[u]) x :=
  ⟨u, rfl, (h.mono hB).in_⟩


theorem own_pos {B : Nat} {w : World} {u : Value} {x : XLexicon} {k : Nat} (ho : Own eEntry 75 B w u x) (hk : k < x.length) : ∃ g cap, u = .slice (some ⟨g, 0, none⟩) x.length cap ∧ B ≤ g ∧ g < w.heap.size := by
  rcases ho.shape with ⟨_, h0⟩ | h0
  · rw [h0] at hk; simp at hk
  · exact h0

theorem without_erase {x : XLexicon} (hs : Sorted x) {s : ByteArray} {k : Nat} (h : findLx x s = some k) : without x s = x.eraseIdx k := by
  obtain ⟨e, he, heq⟩ := find_get h
  have hlow := low_of_find hs h
  obtain ⟨hk, hxe⟩ := List.getElem?_eq_some_iff.1 he
  have hsp : x = x.take k ++ e :: x.drop (k + 1) := by
    have h1 : x.drop k = e :: x.drop (k + 1) := by rw [List.drop_eq_getElem_cons hk, hxe]
    rw [← h1, List.take_append_drop]
  rw [List.eraseIdx_eq_take_drop_succ]
  unfold without
  conv => lhs; rw [hsp]
  rw [List.filter_append, List.filter_cons_of_neg (by simp [heq])]
  congr 1
  · rw [List.filter_eq_self]
    intro a ha
    obtain ⟨j, hj⟩ := List.mem_iff_getElem?.1 ha
    have hjk : j < k := by
      have := (List.getElem?_eq_some_iff.1 hj).1
      simp at this; omega
    rw [List.getElem?_take, if_pos hjk] at hj
    have := low_lt (s := s) (by omega) hj
    have h2 := ltB_ne this
    simp [eqS, h2]
  · rw [List.filter_eq_self]
    intro a ha
    obtain ⟨j, hj⟩ := List.mem_iff_getElem?.1 ha
    rw [List.getElem?_drop] at hj
    have h1 := hs k (k + 1 + j) e a (by omega) he hj
    have h2 := ltB_ne h1
    have h3 : e.word.toList = s.toList := by simpa [eqS] using heq
    rw [h3] at h2
    simp only [beq_eq_false_iff_ne] at h2
    simp [eqS, Ne.symm h2]

end Go.Proofs.YtcikndmmbfompaaGreatDoor
