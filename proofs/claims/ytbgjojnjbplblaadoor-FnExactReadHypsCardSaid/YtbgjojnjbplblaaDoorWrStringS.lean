/- Slices of strings: how their values lie in memory, and what the laws' functions over them do. -/
import Derived.Test.YtbgjojnjbplblaaDoorRows
import Derived.Test.YtbgjojnjbplblaaDoorMark
import Derived.Test.YtbgjojnjbplblaaDoorRep
import Derived.Test.YtbgjojnjbplblaaDoorReg
import Derived.Test.YtbgjojnjbplblaaDoorOpen
namespace Go.Proofs.YtbgjojnjbplblaaDoor
open Go.ChangeShapes Go.WideShapes Go.ChangeAt Go.RowKit Go.Deep

def eStr : Enc ByteArray := ⟨fun x => [.string x], 1, fun _ => rfl, by decide, fun x u hu => by simp at hu; subst hu; rfl⟩
abbrev XStringS := List ByteArray
def rStringS : Rep XStringS := Rep.flat eStr 9
def goodStringS (x : XStringS) : Prop := ∀ s ∈ x, s.size ≤ maxLen
def okStringS (x : XStringS) : Prop := x.length ≤ 1048576
def szStr (s : ByteArray) : Nat := s.size
def sizeStringS (x : XStringS) : Nat := x.length + sumOf szStr x
theorem okStringS_of {x : XStringS} (h : sizeStringS x ≤ 1048576) : okStringS x := by unfold sizeStringS at h; unfold okStringS; omega
def cntStringS (x : XStringS) : Int := (x.length : Int)
theorem cntStringS_bd {x : XStringS} (h : okStringS x) : 0 ≤ cntStringS x ∧ cntStringS x ≤ 10000000 := by unfold okStringS at h; unfold cntStringS; omega
def mkStr (k : Int) (n : Nat) : List ByteArray := (List.range n).map fun (i : Nat) => mt (k + (i : Int))
theorem mkStr_len (k : Int) (n : Nat) : (mkStr k n).length = n := by simp [mkStr]
theorem mkStr_get (k : Int) (n i : Nat) (h : i < n) : (mkStr k n)[i]? = some (mt (k + (i : Int))) := by simp [mkStr, h]
def mkXStringS (k : Int) (x : XStringS) : XStringS := mkStr k x.length
theorem shapeStringS {lo hi : Nat} {w : World} {v : Value} {x : XStringS} (h : rStringS.at_ lo hi w v x) : ∃ sa sc, v = .slice sa x.length sc := (ArrIn.arr h).isSlice
theorem rStringS_arr {lo hi : Nat} {w : World} {v : Value} {x : XStringS} (h : rStringS.at_ lo hi w v x) : Arr eStr w v x := ArrIn.arr h
theorem rStringS_own {w w' : World} {B : Nat} {u : Value} {x : XStringS} (h : Own eStr 9 B w' u x) (hB : w.heap.size ≤ B) : rStringS.own w.heap.size w'.heap.size w' u x := (h.mono hB).in_
theorem eStr_cell {w : World} {b off : Nat} {es : List ByteArray} (h : Cells eStr w b off es) {k : Nat} {x : ByteArray} (hx : es[k]? = some x) : w.cell? ⟨b, off + k, none⟩ = some (.string x) := by
  have := h k x hx 0 _ rfl
  have e : off + k * eStr.sz + 0 = off + k := by show off + k * 1 + 0 = off + k; omega
  rw [e] at this
  exact this
theorem infoStr : (Tryd.prog.info? 9).map (fun i => (i.zero, i.size, i.bytes)) = some (some (.string ByteArray.empty), 1, 16) := by kernel_rfl
theorem ownS_slot {B g cap n : Nat} {w : World} {xs : List ByteArray} (h : Own eStr 9 B w (.slice (some ⟨g, 0, none⟩) n cap) xs) (hn : n = xs.length) {k : Nat} (hk : k < n) : ∃ u, w.cell? ⟨g, k, none⟩ = some u := by
  obtain ⟨u, hu⟩ := h.slot hn k hk 0 (by decide)
  have e : k * eStr.sz + 0 = k := by show k * 1 + 0 = k; omega
  rw [e] at hu
  exact ⟨u, hu⟩
end Go.Proofs.YtbgjojnjbplblaaDoor
