/- Slices of Reading: how their values lie in memory, and what the laws' functions over them do, for every argument that can be read. -/
import Derived.Test.YtcikndmmbfompaaGreatDoorFlReading
namespace Go.Proofs.YtcikndmmbfompaaGreatDoor
open Go.ChangeShapes Go.WideShapes Go.ChangeAt Go.RowKit Go.Deep

abbrev XReadingS := List DReading
def rReadingS : Rep XReadingS := Rep.flat eReading 74
def goodReadingS (x : XReadingS) : Prop := ∀ e ∈ x, goodReading e
def sizeReadingS (x : XReadingS) : Nat := x.length + sumOf szReading x
def okReadingS (x : XReadingS) : Prop := x.length ≤ 1048576
theorem okReadingS_of {x : XReadingS} (h : sizeReadingS x ≤ 1048576) : okReadingS x := by unfold sizeReadingS at h; unfold okReadingS; omega
def cntReadingS (x : XReadingS) : Int := 2 * (x.length : Int)
theorem cntReadingS_bd {x : XReadingS} (h : okReadingS x) : 0 ≤ cntReadingS x ∧ cntReadingS x ≤ 10000000 := by unfold okReadingS at h; unfold cntReadingS; omega
def mkXReadingS (k : Int) (x : XReadingS) : XReadingS := mkReading k x.length
theorem shapeReadingS {lo hi : Nat} {w : World} {v : Value} {x : XReadingS} (h : rReadingS.at_ lo hi w v x) : ∃ sa sc, v = .slice sa x.length sc := (ArrIn.arr h).isSlice
theorem rReadingS_arr {lo hi : Nat} {w : World} {v : Value} {x : XReadingS} (h : rReadingS.at_ lo hi w v x) : Arr eReading w v x := ArrIn.arr h
theorem rReadingS_own {w w' : World} {B : Nat} {u : Value} {x : XReadingS} (h : Own eReading 74 B w' u x) (hB : w.heap.size ≤ B) : rReadingS.own w.heap.size w'.heap.size w' u x := (h.mono hB).in_

end Go.Proofs.YtcikndmmbfompaaGreatDoor
