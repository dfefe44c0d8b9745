/- Slices of Group: how their values lie in memory, and what the laws' functions over them do, for every argument that can be read. -/
import Derived.Test.YtdadmphmpojjhaaFlGroup
namespace Go.Proofs.Ytdadmphmpojjhaa
open Go.ChangeShapes Go.WideShapes Go.ChangeAt Go.RowKit Go.Deep

abbrev XGroupS := List DGroup
def rGroupS : Rep XGroupS := Rep.flat eGroup 34
def goodGroupS (x : XGroupS) : Prop := ∀ e ∈ x, goodGroup e
def sizeGroupS (x : XGroupS) : Nat := x.length + sumOf szGroup x
def okGroupS (x : XGroupS) : Prop := x.length ≤ 1048576
theorem okGroupS_of {x : XGroupS} (h : sizeGroupS x ≤ 1048576) : okGroupS x := by unfold sizeGroupS at h; unfold okGroupS; omega
def cntGroupS (x : XGroupS) : Int := 2 * (x.length : Int)
theorem cntGroupS_bd {x : XGroupS} (h : okGroupS x) : 0 ≤ cntGroupS x ∧ cntGroupS x ≤ 10000000 := by unfold okGroupS at h; unfold cntGroupS; omega
def mkXGroupS (k : Int) (x : XGroupS) : XGroupS := mkGroup k x.length
theorem shapeGroupS {lo hi : Nat} {w : World} {v : Value} {x : XGroupS} (h : rGroupS.at_ lo hi w v x) : ∃ sa sc, v = .slice sa x.length sc := (ArrIn.arr h).isSlice
theorem rGroupS_arr {lo hi : Nat} {w : World} {v : Value} {x : XGroupS} (h : rGroupS.at_ lo hi w v x) : Arr eGroup w v x := ArrIn.arr h
theorem rGroupS_own {w w' : World} {B : Nat} {u : Value} {x : XGroupS} (h : Own eGroup 34 B w' u x) (hB : w.heap.size ≤ B) : rGroupS.own w.heap.size w'.heap.size w' u x := (h.mono hB).in_

end Go.Proofs.Ytdadmphmpojjhaa
