/- Slices of Group: how their values lie in memory, and what the laws' functions over them do, for every argument that can be read. -/
import Derived.Test.YtcpdaijlcjheaaaFlGroup
namespace Go.Proofs.Ytcpdaijlcjheaaa
open Go.ChangeShapes Go.WideShapes Go.ChangeAt Go.RowKit Go.Deep

abbrev XGroupS := List DGroup
def rGroupS : Rep XGroupS := Rep.flat eGroup 78
def goodGroupS (x : XGroupS) : Prop := ∀ e ∈ x, goodGroup e
def sizeGroupS (x : XGroupS) : Nat := x.length + sumOf szGroup x
def okGroupS (x : XGroupS) : Prop := x.length ≤ 1048576
theorem okGroupS_of {x : XGroupS} (h : sizeGroupS x ≤ 1048576) : okGroupS x := by unfold sizeGroupS at h; unfold okGroupS; omega
def cntGroupS (x : XGroupS) : Int := 2 * (x.length : Int)
theorem cntGroupS_bd {x : XGroupS} (h : okGroupS x) : 0 ≤ cntGroupS x ∧ cntGroupS x ≤ 10000000 := by unfold okGroupS at h; unfold cntGroupS; omega
def mkXGroupS (k : Int) (x : XGroupS) : XGroupS := mkGroup k x.length
theorem shapeGroupS {lo hi : Nat} {w : World} {v : Value} {x : XGroupS} (h : rGroupS.at_ lo hi w v x) : ∃ sa sc, v = .slice sa x.length sc := (ArrIn.arr h).isSlice
theorem rGroupS_arr {lo hi : Nat} {w : World} {v : Value} {x : XGroupS} (h : rGroupS.at_ lo hi w v x) : Arr eGroup w v x := ArrIn.arr h
theorem rGroupS_own {w w' : World} {B : Nat} {u : Value} {x : XGroupS} (h : Own eGroup 78 B w' u x) (hB : w.heap.size ≤ B) : rGroupS.own w.heap.size w'.heap.size w' u x := (h.mono hB).in_

theorem eqGroupSR_any (v1 v2 : Value) (x : XGroupS) (w : World) {lo1 hi1 lo2 hi2 : Nat} (h1 : rGroupS.at_ lo1 hi1 w v1 x) (h2 : rGroupS.at_ lo2 hi2 w v2 x) :
    Calls Try.prog 27 #[v1, v2] w (Ret (.bool true) w) :=
  eqGroupS_any v1 v2 x w (ArrIn.arr h1) (ArrIn.arr h2)
theorem markGroupSR_any (v : Value) (x : XGroupS) (lo hi : Nat) (k : Int) (w : World) (h : rGroupS.own lo hi w v x) (hn : okGroupS x) (hk0 : 0 ≤ k) (hk1 : k ≤ 20000000) :
    Calls Try.prog 28 #[v, .int .i64 k] w (RetMark rGroupS (mkXGroupS k x) (k + cntGroupS x) lo hi v w) :=
  markGroupS_any v x lo hi k w h hn hk0 hk1
theorem heldGroupSR_any (v : Value) (x : XGroupS) (k : Int) (w : World) {lo hi : Nat} (h : rGroupS.at_ lo hi w v (mkXGroupS k x)) (hn : okGroupS x) (hk0 : 0 ≤ k) (hk1 : k ≤ 20000000) :
    Calls Try.prog 29 #[v, .int .i64 k] w (Ret (.int .i64 (k + cntGroupS x)) w) :=
  heldGroupS_any v x.length k w (ArrIn.arr h) hn hk0 hk1
end Go.Proofs.Ytcpdaijlcjheaaa
