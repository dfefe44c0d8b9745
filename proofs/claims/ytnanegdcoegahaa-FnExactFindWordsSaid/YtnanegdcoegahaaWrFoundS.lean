/- Slices of Found: how their values lie in memory, and what the laws' functions over them do, for every argument that can be read. -/
import Derived.Test.YtnanegdcoegahaaFlFound
namespace Go.Proofs.Ytnanegdcoegahaa
open Go.ChangeShapes Go.WideShapes Go.ChangeAt Go.RowKit Go.Deep

abbrev XFoundS := List DFound
def rFoundS : Rep XFoundS := Rep.flat eFound 31
def goodFoundS (x : XFoundS) : Prop := ∀ e ∈ x, goodFound e
def sizeFoundS (x : XFoundS) : Nat := x.length + sumOf szFound x
def okFoundS (x : XFoundS) : Prop := x.length ≤ 1048576
theorem okFoundS_of {x : XFoundS} (h : sizeFoundS x ≤ 1048576) : okFoundS x := by unfold sizeFoundS at h; unfold okFoundS; omega
def cntFoundS (x : XFoundS) : Int := 3 * (x.length : Int)
theorem cntFoundS_bd {x : XFoundS} (h : okFoundS x) : 0 ≤ cntFoundS x ∧ cntFoundS x ≤ 10000000 := by unfold okFoundS at h; unfold cntFoundS; omega
def mkXFoundS (k : Int) (x : XFoundS) : XFoundS := mkFound k x.length
theorem shapeFoundS {lo hi : Nat} {w : World} {v : Value} {x : XFoundS} (h : rFoundS.at_ lo hi w v x) : ∃ sa sc, v = .slice sa x.length sc := (ArrIn.arr h).isSlice
theorem rFoundS_arr {lo hi : Nat} {w : World} {v : Value} {x : XFoundS} (h : rFoundS.at_ lo hi w v x) : Arr eFound w v x := ArrIn.arr h
theorem rFoundS_own {w w' : World} {B : Nat} {u : Value} {x : XFoundS} (h : Own eFound 31 B w' u x) (hB : w.heap.size ≤ B) : rFoundS.own w.heap.size w'.heap.size w' u x := (h.mono hB).in_

theorem eqFoundSR_any (v1 v2 : Value) (x : XFoundS) (w : World) {lo1 hi1 lo2 hi2 : Nat} (h1 : rFoundS.at_ lo1 hi1 w v1 x) (h2 : rFoundS.at_ lo2 hi2 w v2 x) :
    Calls Try.prog 20 #[v1, v2] w (Ret (.bool true) w) :=
  eqFoundS_any v1 v2 x w (ArrIn.arr h1) (ArrIn.arr h2)
theorem markFoundSR_any (v : Value) (x : XFoundS) (lo hi : Nat) (k : Int) (w : World) (h : rFoundS.own lo hi w v x) (hn : okFoundS x) (hk0 : 0 ≤ k) (hk1 : k ≤ 20000000) :
    Calls Try.prog 23 #[v, .int .i64 k] w (RetMark rFoundS (mkXFoundS k x) (k + cntFoundS x) lo hi v w) :=
  markFoundS_any v x lo hi k w h hn hk0 hk1
theorem heldFoundSR_any (v : Value) (x : XFoundS) (k : Int) (w : World) {lo hi : Nat} (h : rFoundS.at_ lo hi w v (mkXFoundS k x)) (hn : okFoundS x) (hk0 : 0 ≤ k) (hk1 : k ≤ 20000000) :
    Calls Try.prog 24 #[v, .int .i64 k] w (Ret (.int .i64 (k + cntFoundS x)) w) :=
  heldFoundS_any v x.length k w (ArrIn.arr h) hn hk0 hk1
end Go.Proofs.Ytnanegdcoegahaa
