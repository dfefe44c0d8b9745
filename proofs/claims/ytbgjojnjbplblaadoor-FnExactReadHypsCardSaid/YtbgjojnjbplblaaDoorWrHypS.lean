/- Slices of Hyp: how their values lie in memory, and what the laws' functions over them do, for every argument that can be read. -/
import Derived.Test.YtbgjojnjbplblaaDoorFlHyp
namespace Go.Proofs.YtbgjojnjbplblaaDoor
open Go.ChangeShapes Go.WideShapes Go.ChangeAt Go.RowKit Go.Deep

abbrev XHypS := List DHyp
def rHypS : Rep XHypS := Rep.flat eHyp 52
def goodHypS (x : XHypS) : Prop := ∀ e ∈ x, goodHyp e
def sizeHypS (x : XHypS) : Nat := x.length + sumOf szHyp x
def okHypS (x : XHypS) : Prop := x.length ≤ 1048576
theorem okHypS_of {x : XHypS} (h : sizeHypS x ≤ 1048576) : okHypS x := by unfold sizeHypS at h; unfold okHypS; omega
def cntHypS (x : XHypS) : Int := 2 * (x.length : Int)
theorem cntHypS_bd {x : XHypS} (h : okHypS x) : 0 ≤ cntHypS x ∧ cntHypS x ≤ 10000000 := by unfold okHypS at h; unfold cntHypS; omega
def mkXHypS (k : Int) (x : XHypS) : XHypS := mkHyp k x.length
theorem shapeHypS {lo hi : Nat} {w : World} {v : Value} {x : XHypS} (h : rHypS.at_ lo hi w v x) : ∃ sa sc, v = .slice sa x.length sc := (ArrIn.arr h).isSlice
theorem rHypS_arr {lo hi : Nat} {w : World} {v : Value} {x : XHypS} (h : rHypS.at_ lo hi w v x) : Arr eHyp w v x := ArrIn.arr h
theorem rHypS_own {w w' : World} {B : Nat} {u : Value} {x : XHypS} (h : Own eHyp 52 B w' u x) (hB : w.heap.size ≤ B) : rHypS.own w.heap.size w'.heap.size w' u x := (h.mono hB).in_

theorem eqHypSR_any (v1 v2 : Value) (x : XHypS) (w : World) {lo1 hi1 lo2 hi2 : Nat} (h1 : rHypS.at_ lo1 hi1 w v1 x) (h2 : rHypS.at_ lo2 hi2 w v2 x) :
    Calls Tryd.prog 12 #[v1, v2] w (Ret (.bool true) w) :=
  eqHypS_any v1 v2 x w (ArrIn.arr h1) (ArrIn.arr h2)
theorem markHypSR_any (v : Value) (x : XHypS) (lo hi : Nat) (k : Int) (w : World) (h : rHypS.own lo hi w v x) (hn : okHypS x) (hk0 : 0 ≤ k) (hk1 : k ≤ 20000000) :
    Calls Tryd.prog 13 #[v, .int .i64 k] w (RetMark rHypS (mkXHypS k x) (k + cntHypS x) lo hi v w) :=
  markHypS_any v x lo hi k w h hn hk0 hk1
theorem heldHypSR_any (v : Value) (x : XHypS) (k : Int) (w : World) {lo hi : Nat} (h : rHypS.at_ lo hi w v (mkXHypS k x)) (hn : okHypS x) (hk0 : 0 ≤ k) (hk1 : k ≤ 20000000) :
    Calls Tryd.prog 14 #[v, .int .i64 k] w (Ret (.int .i64 (k + cntHypS x)) w) :=
  heldHypS_any v x.length k w (ArrIn.arr h) hn hk0 hk1
end Go.Proofs.YtbgjojnjbplblaaDoor
