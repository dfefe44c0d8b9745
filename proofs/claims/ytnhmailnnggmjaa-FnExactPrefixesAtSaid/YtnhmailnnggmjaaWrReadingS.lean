/- Slices of Reading: how their values lie in memory, and what the laws' functions over them do, for every argument that can be read. -/
import Derived.Test.YtnhmailnnggmjaaFlReading
namespace Go.Proofs.Ytnhmailnnggmjaa
open Go.ChangeShapes Go.WideShapes Go.ChangeAt Go.RowKit Go.Deep

abbrev XReadingS := List DReading
def rReadingS : Rep XReadingS := Rep.flat eReading 27
def goodReadingS (x : XReadingS) : Prop := ∀ e ∈ x, goodReading e
def sizeReadingS (x : XReadingS) : Nat := x.length + sumOf szReading x
def okReadingS (x : XReadingS) : Prop := x.length ≤ 1048576
theorem okReadingS_of {x : XReadingS} (h : sizeReadingS x ≤ 1048576) : okReadingS x := by unfold sizeReadingS at h; unfold okReadingS; omega
def cntReadingS (x : XReadingS) : Int := 2 * (x.length : Int)
theorem cntReadingS_bd {x : XReadingS} (h : okReadingS x) : 0 ≤ cntReadingS x ∧ cntReadingS x ≤ 10000000 := by unfold okReadingS at h; unfold cntReadingS; omega
def mkXReadingS (k : Int) (x : XReadingS) : XReadingS := mkReading k x.length
theorem shapeReadingS {lo hi : Nat} {w : World} {v : Value} {x : XReadingS} (h : rReadingS.at_ lo hi w v x) : ∃ sa sc, v = .slice sa x.length sc := (ArrIn.arr h).isSlice
theorem rReadingS_arr {lo hi : Nat} {w : World} {v : Value} {x : XReadingS} (h : rReadingS.at_ lo hi w v x) : Arr eReading w v x := ArrIn.arr h
theorem rReadingS_own {w w' : World} {B : Nat} {u : Value} {x : XReadingS} (h : Own eReading 27 B w' u x) (hB : w.heap.size ≤ B) : rReadingS.own w.heap.size w'.heap.size w' u x := (h.mono hB).in_

theorem eqReadingSR_any (v1 v2 : Value) (x : XReadingS) (w : World) {lo1 hi1 lo2 hi2 : Nat} (h1 : rReadingS.at_ lo1 hi1 w v1 x) (h2 : rReadingS.at_ lo2 hi2 w v2 x) :
    Calls Try.prog 17 #[v1, v2] w (Ret (.bool true) w) :=
  eqReadingS_any v1 v2 x w (ArrIn.arr h1) (ArrIn.arr h2)
theorem markReadingSR_any (v : Value) (x : XReadingS) (lo hi : Nat) (k : Int) (w : World) (h : rReadingS.own lo hi w v x) (hn : okReadingS x) (hk0 : 0 ≤ k) (hk1 : k ≤ 20000000) :
    Calls Try.prog 19 #[v, .int .i64 k] w (RetMark rReadingS (mkXReadingS k x) (k + cntReadingS x) lo hi v w) :=
  markReadingS_any v x lo hi k w h hn hk0 hk1
theorem heldReadingSR_any (v : Value) (x : XReadingS) (k : Int) (w : World) {lo hi : Nat} (h : rReadingS.at_ lo hi w v (mkXReadingS k x)) (hn : okReadingS x) (hk0 : 0 ≤ k) (hk1 : k ≤ 20000000) :
    Calls Try.prog 20 #[v, .int .i64 k] w (Ret (.int .i64 (k + cntReadingS x)) w) :=
  heldReadingS_any v x.length k w (ArrIn.arr h) hn hk0 hk1
end Go.Proofs.Ytnhmailnnggmjaa
