/- Slices of Hyp: how their values lie in memory, and what the laws' functions over them do, for every argument that can be read. -/
import Derived.Test.YtldmphkakkggaaaDoorFlHyp
namespace Go.Proofs.YtldmphkakkggaaaDoor
open Go.ChangeShapes Go.WideShapes Go.ChangeAt Go.RowKit Go.Deep

abbrev XHypS := List DHyp
def rHypS : Rep XHypS := Rep.flat eHyp 72
def goodHypS (x : XHypS) : Prop := ∀ e ∈ x, goodHyp e
def sizeHypS (x : XHypS) : Nat := x.length + sumOf szHyp x
def okHypS (x : XHypS) : Prop := x.length ≤ 1048576
theorem okHypS_of {x : XHypS} (h : sizeHypS x ≤ 1048576) : okHypS x := by unfold sizeHypS at h; unfold okHypS; omega
def cntHypS (x : XHypS) : Int := 2 * (x.length : Int)
theorem cntHypS_bd {x : XHypS} (h : okHypS x) : 0 ≤ cntHypS x ∧ cntHypS x ≤ 10000000 := by unfold okHypS at h; unfold cntHypS; omega
def mkXHypS (k : Int) (x : XHypS) : XHypS := mkHyp k x.length
theorem shapeHypS {lo hi : Nat} {w : World} {v : Value} {x : XHypS} (h : rHypS.at_ lo hi w v x) : ∃ sa sc, v = .slice sa x.length sc := (ArrIn.arr h).isSlice
theorem rHypS_arr {lo hi : Nat} {w : World} {v : Value} {x : XHypS} (h : rHypS.at_ lo hi w v x) : Arr eHyp w v x := ArrIn.arr h
theorem rHypS_own {w w' : World} {B : Nat} {u : Value} {x : XHypS} (h : Own eHyp 72 B w' u x) (hB : w.heap.size ≤ B) : rHypS.own w.heap.size w'.heap.size w' u x := (h.mono hB).in_

theorem toHypSR_any (v : Value) (x : XHypS) (w : World) {lo hi : Nat} (h : rHypS.at_ lo hi w v x) (hn : okHypS x) :
    Calls Tryd.prog 13 #[v] w (RetR rHypS x w) :=
  (toHypS_any v x w (ArrIn.arr h) hn).mono fun _ _ ⟨u, he, ho, hb⟩ => ⟨u, he, ho.in_, hb⟩
theorem szHypSR_any (v : Value) (x : XHypS) (left : Int) (w : World) {lo hi : Nat} (h : rHypS.at_ lo hi w v x) (hs : goodHypS x) (hl : 0 ≤ left) (hu : left ≤ 1048576) :
    Calls Tryd.prog 11 #[v, .int .i64 left] w (Ret (.int .i64 (szOf (sizeHypS x) left)) w) :=
  szHypS_any v x left w (ArrIn.arr h) hs hl hu
theorem eqHypSR_any (v1 v2 : Value) (x : XHypS) (w : World) {lo1 hi1 lo2 hi2 : Nat} (h1 : rHypS.at_ lo1 hi1 w v1 x) (h2 : rHypS.at_ lo2 hi2 w v2 x) :
    Calls Tryd.prog 15 #[v1, v2] w (Ret (.bool true) w) :=
  eqHypS_any v1 v2 x w (ArrIn.arr h1) (ArrIn.arr h2)
set_option maxRecDepth 100000 in
theorem openHypS {H : Type} {enc : TypeId × Value → H} {W : World} {base : Nat} {spare : Nat → Bool} {held : Bool} {v : Value} {d : DataW H} {ps : List MemPlace} {b0 : Nat} {r : Reach}
    (hv : Value.okWide Tryd.prog W r b0 28 v) (h : DataW.Trod enc Tryd.prog W base spare held 28 v d ps) : ∃ x, rHypS.at_ 0 W.heap.size W v x ∧ goodHypS x := by
  have hr := rd_of_trod h
  obtain ⟨a, len, cap, rfl⟩ := okWide_slice Tryd.underlying28 hv
  obtain ⟨xs, hx⟩ := rd_slice (R := fun _ cs x => cs = eHyp.row x ∧ goodHyp x) (sz := 2) Tryd.underlying28 (by kernel_rfl) (by omega) (decHyp W) (v := .slice a len cap) (by simpa [Value.cells] using hr)
  exact ⟨xs, (hx.arr.1).in_, hx.arr.2⟩
end Go.Proofs.YtldmphkakkggaaaDoor
