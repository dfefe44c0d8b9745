/- Slices of Feat: how their values lie in memory, and what the laws' functions over them do, for every argument that can be read. -/
import Derived.Test.YtdifhnckhocmdabGreatFlFeat
namespace Go.Proofs.YtdifhnckhocmdabGreat
open Go.ChangeShapes Go.WideShapes Go.ChangeAt Go.RowKit Go.Deep

abbrev XFeatS := List DFeat
def rFeatS : Rep XFeatS := Rep.flat eFeat 88
def goodFeatS (x : XFeatS) : Prop := ∀ e ∈ x, goodFeat e
def sizeFeatS (x : XFeatS) : Nat := x.length + sumOf szFeat x
def okFeatS (x : XFeatS) : Prop := x.length ≤ 1048576
theorem okFeatS_of {x : XFeatS} (h : sizeFeatS x ≤ 1048576) : okFeatS x := by unfold sizeFeatS at h; unfold okFeatS; omega
def cntFeatS (x : XFeatS) : Int := 3 * (x.length : Int)
theorem cntFeatS_bd {x : XFeatS} (h : okFeatS x) : 0 ≤ cntFeatS x ∧ cntFeatS x ≤ 10000000 := by unfold okFeatS at h; unfold cntFeatS; omega
def mkXFeatS (k : Int) (x : XFeatS) : XFeatS := mkFeat k x.length
theorem shapeFeatS {lo hi : Nat} {w : World} {v : Value} {x : XFeatS} (h : rFeatS.at_ lo hi w v x) : ∃ sa sc, v = .slice sa x.length sc := (ArrIn.arr h).isSlice
theorem rFeatS_arr {lo hi : Nat} {w : World} {v : Value} {x : XFeatS} (h : rFeatS.at_ lo hi w v x) : Arr eFeat w v x := ArrIn.arr h
theorem rFeatS_own {w w' : World} {B : Nat} {u : Value} {x : XFeatS} (h : Own eFeat 88 B w' u x) (hB : w.heap.size ≤ B) : rFeatS.own w.heap.size w'.heap.size w' u x := (h.mono hB).in_

theorem toFeatSR_any (v : Value) (x : XFeatS) (w : World) {lo hi : Nat} (h : rFeatS.at_ lo hi w v x) (hn : okFeatS x) :
    Calls Tryz.prog 51 #[v] w (RetR rFeatS x w) :=
  (toFeatS_any v x w (ArrIn.arr h) hn).mono fun _ _ ⟨u, he, ho, hb⟩ => ⟨u, he, ho.in_, hb⟩
theorem szFeatSR_any (v : Value) (x : XFeatS) (left : Int) (w : World) {lo hi : Nat} (h : rFeatS.at_ lo hi w v x) (hs : goodFeatS x) (hl : 0 ≤ left) (hu : left ≤ 1048576) :
    Calls Tryz.prog 45 #[v, .int .i64 left] w (Ret (.int .i64 (szOf (sizeFeatS x) left)) w) :=
  szFeatS_any v x left w (ArrIn.arr h) hs hl hu
theorem eqFeatSR_any (v1 v2 : Value) (x : XFeatS) (w : World) {lo1 hi1 lo2 hi2 : Nat} (h1 : rFeatS.at_ lo1 hi1 w v1 x) (h2 : rFeatS.at_ lo2 hi2 w v2 x) :
    Calls Tryz.prog 61 #[v1, v2] w (Ret (.bool true) w) :=
  eqFeatS_any v1 v2 x w (ArrIn.arr h1) (ArrIn.arr h2)
theorem markFeatSR_any (v : Value) (x : XFeatS) (lo hi : Nat) (k : Int) (w : World) (h : rFeatS.own lo hi w v x) (hn : okFeatS x) (hk0 : 0 ≤ k) (hk1 : k ≤ 20000000) :
    Calls Tryz.prog 38 #[v, .int .i64 k] w (RetMark rFeatS (mkXFeatS k x) (k + cntFeatS x) lo hi v w) :=
  markFeatS_any v x lo hi k w h hn hk0 hk1
set_option maxRecDepth 100000 in
theorem openFeatS {H : Type} {enc : TypeId × Value → H} {W : World} {base : Nat} {spare : Nat → Bool} {held : Bool} {v : Value} {d : DataW H} {ps : List MemPlace} {b0 : Nat} {r : Reach}
    (hv : Value.okWide Tryz.prog W r b0 49 v) (h : DataW.Trod enc Tryz.prog W base spare held 49 v d ps) : ∃ x, rFeatS.at_ 0 W.heap.size W v x ∧ goodFeatS x := by
  have hr := rd_of_trod h
  obtain ⟨a, len, cap, rfl⟩ := okWide_slice Tryz.underlying49 hv
  obtain ⟨xs, hx⟩ := rd_slice (R := fun _ cs x => cs = eFeat.row x ∧ goodFeat x) (sz := 3) Tryz.underlying49 (by kernel_rfl) (by omega) (decFeat W) (v := .slice a len cap) (by simpa [Value.cells] using hr)
  exact ⟨xs, (hx.arr.1).in_, hx.arr.2⟩
end Go.Proofs.YtdifhnckhocmdabGreat
