/- The type Lattice: how its values lie in memory, and what the laws' functions over it do, for every argument that can be read. -/
import Derived.Test.YtbgjojnjbplblaaGreatDoorFlEdge
namespace Go.Proofs.YtbgjojnjbplblaaGreatDoor
open Go.ChangeShapes Go.WideShapes Go.ChangeAt Go.RowKit Go.Deep

abbrev XLattice := Int × List DEdge
def rLattice : Rep XLattice := Rep.aggP (fun n => Value.int .i64 n) (Rep.flat eEdge 46)
def goodLattice (x : XLattice) : Prop := ∀ e ∈ x.2, goodEdge e
def sizeLattice (x : XLattice) : Nat := x.2.length + sumOf szEdge x.2
def okLattice (x : XLattice) : Prop := x.2.length ≤ 1048576
theorem okLattice_of {x : XLattice} (h : sizeLattice x ≤ 1048576) : okLattice x := by unfold sizeLattice at h; unfold okLattice; omega
def cntLattice (x : XLattice) : Int := 4 * (x.2.length : Int)
theorem cntLattice_bd {x : XLattice} (h : okLattice x) : 0 ≤ cntLattice x ∧ cntLattice x ≤ 10000000 := by unfold okLattice at h; unfold cntLattice; omega
def mkXLattice (k : Int) (x : XLattice) : XLattice := (x.1, mkEdge k x.2.length)
theorem shapeLattice {lo hi : Nat} {w : World} {v : Value} {x : XLattice} (h : rLattice.at_ lo hi w v x) : ∃ sa sc, v = .agg #[.int .i64 x.1, .slice sa x.2.length sc] := by
  obtain ⟨u, rfl, h⟩ := h
  obtain ⟨sa, sc, rfl⟩ := (ArrIn.arr h).isSlice
  exact ⟨sa, sc, rfl⟩



set_option maxRecDepth 100000 in
set_option maxHeartbeats 400000 in
theorem eqLattice_any (v1 v2 : Value) (x : XLattice) (w : World) {lo1 hi1 lo2 hi2 : Nat} (h1 : rLattice.at_ lo1 hi1 w v1 x) (h2 : rLattice.at_ lo2 hi2 w v2 x) :
    Calls Tryz.prog 7 #[v1, v2] w (Ret (.bool true) w) := by
  obtain ⟨u1, rfl, h1⟩ := h1
  obtain ⟨u2, rfl, h2⟩ := h2
  replace h1 := ArrIn.arr h1
  replace h2 := ArrIn.arr h2
  go_enter Tryz.func7, Tryz.ntmps7
  go_wp2_with (go_at_call 22; refine (eqEdgeS_any _ _ x.2 _ ((h1.alloc _).alloc _) ((h2.alloc _).alloc _)).mono ?_; rintro e w2 ⟨rfl, hb⟩)
  go_ret
  exact ret_bool rfl ((((Below.refl _ _).alloc (Nat.le_refl _) _).alloc (by simp) _).trans (hb.mono (by simp <;> omega)))

set_option maxRecDepth 100000 in
set_option maxHeartbeats 400000 in
theorem markLattice_any (v : Value) (x : XLattice) (lo hi : Nat) (k : Int) (w : World) (h : rLattice.own lo hi w v x) (hn : okLattice x) (hk0 : 0 ≤ k) (hk1 : k ≤ 20000000) :
    Calls Tryz.prog 8 #[v, .int .i64 k] w (RetMark rLattice (mkXLattice k x) (k + cntLattice x) lo hi v w) := by
  obtain ⟨u, rfl, h⟩ := h
  go_enter Tryz.func8, Tryz.ntmps8
  go_wp2_with (go_at_call 23; refine (markEdgeS_any _ x.2 lo hi _ _ ((Rep.flat eEdge 46).own_alloc h _) hn hk0 hk1).mono ?_; rintro e w2 ⟨rfl, ho, hc⟩)
  go_ret
  exact ⟨rfl, ⟨_, rfl, ho⟩, (Mk.of_below (below_alloc _ _)).trans hc⟩

set_option maxRecDepth 100000 in
set_option maxHeartbeats 400000 in
theorem heldLattice_any (v : Value) (x : XLattice) (k : Int) (w : World) {lo hi : Nat} (h : rLattice.at_ lo hi w v (mkXLattice k x)) (hn : okLattice x) (hk0 : 0 ≤ k) (hk1 : k ≤ 20000000) :
    Calls Tryz.prog 9 #[v, .int .i64 k] w (Ret (.int .i64 (k + cntLattice x)) w) := by
  obtain ⟨u, rfl, h⟩ := h
  replace h := ArrIn.arr h
  have hp : 0 ≤ k + 4 * (x.2.length : Int) := by omega
  go_enter Tryz.func9, Tryz.ntmps9
  go_wp2_with (go_at_call 24; refine (heldEdgeS_any _ x.2.length _ _ (h.alloc _) hn hk0 hk1).mono ?_; rintro e w2 ⟨rfl, hb⟩)
  go_ret
  exact ret_int rfl (((Below.refl _ _).alloc (Nat.le_refl _) _).trans (hb.mono (by simp)))

end Go.Proofs.YtbgjojnjbplblaaGreatDoor
