/- The type Lattice: how its values lie in memory, and what the laws' functions over it do, for every argument that can be read. -/
import Derived.Test.YtcikndmmbfompaaGreatDoorFlEdge
namespace Go.Proofs.YtcikndmmbfompaaGreatDoor
open Go.ChangeShapes Go.WideShapes Go.ChangeAt Go.RowKit Go.Deep

abbrev XLattice := Int × List DEdge
def rLattice : Rep XLattice := Rep.aggP (fun n => Value.int .i64 n) (Rep.flat eEdge 81)
def goodLattice (x : XLattice) : Prop := ∀ e ∈ x.2, goodEdge e
def sizeLattice (x : XLattice) : Nat := x.2.length + sumOf szEdge x.2
def okLattice (x : XLattice) : Prop := x.2.length ≤ 1048576
theorem okLattice_of {x : XLattice} (h : sizeLattice x ≤ 1048576) : okLattice x := by unfold sizeLattice at h; unfold okLattice; omega
def cntLattice (x : XLattice) : Int := 4 * (x.2.length : Int)
theorem cntLattice_bd {x : XLattice} (h : okLattice x) : 0 ≤ cntLattice x ∧ cntLattice x ≤ 10000000 := by unfold okLattice at h; unfold cntLattice; omega
def mkXLattice (k : Int) (x : XLattice) : XLattice := (x.1, mkEdge k x.2.length)
theorem shapeLattice {lo hi : Nat} {w : World} {v : Value} {x : XLattice} (h : rLattice.at_ lo hi w v x) : ∃ sa sc, v = .agg #[.int .i64 x.1, .slice sa x.2.length sc] := by
  obtain ⟨u, rfl, h⟩ := h
  obtain ⟨sa, sc, rfl⟩ := (ArrIn.arr h).isSlice
  exact ⟨sa, sc, rfl⟩

set_option maxRecDepth 100000 in
set_option maxHeartbeats 400000 in
theorem toLattice_any (v : Value) (x : XLattice) (w : World) {lo hi : Nat} (h : rLattice.at_ lo hi w v x) (hn : okLattice x) :
    Calls Tryz.prog 7 #[v] w (RetR rLattice x w) := by
  obtain ⟨u, rfl, h⟩ := h
  replace h := ArrIn.arr h
  go_enter Tryz.func7, Tryz.ntmps7
  go_wp2_with (go_at_call 18; refine (toEdgeS_any _ x.2 _ (((h.alloc _).alloc _).alloc _) hn).mono ?_; rintro e w2 ⟨u, rfl, ho, hb⟩; obtain ⟨sa, sc, hu⟩ := ho.isSlice; subst hu; obtain ⟨hc, hf⟩ := bcell hb)
  refine bodyPost_ret (v := .agg #[.int .i64 x.1, .slice sa x.2.length sc]) (by simp [results, Tryz.results7, go_sem, hc]) rfl ⟨_, rfl, ⟨_, rfl, ⟨?_, ?_⟩⟩, ?_⟩
  · exact ((((ho.setBelow (by simp <;> omega) _).setBelow (by simp <;> omega) _).setBelow (by simp <;> omega) _)).mono (by simp <;> omega)
  · intro g hg
    have := (World.ownsRow.lt ho g hg).2
    simpa using this
  · exact ((((((((Below.refl _ _).alloc (Nat.le_refl _) _).alloc (by simp) _).alloc (by simp <;> omega) _).trans (hb.mono (by simp <;> omega))).setCell (by simp <;> omega) _).setCell (by simp <;> omega) _).setCell (by simp <;> omega) _)

set_option maxRecDepth 100000 in
set_option maxHeartbeats 400000 in
theorem szLattice_any (v : Value) (x : XLattice) (left : Int) (w : World) {lo hi : Nat} (h : rLattice.at_ lo hi w v x) (hs : goodLattice x) (hl : 0 ≤ left) (hu : left ≤ 1048576) :
    Calls Tryz.prog 4 #[v, .int .i64 left] w (Ret (.int .i64 (szOf (sizeLattice x) left)) w) := by
  obtain ⟨u, rfl, h⟩ := h
  replace h := ArrIn.arr h
  unfold sizeLattice
  by_cases hf : left < (x.2.length + sumOf szEdge x.2 : Nat)
  all_goals
    go_enter Tryz.func4, Tryz.ntmps4
    go_wp2_with (go_at_call 12; refine (szEdgeS_any _ x.2 _ _ (h.alloc _) hs hl hu).mono ?_; rintro e w2 ⟨rfl, hb⟩; first | rw [szOf_neg (by omega)] | rw [szOf_pos (by omega)])
    go_ret
    exact ret_int (by first | rw [szOf_neg (by omega)] | (rw [szOf_pos (by omega)]; omega)) (((Below.refl _ _).alloc (Nat.le_refl _) _).trans (hb.mono (by simp)))

set_option maxRecDepth 100000 in
set_option maxHeartbeats 400000 in
theorem eqLattice_any (v1 v2 : Value) (x : XLattice) (w : World) {lo1 hi1 lo2 hi2 : Nat} (h1 : rLattice.at_ lo1 hi1 w v1 x) (h2 : rLattice.at_ lo2 hi2 w v2 x) :
    Calls Tryz.prog 10 #[v1, v2] w (Ret (.bool true) w) := by
  obtain ⟨u1, rfl, h1⟩ := h1
  obtain ⟨u2, rfl, h2⟩ := h2
  replace h1 := ArrIn.arr h1
  replace h2 := ArrIn.arr h2
  go_enter Tryz.func10, Tryz.ntmps10
  go_wp2_with (go_at_call 24; refine (eqEdgeS_any _ _ x.2 _ ((h1.alloc _).alloc _) ((h2.alloc _).alloc _)).mono ?_; rintro e w2 ⟨rfl, hb⟩)
  go_ret
  exact ret_bool rfl ((((Below.refl _ _).alloc (Nat.le_refl _) _).alloc (by simp) _).trans (hb.mono (by simp <;> omega)))



set_option maxRecDepth 100000 in
theorem openLattice {H : Type} {enc : TypeId × Value → H} {W : World} {base : Nat} {spare : Nat → Bool} {held : Bool} {v : Value} {d : DataW H} {ps : List MemPlace} {b0 : Nat} {r : Reach}
    (hv : Value.okWide Tryz.prog W r b0 24 v) (h : DataW.Trod enc Tryz.prog W base spare held 24 v d ps) : ∃ x, rLattice.at_ 0 W.heap.size W v x ∧ goodLattice x := by
  obtain ⟨cs, rfl, hsz⟩ := okWide_struct Tryz.underlying24 hv
  have hr := rd_of_trod h
  obtain ⟨hl, hf⟩ := rd_struct Tryz.underlying24 hr
  rw [show Tryz.prog.cellsOf 24 = 2 by kernel_rfl] at hsz
  obtain ⟨c0, u, rfl⟩ : ∃ c0 u, cs = #[c0, u] := by
    match cs, hsz with
    | ⟨[c0, u]⟩, _ => exact ⟨c0, u, rfl⟩
  have hi : Rd Tryz.prog W 2 (([c0, u].drop 0).take (Tryz.prog.cellsOf 2)) := hf 0 _ rfl
  have h0 : Rd Tryz.prog W 22 (([c0, u].drop 1).take (Tryz.prog.cellsOf 22)) := hf 1 _ rfl
  rw [show Tryz.prog.cellsOf 22 = 1 by kernel_rfl] at h0
  rw [show Tryz.prog.cellsOf 2 = 1 by kernel_rfl] at hi
  obtain ⟨n, hn, _⟩ := rd_int Tryz.underlying2 hi
  simp at hn
  subst hn
  obtain ⟨xs, hx⟩ := rd_slice (R := fun _ cs x => cs = eEdge.row x ∧ goodEdge x) (sz := 4) Tryz.underlying22 (by kernel_rfl) (by omega) (decEdge W) (v := u) (by simpa [Value.cells] using h0)
  exact ⟨(n, xs), ⟨u, rfl, (hx.arr.1).in_⟩, hx.arr.2⟩
end Go.Proofs.YtcikndmmbfompaaGreatDoor
