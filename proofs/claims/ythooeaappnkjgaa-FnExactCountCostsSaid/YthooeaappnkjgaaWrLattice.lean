/- The type Lattice: how its values lie in memory, and what the laws' functions over it do, for every argument that can be read. -/
import Derived.Test.YthooeaappnkjgaaFlEdge
namespace Go.Proofs.Ythooeaappnkjgaa
open Go.ChangeShapes Go.WideShapes Go.ChangeAt Go.RowKit Go.Deep

abbrev XLattice := Int × List DEdge
def rLattice : Rep XLattice := Rep.aggP (fun n => Value.int .i64 n) (Rep.flat eEdge 35)
def goodLattice (x : XLattice) : Prop := ∀ e ∈ x.2, goodEdge e
def sizeLattice (x : XLattice) : Nat := x.2.length + sumOf szEdge x.2
def okLattice (x : XLattice) : Prop := x.2.length ≤ 1048576
theorem okLattice_of {x : XLattice} (h : sizeLattice x ≤ 1048576) : okLattice x := by unfold sizeLattice at h; unfold okLattice; omega
def cntLattice (x : XLattice) : Int := 4 * (x.2.length : Int)
theorem cntLattice_bd {x : XLattice} (h : okLattice x) : 0 ≤ cntLattice x ∧ cntLattice x ≤ 10000000 := by unfold okLattice at h; unfold cntLattice; omega
def mkXLattice (k : Int) (x : XLattice) : XLattice := (x.1, mkEdge k x.2.length)
theorem shapeLattice {lo hi : Nat} {w : World} {v : Value} {x : XLattice} (h : rLattice.at_ lo hi w v x) : ∃ sa sc, v = .agg #[.int .i64 x.1, .slice sa x.2.length sc] := by
  obtain ⟨u, rfl, h⟩ := h
  obtain ⟨sa, sc, rfl⟩ := (ArrIn.arr h).isSlice
  exact ⟨sa, sc, rfl⟩

set_option maxRecDepth 100000 in
set_option maxHeartbeats 400000 in
theorem toLattice_any (v : Value) (x : XLattice) (w : World) {lo hi : Nat} (h : rLattice.at_ lo hi w v x) (hn : okLattice x) :
    Calls Try.prog 8 #[v] w (RetR rLattice x w) := by
  obtain ⟨u, rfl, h⟩ := h
  replace h := ArrIn.arr h
  go_enter Try.func8, Try.ntmps8
  go_wp2_with (go_at_call 29; refine (toEdgeS_any _ x.2 _ (((h.alloc _).alloc _).alloc _) hn).mono ?_; rintro e w2 ⟨u, rfl, ho, hb⟩; obtain ⟨sa, sc, hu⟩ := ho.isSlice; subst hu; obtain ⟨hc, hf⟩ := bcell hb)
  refine bodyPost_ret (v := .agg #[.int .i64 x.1, .slice sa x.2.length sc]) (by simp [results, Try.results8, go_sem, hc]) rfl ⟨_, rfl, ⟨_, rfl, ⟨?_, ?_⟩⟩, ?_⟩
  · exact ((((ho.setBelow (by simp <;> omega) _).setBelow (by simp <;> omega) _).setBelow (by simp <;> omega) _)).mono (by simp <;> omega)
  · intro g hg
    have := (World.ownsRow.lt ho g hg).2
    simpa using this
  · exact ((((((((Below.refl _ _).alloc (Nat.le_refl _) _).alloc (by simp) _).alloc (by simp <;> omega) _).trans (hb.mono (by simp <;> omega))).setCell (by simp <;> omega) _).setCell (by simp <;> omega) _).setCell (by simp <;> omega) _)

set_option maxRecDepth 100000 in
set_option maxHeartbeats 400000 in
theorem szLattice_any (v : Value) (x : XLattice) (left : Int) (w : World) {lo hi : Nat} (h : rLattice.at_ lo hi w v x) (hs : goodLattice x) (hl : 0 ≤ left) (hu : left ≤ 1048576) :
    Calls Try.prog 5 #[v, .int .i64 left] w (Ret (.int .i64 (szOf (sizeLattice x) left)) w) := by
  obtain ⟨u, rfl, h⟩ := h
  replace h := ArrIn.arr h
  unfold sizeLattice
  by_cases hf : left < (x.2.length + sumOf szEdge x.2 : Nat)
  all_goals
    go_enter Try.func5, Try.ntmps5
    go_wp2_with (go_at_call 23; refine (szEdgeS_any _ x.2 _ _ (h.alloc _) hs hl hu).mono ?_; rintro e w2 ⟨rfl, hb⟩; first | rw [szOf_neg (by omega)] | rw [szOf_pos (by omega)])
    go_ret
    exact ret_int (by first | rw [szOf_neg (by omega)] | (rw [szOf_pos (by omega)]; omega)) (((Below.refl _ _).alloc (Nat.le_refl _) _).trans (hb.mono (by simp)))

set_option maxRecDepth 100000 in
set_option maxHeartbeats 400000 in
theorem eqLattice_any (v1 v2 : Value) (x : XLattice) (w : World) {lo1 hi1 lo2 hi2 : Nat} (h1 : rLattice.at_ lo1 hi1 w v1 x) (h2 : rLattice.at_ lo2 hi2 w v2 x) :
    Calls Try.prog 11 #[v1, v2] w (Ret (.bool true) w) := by
  obtain ⟨u1, rfl, h1⟩ := h1
  obtain ⟨u2, rfl, h2⟩ := h2
  replace h1 := ArrIn.arr h1
  replace h2 := ArrIn.arr h2
  go_enter Try.func11, Try.ntmps11
  go_wp2_with (go_at_call 37; refine (eqEdgeS_any _ _ x.2 _ ((h1.alloc _).alloc _) ((h2.alloc _).alloc _)).mono ?_; rintro e w2 ⟨rfl, hb⟩)
  go_ret
  exact ret_bool rfl ((((Below.refl _ _).alloc (Nat.le_refl _) _).alloc (by simp) _).trans (hb.mono (by simp <;> omega)))

set_option maxRecDepth 100000 in
set_option maxHeartbeats 400000 in
theorem markLattice_any (v : Value) (x : XLattice) (lo hi : Nat) (k : Int) (w : World) (h : rLattice.own lo hi w v x) (hn : okLattice x) (hk0 : 0 ≤ k) (hk1 : k ≤ 20000000) :
    Calls Try.prog 12 #[v, .int .i64 k] w (RetMark rLattice (mkXLattice k x) (k + cntLattice x) lo hi v w) := by
  obtain ⟨u, rfl, h⟩ := h
  go_enter Try.func12, Try.ntmps12
  go_wp2_with (go_at_call 38; refine (markEdgeS_any _ x.2 lo hi _ _ ((Rep.flat eEdge 35).own_alloc h _) hn hk0 hk1).mono ?_; rintro e w2 ⟨rfl, ho, hc⟩)
  go_ret
  exact ⟨rfl, ⟨_, rfl, ho⟩, (Mk.of_below (below_alloc _ _)).trans hc⟩

set_option maxRecDepth 100000 in
set_option maxHeartbeats 400000 in
theorem heldLattice_any (v : Value) (x : XLattice) (k : Int) (w : World) {lo hi : Nat} (h : rLattice.at_ lo hi w v (mkXLattice k x)) (hn : okLattice x) (hk0 : 0 ≤ k) (hk1 : k ≤ 20000000) :
    Calls Try.prog 13 #[v, .int .i64 k] w (Ret (.int .i64 (k + cntLattice x)) w) := by
  obtain ⟨u, rfl, h⟩ := h
  replace h := ArrIn.arr h
  have hp : 0 ≤ k + 4 * (x.2.length : Int) := by omega
  go_enter Try.func13, Try.ntmps13
  go_wp2_with (go_at_call 39; refine (heldEdgeS_any _ x.2.length _ _ (h.alloc _) hn hk0 hk1).mono ?_; rintro e w2 ⟨rfl, hb⟩)
  go_ret
  exact ret_int rfl (((Below.refl _ _).alloc (Nat.le_refl _) _).trans (hb.mono (by simp)))

set_option maxRecDepth 100000 in
theorem openLattice {H : Type} {enc : TypeId × Value → H} {W : World} {base : Nat} {spare : Nat → Bool} {held : Bool} {v : Value} {d : DataW H} {ps : List MemPlace} {b0 : Nat} {r : Reach}
    (hv : Value.okWide Try.prog W r b0 24 v) (h : DataW.Trod enc Try.prog W base spare held 24 v d ps) : ∃ x, rLattice.at_ 0 W.heap.size W v x ∧ goodLattice x := by
  obtain ⟨cs, rfl, hsz⟩ := okWide_struct Try.underlying24 hv
  have hr := rd_of_trod h
  obtain ⟨hl, hf⟩ := rd_struct Try.underlying24 hr
  rw [show Try.prog.cellsOf 24 = 2 by kernel_rfl] at hsz
  obtain ⟨c0, u, rfl⟩ : ∃ c0 u, cs = #[c0, u] := by
    match cs, hsz with
    | ⟨[c0, u]⟩, _ => exact ⟨c0, u, rfl⟩
  have hi : Rd Try.prog W 2 (([c0, u].drop 0).take (Try.prog.cellsOf 2)) := hf 0 _ rfl
  have h0 : Rd Try.prog W 22 (([c0, u].drop 1).take (Try.prog.cellsOf 22)) := hf 1 _ rfl
  rw [show Try.prog.cellsOf 22 = 1 by kernel_rfl] at h0
  rw [show Try.prog.cellsOf 2 = 1 by kernel_rfl] at hi
  obtain ⟨n, hn, _⟩ := rd_int Try.underlying2 hi
  simp at hn
  subst hn
  obtain ⟨xs, hx⟩ := rd_slice (R := fun _ cs x => cs = eEdge.row x ∧ goodEdge x) (sz := 4) Try.underlying22 (by kernel_rfl) (by omega) (decEdge W) (v := u) (by simpa [Value.cells] using h0)
  exact ⟨(n, xs), ⟨u, rfl, (hx.arr.1).in_⟩, hx.arr.2⟩
end Go.Proofs.Ythooeaappnkjgaa
