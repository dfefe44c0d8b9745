/- The type Stroke: how its values lie in memory, and what the laws' functions over it do, for every argument that can be read. -/
import Derived.Test.YtdadmphmpojjhaaFlPoint
namespace Go.Proofs.Ytdadmphmpojjhaa
open Go.ChangeShapes Go.WideShapes Go.ChangeAt Go.RowKit Go.Deep

abbrev XStroke := List DPoint
def rStroke : Rep XStroke := Rep.agg1 (Rep.flat ePoint 59)
def goodStroke (x : XStroke) : Prop := ∀ e ∈ x, goodPoint e
def sizeStroke (x : XStroke) : Nat := x.length + sumOf szPoint x
def okStroke (x : XStroke) : Prop := x.length ≤ 1048576
theorem okStroke_of {x : XStroke} (h : sizeStroke x ≤ 1048576) : okStroke x := by unfold sizeStroke at h; unfold okStroke; omega
def cntStroke (x : XStroke) : Int := 3 * (x.length : Int)
theorem cntStroke_bd {x : XStroke} (h : okStroke x) : 0 ≤ cntStroke x ∧ cntStroke x ≤ 10000000 := by unfold okStroke at h; unfold cntStroke; omega
def mkXStroke (k : Int) (x : XStroke) : XStroke := mkPoint k x.length
theorem shapeStroke {lo hi : Nat} {w : World} {v : Value} {x : XStroke} (h : rStroke.at_ lo hi w v x) : ∃ sa sc, v = .agg #[.slice sa x.length sc] := by
  obtain ⟨u, rfl, h⟩ := h
  obtain ⟨sa, sc, rfl⟩ := (ArrIn.arr h).isSlice
  exact ⟨sa, sc, rfl⟩

set_option maxRecDepth 100000 in
set_option maxHeartbeats 400000 in
theorem toStroke_any (v : Value) (x : XStroke) (w : World) {lo hi : Nat} (h : rStroke.at_ lo hi w v x) (hn : okStroke x) :
    Calls Try.prog 28 #[v] w (RetR rStroke x w) := by
  obtain ⟨u, rfl, h⟩ := h
  replace h := ArrIn.arr h
  go_enter Try.func28, Try.ntmps28
  go_wp2_with (go_at_call 42; refine (toPointS_any _ x _ (((h.alloc _).alloc _).alloc _) hn).mono ?_; rintro e w2 ⟨u, rfl, ho, hb⟩; obtain ⟨sa, sc, hu⟩ := ho.isSlice; subst hu; obtain ⟨hc, hf⟩ := bcell hb)
  refine bodyPost_ret (v := .agg #[.slice sa x.length sc]) (by simp [results, Try.results28, go_sem, hc]) rfl ⟨_, rfl, ⟨_, rfl, ⟨?_, ?_⟩⟩, ?_⟩
  · exact (((ho.setBelow (by simp <;> omega) _).setBelow (by simp <;> omega) _)).mono (by simp <;> omega)
  · intro g hg
    have := (World.ownsRow.lt ho g hg).2
    simpa using this
  · exact (((((((Below.refl _ _).alloc (Nat.le_refl _) _).alloc (by simp) _).alloc (by simp <;> omega) _).trans (hb.mono (by simp <;> omega))).setCell (by simp <;> omega) _).setCell (by simp <;> omega) _)

set_option maxRecDepth 100000 in
set_option maxHeartbeats 400000 in
theorem szStroke_any (v : Value) (x : XStroke) (left : Int) (w : World) {lo hi : Nat} (h : rStroke.at_ lo hi w v x) (hs : goodStroke x) (hl : 0 ≤ left) (hu : left ≤ 1048576) :
    Calls Try.prog 22 #[v, .int .i64 left] w (Ret (.int .i64 (szOf (sizeStroke x) left)) w) := by
  obtain ⟨u, rfl, h⟩ := h
  replace h := ArrIn.arr h
  unfold sizeStroke
  by_cases hf : left < (x.length + sumOf szPoint x : Nat)
  all_goals
    go_enter Try.func22, Try.ntmps22
    go_wp2_with (go_at_call 38; refine (szPointS_any _ x _ _ (h.alloc _) hs hl hu).mono ?_; rintro e w2 ⟨rfl, hb⟩; first | rw [szOf_neg (by omega)] | rw [szOf_pos (by omega)])
    go_ret
    exact ret_int (by first | rw [szOf_neg (by omega)] | (rw [szOf_pos (by omega)]; omega)) (((Below.refl _ _).alloc (Nat.le_refl _) _).trans (hb.mono (by simp)))

set_option maxRecDepth 100000 in
set_option maxHeartbeats 400000 in
theorem eqStroke_any (v1 v2 : Value) (x : XStroke) (w : World) {lo1 hi1 lo2 hi2 : Nat} (h1 : rStroke.at_ lo1 hi1 w v1 x) (h2 : rStroke.at_ lo2 hi2 w v2 x) :
    Calls Try.prog 35 #[v1, v2] w (Ret (.bool true) w) := by
  obtain ⟨u1, rfl, h1⟩ := h1
  obtain ⟨u2, rfl, h2⟩ := h2
  replace h1 := ArrIn.arr h1
  replace h2 := ArrIn.arr h2
  go_enter Try.func35, Try.ntmps35
  go_wp2_with (go_at_call 49; refine (eqPointS_any _ _ x _ ((h1.alloc _).alloc _) ((h2.alloc _).alloc _)).mono ?_; rintro e w2 ⟨rfl, hb⟩)
  go_ret
  exact ret_bool rfl ((((Below.refl _ _).alloc (Nat.le_refl _) _).alloc (by simp) _).trans (hb.mono (by simp <;> omega)))



set_option maxRecDepth 100000 in
theorem openStroke {H : Type} {enc : TypeId × Value → H} {W : World} {base : Nat} {spare : Nat → Bool} {held : Bool} {v : Value} {d : DataW H} {ps : List MemPlace} {b0 : Nat} {r : Reach}
    (hv : Value.okWide Try.prog W r b0 52 v) (h : DataW.Trod enc Try.prog W base spare held 52 v d ps) : ∃ x, rStroke.at_ 0 W.heap.size W v x ∧ goodStroke x := by
  obtain ⟨cs, rfl, hsz⟩ := okWide_struct Try.underlying52 hv
  have hr := rd_of_trod h
  obtain ⟨hl, hf⟩ := rd_struct Try.underlying52 hr
  rw [show Try.prog.cellsOf 52 = 1 by kernel_rfl] at hsz
  obtain ⟨u, rfl⟩ : ∃ u, cs = #[u] := by
    match cs, hsz with
    | ⟨[u]⟩, _ => exact ⟨u, rfl⟩
  have h0 : Rd Try.prog W 50 (([u].drop 0).take (Try.prog.cellsOf 50)) := hf 0 _ rfl
  rw [show Try.prog.cellsOf 50 = 1 by kernel_rfl] at h0
  obtain ⟨xs, hx⟩ := rd_slice (R := fun _ cs x => cs = ePoint.row x ∧ goodPoint x) (sz := 3) Try.underlying50 (by kernel_rfl) (by omega) (decPoint W) (v := u) (by simpa [Value.cells] using h0)
  exact ⟨xs, ⟨u, rfl, (hx.arr.1).in_⟩, hx.arr.2⟩
end Go.Proofs.Ytdadmphmpojjhaa
