/- The type Lexicon: how its values lie in memory, and what the laws' functions over it do, for every argument that can be read. -/
import Derived.Test.YtcikndmmbfompaaGreatDoorFlEntry
namespace Go.Proofs.YtcikndmmbfompaaGreatDoor
open Go.ChangeShapes Go.WideShapes Go.ChangeAt Go.RowKit Go.Deep

abbrev XLexicon := List DEntry
def rLexicon : Rep XLexicon := Rep.agg1 (Rep.flat eEntry 75)
def goodLexicon (x : XLexicon) : Prop := ∀ e ∈ x, goodEntry e
def sizeLexicon (x : XLexicon) : Nat := x.length + sumOf szEntry x
def okLexicon (x : XLexicon) : Prop := x.length ≤ 1048576
theorem okLexicon_of {x : XLexicon} (h : sizeLexicon x ≤ 1048576) : okLexicon x := by unfold sizeLexicon at h; unfold okLexicon; omega
def cntLexicon (x : XLexicon) : Int := 2 * (x.length : Int)
theorem cntLexicon_bd {x : XLexicon} (h : okLexicon x) : 0 ≤ cntLexicon x ∧ cntLexicon x ≤ 10000000 := by unfold okLexicon at h; unfold cntLexicon; omega
def mkXLexicon (k : Int) (x : XLexicon) : XLexicon := mkEntry k x.length
theorem shapeLexicon {lo hi : Nat} {w : World} {v : Value} {x : XLexicon} (h : rLexicon.at_ lo hi w v x) : ∃ sa sc, v = .agg #[.slice sa x.length sc] := by
  obtain ⟨u, rfl, h⟩ := h
  obtain ⟨sa, sc, rfl⟩ := (ArrIn.arr h).isSlice
  exact ⟨sa, sc, rfl⟩

set_option maxRecDepth 100000 in
set_option maxHeartbeats 400000 in
theorem toLexicon_any (v : Value) (x : XLexicon) (w : World) {lo hi : Nat} (h : rLexicon.at_ lo hi w v x) (hn : okLexicon x) :
    Calls Tryz.prog 8 #[v] w (RetR rLexicon x w) := by
  obtain ⟨u, rfl, h⟩ := h
  replace h := ArrIn.arr h
  go_enter Tryz.func8, Tryz.ntmps8
  go_wp2_with (go_at_call 19; refine (toEntryS_any _ x _ (((h.alloc _).alloc _).alloc _) hn).mono ?_; rintro e w2 ⟨u, rfl, ho, hb⟩; obtain ⟨sa, sc, hu⟩ := ho.isSlice; subst hu; obtain ⟨hc, hf⟩ := bcell hb)
  refine bodyPost_ret (v := .agg #[.slice sa x.length sc]) (by simp [results, Tryz.results8, go_sem, hc]) rfl ⟨_, rfl, ⟨_, rfl, ⟨?_, ?_⟩⟩, ?_⟩
  · exact (((ho.setBelow (by simp <;> omega) _).setBelow (by simp <;> omega) _)).mono (by simp <;> omega)
  · intro g hg
    have := (World.ownsRow.lt ho g hg).2
    simpa using this
  · exact (((((((Below.refl _ _).alloc (Nat.le_refl _) _).alloc (by simp) _).alloc (by simp <;> omega) _).trans (hb.mono (by simp <;> omega))).setCell (by simp <;> omega) _).setCell (by simp <;> omega) _)

set_option maxRecDepth 100000 in
set_option maxHeartbeats 400000 in
theorem szLexicon_any (v : Value) (x : XLexicon) (left : Int) (w : World) {lo hi : Nat} (h : rLexicon.at_ lo hi w v x) (hs : goodLexicon x) (hl : 0 ≤ left) (hu : left ≤ 1048576) :
    Calls Tryz.prog 5 #[v, .int .i64 left] w (Ret (.int .i64 (szOf (sizeLexicon x) left)) w) := by
  obtain ⟨u, rfl, h⟩ := h
  replace h := ArrIn.arr h
  unfold sizeLexicon
  by_cases hf : left < (x.length + sumOf szEntry x : Nat)
  all_goals
    go_enter Tryz.func5, Tryz.ntmps5
    go_wp2_with (go_at_call 13; refine (szEntryS_any _ x _ _ (h.alloc _) hs hl hu).mono ?_; rintro e w2 ⟨rfl, hb⟩; first | rw [szOf_neg (by omega)] | rw [szOf_pos (by omega)])
    go_ret
    exact ret_int (by first | rw [szOf_neg (by omega)] | (rw [szOf_pos (by omega)]; omega)) (((Below.refl _ _).alloc (Nat.le_refl _) _).trans (hb.mono (by simp)))

set_option maxRecDepth 100000 in
set_option maxHeartbeats 400000 in
theorem eqLexicon_any (v1 v2 : Value) (x : XLexicon) (w : World) {lo1 hi1 lo2 hi2 : Nat} (h1 : rLexicon.at_ lo1 hi1 w v1 x) (h2 : rLexicon.at_ lo2 hi2 w v2 x) :
    Calls Tryz.prog 11 #[v1, v2] w (Ret (.bool true) w) := by
  obtain ⟨u1, rfl, h1⟩ := h1
  obtain ⟨u2, rfl, h2⟩ := h2
  replace h1 := ArrIn.arr h1
  replace h2 := ArrIn.arr h2
  go_enter Tryz.func11, Tryz.ntmps11
  go_wp2_with (go_at_call 25; refine (eqEntryS_any _ _ x _ ((h1.alloc _).alloc _) ((h2.alloc _).alloc _)).mono ?_; rintro e w2 ⟨rfl, hb⟩)
  go_ret
  exact ret_bool rfl ((((Below.refl _ _).alloc (Nat.le_refl _) _).alloc (by simp) _).trans (hb.mono (by simp <;> omega)))



set_option maxRecDepth 100000 in
theorem openLexicon {H : Type} {enc : TypeId × Value → H} {W : World} {base : Nat} {spare : Nat → Bool} {held : Bool} {v : Value} {d : DataW H} {ps : List MemPlace} {b0 : Nat} {r : Reach}
    (hv : Value.okWide Tryz.prog W r b0 27 v) (h : DataW.Trod enc Tryz.prog W base spare held 27 v d ps) : ∃ x, rLexicon.at_ 0 W.heap.size W v x ∧ goodLexicon x := by
  obtain ⟨cs, rfl, hsz⟩ := okWide_struct Tryz.underlying27 hv
  have hr := rd_of_trod h
  obtain ⟨hl, hf⟩ := rd_struct Tryz.underlying27 hr
  rw [show Tryz.prog.cellsOf 27 = 1 by kernel_rfl] at hsz
  obtain ⟨u, rfl⟩ : ∃ u, cs = #[u] := by
    match cs, hsz with
    | ⟨[u]⟩, _ => exact ⟨u, rfl⟩
  have h0 : Rd Tryz.prog W 25 (([u].drop 0).take (Tryz.prog.cellsOf 25)) := hf 0 _ rfl
  rw [show Tryz.prog.cellsOf 25 = 1 by kernel_rfl] at h0
  obtain ⟨xs, hx⟩ := rd_slice (R := fun _ cs x => cs = eEntry.row x ∧ goodEntry x) (sz := 2) Tryz.underlying25 (by kernel_rfl) (by omega) (decEntry W) (v := u) (by simpa [Value.cells] using h0)
  exact ⟨xs, ⟨u, rfl, (hx.arr.1).in_⟩, hx.arr.2⟩
end Go.Proofs.YtcikndmmbfompaaGreatDoor
