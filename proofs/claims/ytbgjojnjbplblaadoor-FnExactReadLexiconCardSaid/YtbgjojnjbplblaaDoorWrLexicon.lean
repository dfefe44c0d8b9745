/- The type Lexicon: how its values lie in memory, and what the laws' functions over it do, for every argument that can be read. -/
import Derived.Test.YtbgjojnjbplblaaDoorFlEntry
namespace Go.Proofs.YtbgjojnjbplblaaDoor
open Go.ChangeShapes Go.WideShapes Go.ChangeAt Go.RowKit Go.Deep

abbrev XLexicon := List DEntry
def rLexicon : Rep XLexicon := Rep.agg1 (Rep.flat eEntry 40)
def goodLexicon (x : XLexicon) : Prop := ∀ e ∈ x, goodEntry e
def sizeLexicon (x : XLexicon) : Nat := x.length + sumOf szEntry x
def okLexicon (x : XLexicon) : Prop := x.length ≤ 1048576
theorem okLexicon_of {x : XLexicon} (h : sizeLexicon x ≤ 1048576) : okLexicon x := by unfold sizeLexicon at h; unfold okLexicon; omega
def cntLexicon (x : XLexicon) : Int := 2 * (x.length : Int)
theorem cntLexicon_bd {x : XLexicon} (h : okLexicon x) : 0 ≤ cntLexicon x ∧ cntLexicon x ≤ 10000000 := by unfold okLexicon at h; unfold cntLexicon; omega
def mkXLexicon (k : Int) (x : XLexicon) : XLexicon := mkEntry k x.length
theorem shapeLexicon {lo hi : Nat} {w : World} {v : Value} {x : XLexicon} (h : rLexicon.at_ lo hi w v x) : ∃ sa sc, v = .agg #[.slice sa x.length sc] := by
  obtain ⟨u, rfl, h⟩ := h
  obtain ⟨sa, sc, rfl⟩ := (ArrIn.arr h).isSlice
  exact ⟨sa, sc, rfl⟩



set_option maxRecDepth 100000 in
set_option maxHeartbeats 400000 in
theorem eqLexicon_any (v1 v2 : Value) (x : XLexicon) (w : World) {lo1 hi1 lo2 hi2 : Nat} (h1 : rLexicon.at_ lo1 hi1 w v1 x) (h2 : rLexicon.at_ lo2 hi2 w v2 x) :
    Calls Tryd.prog 7 #[v1, v2] w (Ret (.bool true) w) := by
  obtain ⟨u1, rfl, h1⟩ := h1
  obtain ⟨u2, rfl, h2⟩ := h2
  replace h1 := ArrIn.arr h1
  replace h2 := ArrIn.arr h2
  go_enter Tryd.func7, Tryd.ntmps7
  go_wp2_with (go_at_call 23; refine (eqEntryS_any _ _ x _ ((h1.alloc _).alloc _) ((h2.alloc _).alloc _)).mono ?_; rintro e w2 ⟨rfl, hb⟩)
  go_ret
  exact ret_bool rfl ((((Below.refl _ _).alloc (Nat.le_refl _) _).alloc (by simp) _).trans (hb.mono (by simp <;> omega)))

set_option maxRecDepth 100000 in
set_option maxHeartbeats 400000 in
theorem markLexicon_any (v : Value) (x : XLexicon) (lo hi : Nat) (k : Int) (w : World) (h : rLexicon.own lo hi w v x) (hn : okLexicon x) (hk0 : 0 ≤ k) (hk1 : k ≤ 20000000) :
    Calls Tryd.prog 8 #[v, .int .i64 k] w (RetMark rLexicon (mkXLexicon k x) (k + cntLexicon x) lo hi v w) := by
  obtain ⟨u, rfl, h⟩ := h
  go_enter Tryd.func8, Tryd.ntmps8
  go_wp2_with (go_at_call 24; refine (markEntryS_any _ x lo hi _ _ ((Rep.flat eEntry 40).own_alloc h _) hn hk0 hk1).mono ?_; rintro e w2 ⟨rfl, ho, hc⟩)
  go_ret
  exact ⟨rfl, ⟨_, rfl, ho⟩, (Mk.of_below (below_alloc _ _)).trans hc⟩

set_option maxRecDepth 100000 in
set_option maxHeartbeats 400000 in
theorem heldLexicon_any (v : Value) (x : XLexicon) (k : Int) (w : World) {lo hi : Nat} (h : rLexicon.at_ lo hi w v (mkXLexicon k x)) (hn : okLexicon x) (hk0 : 0 ≤ k) (hk1 : k ≤ 20000000) :
    Calls Tryd.prog 9 #[v, .int .i64 k] w (Ret (.int .i64 (k + cntLexicon x)) w) := by
  obtain ⟨u, rfl, h⟩ := h
  replace h := ArrIn.arr h
  have hp : 0 ≤ k + 2 * (x.length : Int) := by omega
  go_enter Tryd.func9, Tryd.ntmps9
  go_wp2_with (go_at_call 25; refine (heldEntryS_any _ x.length _ _ (h.alloc _) hn hk0 hk1).mono ?_; rintro e w2 ⟨rfl, hb⟩)
  go_ret
  exact ret_int rfl (((Below.refl _ _).alloc (Nat.le_refl _) _).trans (hb.mono (by simp)))

end Go.Proofs.YtbgjojnjbplblaaDoor
