/- What a beam keeps: the calls of the reference. -/
import Derived.Test.YtcikndmmbfompaaGreatDoorRdStatF
import Derived.Test.YtcikndmmbfompaaGreatDoorRdStatT
import Derived.Test.YtcikndmmbfompaaGreatDoorRdImp
namespace Go.Proofs.YtcikndmmbfompaaGreatDoor
open Go.RowKit

theorem l16States_any (p q0 : Nat) (v vy : Value) (N m : Nat) (x : List DEdge) (y : XLexicon) (w : World) (hp0 : w.cell? ⟨p, 0, none⟩ = some (.int .i64 N)) (hp1 : w.cell? ⟨p, 1, none⟩ = some v) (hq0 : w.cell? ⟨q0, 0, none⟩ = some vy) (h : Arr eEdge w v x) (hY : Arr eEntry w vy y) (oky : okLexicon y) (gy : goodLexicon y) (hv : validLt ((N : Int), x) = true) (hm1 : 1 ≤ m) (hm : m ≤ 1000) :
    Calls Tryz.prog 31 #[.pointer (some ⟨p, 0, none⟩), .pointer (some ⟨q0, 0, none⟩), .int .i64 m] w fun e w' => ∃ g vs, e = .returned (.slice (some ⟨g, 0, none⟩) N N) ∧ RowsR g N w' vs (statesR m (begLx y) (beg0 y) x) ∧ w.heap.size ≤ g ∧ Below w.heap.size w w' := by
  cases hbe : begLx y ⟨#[]⟩
  · exact l16StatesF_any p q0 v vy N m x y w hp0 hp1 hq0 h hY oky gy hv hm1 hm hbe
  · exact l16StatesT_any p q0 v vy N m x y w hp0 hp1 hq0 h hY oky gy hv hm1 hm hbe
end Go.Proofs.YtcikndmmbfompaaGreatDoor
namespace Go.Proofs.YtcikndmmbfompaaGreatDoor
open Go.RowKit Go.Sort
attribute [local go_sem ↓] Go.wp_at_zero Go.wp_at_succ

end Go.Proofs.YtcikndmmbfompaaGreatDoor
namespace Go.Proofs.YtcikndmmbfompaaGreatDoor
open Go.RowKit Go.Sort
attribute [local go_sem ↓] Go.wp_at_zero Go.wp_at_succ

theorem own_boxT {α : Type} {E : Enc α} {e : TypeId} {B g n cap : Nat} {w : World} {xs : List α} (h : Own E e B w (.slice (some ⟨g, 0, none⟩) n cap) xs) : BoxT w g e := by
  rcases h.2 with ⟨h0, _⟩ | ⟨g', cap', cur, hv, _, hh, _⟩
  · cases h0
  · cases hv; exact ⟨cur, _, hh⟩
end Go.Proofs.YtcikndmmbfompaaGreatDoor
