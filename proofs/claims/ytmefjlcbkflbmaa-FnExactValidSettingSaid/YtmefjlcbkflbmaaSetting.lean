/- A setting of three numbers: how it is read, and the calls that tell whether it is valid. -/
import Derived.Test.YtmefjlcbkflbmaaRows
import Derived.Test.YtmefjlcbkflbmaaOpen
import Derived.Test.YtmefjlcbkflbmaaStr
import Derived.Test.YtmefjlcbkflbmaaRep
namespace Go.Proofs.Ytmefjlcbkflbmaa
open Go.ChangeShapes Go.WideShapes Go.ChangeAt Go.RowKit Go.Deep

structure DSetting where
  points : Int
  most : Int
  pen : Int

theorem openPSetting {H : Type} {enc : TypeId × Value → H} {W : World} {base : Nat} {spare : Nat → Bool} {held : Bool} {v : Value} {d : DataW H} {ps : List MemPlace} {b0 : Nat} {r : Reach}
    (hv : Value.okWide Try.prog W r b0 23 v) (h : DataW.Trod enc Try.prog W base spare held 23 v d ps) : ∃ x : DSetting, v = .agg #[.int .i64 x.points, .int .i64 x.most, .int .i64 x.pen] ∧ True := by
  obtain ⟨cs, rfl, _⟩ := okWide_struct Try.underlying23 hv
  obtain ⟨hl, hf⟩ := rd_struct Try.underlying23 (rd_of_trod h)
  rw [show Try.prog.cellsOf 23 = 3 by kernel_rfl] at hl
  obtain ⟨l⟩ := cs
  simp only [Value.cells] at hl hf
  obtain ⟨c0, c1, c2, rfl⟩ : ∃ c0 c1 c2, l = [c0, c1, c2] := by
    match l, hl with
    | [c0, c1, c2], _ => exact ⟨c0, c1, c2, rfl⟩
  have h0 : Rd Try.prog W 2 (([c0, c1, c2].drop 0).take (Try.prog.cellsOf 2)) := hf 0 _ rfl
  have h1 : Rd Try.prog W 2 (([c0, c1, c2].drop 1).take (Try.prog.cellsOf 2)) := hf 1 _ rfl
  have h2 : Rd Try.prog W 2 (([c0, c1, c2].drop 2).take (Try.prog.cellsOf 2)) := hf 2 _ rfl
  rw [show Try.prog.cellsOf 2 = 1 by kernel_rfl] at h0 h1 h2
  obtain ⟨s0, hs0, _⟩ := rd_int Try.underlying2 h0
  obtain ⟨s1, hs1, _⟩ := rd_int Try.underlying2 h1
  obtain ⟨s2, hs2, _⟩ := rd_int Try.underlying2 h2
  simp at hs0 hs1 hs2
  subst hs0 hs1 hs2
  exact ⟨⟨s0, s1, s2⟩, rfl, trivial⟩

set_option maxHeartbeats 400000 in
theorem toSetting_any (x : DSetting) (w : World) :
    Calls Try.prog 10 #[.agg #[.int .i64 x.points, .int .i64 x.most, .int .i64 x.pen]] w (Ret (.agg #[.int .i64 x.points, .int .i64 x.most, .int .i64 x.pen]) w) := by
  go_enter Try.func10, Try.ntmps10
  go_wp2
  exact bodyPost_ret (v := .agg #[.int .i64 x.points, .int .i64 x.most, .int .i64 x.pen]) (by simp [results, Try.results10, go_sem]) rfl
    (ret_ret rfl ((((Below.refl _ _).alloc (Nat.le_refl _) _).alloc (by simp) _).alloc (by simp <;> omega) _))
def validSet (x : DSetting) : Bool := inB x.points 2 24 && inB x.most 1 8 && inB x.pen 0 1000
set_option maxHeartbeats 400000 in
theorem l13Setting_any (p : Nat) (x : DSetting) (w : World) (c0 : w.cell? ⟨p, 0, none⟩ = some (.int .i64 x.points)) (c1 : w.cell? ⟨p, 1, none⟩ = some (.int .i64 x.most)) (c2 : w.cell? ⟨p, 2, none⟩ = some (.int .i64 x.pen)) :
    Calls Try.prog 29 #[.pointer (some ⟨p, 0, none⟩)] w fun e w' => e = .returned (.bool (validSet x)) ∧ w = w' := by
  cases h1 : inB x.points 2 24 <;> cases h2 : inB x.most 1 8
  all_goals
    go_enter Try.func29, Try.ntmps29
    go_wp2_with (go_at_call 47; refine (l00In_any _ _ _ _).mono ?_; rintro e w' ⟨rfl, rfl⟩; first | rw [h1] | rw [h2] | skip)
    go_ret
    exact ⟨by simp [validSet, h1, h2], rfl⟩
set_option maxHeartbeats 400000 in
theorem specValidSetting_any (x : DSetting) (w : World) :
    Calls Try.prog 9 #[.agg #[.int .i64 x.points, .int .i64 x.most, .int .i64 x.pen]] w (Ret (.bool (validSet x)) w) := by
  go_enter Try.func9, Try.ntmps9
  go_wp2_with (go_at_call 29; refine (l13Setting_any _ x _ (by simp) (by simp) (by simp)).mono ?_; rintro e w' ⟨rfl, rfl⟩)
  go_ret
  exact ret_bool rfl (below_alloc _ _)
set_option maxHeartbeats 400000 in
theorem implValidSetting_any (x : DSetting) (w : World) :
    Calls Try.prog 11 #[.agg #[.int .i64 x.points, .int .i64 x.most, .int .i64 x.pen]] w (Ret (.bool (validSet x)) w) := by
  cases h1 : inB x.points 2 24 <;> cases h2 : inB x.most 1 8
  all_goals
    go_enter Try.func11, Try.ntmps11
    go_wp2_with (go_at_call 30; refine (within_any _ _ _ _).mono ?_; rintro e w' ⟨rfl, rfl⟩; first | rw [h1] | rw [h2] | skip)
    go_ret
    exact ret_bool (by simp [validSet, h1, h2]) (below_alloc _ _)
end Go.Proofs.Ytmefjlcbkflbmaa
