/- A setting of three numbers: how it is read, and the calls that tell whether it is valid. -/
import Derived.Test.YtlnoelbeaolikaaGreatRows
import Derived.Test.YtlnoelbeaolikaaGreatOpen
import Derived.Test.YtlnoelbeaolikaaGreatStr
import Derived.Test.YtlnoelbeaolikaaGreatRep
namespace Go.Proofs.YtlnoelbeaolikaaGreat
open Go.ChangeShapes Go.WideShapes Go.ChangeAt Go.RowKit Go.Deep

theorem cell3c {w : World} {a b : Obj} {cs : Array Value} {t : TypeId} {i : Nat} : (((w.alloc a).alloc b).alloc (.cells cs t)).cell? ⟨w.heap.size + 1 + 1, i, none⟩ = cs[i]? := by
  have h := World.cell?_alloc_new ((w.alloc a).alloc b) cs t i
  simpa using h
structure DSetting where
  points : Int
  most : Int
  pen : Int

set_option maxRecDepth 100000 in
theorem openPSetting {H : Type} {enc : TypeId × Value → H} {W : World} {base : Nat} {spare : Nat → Bool} {held : Bool} {v : Value} {d : DataW H} {ps : List MemPlace} {b0 : Nat} {r : Reach}
    (hv : Value.okWide Tryz.prog W r b0 29 v) (h : DataW.Trod enc Tryz.prog W base spare held 29 v d ps) : ∃ x : DSetting, v = .agg #[.int .i64 x.points, .int .i64 x.most, .int .i64 x.pen] ∧ True := by
  obtain ⟨cs, rfl, _⟩ := okWide_struct Tryz.underlying29 hv
  obtain ⟨hl, hf⟩ := rd_struct Tryz.underlying29 (rd_of_trod h)
  rw [show Tryz.prog.cellsOf 29 = 3 by kernel_rfl] at hl
  obtain ⟨l⟩ := cs
  simp only [Value.cells] at hl hf
  obtain ⟨c0, c1, c2, rfl⟩ : ∃ c0 c1 c2, l = [c0, c1, c2] := by
    match l, hl with
    | [c0, c1, c2], _ => exact ⟨c0, c1, c2, rfl⟩
  have h0 : Rd Tryz.prog W 2 (([c0, c1, c2].drop 0).take (Tryz.prog.cellsOf 2)) := hf 0 _ rfl
  have h1 : Rd Tryz.prog W 2 (([c0, c1, c2].drop 1).take (Tryz.prog.cellsOf 2)) := hf 1 _ rfl
  have h2 : Rd Tryz.prog W 2 (([c0, c1, c2].drop 2).take (Tryz.prog.cellsOf 2)) := hf 2 _ rfl
  rw [show Tryz.prog.cellsOf 2 = 1 by kernel_rfl] at h0 h1 h2
  obtain ⟨s0, hs0, _⟩ := rd_int Tryz.underlying2 h0
  obtain ⟨s1, hs1, _⟩ := rd_int Tryz.underlying2 h1
  obtain ⟨s2, hs2, _⟩ := rd_int Tryz.underlying2 h2
  simp at hs0 hs1 hs2
  subst hs0 hs1 hs2
  exact ⟨⟨s0, s1, s2⟩, rfl, trivial⟩

set_option maxHeartbeats 400000 in
theorem toSetting_any (x : DSetting) (w : World) :
    Calls Tryz.prog 10 #[.agg #[.int .i64 x.points, .int .i64 x.most, .int .i64 x.pen]] w (Ret (.agg #[.int .i64 x.points, .int .i64 x.most, .int .i64 x.pen]) w) := by
  go_enter Tryz.func10, Tryz.ntmps10
  go_wp2
  exact bodyPost_ret (v := .agg #[.int .i64 x.points, .int .i64 x.most, .int .i64 x.pen]) (by simp [results, Tryz.results10, go_sem]) rfl
    (ret_ret rfl ((((Below.refl _ _).alloc (Nat.le_refl _) _).alloc (by simp) _).alloc (by simp <;> omega) _))
def validSet (x : DSetting) : Bool := inB x.points 2 24 && inB x.most 1 8 && inB x.pen 0 1000
set_option maxHeartbeats 400000 in
theorem l13Setting_any (p : Nat) (x : DSetting) (w : World) (c0 : w.cell? ⟨p, 0, none⟩ = some (.int .i64 x.points)) (c1 : w.cell? ⟨p, 1, none⟩ = some (.int .i64 x.most)) (c2 : w.cell? ⟨p, 2, none⟩ = some (.int .i64 x.pen)) :
    Calls Tryz.prog 28 #[.pointer (some ⟨p, 0, none⟩)] w fun e w' => e = .returned (.bool (validSet x)) ∧ w = w' := by
  cases h1 : inB x.points 2 24 <;> cases h2 : inB x.most 1 8
  all_goals
    go_enter Tryz.func28, Tryz.ntmps28
    go_wp2_with (go_at_call 53; refine (l00In_any _ _ _ _).mono ?_; rintro e w' ⟨rfl, rfl⟩; first | rw [h1] | rw [h2] | skip)
    go_ret
    exact ⟨by simp [validSet, h1, h2], rfl⟩
set_option maxHeartbeats 400000 in
theorem implValidSetting_any (x : DSetting) (w : World) :
    Calls Tryz.prog 34 #[.agg #[.int .i64 x.points, .int .i64 x.most, .int .i64 x.pen]] w (Ret (.bool (validSet x)) w) := by
  cases h1 : inB x.points 2 24 <;> cases h2 : inB x.most 1 8
  all_goals
    go_enter Tryz.func34, Tryz.ntmps34
    go_wp2_with (go_at_call 62; refine (within_any _ _ _ _).mono ?_; rintro e w' ⟨rfl, rfl⟩; first | rw [h1] | rw [h2] | skip)
    go_ret
    exact ret_bool (by simp [validSet, h1, h2]) (below_alloc _ _)
end Go.Proofs.YtlnoelbeaolikaaGreat
