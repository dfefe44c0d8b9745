/- cmp.Less and slices.insertionSortOrdered at int64. -/
import Derived.Test.YtdadmphmpojjhaaSrtPl
import Derived.Test.YtdadmphmpojjhaaCmp
import Derived.BigQuiet
import Derived.Deep.QuietTactic
import Derived.Deep.Draws
import Derived.BigRegion
import Derived.IntWalk
namespace Go.Proofs.Ytdadmphmpojjhaa
open Go.RowKit

theorem lessI_any (a b : Int) (w : World) : Calls Try.prog 65 #[.int .i64 a, .int .i64 b] w fun e w' => e = .returned (.bool (decide (a < b))) ∧ w = w' := by
  go_enter Try.func65, Try.ntmps65
  go_wp2_with fail
  refine (isNaNI_any a w).mono ?_
  rintro e w' ⟨rfl, rfl⟩
  go_wp2_with fail
  go_ret
  exact ⟨rfl, rfl⟩
/-- the post of a call that turns the block within a..b -/
def SrtPost (g o a b : Nat) (d : List Int) (w : World) (e : Ending) (w' : World) : Prop :=
  e = .returned (.tuple #[]) ∧ ∃ d', HoldI w' g o d' ∧ POn a b d d' ∧ SortOn a b d' ∧ Fr g w w'
set_option maxRecDepth 100000 in
set_option maxHeartbeats 4000000 in
theorem insertionI_any (g o cap a b : Nat) (d : List Int) (w : World) (h : HoldI w g o d) (hab : a ≤ b) (hb : b ≤ d.length) (hd : d.length ≤ 1000000) :
    Calls Try.prog 59 #[.slice (some ⟨g, o, none⟩) d.length cap, .int .i64 a, .int .i64 b] w (SrtPost g o a b d w) := by
  go_enter Try.func59, Try.ntmps59
  go_wp2_with fail
  go_loopw [6] (fun i wr => ∃ (k : Nat) (dk : List Int), i = .int .i64 k ∧ a < k ∧ k ≤ b + 1 ∧ HoldI wr g o dk ∧ POn a b d dk ∧ (k ≤ b → SortOn a k dk) ∧ (b < k → SortOn a b dk) ∧ Fr g w wr) (fun i _ => b + 1 - (intOf i).toNat)
  case atStart => exact ⟨a + 1, d, by go_num, by omega, by omega, h, POn.refl _ _ _, fun _ => SortOn.short _ (Nat.le_refl _), fun _ => SortOn.short _ (by omega), Chg.refl _ _ _⟩
  case round =>
    clear h
    obtain ⟨k, dk, rfl, hak, hkb, hH, hP, hS1, hS2, hF⟩ := hrel
    by_cases hlt : k < b
    · have hli : (k : Int) < (b : Int) := by omega
      have hS := hS1 (by omega)
      have HP := hid hP
      have HH := hid hH
      have HS := hid hS
      have HF := hid hF
      clear hP hH hS hF hS1 hS2
      go_wp2_with fail
      obtain ⟨wo, rfl⟩ : ∃ x, x = wr := ⟨wr, rfl⟩
      go_loopw [7] (fun i wr => ∃ (j : Nat) (dj : List Int), i = .int .i64 j ∧ a ≤ j ∧ j ≤ k ∧ HoldI wr g o dj ∧ POn a b d dj ∧ Hid (InsInv a k j dj) ∧ Fr g w wr) (fun i _ => (intOf i).toNat)
      case atStart => exact ⟨k, dk, rfl, by omega, Nat.le_refl _, HH.out, HP.out, hid (InsInv.start HS.out), HF.out⟩
      case round =>
        obtain ⟨j, dj, rfl, haj, hjk, hH, hP, HI, hF⟩ := hrel
        have hdl := hP.len
        have hjd : j < dj.length := by omega
        have HH2 := hid hH
        have HP2 := hid hP
        have HF2 := hid hF
        by_cases hja : a < j
        · have c0 := hH.cell j (by omega)
          have c1 := hH.cell (j - 1) (by omega)
          have f0 := hH.free (o + j)
          have f1 := hH.free (o + (j - 1))
          have hjd2 : j < d.length := by omega
          have hj1 : j - 1 < d.length := by omega
          obtain ⟨x, hx⟩ : ∃ x, x = gI dj j := ⟨_, rfl⟩
          obtain ⟨y, hy⟩ : ∃ x, x = gI dj (j - 1) := ⟨_, rfl⟩
          rw [← hx] at c0
          rw [← hy] at c1
          have HX := hid hx
          have HY := hid hy
          have hw : IntKind.i64.wrap ((j : Int) - 1) = ((j - 1 : Nat) : Int) := by rw [IntWalk.i64_in _ (by omega)]; omega
          have hjai : (a : Int) < (j : Int) := by omega
          clear hH hP hF hdl hx hy
          go_wp2_with fail
          go_quiet (first | (go_at_call 65; refine Calls.quiet_of_same ((lessI_any _ _ _).mono fun _ _ h => ⟨h.1, h.2.symm⟩)))
          go_wp2_with fail
          · have hxy : x < y := by assumption
            go_region
            all_goals go_wp2_with fail
            go_roundw
            case rel =>
              refine ⟨j - 1, swL dj j (j - 1), by first | rfl | go_num, by omega, by omega, ?_, HP2.out.trans (POn.sw (by have := HP2.out.len; omega) (by omega) (by omega) (by omega) (by omega)), hid (HI.out.step hja hjk (by have := HP2.out.len; omega) (by rw [← HX.out, ← HY.out]; exact hxy)), ?_⟩
              · rw [HX.out, HY.out]
                exact (HH2.out.drewN _).sw (by have := HP2.out.len; omega) (by have := HP2.out.len; omega)
              · exact (HF2.out.drewN _).sw _ _ _ _
            case measure => simp [intOf]; omega
          · have hxy : y ≤ x := by first | assumption | omega
            go_roundw
            case rel => exact ⟨k + 1, dj, by go_num, by omega, by omega, HH2.out.drewN _, HP2.out, fun _ => HI.out.stop (.inr (by rw [← HX.out, ← HY.out]; omega)), fun h => by omega, HF2.out.drewN _⟩
            case measure => simp [intOf]; omega
        · have hjai : decide ((a : Int) < (j : Int)) = false := by simp; omega
          clear hH hP hF hdl
          go_wp2_with fail
          go_quiet (first | (go_at_call 65; refine Calls.quiet_of_same ((lessI_any _ _ _).mono fun _ _ h => ⟨h.1, h.2.symm⟩)))
          go_wp2_with fail
          go_roundw
          case rel => exact ⟨k + 1, dj, by go_num, by omega, by omega, HH2.out.drewN _, HP2.out, fun _ => HI.out.stop (.inl (by omega)), fun h => by omega, HF2.out.drewN _⟩
          case measure => simp [intOf]; omega
    · have hli : ¬ ((k : Int) < (b : Int)) := by omega
      go_wp2_with fail
      go_end0
      exact ⟨rfl, dk, hH, hP, by by_cases e : k ≤ b
                                 · have : k = b := by omega
                                   subst this; exact hS1 e
                                 · exact hS2 (by omega), hF⟩
end Go.Proofs.Ytdadmphmpojjhaa
