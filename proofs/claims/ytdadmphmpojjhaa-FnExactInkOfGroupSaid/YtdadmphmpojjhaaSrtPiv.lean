/- slices.choosePivotOrdered at int64, of few elements. -/
import Derived.Test.YtdadmphmpojjhaaSrtMisc
namespace Go.Proofs.Ytdadmphmpojjhaa
open Go.RowKit

set_option maxRecDepth 100000 in
set_option maxHeartbeats 4000000 in
theorem pivotI_any (g o cap a b : Nat) (d : List Int) (w : World) (h : HoldI w g o d) (hab : a + 8 ≤ b) (hb : b ≤ d.length) (hd : d.length ≤ 1000000) (hs : b - a < 50) :
    Calls Try.prog 62 #[.slice (some ⟨g, o, none⟩) d.length cap, .int .i64 a, .int .i64 b] w (fun e w' => ∃ (p : Nat) (hint : Int), e = .returned (.tuple #[.int .i64 p, .int .i64 hint]) ∧ a ≤ p ∧ p < b ∧ (hint = 0 ∨ hint = 1 ∨ hint = 2) ∧ HoldI w' g o d ∧ Fr g w w') := by
  obtain ⟨K, hK⟩ : ∃ K, K = (b - a) / 4 := ⟨_, rfl⟩
  have hK1 : 2 ≤ K := by omega
  have hK2 : K * 4 ≤ b - a := by omega
  have hq : ((b : Int) - (a : Int)).tdiv 4 = (K : Int) := by
    have e1 : (b : Int) - (a : Int) = ((b - a : Nat) : Int) := by omega
    rw [e1, Int.tdiv_eq_ediv_of_nonneg (by omega)]
    omega
  have h8 : 8 ≤ (b : Int) - (a : Int) := by omega
  have h50 : (b : Int) - (a : Int) < 50 := by omega
  obtain ⟨w1, hw1⟩ : ∃ u, u = w.alloc (.cells #[.int .i64 0] 3) := ⟨_, rfl⟩
  obtain ⟨s, hs'⟩ : ∃ s, s = w.heap.size := ⟨_, rfl⟩
  have hgs : s ≠ g := by have := h.lt; omega
  have hF1 : Fr g w w1 := by rw [hw1]; exact Chg.of_below (below_alloc _ _)
  have hH1 : HoldI w1 g o d := by rw [hw1]; exact CntAt.hold (s := s) h (Chg.of_below (below_alloc _ _)) hgs
  have hS1 : CntAt w1 s := by rw [hw1, hs']; exact ⟨0, 3, Box.new _ _ _⟩
  have CM := medianI_any g o cap (a + K) (a + K * 2) (a + K * 3) s d w1 hH1 (by omega) (by omega) (by omega) hS1 hgs
  have ec1 : ((a + K : Nat) : Int) = (a : Int) + (K : Int) := by omega
  have ec2 : ((a + K * 2 : Nat) : Int) = (a : Int) + (K : Int) * 2 := by omega
  have ec3 : ((a + K * 3 : Nat) : Int) = (a : Int) + (K : Int) * 3 := by omega
  rw [ec1, ec2, ec3] at CM
  have HF1 := hid hF1
  have HH1 := hid hH1
  have HW1 := hid hw1
  have HS' := hid hs'
  clear hK ec1 ec2 ec3 hF1 hH1 hS1 hw1 hs' h
  go_enter Try.func62, Try.ntmps62
  go_upto_region 3 with fail
  rw [← HS'.out, ← HW1.out]
  go_wp2_with fail
  refine CM.mono ?_
  rintro e w2 ⟨p, rfl, hp, ⟨n, T, hs2⟩, hF2⟩
  have k0 := hs2.cell (j := 0) rfl
  have HH2 := CntAt.hold HH1.out hF2 hgs
  have hF3 : Fr g w w2 := ⟨hF2.os.trans HF1.out.os, hF2.tape.trans HF1.out.tape, hF2.output.trans HF1.out.output, Nat.le_trans HF1.out.size hF2.size, fun k hk hj => by
    have hsw := HS'.out
    rw [hF2.block k (Nat.lt_of_lt_of_le hk HF1.out.size) (by omega)]
    exact HF1.out.block k hk hj⟩
  have HF3 := hid hF3
  have HH3 := hid HH2
  clear hF2 hF3 HH2 CM
  go_wp2_with fail
  all_goals
    go_ret2
    first
      | exact ⟨p, 1, rfl, by omega, by omega, by omega, HH3.out, HF3.out⟩
      | exact ⟨p, 2, rfl, by omega, by omega, by omega, HH3.out, HF3.out⟩
      | exact ⟨p, 0, rfl, by omega, by omega, by omega, HH3.out, HF3.out⟩
end Go.Proofs.Ytdadmphmpojjhaa
