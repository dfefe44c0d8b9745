/- The nearest quotient: both calls. -/
import Derived.Test.YtdifhnckhocmdabGreatPcPlain
import Derived.Test.YtdifhnckhocmdabGreatReg
namespace Go.Proofs.YtdifhnckhocmdabGreat
open Go.RowKit

theorem ediv_bd {c n : Int} (h0 : 0 ≤ c) (hn : 1 ≤ n) : 0 ≤ c / n ∧ c / n ≤ c ∧ 0 ≤ c / n * n ∧ c / n * n ≤ c := by
  have h1 := Int.ediv_nonneg h0 (by omega : (0 : Int) ≤ n)
  have h2 := Int.ediv_le_self n h0
  have h3 := Int.mul_nonneg h1 (by omega : (0 : Int) ≤ n)
  have h4 := Int.emod_add_mul_ediv c n
  have h5 := Int.emod_nonneg c (by omega : n ≠ 0)
  rw [Int.mul_comm] at h4
  omega
set_option maxHeartbeats 400000 in
theorem floorDiv_any (c n : Int) (w : World) (h0 : 0 ≤ c) (h1 : c ≤ 1000000000) (hn : 1 ≤ n) (hn2 : n ≤ 1000000) : Calls Tryz.prog 101 #[.int .i64 c, .int .i64 n] w fun e w' => e = .returned (.int .i64 (c / n)) ∧ w = w' := by
  have hne : ¬ n = 0 := by omega
  have hm : ¬ c % n < 0 := by have := Int.emod_nonneg c hne; omega
  have hm2 : decide (c % n < 0) = false := by simpa using hm
  have hq := ediv_bd h0 hn
  go_enter Tryz.func101, Tryz.ntmps101
  go_wp2
  go_ret
  exact ⟨rfl, rfl⟩
set_option maxHeartbeats 400000 in
theorem nearestDiv_any (c n : Int) (w : World) (h0 : 0 ≤ c) (h1 : c ≤ 1000000000) (hn : 1 ≤ n) (hn2 : n ≤ 1000000) : Calls Tryz.prog 91 #[.int .i64 c, .int .i64 n] w fun e w' => e = .returned (.int .i64 (nearQ c n)) ∧ w = w' := by
  obtain ⟨hq0, hq1, hq2, hq3⟩ := ediv_bd h0 hn
  have HF := fun w' => floorDiv_any c n w' h0 h1 hn hn2
  have HN := hid (near_rest hn h0)
  generalize c / n = q at *
  obtain ⟨m, hm⟩ : ∃ m, q * n = m := ⟨_, rfl⟩
  rw [hm] at hq2 hq3 HN
  by_cases hc : n - (c - m) ≤ c - m
  · have hd : decide (n - (c - m) ≤ c - m) = true := by simpa using hc
    have HN := hid (HN.out.trans (if_pos hc))
    go_enter Tryz.func91, Tryz.ntmps91
    go_wp2_with (go_at_call 101; refine (HF _).mono ?_; rintro e w' ⟨rfl, rfl⟩)
    go_ret
    exact ⟨by rw [HN.out]; rfl, rfl⟩
  · have hd : decide (n - (c - m) ≤ c - m) = false := by simpa using hc
    have HN := hid (HN.out.trans (if_neg hc))
    go_enter Tryz.func91, Tryz.ntmps91
    go_wp2_with (go_at_call 101; refine (HF _).mono ?_; rintro e w' ⟨rfl, rfl⟩)
    go_ret
    exact ⟨by rw [HN.out]; rfl, rfl⟩
set_option maxHeartbeats 400000 in
theorem l05Down_any (c n : Int) (w : World) (h0 : 0 ≤ c) (h1 : c ≤ 10000000000) (hn : 1 ≤ n) (hn2 : n ≤ 10000000) : Calls Tryz.prog 95 #[.int .i64 c, .int .i64 n] w fun e w' => e = .returned (.int .i64 (c / n)) ∧ w = w' := by
  have hne : ¬ n = 0 := by omega
  have hm : ¬ c % n < 0 := by have := Int.emod_nonneg c hne; omega
  have hm2 : decide (c % n < 0) = false := by simpa using hm
  have hq := ediv_bd h0 hn
  go_enter Tryz.func95, Tryz.ntmps95
  go_wp2
  go_ret
  exact ⟨rfl, rfl⟩
set_option maxHeartbeats 400000 in
theorem l05Near_any (c n : Int) (w : World) (h0 : 0 ≤ c) (h1 : c ≤ 1000000000) (hn : 1 ≤ n) (hn2 : n ≤ 1000000) : Calls Tryz.prog 84 #[.int .i64 c, .int .i64 n] w fun e w' => e = .returned (.int .i64 (nearQ c n)) ∧ w = w' := by
  have HF := fun w' => l05Down_any (2 * c + n) (2 * n) w' (by omega) (by omega) (by omega) (by omega)
  go_enter Tryz.func84, Tryz.ntmps84
  go_wp2_with (go_at_call 95; refine (HF _).mono ?_; rintro e w' ⟨rfl, rfl⟩)
  go_ret
  exact ⟨rfl, rfl⟩
end Go.Proofs.YtdifhnckhocmdabGreat
