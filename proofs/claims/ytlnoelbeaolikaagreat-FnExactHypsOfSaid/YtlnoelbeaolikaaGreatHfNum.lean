/- Numbers: absolute values, roots, quotients: both calls. -/
import Derived.Test.YtlnoelbeaolikaaGreatHfPl
import Derived.Test.YtlnoelbeaolikaaGreatReg
import Derived.Test.YtlnoelbeaolikaaGreatCmp
import Derived.Test.YtlnoelbeaolikaaGreatShelf
import Derived.Lib.ItoaNum
namespace Go.Proofs.YtlnoelbeaolikaaGreat
open Go.RowKit

set_option maxHeartbeats 400000 in
theorem implAbs_any (n : Int) (w : World) (h0 : -1000000000000000000 ≤ n) (h1 : n ≤ 1000000000000000000) : Calls Tryz.prog 156 #[.int .i64 n] w fun e w' => e = .returned (.int .i64 (absI n)) ∧ w = w' := by
  by_cases h : n < 0
  · have HA := hid (show absI n = -n from if_pos h)
    go_enter Tryz.func156, Tryz.ntmps156
    go_wp2
    go_ret
    exact ⟨by rw [HA.out]; rfl, rfl⟩
  · have HA := hid (show absI n = n from if_neg h)
    go_enter Tryz.func156, Tryz.ntmps156
    go_wp2
    go_ret
    exact ⟨by rw [HA.out]; rfl, rfl⟩
set_option maxHeartbeats 400000 in
theorem l05Size_any (n : Int) (w : World) (h0 : -1000000000000000000 ≤ n) (h1 : n ≤ 1000000000000000000) : Calls Tryz.prog 185 #[.int .i64 n] w fun e w' => e = .returned (.int .i64 (absI n)) ∧ w = w' := by
  by_cases h : n < 0
  · have HA := hid (show absI n = -n from if_pos h)
    go_enter Tryz.func185, Tryz.ntmps185
    go_wp2
    go_ret
    exact ⟨by rw [HA.out]; rfl, rfl⟩
  · have HA := hid (show absI n = n from if_neg h)
    go_enter Tryz.func185, Tryz.ntmps185
    go_wp2
    go_ret
    exact ⟨by rw [HA.out]; rfl, rfl⟩
set_option maxHeartbeats 400000 in
theorem l09Size_any (n : Int) (w : World) (h0 : -1000000000000000000 ≤ n) (h1 : n ≤ 1000000000000000000) : Calls Tryz.prog 180 #[.int .i64 n] w fun e w' => e = .returned (.int .i64 (absI n)) ∧ w = w' := by
  by_cases h : n < 0
  · have HA := hid (show absI n = -n from if_pos h)
    go_enter Tryz.func180, Tryz.ntmps180
    go_wp2
    go_ret
    exact ⟨by rw [HA.out]; rfl, rfl⟩
  · have HA := hid (show absI n = n from if_neg h)
    go_enter Tryz.func180, Tryz.ntmps180
    go_wp2
    go_ret
    exact ⟨by rw [HA.out]; rfl, rfl⟩
set_option maxRecDepth 100000 in
set_option maxHeartbeats 1000000 in
theorem l05Root_any (n : Nat) (w : World) (hn : n ≤ 1000000000000000) : Calls Tryz.prog 224 #[.int .i64 n] w fun e w' => e = .returned (.int .i64 (isq n)) ∧ w = w' := by
  have hs : isq n ≤ 40000000 := by have := isq_lt (n := n) (r := 40000001) (by omega); omega
  obtain ⟨s, hsd⟩ : ∃ s, s = isq n := ⟨_, rfl⟩
  rw [← hsd] at hs ⊢
  have HS := hid hsd
  clear hsd
  go_enter Tryz.func224, Tryz.ntmps224
  go_wp2
  go_loopw [3, 4] (fun a b wr => ∃ lo hi : Nat, a = .int .i64 lo ∧ b = .int .i64 hi ∧ lo ≤ s ∧ s ≤ hi ∧ hi ≤ 40000000 ∧ wr = w) (fun a b _ => (intOf b).toNat - (intOf a).toNat)
  case atStart => exact ⟨0, 40000000, rfl, rfl, Nat.zero_le _, hs, Nat.le_refl _, rfl⟩
  case round =>
    obtain ⟨lo, hi, rfl, rfl, h1, h2, h3, rfl⟩ := hrel
    by_cases hlt : lo < hi
    · obtain ⟨m, hm⟩ : ∃ m, m = (lo + hi + 1) / 2 := ⟨_, rfl⟩
      have hmi : ((lo : Int) + (hi : Int) + 1) / 2 = (m : Int) := by omega
      have hm1 : lo < m := by omega
      have hm2 : m ≤ hi := by omega
      have hmm : (m : Int) * (m : Int) ≤ 1600000000000000 := by
        have := Int.mul_le_mul (show (m : Int) ≤ 40000000 by omega) (show (m : Int) ≤ 40000000 by omega) (by omega) (by omega)
        omega
      have hmm0 : 0 ≤ (m : Int) * (m : Int) := Int.mul_nonneg (by omega) (by omega)
      by_cases hc : m * m ≤ n
      · have hci : (m : Int) * (m : Int) ≤ (n : Int) := by exact_mod_cast hc
        have HL := hid (show m ≤ s by rw [HS.out]; exact le_isq hc)
        clear hm hc
        go_wp2_with fail
        go_roundw
        case rel => exact ⟨m, hi, by first | rfl | rw [hmi], rfl, HL.out, h2, h3, by first | rfl | trivial⟩
        case measure => simp [intOf]; omega
      · have hci : ¬ ((m : Int) * (m : Int) ≤ (n : Int)) := by exact_mod_cast hc
        have HL := hid (show s ≤ m - 1 by rw [HS.out]; have := isq_lt (n := n) (r := m) (by omega); omega)
        clear hm hc
        go_wp2_with fail
        go_roundw
        case rel => exact ⟨lo, m - 1, rfl, by first | go_num | (rw [hmi]; go_num), h1, HL.out, by omega, by first | rfl | trivial⟩
        case measure => simp [intOf]; omega
    · have hl : ¬ ((lo : Int) < (hi : Int)) := by omega
      have HE := hid (show lo = s by omega)
      go_wp2_with fail
      go_ret
      exact ⟨by rw [HE.out]; rfl, rfl⟩
theorem bitLenAux_bd (n : Nat) (h0 : ¬ n = 0) (hn : n ≤ 1000000000000000) : n < (2 : Nat) ^ Lib.bitLen n ∧ Lib.bitLen n ≤ 50 := by
  have h1 := Lib.bitLenAux_bounds 64 n (by omega) h0
  refine ⟨h1.2.2, ?_⟩
  by_cases hc : Lib.bitLen n ≤ 50
  · exact hc
  · have h2 := h1.2.1
    have h3 : 2 ^ 50 ≤ 2 ^ (Lib.bitLenAux 64 n - 1) := Nat.pow_le_pow_right (by omega) (by unfold Lib.bitLen at hc; omega)
    omega
set_option maxRecDepth 100000 in
set_option maxHeartbeats 1000000 in
theorem rootOf_any (n : Nat) (w : World) (hn : n ≤ 1000000000000000) : Calls Tryz.prog 230 #[.int .i64 n] w fun e w' => e = .returned (.int .i64 (isq n)) ∧ w = w' := by
  by_cases h0 : n = 0
  · subst h0
    have HE := hid (isq_eq (n := 0) (r := 0) (by decide) (by decide))
    go_enter Tryz.func230, Tryz.ntmps230
    go_wp2
    go_ret
    exact ⟨by rw [← HE.out]; rfl, rfl⟩
  obtain ⟨s, hsd⟩ : ∃ s, s = isq n := ⟨_, rfl⟩
  rw [← hsd]
  have HS := hid hsd
  have hbl := bitLenAux_bd n h0 hn
  obtain ⟨k, hk⟩ : ∃ k, k = Lib.bitLen n := ⟨_, rfl⟩
  have CL := Tryz.bits_Len64 (n : Int) w (by omega) (by omega)
  rw [Int.toNat_natCast, ← hk] at CL
  rw [← hk] at hbl
  have hst := newton_start hbl.1
  rw [← HS.out] at hst
  have hk2 := hbl.2
  have hs0 : 0 < s := by rw [HS.out]; exact isq_pos (by omega)
  obtain ⟨r, hr⟩ : ∃ r : Nat, r = 2 ^ ((k + 1) / 2) := ⟨_, rfl⟩
  rw [← hr] at hst
  have hr2 : r ≤ 33554432 := by
    rw [hr]
    have : (2 : Nat) ^ ((k + 1) / 2) ≤ 2 ^ 25 := Nat.pow_le_pow_right (by omega) (by omega)
    omega
  have hpw : (2 : Int) ^ ((k + 1) / 2) = (r : Int) := by rw [hr]; simp
  have hr0 : (0 : Int) < (r : Int) := by omega
  have hrn : ¬ ((r : Int) = 0) := by omega
  obtain ⟨q, hq⟩ : ∃ q : Nat, q = n / r := ⟨_, rfl⟩
  have hqn : q ≤ n := by rw [hq]; exact Nat.div_le_self _ _
  have hqi : (n : Int) / (r : Int) = (q : Int) := by rw [hq]; simp
  have hx0 : s ≤ r := by omega
  have hx1 : Hid ((r + q) / 2 = (r + n / r) / 2) := hid (by rw [hq])
  have hni : ¬ ((n : Int) = 0) := by omega
  have hn2 : ¬ (n = 0) := by omega
  clear hk hbl hsd hr hq
  go_enter Tryz.func230, Tryz.ntmps230
  go_wp2_with fail
  refine CL.mono ?_
  rintro e w' ⟨rfl, rfl⟩
  go_wp2_with fail
  go_loopw [3, 4] (fun a b wr => ∃ r nx : Nat, a = .int .i64 r ∧ b = .int .i64 nx ∧ s ≤ r ∧ r ≤ 33554432 ∧ Hid (nx = (r + n / r) / 2) ∧ wr = w') (fun a _ _ => (intOf a).toNat)
  case atStart => exact ⟨r, (r + q) / 2, by rw [hpw], by first | (simp; done) | (simp [hpw]; done), hx0, hr2, hid hx1.out, rfl⟩
  case round =>
    clear CL hpw hr0 hrn hqi hx0 hx1 hst hr2 hqn
    obtain ⟨r, nx, rfl, rfl, h1, h2, h3, rfl⟩ := hrel
    have hr0 : 0 < r := by omega
    have hnw := newton_ge (n := n) hr0
    rw [← HS.out, ← h3.out] at hnw
    by_cases hlt : nx < r
    · obtain ⟨q, hq⟩ : ∃ q : Nat, q = n / nx := ⟨_, rfl⟩
      have hqn : q ≤ n := by rw [hq]; exact Nat.div_le_self _ _
      have hqi : (n : Int) / (nx : Int) = (q : Int) := by rw [hq]; simp
      have hx1 : Hid ((nx + q) / 2 = (nx + n / nx) / 2) := hid (by rw [hq])
      have hrn : ¬ ((nx : Int) = 0) := by omega
      have hrn2 : ¬ (nx = 0) := by omega
      clear hq
      go_wp2_with fail
      go_roundw
      case rel => exact ⟨nx, (nx + q) / 2, rfl, by simp, hnw, by omega, hid hx1.out, by first | rfl | trivial⟩
      case measure => simp [intOf]; omega
    · have hl : ¬ ((nx : Int) < (r : Int)) := by omega
      have HE := hid (show r = s by rw [HS.out]; exact newton_end hr0 (by rw [← HS.out]; exact h1) (by rw [← h3.out]; omega))
      go_wp2_with fail
      go_ret
      exact ⟨by rw [HE.out]; rfl, rfl⟩
end Go.Proofs.YtlnoelbeaolikaaGreat
