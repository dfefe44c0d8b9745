/- Roots, quotients, costs: plain lemmas, no program. -/
import Derived.Test.YtlnoelbeaolikaaGreatBase
namespace Go.Proofs.YtlnoelbeaolikaaGreat

/-! ### the greatest number whose square is at most n -/
theorem isq_ex (n : Nat) : ∃ r, r * r ≤ n ∧ n < (r + 1) * (r + 1) := by
  induction n with
  | zero => exact ⟨0, by decide, by decide⟩
  | succ n ih =>
    obtain ⟨r, h1, h2⟩ := ih
    by_cases h : n + 1 < (r + 1) * (r + 1)
    · exact ⟨r, by omega, h⟩
    · refine ⟨r + 1, by omega, ?_⟩
      have e : (r + 1 + 1) * (r + 1 + 1) = (r + 1) * (r + 1) + 2 * (r + 1) + 1 := by rw [Nat.add_mul, Nat.mul_add]; omega
      omega
noncomputable def isq (n : Nat) : Nat := Classical.choose (isq_ex n)
theorem isq_le (n : Nat) : isq n * isq n ≤ n := (Classical.choose_spec (isq_ex n)).1
theorem lt_isq (n : Nat) : n < (isq n + 1) * (isq n + 1) := (Classical.choose_spec (isq_ex n)).2
theorem le_isq {n r : Nat} (h : r * r ≤ n) : r ≤ isq n := by
  have h2 := lt_isq n
  by_cases hc : r ≤ isq n
  · exact hc
  · have := Nat.mul_le_mul (show isq n + 1 ≤ r by omega) (show isq n + 1 ≤ r by omega)
    omega
theorem isq_lt {n r : Nat} (h : n < r * r) : isq n < r := by
  have h1 := isq_le n
  by_cases hc : isq n < r
  · exact hc
  · have := Nat.mul_le_mul (show r ≤ isq n by omega) (show r ≤ isq n by omega)
    omega
theorem isq_eq {n r : Nat} (h1 : r * r ≤ n) (h2 : n < (r + 1) * (r + 1)) : r = isq n := by
  have := le_isq h1
  have := isq_lt h2
  omega
theorem isq_pos {n : Nat} (h : 0 < n) : 0 < isq n := le_isq (r := 1) (by omega)
theorem isq_self (n : Nat) : isq n ≤ n := by
  have h1 := isq_le n
  have := Nat.le_mul_self (isq n)
  omega
/-- one step of Newton's way does not pass the root -/
theorem newton_ge {n r : Nat} (hr : 0 < r) : isq n ≤ (r + n / r) / 2 := by
  have h1 := isq_le n
  generalize isq n = s at *
  rw [Nat.le_div_iff_mul_le (by omega)]
  have hk : 2 * s - r ≤ n / r := by
    rw [Nat.le_div_iff_mul_le hr]
    refine Nat.le_trans ?_ h1
    by_cases hc : s ≤ r
    · obtain ⟨d, rfl⟩ : ∃ d, r = s + d := ⟨r - s, by omega⟩
      by_cases hd : d ≤ s
      · obtain ⟨e, rfl⟩ : ∃ e, s = d + e := ⟨s - d, by omega⟩
        have e1 : 2 * (d + e) - (d + e + d) = e := by omega
        rw [e1]
        have e2 : e * (d + e + d) = e * d + e * e + e * d := by rw [Nat.mul_add, Nat.mul_add]
        have e3 : (d + e) * (d + e) = d * d + d * e + (e * d + e * e) := by rw [Nat.add_mul, Nat.mul_add, Nat.mul_add]
        rw [e2, e3, Nat.mul_comm d e]
        omega
      · rw [show 2 * s - (s + d) = 0 by omega]; omega
    · obtain ⟨d, rfl⟩ : ∃ d, s = r + d := ⟨s - r, by omega⟩
      have e1 : 2 * (r + d) - r = r + d + d := by omega
      rw [e1]
      have e2 : (r + d + d) * r = r * r + d * r + d * r := by rw [Nat.add_mul, Nat.add_mul]
      have e3 : (r + d) * (r + d) = r * r + r * d + (d * r + d * d) := by rw [Nat.add_mul, Nat.mul_add, Nat.mul_add]
      rw [e2, e3, Nat.mul_comm r d]
      omega
  omega
theorem newton_end {n r : Nat} (hr : 0 < r) (hs : isq n ≤ r) (h : r ≤ (r + n / r) / 2) : r = isq n := by
  have h1 : r ≤ n / r := by omega
  rw [Nat.le_div_iff_mul_le hr] at h1
  have := le_isq h1
  omega
theorem newton_start {n k : Nat} (h : n < 2 ^ k) : isq n < 2 ^ ((k + 1) / 2) := by
  refine isq_lt (Nat.lt_of_lt_of_le h ?_)
  rw [← Nat.pow_add]
  exact Nat.pow_le_pow_right (by omega) (by omega)
/-! ### the nearest quotient -/
def nearG (n d : Int) : Int := (2 * n + d) / (2 * d)
theorem nearG_rest {n d : Int} (hd : 0 < d) : nearG n d = if d - (n - n / d * d) ≤ n - n / d * d then n / d + 1 else n / d := by
  unfold nearG
  have h1 := Int.emod_add_mul_ediv n d
  have h2 := Int.emod_nonneg n (by omega : d ≠ 0)
  have h3 := Int.emod_lt_of_pos n hd
  generalize n / d = q at *
  generalize n % d = r at *
  subst h1
  rw [show r + d * q - q * d = r by rw [Int.mul_comm]; omega]
  split
  · have e : 2 * (r + d * q) + d = (2 * r - d) + 2 * d * (q + 1) := by
      rw [Int.mul_add (2 * d), Int.mul_add 2, Int.mul_assoc]; omega
    rw [e, Int.add_mul_ediv_left _ _ (by omega), Int.ediv_eq_zero_of_lt (by omega) (by omega)]; omega
  · have e : 2 * (r + d * q) + d = (2 * r + d) + 2 * d * q := by
      rw [Int.mul_add 2, Int.mul_assoc]; omega
    rw [e, Int.add_mul_ediv_left _ _ (by omega), Int.ediv_eq_zero_of_lt (by omega) (by omega)]; omega
theorem nearG_nonneg {n d : Int} (hd : 0 < d) (hn : 0 ≤ n) : 0 ≤ nearG n d := Int.ediv_nonneg (by omega) (by omega)
theorem nearG_le {n d m : Int} (hd : 0 < d) (h : n ≤ m * d) : nearG n d ≤ m := by
  unfold nearG
  have : (2 * n + d) / (2 * d) < m + 1 := by
    rw [Int.ediv_lt_iff_lt_mul (by omega), show (m + 1) * (2 * d) = 2 * (m * d) + 2 * d by rw [Int.add_mul, Int.one_mul, Int.mul_left_comm]]
    omega
  omega
theorem nearG_ge {n d m : Int} (hd : 0 < d) (h : m * d ≤ n) : m ≤ nearG n d := by
  unfold nearG
  rw [Int.le_ediv_iff_mul_le (by omega), Int.mul_left_comm]
  omega
/-- a part of a difference lies between -/
theorem nearG_part {a b far all : Int} (ha : 0 < all) (h0 : 0 ≤ far) (h1 : far ≤ all) : min a b ≤ a + nearG ((b - a) * far) all ∧ a + nearG ((b - a) * far) all ≤ max a b := by
  by_cases h : a ≤ b
  · have e1 : 0 ≤ (b - a) * far := Int.mul_nonneg (by omega) h0
    have e2 : (b - a) * far ≤ (b - a) * all := Int.mul_le_mul_of_nonneg_left h1 (by omega)
    have := nearG_nonneg ha e1
    have := nearG_le ha e2
    omega
  · have e1 : (b - a) * far ≤ 0 * all := by rw [Int.zero_mul]; exact Int.mul_nonpos_of_nonpos_of_nonneg (by omega) h0
    have e2 : (b - a) * all ≤ (b - a) * far := Int.mul_le_mul_of_nonpos_left (by omega) h1
    have := nearG_le ha e1
    have := nearG_ge ha e2
    omega
/-- the quotient rounded down, out of the one that is cut off -/
theorem floor_tdiv {n d : Int} (hd : 0 < d) : n / d = if n.tmod d < 0 then n.tdiv d - 1 else n.tdiv d := by
  by_cases h : 0 ≤ n
  · rw [Int.tdiv_eq_ediv_of_nonneg h, Int.tmod_eq_emod_of_nonneg h, if_neg]
    have := Int.emod_nonneg n (by omega : d ≠ 0)
    omega
  · obtain ⟨m, rfl⟩ : ∃ m, n = -m := ⟨-n, by omega⟩
    rw [Int.neg_tmod, Int.neg_tdiv, Int.tdiv_eq_ediv_of_nonneg (by omega), Int.tmod_eq_emod_of_nonneg (by omega)]
    have h1 := Int.emod_add_mul_ediv m d
    have h2 := Int.emod_nonneg m (by omega : d ≠ 0)
    have h3 := Int.emod_lt_of_pos m hd
    generalize m / d = q at *
    generalize m % d = r at *
    subst h1
    split
    · rw [show -(r + d * q) = (d - r) + d * (-q - 1) by rw [Int.mul_sub, Int.mul_neg]; omega, Int.add_mul_ediv_left _ _ (by omega), Int.ediv_eq_zero_of_lt (by omega) (by omega)]; omega
    · obtain rfl : r = 0 := by omega
      rw [show -(0 + d * q) = 0 + d * (-q) by rw [Int.mul_neg]; omega, Int.add_mul_ediv_left _ _ (by omega)]; simp
def absI (n : Int) : Int := if n < 0 then -n else n
theorem absI_nonneg (n : Int) : 0 ≤ absI n := by unfold absI; split <;> omega
end Go.Proofs.YtlnoelbeaolikaaGreat
