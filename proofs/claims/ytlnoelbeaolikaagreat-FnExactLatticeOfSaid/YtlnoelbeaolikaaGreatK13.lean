/- Lengths, quotients, directions: both calls. -/
import Derived.Test.YtlnoelbeaolikaaGreatK12
import Derived.Test.YtlnoelbeaolikaaGreatK06
import Derived.Test.YtlnoelbeaolikaaGreatK02
import Derived.Deep.Cut
namespace Go.Proofs.YtlnoelbeaolikaaGreat
open Go.RowKit
def okPt (p : DPoint) : Prop := 0 ≤ p.x ∧ p.x ≤ 4095 ∧ 0 ≤ p.y ∧ p.y ≤ 4095
def farP (a b : DPoint) : Int := (a.x - b.x) * (a.x - b.x) + (a.y - b.y) * (a.y - b.y)
noncomputable def lenP (a b : DPoint) : Nat := isq (256 * (farP a b).toNat)
theorem sq_bd {a b : Int} (h1 : 0 ≤ a) (h2 : a ≤ 4095) (h3 : 0 ≤ b) (h4 : b ≤ 4095) : 0 ≤ (a - b) * (a - b) ∧ (a - b) * (a - b) ≤ 16769025 := by
 by_cases h : b ≤ a
 ·have := Int.mul_le_mul (show a - b ≤ 4095 by omega) (show a - b ≤ 4095 by omega) (by omega) (by omega)
  have := Int.mul_nonneg (show 0 ≤ a - b by omega) (show 0 ≤ a - b by omega)
  omega
 ·have e : (a - b) * (a - b) = (b - a) * (b - a) := by rw [show a - b = -(b - a) by omega, Int.neg_mul_neg]
  have := Int.mul_le_mul (show b - a ≤ 4095 by omega) (show b - a ≤ 4095 by omega) (by omega) (by omega)
  have := Int.mul_nonneg (show 0 ≤ b - a by omega) (show 0 ≤ b - a by omega)
  omega
theorem farP_bd {a b : DPoint} (ha : okPt a) (hb : okPt b) : 0 ≤ farP a b ∧ farP a b ≤ 33538050 := by
 obtain ⟨h1, h2, h3, h4⟩ := ha
 obtain ⟨k1, k2, k3, k4⟩ := hb
 have := sq_bd h1 h2 k1 k2
 have := sq_bd h3 h4 k3 k4
 unfold farP
 omega
theorem lenP_bd {a b : DPoint} (ha : okPt a) (hb : okPt b) : lenP a b ≤ 92659 := by
 have h := farP_bd ha hb
 have := isq_lt (n := 256 * (farP a b).toNat) (r := 92660) (by omega)
 unfold lenP
 omega
set_option maxHeartbeats 1000000 in
theorem squared_any (a b : DPoint) (w : World) (ha : okPt a) (hb : okPt b) : Calls Tryz.prog 231 #[.agg #[.int .i64 a.x, .int .i64 a.y, .int .i64 a.t], .agg #[.int .i64 b.x, .int .i64 b.y, .int .i64 b.t]] w (Ret (.int .i64 (farP a b)) w) := by
 obtain ⟨h1, h2, h3, h4⟩ := ha
 obtain ⟨k1, k2, k3, k4⟩ := hb
 obtain ⟨s1, s2⟩ := sq_bd h1 h2 k1 k2
 obtain ⟨s3, s4⟩ := sq_bd h3 h4 k3 k4
 have HF := hid (show farP a b = (a.x - b.x) * (a.x - b.x) + (a.y - b.y) * (a.y - b.y) from rfl)
 go_enter Tryz.func231, Tryz.ntmps231
 go_wp2
 go_ret
 exact ret_int HF.out.symm (belowA2 _ _ _)
set_option maxHeartbeats 1000000 in
theorem l05Far_any (a b : DPoint) (w : World) (ha : okPt a) (hb : okPt b) : Calls Tryz.prog 225 #[.agg #[.int .i64 a.x, .int .i64 a.y, .int .i64 a.t], .agg #[.int .i64 b.x, .int .i64 b.y, .int .i64 b.t]] w (Ret (.int .i64 (farP a b)) w) := by
 obtain ⟨h1, h2, h3, h4⟩ := ha
 obtain ⟨k1, k2, k3, k4⟩ := hb
 obtain ⟨s1, s2⟩ := sq_bd h1 h2 k1 k2
 obtain ⟨s3, s4⟩ := sq_bd h3 h4 k3 k4
 have HF := hid (show farP a b = (a.x - b.x) * (a.x - b.x) + (a.y - b.y) * (a.y - b.y) from rfl)
 go_enter Tryz.func225, Tryz.ntmps225
 go_wp2
 go_ret
 exact ret_int HF.out.symm (belowA2 _ _ _)
set_option maxRecDepth 100000 in
set_option maxHeartbeats 1000000 in
theorem lengthOf_any (a b : DPoint) (w : World) (ha : okPt a) (hb : okPt b) : Calls Tryz.prog 216 #[.agg #[.int .i64 a.x, .int .i64 a.y, .int .i64 a.t], .agg #[.int .i64 b.x, .int .i64 b.y, .int .i64 b.t]] w (Ret (.int .i64 (lenP a b)) w) := by
 have hf := farP_bd ha hb
 have CS := fun w' => squared_any a b w' ha hb
 obtain ⟨D, hD⟩ : ∃ D : Nat, farP a b = (D : Int) := ⟨(farP a b).toNat, by omega⟩
 have HL := hid (show lenP a b = isq (256 * D) by unfold lenP; rw [hD]; rfl)
 rw [hD] at CS hf
 have CR := fun w' => rootOf_any (256 * D) w' (by omega)
 push_cast at CR
 clear hD
 go_enter Tryz.func216, Tryz.ntmps216
 go_wp2_with fail
 refine (CS _).mono ?_
 rintro e w2 ⟨rfl, hb2⟩
 go_wp2_with fail
 refine (CR _).mono ?_
 rintro e w3 ⟨rfl, rfl⟩
 go_wp2_with fail
 go_ret
 exact ret_int (by rw [HL.out]) ((belowA2 _ _ _).trans (hb2.mono (by simp <;> omega)))
set_option maxRecDepth 100000 in
set_option maxHeartbeats 1000000 in
theorem l05Length_any (a b : DPoint) (w : World) (ha : okPt a) (hb : okPt b) : Calls Tryz.prog 211 #[.agg #[.int .i64 a.x, .int .i64 a.y, .int .i64 a.t], .agg #[.int .i64 b.x, .int .i64 b.y, .int .i64 b.t]] w (Ret (.int .i64 (lenP a b)) w) := by
 have hf := farP_bd ha hb
 have CS := fun w' => l05Far_any a b w' ha hb
 obtain ⟨D, hD⟩ : ∃ D : Nat, farP a b = (D : Int) := ⟨(farP a b).toNat, by omega⟩
 have HL := hid (show lenP a b = isq (256 * D) by unfold lenP; rw [hD]; rfl)
 rw [hD] at CS hf
 have CR := fun w' => l05Root_any (256 * D) w' (by omega)
 push_cast at CR
 clear hD
 go_enter Tryz.func211, Tryz.ntmps211
 go_wp2_with fail
 refine (CS _).mono ?_
 rintro e w2 ⟨rfl, hb2⟩
 go_wp2_with fail
 refine (CR _).mono ?_
 rintro e w3 ⟨rfl, rfl⟩
 go_wp2_with fail
 go_ret
 exact ret_int (by rw [HL.out]) ((belowA2 _ _ _).trans (hb2.mono (by simp <;> omega)))
theorem tdiv_bd {c n : Int} (hn : 1 ≤ n) {B : Int} (h0 : -B ≤ c) (h1 : c ≤ B) : -B ≤ c.tdiv n ∧ c.tdiv n ≤ B ∧ -n < c.tmod n ∧ c.tmod n < n ∧ c.tdiv n * n = c - c.tmod n := by
 have h2 := Int.tmod_add_mul_tdiv c n
 have h3 := Int.tmod_lt_of_pos c (by omega : 0 < n)
 have h4 := Int.lt_tmod_of_pos c (by omega : 0 < n)
 have h5 : n * c.tdiv n = c.tdiv n * n := Int.mul_comm _ _
 refine ⟨?_, ?_, h4, h3, by omega⟩
 ·by_cases hc : 0 ≤ c
  ·have := Int.tdiv_nonneg hc (by omega : 0 ≤ n); omega
  ·have : c.tdiv n = -((-c) / n) := by rw [← Int.tdiv_eq_ediv_of_nonneg (by omega : 0 ≤ -c), Int.neg_tdiv, Int.neg_neg]
   have := Int.ediv_le_self n (by omega : 0 ≤ -c); omega
 ·by_cases hc : 0 ≤ c
  ·rw [Int.tdiv_eq_ediv_of_nonneg hc]; have := Int.ediv_le_self n hc; omega
  ·have : c.tdiv n = -((-c) / n) := by rw [← Int.tdiv_eq_ediv_of_nonneg (by omega : 0 ≤ -c), Int.neg_tdiv, Int.neg_neg]
   have := Int.ediv_nonneg (by omega : 0 ≤ -c) (by omega : 0 ≤ n); omega
set_option maxHeartbeats 400000 in
theorem floorG_any (c n : Int) (w : World) (h0 : -1000000000000 ≤ c) (h1 : c ≤ 1000000000000) (hn : 1 ≤ n) (hn2 : n ≤ 1000000000000) : Calls Tryz.prog 218 #[.int .i64 c, .int .i64 n] w fun e w' => e = .returned (.int .i64 (c / n)) ∧ w = w' := by
 have hne : ¬ n = 0 := by omega
 have HF := hid (floor_tdiv (n := c) (d := n) (by omega))
 obtain ⟨b1, b2, b3, b4, _⟩ := tdiv_bd hn h0 h1
 obtain ⟨q, hq⟩ : ∃ q, q = c / n := ⟨_, rfl⟩
 rw [← hq] at HF ⊢
 clear hq
 by_cases hm : c.tmod n < 0
 ·have HG := hid (HF.out.trans (if_pos hm))
  clear HF
  go_enter Tryz.func218, Tryz.ntmps218
  go_wp2
  go_ret
  exact ⟨by rw [HG.out]; rfl, rfl⟩
 ·have HG := hid (HF.out.trans (if_neg hm))
  clear HF
  go_enter Tryz.func218, Tryz.ntmps218
  go_wp2
  go_ret
  exact ⟨by rw [HG.out]; rfl, rfl⟩
set_option maxHeartbeats 400000 in
theorem downG_any (c n : Int) (w : World) (h0 : -1000000000000 ≤ c) (h1 : c ≤ 1000000000000) (hn : 1 ≤ n) (hn2 : n ≤ 1000000000000) : Calls Tryz.prog 213 #[.int .i64 c, .int .i64 n] w fun e w' => e = .returned (.int .i64 (c / n)) ∧ w = w' := by
 have hne : ¬ n = 0 := by omega
 have HF := hid (floor_tdiv (n := c) (d := n) (by omega))
 obtain ⟨b1, b2, b3, b4, _⟩ := tdiv_bd hn h0 h1
 obtain ⟨q, hq⟩ : ∃ q, q = c / n := ⟨_, rfl⟩
 rw [← hq] at HF ⊢
 clear hq
 by_cases hm : c.tmod n < 0
 ·have HG := hid (HF.out.trans (if_pos hm))
  clear HF
  go_enter Tryz.func213, Tryz.ntmps213
  go_wp2
  go_ret
  exact ⟨by rw [HG.out]; rfl, rfl⟩
 ·have HG := hid (HF.out.trans (if_neg hm))
  clear HF
  go_enter Tryz.func213, Tryz.ntmps213
  go_wp2
  go_ret
  exact ⟨by rw [HG.out]; rfl, rfl⟩
set_option maxHeartbeats 400000 in
theorem nearG_any (c n : Int) (w : World) (h0 : -100000000000 ≤ c) (h1 : c ≤ 100000000000) (hn : 1 ≤ n) (hn2 : n ≤ 100000000000) : Calls Tryz.prog 195 #[.int .i64 c, .int .i64 n] w fun e w' => e = .returned (.int .i64 (nearG c n)) ∧ w = w' := by
 have HF := fun w' => floorG_any c n w' (by omega) (by omega) hn (by omega)
 have HN := hid (nearG_rest (n := c) (d := n) (by omega))
 have e1 := Int.emod_add_mul_ediv c n
 have e2 := Int.emod_nonneg c (by omega : n ≠ 0)
 have e3 := Int.emod_lt_of_pos c (by omega : 0 < n)
 have e4 : n * (c / n) = c / n * n := Int.mul_comm _ _
 have e5 : -100000000000 ≤ c / n ∧ c / n ≤ 100000000000 := by
  constructor
  ·rw [Int.le_ediv_iff_mul_le (by omega)]
   have := Int.mul_le_mul_of_nonneg_left (c := 100000000000) hn (by omega)
   omega
  ·by_cases hc : 0 ≤ c
   ·have := Int.ediv_le_self n hc; omega
   ·have := Int.ediv_neg_of_neg_of_pos (by omega : c < 0) (by omega : 0 < n); omega
 obtain ⟨q, hq⟩ : ∃ q, q = c / n := ⟨_, rfl⟩
 rw [← hq] at HF HN e1 e4 e5
 obtain ⟨m, hm⟩ : ∃ m, m = q * n := ⟨_, rfl⟩
 rw [← hm] at HN e4
 have e6 : c - m = c % n := by omega
 have HM := hid hm
 have hm' : q * n = m := hm.symm
 have e7 : 0 ≤ c - m := by omega
 have e8 : c - m < n := by omega
 have e9 : -200000000000 ≤ m ∧ m ≤ 200000000000 := by omega
 obtain ⟨e10, e11⟩ := e9
 obtain ⟨e12, e13⟩ := e5
 clear hq e1 e2 e3 e4 e6 hm
 by_cases hc : n - (c - m) ≤ c - m
 ·have HG := hid (HN.out.trans (if_pos hc))
  clear HN
  go_enter Tryz.func195, Tryz.ntmps195
  go_wp2_with (go_at_call 218; refine (HF _).mono ?_; rintro e w' ⟨rfl, rfl⟩)
  go_ret
  exact ⟨by rw [HG.out]; rfl, rfl⟩
 ·have HG := hid (HN.out.trans (if_neg hc))
  clear HN
  go_enter Tryz.func195, Tryz.ntmps195
  go_wp2_with (go_at_call 218; refine (HF _).mono ?_; rintro e w' ⟨rfl, rfl⟩)
  go_ret
  exact ⟨by rw [HG.out]; rfl, rfl⟩
set_option maxHeartbeats 400000 in
theorem l05NearG_any (c n : Int) (w : World) (h0 : -100000000000 ≤ c) (h1 : c ≤ 100000000000) (hn : 1 ≤ n) (hn2 : n ≤ 100000000000) : Calls Tryz.prog 187 #[.int .i64 c, .int .i64 n] w fun e w' => e = .returned (.int .i64 (nearG c n)) ∧ w = w' := by
 have HF := fun w' => downG_any (2 * c + n) (2 * n) w' (by omega) (by omega) (by omega) (by omega)
 go_enter Tryz.func187, Tryz.ntmps187
 go_wp2_with (go_at_call 213; refine (HF _).mono ?_; rintro e w' ⟨rfl, rfl⟩)
 go_ret
 exact ⟨rfl, rfl⟩
/-! ### directions -/
def sectF (dx dy : Int) : Int :=
 if (absI dx + absI dy) * (absI dx + absI dy) ≤ 2 * absI dx * absI dx then (if 0 < dx then 0 else 4)
 else if (absI dx + absI dy) * (absI dx + absI dy) ≤ 2 * absI dy * absI dy then (if 0 < dy then 2 else 6)
 else if 0 < dx ∧ 0 < dy then 1 else if dx < 0 ∧ 0 < dy then 3 else if dx < 0 then 5 else 7
theorem absI_bd {n B : Int} (h0 : -B ≤ n) (h1 : n ≤ B) : 0 ≤ absI n ∧ absI n ≤ B := by unfold absI; split <;> omega
theorem sect_zero {dx dy : Int} (h : dx = 0) : (absI dx + absI dy) * (absI dx + absI dy) ≤ 2 * absI dy * absI dy := by
 subst h
 have : absI 0 = 0 := rfl
 rw [this, Int.zero_add, Int.mul_assoc]
 have := Int.mul_nonneg (absI_nonneg dy) (absI_nonneg dy)
 omega
/-- the cases of a direction, with names for what is compared -/
inductive SectCase (dx dy X Y A B C : Int) : Prop
 | c0 (h1 : A ≤ B) (h2 : 0 < dx) (e : Hid (sectF dx dy = 0))
 | c4 (h1 : A ≤ B) (h2 : ¬ 0 < dx) (e : Hid (sectF dx dy = 4))
 | c2 (h1 : ¬ A ≤ B) (h2 : A ≤ C) (h3 : 0 < dy) (e : Hid (sectF dx dy = 2))
 | c6 (h1 : ¬ A ≤ B) (h2 : A ≤ C) (h3 : ¬ 0 < dy) (e : Hid (sectF dx dy = 6))
 | c1 (h1 : ¬ A ≤ B) (h2 : ¬ A ≤ C) (h3 : 0 < dx) (h4 : 0 < dy) (e : Hid (sectF dx dy = 1))
 | c3 (h1 : ¬ A ≤ B) (h2 : ¬ A ≤ C) (h3 : ¬ 0 < dx) (h5 : dx < 0) (h4 : 0 < dy) (e : Hid (sectF dx dy = 3))
 | c5 (h1 : ¬ A ≤ B) (h2 : ¬ A ≤ C) (h3 : ¬ 0 < dx) (h5 : dx < 0) (h4 : ¬ 0 < dy) (e : Hid (sectF dx dy = 5))
 | c7 (h1 : ¬ A ≤ B) (h2 : ¬ A ≤ C) (h3 : 0 < dx) (h5 : ¬ dx < 0) (h4 : ¬ 0 < dy) (e : Hid (sectF dx dy = 7))
theorem sect_case (dx dy : Int) : SectCase dx dy (absI dx) (absI dy) ((absI dx + absI dy) * (absI dx + absI dy)) (2 * absI dx * absI dx) (2 * absI dy * absI dy) := by
 have e : sectF dx dy = (if (absI dx + absI dy) * (absI dx + absI dy) ≤ 2 * absI dx * absI dx then (if 0 < dx then 0 else 4)
  else if (absI dx + absI dy) * (absI dx + absI dy) ≤ 2 * absI dy * absI dy then (if 0 < dy then 2 else 6)
  else if 0 < dx ∧ 0 < dy then 1 else if dx < 0 ∧ 0 < dy then 3 else if dx < 0 then 5 else 7) := rfl
 by_cases h1 : (absI dx + absI dy) * (absI dx + absI dy) ≤ 2 * absI dx * absI dx
 ·rw [if_pos h1] at e
  by_cases h2 : 0 < dx
  ·rw [if_pos h2] at e; exact .c0 h1 h2 (hid e)
  ·rw [if_neg h2] at e; exact .c4 h1 h2 (hid e)
 rw [if_neg h1] at e
 by_cases h2 : (absI dx + absI dy) * (absI dx + absI dy) ≤ 2 * absI dy * absI dy
 ·rw [if_pos h2] at e
  by_cases h3 : 0 < dy
  ·rw [if_pos h3] at e; exact .c2 h1 h2 h3 (hid e)
  ·rw [if_neg h3] at e; exact .c6 h1 h2 h3 (hid e)
 rw [if_neg h2] at e
 have hz : ¬ dx = 0 := fun h => h2 (sect_zero h)
 by_cases h3 : 0 < dx
 ·by_cases h4 : 0 < dy
  ·rw [if_pos ⟨h3, h4⟩] at e; exact .c1 h1 h2 h3 h4 (hid e)
  ·rw [if_neg (fun h => h4 h.2), if_neg (fun h => h4 h.2), if_neg (by omega)] at e; exact .c7 h1 h2 h3 (by omega) h4 (hid e)
 ·rw [if_neg (fun h => h3 h.1)] at e
  by_cases h4 : 0 < dy
  ·rw [if_pos ⟨by omega, h4⟩] at e; exact .c3 h1 h2 h3 (by omega) h4 (hid e)
  ·rw [if_neg (fun h => h4 h.2), if_pos (by omega)] at e; exact .c5 h1 h2 h3 (by omega) h4 (hid e)
theorem sect_bds {X Y : Int} (h0 : 0 ≤ X) (h1 : X ≤ 4095) (h2 : 0 ≤ Y) (h3 : Y ≤ 4095) : 0 ≤ (X + Y) * (X + Y) ∧ (X + Y) * (X + Y) ≤ 67076100 ∧ 0 ≤ 2 * X * X ∧ 2 * X * X ≤ 33538050 ∧ 0 ≤ 2 * Y * Y ∧ 2 * Y * Y ≤ 33538050 := by
 have a1 := Int.mul_nonneg (show 0 ≤ X + Y by omega) (show 0 ≤ X + Y by omega)
 have a2 := Int.mul_le_mul (show X + Y ≤ 8190 by omega) (show X + Y ≤ 8190 by omega) (by omega) (by omega)
 have a3 := Int.mul_nonneg (show 0 ≤ 2 * X by omega) h0
 have a4 := Int.mul_le_mul (show 2 * X ≤ 8190 by omega) h1 (by omega) (by omega)
 have a5 := Int.mul_nonneg (show 0 ≤ 2 * Y by omega) h2
 have a6 := Int.mul_le_mul (show 2 * Y ≤ 8190 by omega) h3 (by omega) (by omega)
 omega
set_option maxRecDepth 100000 in
set_option maxHeartbeats 2000000 in
theorem l05Sector_any (dx dy : Int) (w : World) (d0 : -4095 ≤ dx) (d1 : dx ≤ 4095) (d2 : -4095 ≤ dy) (d3 : dy ≤ 4095) : Calls Tryz.prog 143 #[.int .i64 dx, .int .i64 dy] w fun e w' => e = .returned (.int .i64 (sectF dx dy)) ∧ w = w' := by
 have C1 := fun w' => l05Size_any dx w' (by omega) (by omega)
 have C2 := fun w' => l05Size_any dy w' (by omega) (by omega)
 obtain ⟨x0, x1⟩ := absI_bd (B := 4095) d0 d1
 obtain ⟨y0, y1⟩ := absI_bd (B := 4095) d2 d3
 obtain ⟨b0, b1, b2, b3, b4, b5⟩ := sect_bds x0 x1 y0 y1
 have HC := sect_case dx dy
 generalize absI dx = X at *
 generalize absI dy = Y at *
 have b6 : 0 ≤ X + Y := by omega
 rcases HC with ⟨h1, h2, HE⟩ | ⟨h1, h2, HE⟩ | ⟨h1, h2, h3, HE⟩ | ⟨h1, h2, h3, HE⟩ | ⟨h1, h2, h3, h4, HE⟩ | ⟨h1, h2, h3, h5, h4, HE⟩ | ⟨h1, h2, h3, h5, h4, HE⟩ | ⟨h1, h2, h3, h5, h4, HE⟩
 all_goals
  go_enter Tryz.func143, Tryz.ntmps143
  go_wp2_with fail
  refine (C1 _).mono ?_
  rintro e w' ⟨rfl, rfl⟩
  go_wp2_with fail
  refine (C2 _).mono ?_
  rintro e w' ⟨rfl, rfl⟩
  go_wp2_with fail
  go_ret
  exact ⟨by rw [HE.out]; rfl, rfl⟩
set_option maxRecDepth 100000 in
set_option maxHeartbeats 2000000 in
theorem directionOf_any (dx dy : Int) (w : World) (d0 : -4095 ≤ dx) (d1 : dx ≤ 4095) (d2 : -4095 ≤ dy) (d3 : dy ≤ 4095) : Calls Tryz.prog 154 #[.int .i64 dx, .int .i64 dy] w fun e w' => e = .returned (.int .i64 (sectF dx dy)) ∧ w = w' := by
 have C1 := fun w' => implAbs_any dx w' (by omega) (by omega)
 have C2 := fun w' => implAbs_any dy w' (by omega) (by omega)
 obtain ⟨x0, x1⟩ := absI_bd (B := 4095) d0 d1
 obtain ⟨y0, y1⟩ := absI_bd (B := 4095) d2 d3
 obtain ⟨b0, b1, b2, b3, b4, b5⟩ := sect_bds x0 x1 y0 y1
 have HC := sect_case dx dy
 generalize absI dx = X at *
 generalize absI dy = Y at *
 have b6 : 0 ≤ X + Y := by omega
 rcases HC with ⟨h1, h2, HE⟩ | ⟨h1, h2, HE⟩ | ⟨h1, h2, h3, HE⟩ | ⟨h1, h2, h3, HE⟩ | ⟨h1, h2, h3, h4, HE⟩ | ⟨h1, h2, h3, h5, h4, HE⟩ | ⟨h1, h2, h3, h5, h4, HE⟩ | ⟨h1, h2, h3, h5, h4, HE⟩
 all_goals
  go_enter Tryz.func154, Tryz.ntmps154
  go_wp2_with fail
  refine (C1 _).mono ?_
  rintro e w' ⟨rfl, rfl⟩
  go_wp2_with fail
  refine (C2 _).mono ?_
  rintro e w' ⟨rfl, rfl⟩
  go_wp2_with fail
  go_ret
  exact ⟨by rw [HE.out]; rfl, rfl⟩
end Go.Proofs.YtlnoelbeaolikaaGreat
namespace Go.Proofs.YtlnoelbeaolikaaGreat
open Go.RowKit
def okF (f : DFeat) : Prop := -1045000 ≤ f.x ∧ f.x ≤ 1045000 ∧ -1045000 ≤ f.y ∧ f.y ≤ 1045000 ∧ 0 ≤ f.d ∧ f.d ≤ 7
def costF (a b : DFeat) : Int := absI (a.x - b.x) + absI (a.y - b.y) + 16 * min (absI (a.d - b.d)) (8 - absI (a.d - b.d))
theorem costF_bd {a b : DFeat} (ha : okF a) (hb : okF b) : 0 ≤ costF a b ∧ costF a b ≤ 4180064 := by
 obtain ⟨h1, h2, h3, h4, h5, h6⟩ := ha
 obtain ⟨k1, k2, k3, k4, k5, k6⟩ := hb
 have e1 := absI_bd (n := a.x - b.x) (B := 2090000) (by omega) (by omega)
 have e2 := absI_bd (n := a.y - b.y) (B := 2090000) (by omega) (by omega)
 have e3 := absI_bd (n := a.d - b.d) (B := 7) (by omega) (by omega)
 unfold costF
 omega
set_option maxRecDepth 100000 in
set_option maxHeartbeats 2000000 in
theorem featCost_any (a b : DFeat) (w : World) (ha : okF a) (hb : okF b) : Calls Tryz.prog 197 #[.agg #[.int .i64 a.x, .int .i64 a.y, .int .i64 a.d], .agg #[.int .i64 b.x, .int .i64 b.y, .int .i64 b.d]] w (Ret (.int .i64 (costF a b)) w) := by
 have HC := hid (show costF a b = absI (a.x - b.x) + absI (a.y - b.y) + 16 * min (absI (a.d - b.d)) (8 - absI (a.d - b.d)) from rfl)
 obtain ⟨h1, h2, h3, h4, h5, h6⟩ := ha
 obtain ⟨k1, k2, k3, k4, k5, k6⟩ := hb
 obtain ⟨e1, e2⟩ := absI_bd (n := a.x - b.x) (B := 2090000) (by omega) (by omega)
 obtain ⟨e3, e4⟩ := absI_bd (n := a.y - b.y) (B := 2090000) (by omega) (by omega)
 obtain ⟨e5, e6⟩ := absI_bd (n := a.d - b.d) (B := 7) (by omega) (by omega)
 have CA := fun n w' (h0 : -2090000 ≤ n) (h1 : n ≤ 2090000) => implAbs_any n w' (by omega) (by omega)
 obtain ⟨T, hT⟩ : ∃ T, absI (a.d - b.d) = T := ⟨_, rfl⟩
 have CD := fun w' => CA (a.d - b.d) w' (by omega) (by omega)
 rw [hT] at CD e5 e6 HC
 clear hT
 obtain ⟨W, hW⟩ : ∃ u, u = ((w.alloc (.cells #[.int .i64 a.x, .int .i64 a.y, .int .i64 a.d] 176)).alloc (.cells #[.int .i64 b.x, .int .i64 b.y, .int .i64 b.d] 176)) := ⟨_, rfl⟩
 have hbW : Below w.heap.size w W := by rw [hW]; exact belowA2 _ _ _
 have q1 : Box W (w.heap.size) #[.int .i64 a.x, .int .i64 a.y, .int .i64 a.d] 176 := by
  have hq := Box.new w #[.int .i64 a.x, .int .i64 a.y, .int .i64 a.d] 176
  rw [hW]
  exact (hq.alloc _)
 have q2 : Box W (w.heap.size + 1) #[.int .i64 b.x, .int .i64 b.y, .int .i64 b.d] 176 := by
  have hq := Box.new (w.alloc (.cells #[.int .i64 a.x, .int .i64 a.y, .int .i64 a.d] 176)) #[.int .i64 b.x, .int .i64 b.y, .int .i64 b.d] 176
  simp at hq
  rw [hW]
  exact hq
 obtain ⟨p1, hp1⟩ : ∃ p, p = w.heap.size := ⟨_, rfl⟩
 rw [← hp1] at q1
 have hge1 : w.heap.size ≤ p1 := by omega
 obtain ⟨p2, hp2⟩ : ∃ p, p = w.heap.size + 1 := ⟨_, rfl⟩
 rw [← hp2] at q2
 have hge2 : w.heap.size ≤ p2 := by omega
 have hlW : w.heap.size ≤ W.heap.size := hbW.size
 have hlp1 : p1 < W.heap.size := q1.lt
 have hlp2 : p2 < W.heap.size := q2.lt
 have hne12 : p1 ≠ p2 := by omega
 have HP1 := hid hp1
 have HP2 := hid hp2
 have HW := hid hW
 clear hW hp1 hp2
 have a0 := q1.cell (j := 0) rfl
 have a1 := q1.cell (j := 1) rfl
 have a2 := q1.cell (j := 2) rfl
 have b0 := q2.cell (j := 0) rfl
 have b1 := q2.cell (j := 1) rfl
 have b2 := q2.cell (j := 2) rfl
 go_enter Tryz.func197, Tryz.ntmps197
 go_upto_region 1 with fail
 rw [← HP2.out, ← HP1.out, ← HW.out]
 go_wp2_with fail
 refine (CD _).mono ?_
 rintro e w2 ⟨rfl, rfl⟩
 clear CD q1 q2
 go_upto_region 2 with fail
 have wr0 : IntKind.i64.wrap (a.x - b.x) = a.x - b.x := IntWalk.i64_in _ (by omega)
 have wr1 : IntKind.i64.wrap (a.y - b.y) = a.y - b.y := IntWalk.i64_in _ (by omega)
 have wr2 : IntKind.i64.wrap (absI (a.x - b.x) + absI (a.y - b.y)) = absI (a.x - b.x) + absI (a.y - b.y) := IntWalk.i64_in _ (by omega)
 have wr3 : IntKind.i64.wrap (8 - T) = 8 - T := IntWalk.i64_in _ (by omega)
 have wr4 : IntKind.i64.wrap (16 * min T (8 - T)) = 16 * min T (8 - T) := IntWalk.i64_in _ (by omega)
 have wr5 : IntKind.i64.wrap (absI (a.x - b.x) + absI (a.y - b.y) + 16 * min T (8 - T)) = absI (a.x - b.x) + absI (a.y - b.y) + 16 * min T (8 - T) := IntWalk.i64_in _ (by omega)
 refine wp_region_rel (fun i v w' => match i with
       | 0 => v = .pointer (some ⟨p1, 0, none⟩)
       | 1 => v = .int .i64 a.x
       | 2 => v = .pointer (some ⟨p2, 0, none⟩)
       | 3 => v = .int .i64 b.x
       | 4 => v = .int .i64 (a.x - b.x)
       | 5 => v = .int .i64 (absI (a.x - b.x))
       | 6 => v = .pointer (some ⟨p1, 1, none⟩)
       | 7 => v = .int .i64 a.y
       | 8 => v = .pointer (some ⟨p2, 1, none⟩)
       | 9 => v = .int .i64 b.y
       | 10 => v = .int .i64 (a.y - b.y)
       | 11 => v = .int .i64 (absI (a.y - b.y))
       | 12 => v = .int .i64 (absI (a.x - b.x) + absI (a.y - b.y))
       | 13 => v = .int .i64 T
       | 14 => v = .int .i64 T
       | 15 => v = .int .i64 (8 - T)
       | 16 => v = .int .i64 (min T (8 - T))
       | 17 => v = .int .i64 (16 * min T (8 - T))
       | 18 => v = .int .i64 (absI (a.x - b.x) + absI (a.y - b.y) + 16 * min T (8 - T))
       | 19 => v = .int .i64 (absI (a.x - b.x) + absI (a.y - b.y) + 16 * min T (8 - T))
       | _ => True) (by kernel_rfl) (by kernel_rfl) (by kernel_rfl) (by kernel_rfl) ?_ ?_ ?_
 ·intro i v w w' h hb
  match i, h with
  | 0, h => exact h
  | 1, h => exact h
  | 2, h => exact h
  | 3, h => exact h
  | 4, h => exact h
  | 5, h => exact h
  | 6, h => exact h
  | 7, h => exact h
  | 8, h => exact h
  | 9, h => exact h
  | 10, h => exact h
  | 11, h => exact h
  | 12, h => exact h
  | 13, h => exact h
  | 14, h => exact h
  | 15, h => exact h
  | 16, h => exact h
  | 17, h => exact h
  | 18, h => exact h
  | 19, h => exact h
  | (k + 20), h => exact h
 ·refine ⟨?_, ?_, ?_, ?_, ?_, ?_, ?_, ?_, ?_, ?_, ?_, ?_, ?_, ?_, ?_, ?_, ?_, ?_, ?_, ?_, trivial⟩
  ·intro ρ w' hbw ht hcs hfn hgl hdep
   refine ⟨fun _ => ?_, fun h => by cases h⟩
   have s2 : ρ (.tmp 2) = .pointer (some ⟨p1, 0, none⟩) := ht 2 rfl
   clear ht hdep hgl
   go_simp
   exact ⟨Below.refl _ _, rfl⟩
  ·intro ρ w' hbw ht hcs hfn hgl hdep
   refine ⟨fun _ => ?_, fun h => by cases h⟩
   have s12 : ρ (.tmp 12) = .pointer (some ⟨p1, 0, none⟩) := hdep ⟨0, .data⟩ (by simp) rfl 12 rfl
   have a0 := cell_later hbw a0
   have a1 := cell_later hbw a1
   have b0 := cell_later hbw b0
   have b1 := cell_later hbw b1
   clear ht hdep hgl
   go_simp
   exact ⟨Below.refl _ _, rfl⟩
  ·intro ρ w' hbw ht hcs hfn hgl hdep
   refine ⟨fun _ => ?_, fun h => by cases h⟩
   have s3 : ρ (.tmp 3) = .pointer (some ⟨p2, 0, none⟩) := ht 3 rfl
   clear ht hdep hgl
   go_simp
   exact ⟨Below.refl _ _, rfl⟩
  ·intro ρ w' hbw ht hcs hfn hgl hdep
   refine ⟨fun _ => ?_, fun h => by cases h⟩
   have s14 : ρ (.tmp 14) = .pointer (some ⟨p2, 0, none⟩) := hdep ⟨2, .data⟩ (by simp) rfl 14 rfl
   have a0 := cell_later hbw a0
   have a1 := cell_later hbw a1
   have b0 := cell_later hbw b0
   have b1 := cell_later hbw b1
   clear ht hdep hgl
   go_simp
   exact ⟨Below.refl _ _, rfl⟩
  ·intro ρ w' hbw ht hcs hfn hgl hdep
   refine ⟨fun _ => ?_, fun h => by cases h⟩
   have s13 : ρ (.tmp 13) = .int .i64 a.x := hdep ⟨1, .data⟩ (by simp) rfl 13 rfl
   have s15 : ρ (.tmp 15) = .int .i64 b.x := hdep ⟨3, .data⟩ (by simp) rfl 15 rfl
   clear ht hdep hgl
   go_simp
   exact ⟨Below.refl _ _, rfl⟩
  ·intro ρ w' hbw ht hcs hfn hgl hdep
   refine ⟨fun _ => ?_, fun h => by cases h⟩
   have s16 : ρ (.tmp 16) = .int .i64 (a.x - b.x) := hdep ⟨4, .data⟩ (by simp) rfl 16 rfl
   clear ht hdep hgl
   go_simp
   exact (CA _ _ (by omega) (by omega)).mono fun e w'' he => ⟨_, he.1, he.2 ▸ Below.refl _ _, rfl⟩
  ·intro ρ w' hbw ht hcs hfn hgl hdep
   refine ⟨fun _ => ?_, fun h => by cases h⟩
   have s2 : ρ (.tmp 2) = .pointer (some ⟨p1, 0, none⟩) := ht 2 rfl
   clear ht hdep hgl
   go_simp
   exact ⟨Below.refl _ _, rfl⟩
  ·intro ρ w' hbw ht hcs hfn hgl hdep
   refine ⟨fun _ => ?_, fun h => by cases h⟩
   have s18 : ρ (.tmp 18) = .pointer (some ⟨p1, 1, none⟩) := hdep ⟨6, .data⟩ (by simp) rfl 18 rfl
   have a0 := cell_later hbw a0
   have a1 := cell_later hbw a1
   have b0 := cell_later hbw b0
   have b1 := cell_later hbw b1
   clear ht hdep hgl
   go_simp
   exact ⟨Below.refl _ _, rfl⟩
  ·intro ρ w' hbw ht hcs hfn hgl hdep
   refine ⟨fun _ => ?_, fun h => by cases h⟩
   have s3 : ρ (.tmp 3) = .pointer (some ⟨p2, 0, none⟩) := ht 3 rfl
   clear ht hdep hgl
   go_simp
   exact ⟨Below.refl _ _, rfl⟩
  ·intro ρ w' hbw ht hcs hfn hgl hdep
   refine ⟨fun _ => ?_, fun h => by cases h⟩
   have s20 : ρ (.tmp 20) = .pointer (some ⟨p2, 1, none⟩) := hdep ⟨8, .data⟩ (by simp) rfl 20 rfl
   have a0 := cell_later hbw a0
   have a1 := cell_later hbw a1
   have b0 := cell_later hbw b0
   have b1 := cell_later hbw b1
   clear ht hdep hgl
   go_simp
   exact ⟨Below.refl _ _, rfl⟩
  ·intro ρ w' hbw ht hcs hfn hgl hdep
   refine ⟨fun _ => ?_, fun h => by cases h⟩
   have s19 : ρ (.tmp 19) = .int .i64 a.y := hdep ⟨7, .data⟩ (by simp) rfl 19 rfl
   have s21 : ρ (.tmp 21) = .int .i64 b.y := hdep ⟨9, .data⟩ (by simp) rfl 21 rfl
   clear ht hdep hgl
   go_simp
   exact ⟨Below.refl _ _, rfl⟩
  ·intro ρ w' hbw ht hcs hfn hgl hdep
   refine ⟨fun _ => ?_, fun h => by cases h⟩
   have s22 : ρ (.tmp 22) = .int .i64 (a.y - b.y) := hdep ⟨10, .data⟩ (by simp) rfl 22 rfl
   clear ht hdep hgl
   go_simp
   exact (CA _ _ (by omega) (by omega)).mono fun e w'' he => ⟨_, he.1, he.2 ▸ Below.refl _ _, rfl⟩
  ·intro ρ w' hbw ht hcs hfn hgl hdep
   refine ⟨fun _ => ?_, fun h => by cases h⟩
   have s17 : ρ (.tmp 17) = .int .i64 (absI (a.x - b.x)) := hdep ⟨5, .data⟩ (by simp) rfl 17 rfl
   have s23 : ρ (.tmp 23) = .int .i64 (absI (a.y - b.y)) := hdep ⟨11, .data⟩ (by simp) rfl 23 rfl
   clear ht hdep hgl
   go_simp
   exact ⟨Below.refl _ _, rfl⟩
  ·intro ρ w' hbw ht hcs hfn hgl hdep
   refine ⟨fun _ => ?_, fun h => by cases h⟩
   have s5 : ρ (.tmp 5) = .int .i64 T := ht 5 rfl
   clear ht hdep hgl
   go_simp
   exact ⟨Below.refl _ _, rfl⟩
  ·intro ρ w' hbw ht hcs hfn hgl hdep
   refine ⟨fun _ => ?_, fun h => by cases h⟩
   have s5 : ρ (.tmp 5) = .int .i64 T := ht 5 rfl
   clear ht hdep hgl
   go_simp
   exact ⟨Below.refl _ _, rfl⟩
  ·intro ρ w' hbw ht hcs hfn hgl hdep
   refine ⟨fun _ => ?_, fun h => by cases h⟩
   have s26 : ρ (.tmp 26) = .int .i64 T := hdep ⟨14, .data⟩ (by simp) rfl 26 rfl
   clear ht hdep hgl
   go_simp
   exact ⟨Below.refl _ _, rfl⟩
  ·intro ρ w' hbw ht hcs hfn hgl hdep
   refine ⟨fun _ => ?_, fun h => by cases h⟩
   have s25 : ρ (.tmp 25) = .int .i64 T := hdep ⟨13, .data⟩ (by simp) rfl 25 rfl
   have s27 : ρ (.tmp 27) = .int .i64 (8 - T) := hdep ⟨15, .data⟩ (by simp) rfl 27 rfl
   clear ht hdep hgl
   go_simp
   exact ⟨Below.refl _ _, rfl⟩
  ·intro ρ w' hbw ht hcs hfn hgl hdep
   refine ⟨fun _ => ?_, fun h => by cases h⟩
   have s28 : ρ (.tmp 28) = .int .i64 (min T (8 - T)) := hdep ⟨16, .data⟩ (by simp) rfl 28 rfl
   clear ht hdep hgl
   go_simp
   exact ⟨Below.refl _ _, rfl⟩
  ·intro ρ w' hbw ht hcs hfn hgl hdep
   refine ⟨fun _ => ?_, fun h => by cases h⟩
   have s24 : ρ (.tmp 24) = .int .i64 (absI (a.x - b.x) + absI (a.y - b.y)) := hdep ⟨12, .data⟩ (by simp) rfl 24 rfl
   have s29 : ρ (.tmp 29) = .int .i64 (16 * min T (8 - T)) := hdep ⟨17, .data⟩ (by simp) rfl 29 rfl
   clear ht hdep hgl
   go_simp
   exact ⟨Below.refl _ _, rfl⟩
  ·intro ρ w' hbw ht hcs hfn hgl hdep
   refine ⟨fun _ => ?_, fun h => by cases h⟩
   have s30 : ρ (.tmp 30) = .int .i64 (absI (a.x - b.x) + absI (a.y - b.y) + 16 * min T (8 - T)) := hdep ⟨18, .data⟩ (by simp) rfl 30 rfl
   clear ht hdep hgl
   go_simp
   exact ⟨Below.refl _ _, rfl⟩
 intro xx w3 hb3 hx
 have hx19 : xx 19 = .int .i64 (absI (a.x - b.x) + absI (a.y - b.y) + 16 * min T (8 - T)) := hx 19 (by simp)
 clear hx
 simp only [putAll, Act.put, List.setIfInBounds_toArray, List.set_cons_succ, List.set_cons_zero, Nat.zero_add, Nat.reduceAdd, hx19]
 clear hx19
 go_wp2_with fail
 go_ret
 exact ret_int HC.out.symm (hbW.trans (hb3.mono hlW))
set_option maxRecDepth 100000 in
set_option maxHeartbeats 2000000 in
theorem l09Cost_any (a b : DFeat) (w : World) (ha : okF a) (hb : okF b) : Calls Tryz.prog 181 #[.agg #[.int .i64 a.x, .int .i64 a.y, .int .i64 a.d], .agg #[.int .i64 b.x, .int .i64 b.y, .int .i64 b.d]] w (Ret (.int .i64 (costF a b)) w) := by
 have HC := hid (show costF a b = absI (a.x - b.x) + absI (a.y - b.y) + 16 * min (absI (a.d - b.d)) (8 - absI (a.d - b.d)) from rfl)
 obtain ⟨h1, h2, h3, h4, h5, h6⟩ := ha
 obtain ⟨k1, k2, k3, k4, k5, k6⟩ := hb
 obtain ⟨e1, e2⟩ := absI_bd (n := a.x - b.x) (B := 2090000) (by omega) (by omega)
 obtain ⟨e3, e4⟩ := absI_bd (n := a.y - b.y) (B := 2090000) (by omega) (by omega)
 obtain ⟨e5, e6⟩ := absI_bd (n := a.d - b.d) (B := 7) (by omega) (by omega)
 have CA := fun n w' (h0 : -2090000 ≤ n) (h1 : n ≤ 2090000) => l09Size_any n w' (by omega) (by omega)
 obtain ⟨T, hT⟩ : ∃ T, absI (a.d - b.d) = T := ⟨_, rfl⟩
 have CD := fun w' => CA (a.d - b.d) w' (by omega) (by omega)
 rw [hT] at CD e5 e6 HC
 clear hT
 obtain ⟨W, hW⟩ : ∃ u, u = ((w.alloc (.cells #[.int .i64 a.x, .int .i64 a.y, .int .i64 a.d] 176)).alloc (.cells #[.int .i64 b.x, .int .i64 b.y, .int .i64 b.d] 176)) := ⟨_, rfl⟩
 have hbW : Below w.heap.size w W := by rw [hW]; exact belowA2 _ _ _
 have q1 : Box W (w.heap.size) #[.int .i64 a.x, .int .i64 a.y, .int .i64 a.d] 176 := by
  have hq := Box.new w #[.int .i64 a.x, .int .i64 a.y, .int .i64 a.d] 176
  rw [hW]
  exact (hq.alloc _)
 have q2 : Box W (w.heap.size + 1) #[.int .i64 b.x, .int .i64 b.y, .int .i64 b.d] 176 := by
  have hq := Box.new (w.alloc (.cells #[.int .i64 a.x, .int .i64 a.y, .int .i64 a.d] 176)) #[.int .i64 b.x, .int .i64 b.y, .int .i64 b.d] 176
  simp at hq
  rw [hW]
  exact hq
 obtain ⟨p1, hp1⟩ : ∃ p, p = w.heap.size := ⟨_, rfl⟩
 rw [← hp1] at q1
 have hge1 : w.heap.size ≤ p1 := by omega
 obtain ⟨p2, hp2⟩ : ∃ p, p = w.heap.size + 1 := ⟨_, rfl⟩
 rw [← hp2] at q2
 have hge2 : w.heap.size ≤ p2 := by omega
 have hlW : w.heap.size ≤ W.heap.size := hbW.size
 have hlp1 : p1 < W.heap.size := q1.lt
 have hlp2 : p2 < W.heap.size := q2.lt
 have hne12 : p1 ≠ p2 := by omega
 have HP1 := hid hp1
 have HP2 := hid hp2
 have HW := hid hW
 clear hW hp1 hp2
 have a0 := q1.cell (j := 0) rfl
 have a1 := q1.cell (j := 1) rfl
 have a2 := q1.cell (j := 2) rfl
 have b0 := q2.cell (j := 0) rfl
 have b1 := q2.cell (j := 1) rfl
 have b2 := q2.cell (j := 2) rfl
 go_enter Tryz.func181, Tryz.ntmps181
 go_upto_region 1 with fail
 rw [← HP2.out, ← HP1.out, ← HW.out]
 go_wp2_with fail
 refine (CD _).mono ?_
 rintro e w2 ⟨rfl, rfl⟩
 clear CD q1 q2
 go_upto_region 2 with fail
 have wr0 : IntKind.i64.wrap (a.x - b.x) = a.x - b.x := IntWalk.i64_in _ (by omega)
 have wr1 : IntKind.i64.wrap (a.y - b.y) = a.y - b.y := IntWalk.i64_in _ (by omega)
 have wr2 : IntKind.i64.wrap (absI (a.x - b.x) + absI (a.y - b.y)) = absI (a.x - b.x) + absI (a.y - b.y) := IntWalk.i64_in _ (by omega)
 have wr3 : IntKind.i64.wrap (8 - T) = 8 - T := IntWalk.i64_in _ (by omega)
 have wr4 : IntKind.i64.wrap (16 * min T (8 - T)) = 16 * min T (8 - T) := IntWalk.i64_in _ (by omega)
 have wr5 : IntKind.i64.wrap (absI (a.x - b.x) + absI (a.y - b.y) + 16 * min T (8 - T)) = absI (a.x - b.x) + absI (a.y - b.y) + 16 * min T (8 - T) := IntWalk.i64_in _ (by omega)
 refine wp_region_rel (fun i v w' => match i with
       | 0 => v = .pointer (some ⟨p1, 0, none⟩)
       | 1 => v = .int .i64 a.x
       | 2 => v = .pointer (some ⟨p2, 0, none⟩)
       | 3 => v = .int .i64 b.x
       | 4 => v = .int .i64 (a.x - b.x)
       | 5 => v = .int .i64 (absI (a.x - b.x))
       | 6 => v = .pointer (some ⟨p1, 1, none⟩)
       | 7 => v = .int .i64 a.y
       | 8 => v = .pointer (some ⟨p2, 1, none⟩)
       | 9 => v = .int .i64 b.y
       | 10 => v = .int .i64 (a.y - b.y)
       | 11 => v = .int .i64 (absI (a.y - b.y))
       | 12 => v = .int .i64 (absI (a.x - b.x) + absI (a.y - b.y))
       | 13 => v = .int .i64 T
       | 14 => v = .int .i64 T
       | 15 => v = .int .i64 (8 - T)
       | 16 => v = .int .i64 (min T (8 - T))
       | 17 => v = .int .i64 (16 * min T (8 - T))
       | 18 => v = .int .i64 (absI (a.x - b.x) + absI (a.y - b.y) + 16 * min T (8 - T))
       | 19 => v = .int .i64 (absI (a.x - b.x) + absI (a.y - b.y) + 16 * min T (8 - T))
       | _ => True) (by kernel_rfl) (by kernel_rfl) (by kernel_rfl) (by kernel_rfl) ?_ ?_ ?_
 ·intro i v w w' h hb
  match i, h with
  | 0, h => exact h
  | 1, h => exact h
  | 2, h => exact h
  | 3, h => exact h
  | 4, h => exact h
  | 5, h => exact h
  | 6, h => exact h
  | 7, h => exact h
  | 8, h => exact h
  | 9, h => exact h
  | 10, h => exact h
  | 11, h => exact h
  | 12, h => exact h
  | 13, h => exact h
  | 14, h => exact h
  | 15, h => exact h
  | 16, h => exact h
  | 17, h => exact h
  | 18, h => exact h
  | 19, h => exact h
  | (k + 20), h => exact h
 ·refine ⟨?_, ?_, ?_, ?_, ?_, ?_, ?_, ?_, ?_, ?_, ?_, ?_, ?_, ?_, ?_, ?_, ?_, ?_, ?_, ?_, trivial⟩
  ·intro ρ w' hbw ht hcs hfn hgl hdep
   refine ⟨fun _ => ?_, fun h => by cases h⟩
   have s2 : ρ (.tmp 2) = .pointer (some ⟨p1, 0, none⟩) := ht 2 rfl
   clear ht hdep hgl
   go_simp
   exact ⟨Below.refl _ _, rfl⟩
  ·intro ρ w' hbw ht hcs hfn hgl hdep
   refine ⟨fun _ => ?_, fun h => by cases h⟩
   have s12 : ρ (.tmp 12) = .pointer (some ⟨p1, 0, none⟩) := hdep ⟨0, .data⟩ (by simp) rfl 12 rfl
   have a0 := cell_later hbw a0
   have a1 := cell_later hbw a1
   have b0 := cell_later hbw b0
   have b1 := cell_later hbw b1
   clear ht hdep hgl
   go_simp
   exact ⟨Below.refl _ _, rfl⟩
  ·intro ρ w' hbw ht hcs hfn hgl hdep
   refine ⟨fun _ => ?_, fun h => by cases h⟩
   have s3 : ρ (.tmp 3) = .pointer (some ⟨p2, 0, none⟩) := ht 3 rfl
   clear ht hdep hgl
   go_simp
   exact ⟨Below.refl _ _, rfl⟩
  ·intro ρ w' hbw ht hcs hfn hgl hdep
   refine ⟨fun _ => ?_, fun h => by cases h⟩
   have s14 : ρ (.tmp 14) = .pointer (some ⟨p2, 0, none⟩) := hdep ⟨2, .data⟩ (by simp) rfl 14 rfl
   have a0 := cell_later hbw a0
   have a1 := cell_later hbw a1
   have b0 := cell_later hbw b0
   have b1 := cell_later hbw b1
   clear ht hdep hgl
   go_simp
   exact ⟨Below.refl _ _, rfl⟩
  ·intro ρ w' hbw ht hcs hfn hgl hdep
   refine ⟨fun _ => ?_, fun h => by cases h⟩
   have s13 : ρ (.tmp 13) = .int .i64 a.x := hdep ⟨1, .data⟩ (by simp) rfl 13 rfl
   have s15 : ρ (.tmp 15) = .int .i64 b.x := hdep ⟨3, .data⟩ (by simp) rfl 15 rfl
   clear ht hdep hgl
   go_simp
   exact ⟨Below.refl _ _, rfl⟩
  ·intro ρ w' hbw ht hcs hfn hgl hdep
   refine ⟨fun _ => ?_, fun h => by cases h⟩
   have s16 : ρ (.tmp 16) = .int .i64 (a.x - b.x) := hdep ⟨4, .data⟩ (by simp) rfl 16 rfl
   clear ht hdep hgl
   go_simp
   exact (CA _ _ (by omega) (by omega)).mono fun e w'' he => ⟨_, he.1, he.2 ▸ Below.refl _ _, rfl⟩
  ·intro ρ w' hbw ht hcs hfn hgl hdep
   refine ⟨fun _ => ?_, fun h => by cases h⟩
   have s2 : ρ (.tmp 2) = .pointer (some ⟨p1, 0, none⟩) := ht 2 rfl
   clear ht hdep hgl
   go_simp
   exact ⟨Below.refl _ _, rfl⟩
  ·intro ρ w' hbw ht hcs hfn hgl hdep
   refine ⟨fun _ => ?_, fun h => by cases h⟩
   have s18 : ρ (.tmp 18) = .pointer (some ⟨p1, 1, none⟩) := hdep ⟨6, .data⟩ (by simp) rfl 18 rfl
   have a0 := cell_later hbw a0
   have a1 := cell_later hbw a1
   have b0 := cell_later hbw b0
   have b1 := cell_later hbw b1
   clear ht hdep hgl
   go_simp
   exact ⟨Below.refl _ _, rfl⟩
  ·intro ρ w' hbw ht hcs hfn hgl hdep
   refine ⟨fun _ => ?_, fun h => by cases h⟩
   have s3 : ρ (.tmp 3) = .pointer (some ⟨p2, 0, none⟩) := ht 3 rfl
   clear ht hdep hgl
   go_simp
   exact ⟨Below.refl _ _, rfl⟩
  ·intro ρ w' hbw ht hcs hfn hgl hdep
   refine ⟨fun _ => ?_, fun h => by cases h⟩
   have s20 : ρ (.tmp 20) = .pointer (some ⟨p2, 1, none⟩) := hdep ⟨8, .data⟩ (by simp) rfl 20 rfl
   have a0 := cell_later hbw a0
   have a1 := cell_later hbw a1
   have b0 := cell_later hbw b0
   have b1 := cell_later hbw b1
   clear ht hdep hgl
   go_simp
   exact ⟨Below.refl _ _, rfl⟩
  ·intro ρ w' hbw ht hcs hfn hgl hdep
   refine ⟨fun _ => ?_, fun h => by cases h⟩
   have s19 : ρ (.tmp 19) = .int .i64 a.y := hdep ⟨7, .data⟩ (by simp) rfl 19 rfl
   have s21 : ρ (.tmp 21) = .int .i64 b.y := hdep ⟨9, .data⟩ (by simp) rfl 21 rfl
   clear ht hdep hgl
   go_simp
   exact ⟨Below.refl _ _, rfl⟩
  ·intro ρ w' hbw ht hcs hfn hgl hdep
   refine ⟨fun _ => ?_, fun h => by cases h⟩
   have s22 : ρ (.tmp 22) = .int .i64 (a.y - b.y) := hdep ⟨10, .data⟩ (by simp) rfl 22 rfl
   clear ht hdep hgl
   go_simp
   exact (CA _ _ (by omega) (by omega)).mono fun e w'' he => ⟨_, he.1, he.2 ▸ Below.refl _ _, rfl⟩
  ·intro ρ w' hbw ht hcs hfn hgl hdep
   refine ⟨fun _ => ?_, fun h => by cases h⟩
   have s17 : ρ (.tmp 17) = .int .i64 (absI (a.x - b.x)) := hdep ⟨5, .data⟩ (by simp) rfl 17 rfl
   have s23 : ρ (.tmp 23) = .int .i64 (absI (a.y - b.y)) := hdep ⟨11, .data⟩ (by simp) rfl 23 rfl
   clear ht hdep hgl
   go_simp
   exact ⟨Below.refl _ _, rfl⟩
  ·intro ρ w' hbw ht hcs hfn hgl hdep
   refine ⟨fun _ => ?_, fun h => by cases h⟩
   have s5 : ρ (.tmp 5) = .int .i64 T := ht 5 rfl
   clear ht hdep hgl
   go_simp
   exact ⟨Below.refl _ _, rfl⟩
  ·intro ρ w' hbw ht hcs hfn hgl hdep
   refine ⟨fun _ => ?_, fun h => by cases h⟩
   have s5 : ρ (.tmp 5) = .int .i64 T := ht 5 rfl
   clear ht hdep hgl
   go_simp
   exact ⟨Below.refl _ _, rfl⟩
  ·intro ρ w' hbw ht hcs hfn hgl hdep
   refine ⟨fun _ => ?_, fun h => by cases h⟩
   have s26 : ρ (.tmp 26) = .int .i64 T := hdep ⟨14, .data⟩ (by simp) rfl 26 rfl
   clear ht hdep hgl
   go_simp
   exact ⟨Below.refl _ _, rfl⟩
  ·intro ρ w' hbw ht hcs hfn hgl hdep
   refine ⟨fun _ => ?_, fun h => by cases h⟩
   have s25 : ρ (.tmp 25) = .int .i64 T := hdep ⟨13, .data⟩ (by simp) rfl 25 rfl
   have s27 : ρ (.tmp 27) = .int .i64 (8 - T) := hdep ⟨15, .data⟩ (by simp) rfl 27 rfl
   clear ht hdep hgl
   go_simp
   exact (l00Min_any _ _ _).mono fun e w'' he => ⟨_, he.1, he.2 ▸ Below.refl _ _, rfl⟩
  ·intro ρ w' hbw ht hcs hfn hgl hdep
   refine ⟨fun _ => ?_, fun h => by cases h⟩
   have s28 : ρ (.tmp 28) = .int .i64 (min T (8 - T)) := hdep ⟨16, .data⟩ (by simp) rfl 28 rfl
   clear ht hdep hgl
   go_simp
   exact ⟨Below.refl _ _, rfl⟩
  ·intro ρ w' hbw ht hcs hfn hgl hdep
   refine ⟨fun _ => ?_, fun h => by cases h⟩
   have s24 : ρ (.tmp 24) = .int .i64 (absI (a.x - b.x) + absI (a.y - b.y)) := hdep ⟨12, .data⟩ (by simp) rfl 24 rfl
   have s29 : ρ (.tmp 29) = .int .i64 (16 * min T (8 - T)) := hdep ⟨17, .data⟩ (by simp) rfl 29 rfl
   clear ht hdep hgl
   go_simp
   exact ⟨Below.refl _ _, rfl⟩
  ·intro ρ w' hbw ht hcs hfn hgl hdep
   refine ⟨fun _ => ?_, fun h => by cases h⟩
   have s30 : ρ (.tmp 30) = .int .i64 (absI (a.x - b.x) + absI (a.y - b.y) + 16 * min T (8 - T)) := hdep ⟨18, .data⟩ (by simp) rfl 30 rfl
   clear ht hdep hgl
   go_simp
   exact ⟨Below.refl _ _, rfl⟩
 intro xx w3 hb3 hx
 have hx19 : xx 19 = .int .i64 (absI (a.x - b.x) + absI (a.y - b.y) + 16 * min T (8 - T)) := hx 19 (by simp)
 clear hx
 simp only [putAll, Act.put, List.setIfInBounds_toArray, List.set_cons_succ, List.set_cons_zero, Nat.zero_add, Nat.reduceAdd, hx19]
 clear hx19
 go_wp2_with fail
 go_ret
 exact ret_int HC.out.symm (hbW.trans (hb3.mono hlW))
end Go.Proofs.YtlnoelbeaolikaaGreat
namespace Go.Proofs.YtlnoelbeaolikaaGreat
def inBd (r i j : Nat) : Prop := i ≤ j + r ∧ j ≤ i + r
instance (r i j : Nat) : Decidable (inBd r i j) := by unfold inBd; exact inferInstance
def cellF (M : Int) (c : Nat → Nat → Int) (r i j : Nat) (b : Int) : Int := if ¬ inBd r i j ∨ M ≤ b then M else b + c i j
def row0 (M : Int) (c : Nat → Nat → Int) (r : Nat) : Nat → Int
 | 0 => cellF M c r 0 0 0
 | j + 1 => cellF M c r 0 (j + 1) (min M (row0 M c r j))
def rowS (M : Int) (c : Nat → Nat → Int) (r i : Nat) (prev : Nat → Int) : Nat → Int
 | 0 => cellF M c r (i + 1) 0 (min M (prev 0))
 | j + 1 => cellF M c r (i + 1) (j + 1) (min (min (min M (prev j)) (prev (j + 1))) (rowS M c r i prev j))
def tabF (M : Int) (c : Nat → Nat → Int) (r : Nat) : Nat → Nat → Int
 | 0 => row0 M c r
 | i + 1 => rowS M c r i (tabF M c r i)
def least1 (T : Nat → Nat → Int) (M : Int) (i j : Nat) : Int := if 1 ≤ i ∧ 1 ≤ j then min M (T (i - 1) (j - 1)) else M
def least2 (T : Nat → Nat → Int) (M : Int) (i j : Nat) : Int := if 1 ≤ i then min (least1 T M i j) (T (i - 1) j) else least1 T M i j
def least3 (T : Nat → Nat → Int) (M : Int) (i j : Nat) : Int := if 1 ≤ j then min (least2 T M i j) (T i (j - 1)) else least2 T M i j
def befF (M : Int) (c : Nat → Nat → Int) (r i j : Nat) : Int := if i = 0 ∧ j = 0 then 0 else least3 (tabF M c r) M i j
theorem tabF_eq (M : Int) (c : Nat → Nat → Int) (r i j : Nat) : tabF M c r i j = cellF M c r i j (befF M c r i j) := by
 cases i with
 | zero =>
  cases j with
  | zero => rfl
  | succ j => show cellF M c r 0 (j + 1) (min M (row0 M c r j)) = _; simp [befF, least3, least2, least1, tabF]
 | succ i =>
  cases j with
  | zero => show cellF M c r (i + 1) 0 (min M (tabF M c r i 0)) = _; simp [befF, least3, least2, least1]
  | succ j => show cellF M c r (i + 1) (j + 1) (min (min (min M (tabF M c r i j)) (tabF M c r i (j + 1))) (rowS M c r i (tabF M c r i) j)) = _; simp [befF, least3, least2, least1, tabF]
theorem least3_le (T : Nat → Nat → Int) (M : Int) (i j : Nat) : least3 T M i j ≤ M := by
 unfold least3 least2 least1
 repeat' split
 all_goals omega
/-- one cell of two tables whose far costs are different -/
def CellR (C M1 M2 t1 t2 : Int) (r i j : Nat) : Prop := (¬ inBd r i j → t1 = M1 ∧ t2 = M2) ∧ (inBd r i j → t1 = t2 ∧ 0 ≤ t1 ∧ t1 ≤ ((i + j + 1 : Nat) : Int) * C)
theorem cell_law {C M1 M2 : Int} {c : Nat → Nat → Int} {r : Nat} (hc : ∀ i j, 0 ≤ c i j ∧ c i j ≤ C) {i j : Nat} {b1 b2 : Int} (hM1 : ((i + j + 1 : Nat) : Int) * C < M1) (hM2 : ((i + j + 1 : Nat) : Int) * C < M2)
  (hb : inBd r i j → b1 = b2 ∧ 0 ≤ b1 ∧ b1 ≤ ((i + j : Nat) : Int) * C) : CellR C M1 M2 (cellF M1 c r i j b1) (cellF M2 c r i j b2) r i j := by
 constructor
 ·intro h
  unfold cellF
  rw [if_pos (.inl h), if_pos (.inl h)]
  exact ⟨rfl, rfl⟩
 ·intro h
  obtain ⟨e, h0, h1⟩ := hb h
  subst e
  have hcc := hc i j
  have e2 : ((i + j + 1 : Nat) : Int) * C = ((i + j : Nat) : Int) * C + C := by
   rw [Int.natCast_add (i + j) 1, Int.add_mul]; simp
  have n1 : ¬ (¬ inBd r i j ∨ M1 ≤ b1) := by
   rintro (h2 | h2)
   ·exact h2 h
   ·omega
  have n2 : ¬ (¬ inBd r i j ∨ M2 ≤ b1) := by
   rintro (h2 | h2)
   ·exact h2 h
   ·omega
  unfold cellF
  rw [if_neg n1, if_neg n2]
  omega
theorem mono_C {C : Int} (hC : 0 ≤ C) {a b : Nat} (h : a ≤ b) : (a : Int) * C ≤ (b : Int) * C := Int.mul_le_mul_of_nonneg_right (by omega) hC
theorem tab_law {C M1 M2 : Int} {c : Nat → Nat → Int} {r n : Nat} (hC : 0 ≤ C) (hc : ∀ i j, 0 ≤ c i j ∧ c i j ≤ C) (hM1 : ((n + 1 : Nat) : Int) * C < M1) (hM2 : ((n + 1 : Nat) : Int) * C < M2) :
  ∀ i j, i + j ≤ n → CellR C M1 M2 (tabF M1 c r i j) (tabF M2 c r i j) r i j := by
 have lim : ∀ i j, i + j ≤ n → ((i + j + 1 : Nat) : Int) * C < M1 ∧ ((i + j + 1 : Nat) : Int) * C < M2 := fun i j h => by
  have := mono_C hC (show i + j + 1 ≤ n + 1 by omega)
  omega
 intro i
 induction i with
 | zero =>
  intro j
  induction j with
  | zero => exact fun h => cell_law hc (lim 0 0 h).1 (lim 0 0 h).2 fun _ => ⟨rfl, by omega, by simp⟩
  | succ j ih =>
   intro h
   have hj := ih (by omega)
   have l := lim 0 j (by omega)
   refine cell_law hc (lim 0 (j + 1) h).1 (lim 0 (j + 1) h).2 fun hin => ?_
   have hin2 : inBd r 0 j := by unfold inBd at *; omega
   obtain ⟨e, e0, e1⟩ := hj.2 hin2
   have e : row0 M1 c r j = row0 M2 c r j := e
   have e0 : 0 ≤ row0 M1 c r j := e0
   have e1 : row0 M1 c r j ≤ ((0 + j + 1 : Nat) : Int) * C := e1
   rw [show 0 + (j + 1) = 0 + j + 1 by omega]
   rw [← e]
   omega
 | succ i ih =>
  intro j
  induction j with
  | zero =>
   intro h
   have hj := ih 0 (by omega)
   have l := lim i 0 (by omega)
   refine cell_law hc (lim (i + 1) 0 h).1 (lim (i + 1) 0 h).2 fun hin => ?_
   have hin2 : inBd r i 0 := by unfold inBd at *; omega
   obtain ⟨e, e0, e1⟩ := hj.2 hin2
   rw [show i + 1 + 0 = i + 0 + 1 by omega]
   rw [← e]
   omega
  | succ j jh =>
   intro h
   have h1 := ih j (by omega)
   have h2 := ih (j + 1) (by omega)
   have h3 := jh (by omega)
   have l1 := lim i j (by omega)
   have l2 := lim i (j + 1) (by omega)
   have l3 := lim (i + 1) j (by omega)
   have m1 := mono_C hC (show i + j + 1 ≤ i + 1 + (j + 1) by omega)
   have m2 := mono_C hC (show i + (j + 1) + 1 ≤ i + 1 + (j + 1) by omega)
   have m3 := mono_C hC (show i + 1 + j + 1 ≤ i + 1 + (j + 1) by omega)
   have ll := lim (i + 1) (j + 1) h
   refine cell_law hc ll.1 ll.2 fun hin => ?_
   have hin1 : inBd r i j := by unfold inBd at *; omega
   obtain ⟨a1, a2, a3⟩ := h1.2 hin1
   have h3a : ¬ inBd r (i + 1) j → rowS M1 c r i (tabF M1 c r i) j = M1 ∧ rowS M2 c r i (tabF M2 c r i) j = M2 := h3.1
   have h3b : inBd r (i + 1) j → rowS M1 c r i (tabF M1 c r i) j = rowS M2 c r i (tabF M2 c r i) j ∧ 0 ≤ rowS M1 c r i (tabF M1 c r i) j ∧ rowS M1 c r i (tabF M1 c r i) j ≤ ((i + 1 + j + 1 : Nat) : Int) * C := h3.2
   have h2a := h2.1
   have h2b := h2.2
   clear h1 h2 h3 ih jh hin
   generalize rowS M1 c r i (tabF M1 c r i) j = x3 at *
   generalize rowS M2 c r i (tabF M2 c r i) j = y3 at *
   generalize tabF M1 c r i (j + 1) = x2 at *
   generalize tabF M2 c r i (j + 1) = y2 at *
   generalize tabF M1 c r i j = x1 at *
   generalize tabF M2 c r i j = y1 at *
   by_cases c2 : inBd r i (j + 1)
   ·obtain ⟨b1, b2, b3⟩ := h2b c2
    by_cases c3 : inBd r (i + 1) j
    ·obtain ⟨d1, d2, d3⟩ := h3b c3
     omega
    ·obtain ⟨d1, d2⟩ := h3a c3
     omega
   ·obtain ⟨b1, b2⟩ := h2a c2
    by_cases c3 : inBd r (i + 1) j
    ·obtain ⟨d1, d2, d3⟩ := h3b c3
     omega
    ·obtain ⟨d1, d2⟩ := h3a c3
     omega
theorem cellF_nonneg {M : Int} {c : Nat → Nat → Int} (hM : 0 ≤ M) (hc : ∀ i j, 0 ≤ c i j) {r i j : Nat} {b : Int} (hb : 0 ≤ b) : 0 ≤ cellF M c r i j b := by
 have := hc i j
 unfold cellF
 split <;> omega
theorem tabF_nonneg {M : Int} {c : Nat → Nat → Int} (hM : 0 ≤ M) (hc : ∀ i j, 0 ≤ c i j) (r : Nat) : ∀ i j, 0 ≤ tabF M c r i j := by
 intro i
 induction i with
 | zero =>
  intro j
  induction j with
  | zero => exact cellF_nonneg hM hc (Int.le_refl 0)
  | succ j ih => exact cellF_nonneg hM hc (by have : 0 ≤ row0 M c r j := ih; omega)
 | succ i ih =>
  intro j
  induction j with
  | zero => exact cellF_nonneg hM hc (by have := ih 0; omega)
  | succ j jh => exact cellF_nonneg hM hc (by have := ih j; have := ih (j + 1); have : 0 ≤ rowS M c r i (tabF M c r i) j := jh; omega)
theorem befF_nonneg {M : Int} {c : Nat → Nat → Int} (hM : 0 ≤ M) (hc : ∀ i j, 0 ≤ c i j) (r i j : Nat) : 0 ≤ befF M c r i j := by
 have h := tabF_nonneg hM hc r
 have h1 := h (i - 1) (j - 1)
 have h2 := h (i - 1) j
 have h3 := h i (j - 1)
 unfold befF least3 least2 least1
 repeat' split
 all_goals omega
/-- the costs of two sequences -/
def cF (a b : List DFeat) (i j : Nat) : Int := match a[i]?, b[j]? with | some f, some g => costF f g | _, _ => 0
theorem cF_eq {a b : List DFeat} {i j : Nat} {f g : DFeat} (h1 : a[i]? = some f) (h2 : b[j]? = some g) : cF a b i j = costF f g := by unfold cF; rw [h1, h2]
theorem cF_bd {a b : List DFeat} (ha : ∀ f ∈ a, okF f) (hb : ∀ f ∈ b, okF f) (i j : Nat) : 0 ≤ cF a b i j ∧ cF a b i j ≤ 4180064 := by
 unfold cF
 split
 ·rename_i f g h1 h2
  exact costF_bd (ha f (List.mem_of_getElem? h1)) (hb g (List.mem_of_getElem? h2))
 ·omega
/-- the least cost of all paths: the last cell -/
def elasF (M : Int) (a b : List DFeat) (r : Nat) : Int := tabF M (cF a b) r (a.length - 1) (b.length - 1)
theorem elas_same {a b : List DFeat} (ha : ∀ f ∈ a, okF f) (hb : ∀ f ∈ b, okF f) (h1 : 1 ≤ a.length) (h2 : a.length ≤ 72) (h3 : 1 ≤ b.length) (h4 : b.length ≤ 72) {r : Nat} (hr : inBd r a.length b.length) :
  elasF 1000000000 a b r = elasF 1099511627776 a b r ∧ 0 ≤ elasF 1000000000 a b r ∧ elasF 1000000000 a b r ≤ 1000000000 := by
 have := tab_law (C := 4180064) (M1 := 1000000000) (M2 := 1099511627776) (r := r) (n := 142) (by omega) (cF_bd ha hb) (by decide) (by decide) (a.length - 1) (b.length - 1) (by omega)
 have h5 := this.2 (by unfold inBd at *; omega)
 unfold elasF
 refine ⟨h5.1, h5.2.1, ?_⟩
 have := mono_C (C := 4180064) (by omega) (show a.length - 1 + (b.length - 1) + 1 ≤ 143 by omega)
 omega
end Go.Proofs.YtlnoelbeaolikaaGreat
