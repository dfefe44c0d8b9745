/- The walk of the law FnExactBestReadings: for every argument it returns true and leaves what was there. -/
import Derived.Test.YtnhmailnnggmjaaReg
import Derived.Test.YtnhmailnnggmjaaRep
import Derived.Test.YtnhmailnnggmjaaWrLattice
import Derived.Test.YtnhmailnnggmjaaWrReadingS
import Derived.Test.YtnhmailnnggmjaaRdBrs
namespace Go.Proofs.Ytnhmailnnggmjaa
open Go.RowKit

set_option maxHeartbeats 4000000 in
theorem lawBestReadings (v0 : Value) (x0 : XLattice) (n1 : Int) (w : World) (a0 : rLattice.at_ 0 w.heap.size w v0 x0) (g0 : goodLattice x0) :
    Calls Try.prog 4 #[v0, .int .i64 n1] w (Ret (.bool true) w) := by
  obtain ⟨sa0, sc0, rfl⟩ := shapeLattice a0
  have hbase : Below w.heap.size w w := Below.refl _ _
  go_enter Try.func4, Try.ntmps4
  go_wp2_with fail
  refine (szLattice_any _ x0 (1048576) _ (rLattice.at_alloc a0 _) g0 (by omega) (by omega)).mono ?_
  rintro e w1 ⟨rfl, hb⟩
  have z1 : w.heap.size + 1 ≤ w1.heap.size := by have := hb.size; (try simp at this); omega
  replace a0 := rLattice.at_below (rLattice.at_alloc a0 _) hb
  have q1 : w1.cell? ⟨w.heap.size, 0, none⟩ = some (.int .i64 x0.1) := cell_later hb (by simp)
  have q2 : w1.cell? ⟨w.heap.size, 1, none⟩ = some (.slice sa0 x0.2.length sc0) := cell_later hb (by simp)
  have yq1 := cell_lt q1
  replace hbase := baseB1 hbase hb
  clear hb
  by_cases hszx0 : (1048576 : Int) < (sizeLattice x0 : Nat)
  · rw [szOf_neg hszx0]
    go_wp2_with fail
    go_ret
    exact ret_bool rfl hbase
  rw [szOf_pos (by omega)]
  have ok_x0 : okLattice x0 := okLattice_of (by omega)
  go_wp2_with fail
  refine (toLattice_any _ x0 _ a0 ok_x0).mono ?_
  rintro e w2 ⟨u1, rfl, o1, hb⟩
  obtain ⟨sb1, sd1, rfl⟩ := shapeLattice (rLattice.own_at o1)
  have z2 : w1.heap.size + 0 ≤ w2.heap.size := by have := hb.size; (try simp at this); omega
  replace a0 := rLattice.at_below a0 hb
  replace q1 := cell_later hb q1
  replace q2 := cell_later hb q2
  replace yq1 := cell_lt q1
  replace hbase := baseB0 hbase hb
  clear hb
  go_wp2_with fail
  refine (specBestReadings_any _ x0 n1 _ (rLattice.own_at o1) ok_x0 g0).mono ?_
  rintro e w3 ⟨u2, rfl, o2, hb⟩
  obtain ⟨sb2, sd2, rfl⟩ := shapeReadingS (rReadingS.own_at o2)
  have z3 : w2.heap.size + 0 ≤ w3.heap.size := by have := hb.size; (try simp at this); omega
  replace a0 := rLattice.at_below a0 hb
  replace o1 := rLattice.own_below o1 hb
  replace q1 := cell_later hb q1
  replace q2 := cell_later hb q2
  replace yq1 := cell_lt q1
  replace hbase := baseB0 hbase hb
  clear hb
  go_wp2_with fail
  refine (toLattice_any _ x0 _ a0 ok_x0).mono ?_
  rintro e w4 ⟨u3, rfl, o3, hb⟩
  obtain ⟨sb3, sd3, rfl⟩ := shapeLattice (rLattice.own_at o3)
  have z4 : w3.heap.size + 0 ≤ w4.heap.size := by have := hb.size; (try simp at this); omega
  replace a0 := rLattice.at_below a0 hb
  replace o1 := rLattice.own_below o1 hb
  replace o2 := rReadingS.own_below o2 hb
  replace q1 := cell_later hb q1
  replace q2 := cell_later hb q2
  replace yq1 := cell_lt q1
  replace hbase := baseB0 hbase hb
  clear hb
  go_wp2_with fail
  refine (implBestReadings_any _ x0 n1 _ (rLattice.own_at (rLattice.own_alloc o3 _)) ok_x0 g0).mono ?_
  rintro e w5 ⟨u4, rfl, o4, hb⟩
  obtain ⟨sb4, sd4, rfl⟩ := shapeReadingS (rReadingS.own_at o4)
  replace o4 : rReadingS.own (w4.heap.size + 1) w5.heap.size w5 _ _ := rReadingS.own_mono o4 (by simp <;> omega) (Nat.le_refl _)
  have z5 : w4.heap.size + 1 ≤ w5.heap.size := by have := hb.size; (try simp at this); omega
  replace a0 := rLattice.at_below (rLattice.at_alloc a0 _) hb
  replace o1 := rLattice.own_below (rLattice.own_alloc o1 _) hb
  replace o2 := rReadingS.own_below (rReadingS.own_alloc o2 _) hb
  replace o3 := rLattice.own_below (rLattice.own_alloc o3 _) hb
  replace q1 := cell_later hb (cell_alloc q1 _)
  replace q2 := cell_later hb (cell_alloc q2 _)
  have q3 : w5.cell? ⟨w4.heap.size, 0, none⟩ = some (.int .i64 x0.1) := cell_later hb (by simp)
  have q4 : w5.cell? ⟨w4.heap.size, 1, none⟩ = some (.slice sb3 x0.2.length sd3) := cell_later hb (by simp)
  replace yq1 := cell_lt q1
  have yq3 := cell_lt q3
  replace hbase := baseB1 hbase hb
  clear hb
  go_wp2_with fail
  refine (eqReadingSR_any _ _ (brL x0 n1) _ (rReadingS.own_at o4) (rReadingS.own_at o2)).mono ?_
  rintro e w6 ⟨rfl, hb⟩
  have z6 : w5.heap.size + 0 ≤ w6.heap.size := by have := hb.size; (try simp at this); omega
  replace a0 := rLattice.at_below a0 hb
  replace o1 := rLattice.own_below o1 hb
  replace o2 := rReadingS.own_below o2 hb
  replace o3 := rLattice.own_below o3 hb
  replace o4 := rReadingS.own_below o4 hb
  replace q1 := cell_later hb q1
  replace q2 := cell_later hb q2
  replace q3 := cell_later hb q3
  replace q4 := cell_later hb q4
  replace yq1 := cell_lt q1
  replace yq3 := cell_lt q3
  replace hbase := baseB0 hbase hb
  clear hb
  go_wp2_with fail
  refine wp_region_rel (fun i v w' => match i with
      | 0 => v = .agg #[.int .i64 x0.1, .slice sb3 x0.2.length sd3]
      | 1 => v = .agg #[.int .i64 x0.1, .slice sa0 x0.2.length sc0]
      | 2 => rLattice.own w6.heap.size w'.heap.size w' v x0
      | 3 => v = .bool true
      | _ => v = .bool false) (by kernel_rfl) (by kernel_rfl) (by kernel_rfl) (by kernel_rfl) ?_ ?_ ?_
  · intro i v w w' h hb
    match i, h with
    | 0, h => exact h
    | 1, h => exact h
    | 2, h => exact rLattice.own_now h hb
    | 3, h => exact h
    | (m + 4), h => exact h
  · refine ⟨?_, ?_, ?_, ?_, ?_, trivial⟩
    · intro ρ w' hbw ht hcs hfn hgl hdep
      refine ⟨fun _ => ?_, fun h => by cases h⟩
      have s8 : ρ (.tmp 8) = .pointer (some ⟨w4.heap.size, 0, none⟩) := ht 8 rfl
      have c0 := cell_later hbw q3
      have c1 := cell_later hbw q4
      clear ht hdep
      go_simp
      exact ⟨Below.refl _ _, rfl⟩
    · intro ρ w' hbw ht hcs hfn hgl hdep
      refine ⟨fun _ => ?_, fun h => by cases h⟩
      have s2 : ρ (.tmp 2) = .pointer (some ⟨w.heap.size, 0, none⟩) := ht 2 rfl
      have c0 := cell_later hbw q1
      have c1 := cell_later hbw q2
      clear ht hdep
      go_simp
      exact ⟨Below.refl _ _, rfl⟩
    · intro ρ w' hbw ht hcs hfn hgl hdep
      refine ⟨fun _ => ?_, fun h => by cases h⟩
      have s46 : ρ (.tmp 46) = .agg #[.int .i64 x0.1, .slice sa0 x0.2.length sc0] := hdep ⟨1, .data⟩ (by simp) rfl 46 rfl
      clear ht hdep
      go_simp
      exact (toLattice_any _ x0 w' (rLattice.at_below a0 hbw) ok_x0).mono fun e w'' ⟨u, he, ho, hb⟩ => ⟨_, he, hb, rLattice.own_mono ho hbw.size (Nat.le_refl _)⟩
    · intro ρ w' hbw ht hcs hfn hgl hdep
      refine ⟨fun _ => ?_, fun h => by cases h⟩
      have s45 : ρ (.tmp 45) = .agg #[.int .i64 x0.1, .slice sb3 x0.2.length sd3] := hdep ⟨0, .data⟩ (by simp) rfl 45 rfl
      have o47 := hdep ⟨2, .data⟩ (by simp) rfl 47 rfl
      clear ht hdep
      go_simp
      exact (eqLattice_any _ _ x0 w' (rLattice.own_at (rLattice.own_below o3 hbw)) (rLattice.own_at o47)).mono fun e w'' ⟨he, hb⟩ => ⟨_, he, hb, rfl⟩
    · intro ρ w' hbw ht hcs hfn hgl hdep
      refine ⟨fun _ => ?_, fun h => by cases h⟩
      have s48 : ρ (.tmp 48) = .bool true := hdep ⟨3, .data⟩ (by simp) rfl 48 rfl
      clear ht hdep
      go_simp
      exact ⟨Below.refl _ _, rfl⟩
  · intro x w7 hb hx
    have hx0 : x 0 = .agg #[.int .i64 x0.1, .slice sb3 x0.2.length sd3] := hx 0 (by simp)
    have hx1 : x 1 = .agg #[.int .i64 x0.1, .slice sa0 x0.2.length sc0] := hx 1 (by simp)
    have hx2 := hx 2 (by simp)
    have hx3 : x 3 = .bool true := hx 3 (by simp)
    have hx4 : x 4 = .bool false := hx 4 (by simp)
    clear hx
    have z7 : w6.heap.size + 0 ≤ w7.heap.size := by have := hb.size; (try simp at this); omega
    replace a0 := rLattice.at_below a0 hb
    replace o1 := rLattice.own_below o1 hb
    replace o2 := rReadingS.own_below o2 hb
    replace o3 := rLattice.own_below o3 hb
    replace o4 := rReadingS.own_below o4 hb
    replace q1 := cell_later hb q1
    replace q2 := cell_later hb q2
    replace q3 := cell_later hb q3
    replace q4 := cell_later hb q4
    replace yq1 := cell_lt q1
    replace yq3 := cell_lt q3
    replace hbase := baseB0 hbase hb
    clear hb
    simp only [putAll, Act.put, List.setIfInBounds_toArray, List.set_cons_succ, List.set_cons_zero, Nat.zero_add, Nat.reduceAdd, hx0, hx1, hx3, hx4]
    generalize x 2 = k10_2 at *
    clear hx0 hx1 hx3 hx4
    have o5 := hx2
    clear hx2
    obtain ⟨sb5, sd5, hsh5⟩ := shapeLattice (rLattice.own_at o5)
    subst hsh5
    go_wp2_with fail
    refine (markLattice_any _ x0 _ _ (1) _ o3 ok_x0 (by omega) (by omega)).mono ?_
    rintro e w8 ⟨rfl, o3n, hc, hty⟩
    have z8 : w7.heap.size + 0 ≤ w8.heap.size := by have := hc.size; (try simp at this); omega
    replace a0 := rLattice.at_chg a0 hc (by first | (left; omega) | (right; omega))
    replace o1 := rLattice.own_chg o1 hc (by first | (left; omega) | (right; omega))
    replace o2 := rReadingS.own_chg o2 hc (by first | (left; omega) | (right; omega))
    replace o4 := rReadingS.own_chg o4 hc (by first | (left; omega) | (right; omega))
    replace o5 := rLattice.own_chg o5 hc (by first | (left; omega) | (right; omega))
    replace q1 := chg_cell hc q1 (by first | (left; omega) | (right; omega))
    replace q2 := chg_cell hc q2 (by first | (left; omega) | (right; omega))
    replace q3 := chg_cell hc q3 (by first | (left; omega) | (right; omega))
    replace q4 := chg_cell hc q4 (by first | (left; omega) | (right; omega))
    replace yq1 := cell_lt q1
    replace yq3 := cell_lt q3
    replace hbase := below_chg hbase hc (by omega)
    clear hc
    clear hty
    clear o3
    have o3 := o3n
    clear o3n
    have cn8 : 0 ≤ cntLattice x0 ∧ cntLattice x0 ≤ 10000000 := cntLattice_bd ok_x0
    go_wp2_with fail
    refine (eqReadingSR_any _ _ (brL x0 n1) _ (rReadingS.own_at o4) (rReadingS.own_at o2)).mono ?_
    rintro e w9 ⟨rfl, hb⟩
    have z9 : w8.heap.size + 0 ≤ w9.heap.size := by have := hb.size; (try simp at this); omega
    replace a0 := rLattice.at_below a0 hb
    replace o1 := rLattice.own_below o1 hb
    replace o2 := rReadingS.own_below o2 hb
    replace o3 := rLattice.own_below o3 hb
    replace o4 := rReadingS.own_below o4 hb
    replace o5 := rLattice.own_below o5 hb
    replace q1 := cell_later hb q1
    replace q2 := cell_later hb q2
    replace q3 := cell_later hb q3
    replace q4 := cell_later hb q4
    replace yq1 := cell_lt q1
    replace yq3 := cell_lt q3
    replace hbase := baseB0 hbase hb
    clear hb
    go_wp2_with fail
    refine (markReadingSR_any _ (brL x0 n1) _ _ (1) _ o4 okBr (by omega) (by omega)).mono ?_
    rintro e w10 ⟨rfl, o4n, hc, hty⟩
    have z10 : w9.heap.size + 0 ≤ w10.heap.size := by have := hc.size; (try simp at this); omega
    replace a0 := rLattice.at_chg a0 hc (by first | (left; omega) | (right; omega))
    replace o1 := rLattice.own_chg o1 hc (by first | (left; omega) | (right; omega))
    replace o2 := rReadingS.own_chg o2 hc (by first | (left; omega) | (right; omega))
    replace o3 := rLattice.own_chg o3 hc (by first | (left; omega) | (right; omega))
    replace o5 := rLattice.own_chg o5 hc (by first | (left; omega) | (right; omega))
    replace q1 := chg_cell hc q1 (by first | (left; omega) | (right; omega))
    replace q2 := chg_cell hc q2 (by first | (left; omega) | (right; omega))
    replace q3 := chg_cell hc q3 (by first | (left; omega) | (right; omega))
    replace q4 := chg_cell hc q4 (by first | (left; omega) | (right; omega))
    replace yq1 := cell_lt q1
    replace yq3 := cell_lt q3
    replace hbase := below_chg hbase hc (by omega)
    clear hc
    clear hty
    clear o4
    have o4 := o4n
    clear o4n
    have cn10 : 0 ≤ cntReadingS (brL x0 n1) ∧ cntReadingS (brL x0 n1) ≤ 10000000 := cntReadingS_bd okBr
    go_wp2_with fail
    refine (heldReadingSR_any _ (brL x0 n1) (1) _ (rReadingS.own_at o4) okBr (by omega) (by omega)).mono ?_
    rintro e w11 ⟨rfl, hb⟩
    have z11 : w10.heap.size + 0 ≤ w11.heap.size := by have := hb.size; (try simp at this); omega
    replace a0 := rLattice.at_below a0 hb
    replace o1 := rLattice.own_below o1 hb
    replace o2 := rReadingS.own_below o2 hb
    replace o3 := rLattice.own_below o3 hb
    replace o4 := rReadingS.own_below o4 hb
    replace o5 := rLattice.own_below o5 hb
    replace q1 := cell_later hb q1
    replace q2 := cell_later hb q2
    replace q3 := cell_later hb q3
    replace q4 := cell_later hb q4
    replace yq1 := cell_lt q1
    replace yq3 := cell_lt q3
    replace hbase := baseB0 hbase hb
    clear hb
    go_wp2_with fail
    refine (toLattice_any _ x0 _ a0 ok_x0).mono ?_
    rintro e w12 ⟨u6, rfl, o6, hb⟩
    obtain ⟨sb6, sd6, rfl⟩ := shapeLattice (rLattice.own_at o6)
    have z12 : w11.heap.size + 0 ≤ w12.heap.size := by have := hb.size; (try simp at this); omega
    replace a0 := rLattice.at_below a0 hb
    replace o1 := rLattice.own_below o1 hb
    replace o2 := rReadingS.own_below o2 hb
    replace o3 := rLattice.own_below o3 hb
    replace o4 := rReadingS.own_below o4 hb
    replace o5 := rLattice.own_below o5 hb
    replace q1 := cell_later hb q1
    replace q2 := cell_later hb q2
    replace q3 := cell_later hb q3
    replace q4 := cell_later hb q4
    replace yq1 := cell_lt q1
    replace yq3 := cell_lt q3
    replace hbase := baseB0 hbase hb
    clear hb
    go_wp2_with fail
    refine (implBestReadings_any _ x0 n1 _ (rLattice.own_at o6) ok_x0 g0).mono ?_
    rintro e w13 ⟨u7, rfl, o7, hb⟩
    obtain ⟨sb7, sd7, rfl⟩ := shapeReadingS (rReadingS.own_at o7)
    have z13 : w12.heap.size + 0 ≤ w13.heap.size := by have := hb.size; (try simp at this); omega
    replace a0 := rLattice.at_below a0 hb
    replace o1 := rLattice.own_below o1 hb
    replace o2 := rReadingS.own_below o2 hb
    replace o3 := rLattice.own_below o3 hb
    replace o4 := rReadingS.own_below o4 hb
    replace o5 := rLattice.own_below o5 hb
    replace o6 := rLattice.own_below o6 hb
    replace q1 := cell_later hb q1
    replace q2 := cell_later hb q2
    replace q3 := cell_later hb q3
    replace q4 := cell_later hb q4
    replace yq1 := cell_lt q1
    replace yq3 := cell_lt q3
    replace hbase := baseB0 hbase hb
    clear hb
    go_wp2_with fail
    refine (eqReadingSR_any _ _ (brL x0 n1) _ (rReadingS.own_at o7) (rReadingS.own_at o2)).mono ?_
    rintro e w14 ⟨rfl, hb⟩
    have z14 : w13.heap.size + 0 ≤ w14.heap.size := by have := hb.size; (try simp at this); omega
    replace a0 := rLattice.at_below a0 hb
    replace o1 := rLattice.own_below o1 hb
    replace o2 := rReadingS.own_below o2 hb
    replace o3 := rLattice.own_below o3 hb
    replace o4 := rReadingS.own_below o4 hb
    replace o5 := rLattice.own_below o5 hb
    replace o6 := rLattice.own_below o6 hb
    replace o7 := rReadingS.own_below o7 hb
    replace q1 := cell_later hb q1
    replace q2 := cell_later hb q2
    replace q3 := cell_later hb q3
    replace q4 := cell_later hb q4
    replace yq1 := cell_lt q1
    replace yq3 := cell_lt q3
    replace hbase := baseB0 hbase hb
    clear hb
    go_wp2_with fail
    refine (heldReadingSR_any _ (brL x0 n1) (1) _ (rReadingS.own_at o4) okBr (by omega) (by omega)).mono ?_
    rintro e w15 ⟨rfl, hb⟩
    have z15 : w14.heap.size + 0 ≤ w15.heap.size := by have := hb.size; (try simp at this); omega
    replace a0 := rLattice.at_below a0 hb
    replace o1 := rLattice.own_below o1 hb
    replace o2 := rReadingS.own_below o2 hb
    replace o3 := rLattice.own_below o3 hb
    replace o4 := rReadingS.own_below o4 hb
    replace o5 := rLattice.own_below o5 hb
    replace o6 := rLattice.own_below o6 hb
    replace o7 := rReadingS.own_below o7 hb
    replace q1 := cell_later hb q1
    replace q2 := cell_later hb q2
    replace q3 := cell_later hb q3
    replace q4 := cell_later hb q4
    replace yq1 := cell_lt q1
    replace yq3 := cell_lt q3
    replace hbase := baseB0 hbase hb
    clear hb
    go_wp2_with fail
    go_ret
    exact ret_bool rfl hbase
end Go.Proofs.Ytnhmailnnggmjaa
