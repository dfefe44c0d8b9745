/- The walk of the law FnExactTrainEpoch: for every argument it returns true and leaves what was there. -/
import Derived.Test.YtdifhnckhocmdabGreatReg
import Derived.Test.YtdifhnckhocmdabGreatRep
import Derived.Test.YtdifhnckhocmdabGreatWrPcp
import Derived.Test.YtdifhnckhocmdabGreatPcOpen
import Derived.Test.YtdifhnckhocmdabGreatPcOpenS
import Derived.Test.YtdifhnckhocmdabGreatPcSmpM
import Derived.Test.YtdifhnckhocmdabGreatPcAllI
import Derived.Test.YtdifhnckhocmdabGreatPcAllS
import Derived.Test.YtdifhnckhocmdabGreatPcBd
namespace Go.Proofs.YtdifhnckhocmdabGreat
open Go.RowKit

set_option maxHeartbeats 4000000 in
theorem lawTrainEpoch (v0 : Value) (x0 : XPerceptron) (v1 : Value) (x1 : XSampleS) (w : World) (a0 : rPerceptron.at_ 0 w.heap.size w v0 x0) (g0 : goodPerceptron x0) (a1 : rSampleS.at_ 0 w.heap.size w v1 x1) (g1 : goodSampleS x1) :
    Calls Tryz.prog 3 #[v0, v1] w (Ret (.bool true) w) := by
  obtain ⟨sa0, sc0, rfl⟩ := shapePerceptron a0
  obtain ⟨sa1, sc1, rfl⟩ := shapeSampleS a1
  have hbase : Below w.heap.size w w := Below.refl _ _
  go_enter Tryz.func3, Tryz.ntmps3
  go_wp2_with fail
  refine (szPerceptron_any _ x0 (1048576) _ (rPerceptron.at_alloc a0 _) g0 (by omega) (by omega)).mono ?_
  rintro e w1 ⟨rfl, hb⟩
  have z1 : w.heap.size + 1 ≤ w1.heap.size := by have := hb.size; (try simp at this); omega
  replace a0 := rPerceptron.at_below (rPerceptron.at_alloc a0 _) hb
  replace a1 := rSampleS.at_below (rSampleS.at_alloc a1 _) hb
  have q1 : w1.cell? ⟨w.heap.size, 0, none⟩ = some (.slice sa0.1 x0.1.length sc0.1) := cell_later hb (by simp)
  have q2 : w1.cell? ⟨w.heap.size, 1, none⟩ = some (.slice sa0.2 x0.2.length sc0.2) := cell_later hb (by simp)
  have yq1 := cell_lt q1
  replace hbase := baseB1 hbase hb
  clear hb
  by_cases hszx0 : (1048576 : Int) < (sizePerceptron x0 : Nat)
  · rw [szOf_neg hszx0]
    go_wp2_with fail
    go_ret
    exact ret_bool rfl hbase
  rw [szOf_pos (by omega)]
  have ok_x0 : okPerceptron x0 := okPerceptron_of (by omega)
  go_wp2_with fail
  refine (szSampleS_any _ x1 (1048576 - (sizePerceptron x0 : Nat)) _ a1 g1 (by omega) (by omega)).mono ?_
  rintro e w2 ⟨rfl, hb⟩
  have z2 : w1.heap.size + 0 ≤ w2.heap.size := by have := hb.size; (try simp at this); omega
  replace a0 := rPerceptron.at_below a0 hb
  replace a1 := rSampleS.at_below a1 hb
  replace q1 := cell_later hb q1
  replace q2 := cell_later hb q2
  replace yq1 := cell_lt q1
  replace hbase := baseB0 hbase hb
  clear hb
  by_cases hszx1 : (1048576 - (sizePerceptron x0 : Nat) : Int) < (sizeSampleS x1 : Nat)
  · rw [szOf_neg hszx1]
    go_wp2_with fail
    go_ret
    exact ret_bool rfl hbase
  rw [szOf_pos (by omega)]
  have ok_x1 : okSampleS x1 := okSampleS_of (by omega)
  go_wp2_with fail
  refine (toPerceptron_any _ x0 _ a0 ok_x0).mono ?_
  rintro e w3 ⟨u1, rfl, o1, hb⟩
  obtain ⟨sb1, sd1, rfl⟩ := shapePerceptron (rPerceptron.own_at o1)
  have z3 : w2.heap.size + 0 ≤ w3.heap.size := by have := hb.size; (try simp at this); omega
  replace a0 := rPerceptron.at_below a0 hb
  replace a1 := rSampleS.at_below a1 hb
  replace q1 := cell_later hb q1
  replace q2 := cell_later hb q2
  replace yq1 := cell_lt q1
  replace hbase := baseB0 hbase hb
  clear hb
  go_wp2_with fail
  refine (toSampleS_any _ x1 _ a1 ok_x1).mono ?_
  rintro e w4 ⟨u2, rfl, o2, hb⟩
  obtain ⟨sb2, sd2, rfl⟩ := shapeSampleS (rSampleS.own_at o2)
  have z4 : w3.heap.size + 0 ≤ w4.heap.size := by have := hb.size; (try simp at this); omega
  replace a0 := rPerceptron.at_below a0 hb
  replace a1 := rSampleS.at_below a1 hb
  replace o1 := rPerceptron.own_below o1 hb
  replace q1 := cell_later hb q1
  replace q2 := cell_later hb q2
  replace yq1 := cell_lt q1
  replace hbase := baseB0 hbase hb
  clear hb
  go_wp2_with fail
  refine (specTrainEpoch_any _ x0 _ x1 _ (rPerceptron.own_at o1) (rSampleS.own_at o2) ok_x0 ok_x1 g0 g1).mono ?_
  rintro e w5 ⟨u3, rfl, o3, hb⟩
  obtain ⟨sb3, sd3, rfl⟩ := shapePerceptron (rPerceptron.own_at o3)
  have z5 : w4.heap.size + 0 ≤ w5.heap.size := by have := hb.size; (try simp at this); omega
  replace a0 := rPerceptron.at_below a0 hb
  replace a1 := rSampleS.at_below a1 hb
  replace o1 := rPerceptron.own_below o1 hb
  replace o2 := rSampleS.own_below o2 hb
  replace q1 := cell_later hb q1
  replace q2 := cell_later hb q2
  replace yq1 := cell_lt q1
  replace hbase := baseB0 hbase hb
  clear hb
  go_wp2_with fail
  refine (toPerceptron_any _ x0 _ (rPerceptron.at_alloc a0 _) ok_x0).mono ?_
  rintro e w6 ⟨u4, rfl, o4, hb⟩
  obtain ⟨sb4, sd4, rfl⟩ := shapePerceptron (rPerceptron.own_at o4)
  replace o4 : rPerceptron.own (w5.heap.size + 1) w6.heap.size w6 _ _ := rPerceptron.own_mono o4 (by simp <;> omega) (Nat.le_refl _)
  have z6 : w5.heap.size + 1 ≤ w6.heap.size := by have := hb.size; (try simp at this); omega
  replace a0 := rPerceptron.at_below (rPerceptron.at_alloc a0 _) hb
  replace a1 := rSampleS.at_below (rSampleS.at_alloc a1 _) hb
  replace o1 := rPerceptron.own_below (rPerceptron.own_alloc o1 _) hb
  replace o2 := rSampleS.own_below (rSampleS.own_alloc o2 _) hb
  replace o3 := rPerceptron.own_below (rPerceptron.own_alloc o3 _) hb
  replace q1 := cell_later hb (cell_alloc q1 _)
  replace q2 := cell_later hb (cell_alloc q2 _)
  have q3 : w6.cell? ⟨w5.heap.size, 0, none⟩ = some (.slice sb3.1 (epX x0 x1).1.length sd3.1) := cell_later hb (by simp)
  have q4 : w6.cell? ⟨w5.heap.size, 1, none⟩ = some (.slice sb3.2 (epX x0 x1).2.length sd3.2) := cell_later hb (by simp)
  replace yq1 := cell_lt q1
  have yq3 := cell_lt q3
  replace hbase := baseB1 hbase hb
  clear hb
  go_wp2_with fail
  refine (toSampleS_any _ x1 _ (rSampleS.at_alloc a1 _) ok_x1).mono ?_
  rintro e w7 ⟨u5, rfl, o5, hb⟩
  obtain ⟨sb5, sd5, rfl⟩ := shapeSampleS (rSampleS.own_at o5)
  replace o5 : rSampleS.own (w6.heap.size + 1) w7.heap.size w7 _ _ := rSampleS.own_mono o5 (by simp <;> omega) (Nat.le_refl _)
  have z7 : w6.heap.size + 1 ≤ w7.heap.size := by have := hb.size; (try simp at this); omega
  replace a0 := rPerceptron.at_below (rPerceptron.at_alloc a0 _) hb
  replace a1 := rSampleS.at_below (rSampleS.at_alloc a1 _) hb
  replace o1 := rPerceptron.own_below (rPerceptron.own_alloc o1 _) hb
  replace o2 := rSampleS.own_below (rSampleS.own_alloc o2 _) hb
  replace o3 := rPerceptron.own_below (rPerceptron.own_alloc o3 _) hb
  replace o4 := rPerceptron.own_below (rPerceptron.own_alloc o4 _) hb
  replace q1 := cell_later hb (cell_alloc q1 _)
  replace q2 := cell_later hb (cell_alloc q2 _)
  replace q3 := cell_later hb (cell_alloc q3 _)
  replace q4 := cell_later hb (cell_alloc q4 _)
  have q5 : w7.cell? ⟨w6.heap.size, 0, none⟩ = some (.slice sb4.1 x0.1.length sd4.1) := cell_later hb (by simp)
  have q6 : w7.cell? ⟨w6.heap.size, 1, none⟩ = some (.slice sb4.2 x0.2.length sd4.2) := cell_later hb (by simp)
  replace yq1 := cell_lt q1
  replace yq3 := cell_lt q3
  have yq5 := cell_lt q5
  replace hbase := baseB1 hbase hb
  clear hb
  go_wp2_with fail
  refine (implTrainEpoch_any _ x0 _ x1 _ (rPerceptron.own_at o4) (rSampleS.own_at o5) ok_x0 ok_x1 g0 g1).mono ?_
  rintro e w8 ⟨u6, rfl, o6, hb⟩
  obtain ⟨sb6, sd6, rfl⟩ := shapePerceptron (rPerceptron.own_at o6)
  have z8 : w7.heap.size + 0 ≤ w8.heap.size := by have := hb.size; (try simp at this); omega
  replace a0 := rPerceptron.at_below a0 hb
  replace a1 := rSampleS.at_below a1 hb
  replace o1 := rPerceptron.own_below o1 hb
  replace o2 := rSampleS.own_below o2 hb
  replace o3 := rPerceptron.own_below o3 hb
  replace o4 := rPerceptron.own_below o4 hb
  replace o5 := rSampleS.own_below o5 hb
  replace q1 := cell_later hb q1
  replace q2 := cell_later hb q2
  replace q3 := cell_later hb q3
  replace q4 := cell_later hb q4
  replace q5 := cell_later hb q5
  replace q6 := cell_later hb q6
  replace yq1 := cell_lt q1
  replace yq3 := cell_lt q3
  replace yq5 := cell_lt q5
  replace hbase := baseB0 hbase hb
  clear hb
  go_wp2_with fail
  refine (eqPerceptron_any _ _ (epX x0 x1) _ (rPerceptron.own_at (rPerceptron.own_alloc o6 _)) (rPerceptron.own_at (rPerceptron.own_alloc o3 _))).mono ?_
  rintro e w9 ⟨rfl, hb⟩
  have z9 : w8.heap.size + 1 ≤ w9.heap.size := by have := hb.size; (try simp at this); omega
  replace a0 := rPerceptron.at_below (rPerceptron.at_alloc a0 _) hb
  replace a1 := rSampleS.at_below (rSampleS.at_alloc a1 _) hb
  replace o1 := rPerceptron.own_below (rPerceptron.own_alloc o1 _) hb
  replace o2 := rSampleS.own_below (rSampleS.own_alloc o2 _) hb
  replace o3 := rPerceptron.own_below (rPerceptron.own_alloc o3 _) hb
  replace o4 := rPerceptron.own_below (rPerceptron.own_alloc o4 _) hb
  replace o5 := rSampleS.own_below (rSampleS.own_alloc o5 _) hb
  replace o6 := rPerceptron.own_below (rPerceptron.own_alloc o6 _) hb
  replace q1 := cell_later hb (cell_alloc q1 _)
  replace q2 := cell_later hb (cell_alloc q2 _)
  replace q3 := cell_later hb (cell_alloc q3 _)
  replace q4 := cell_later hb (cell_alloc q4 _)
  replace q5 := cell_later hb (cell_alloc q5 _)
  replace q6 := cell_later hb (cell_alloc q6 _)
  have q7 : w9.cell? ⟨w8.heap.size, 0, none⟩ = some (.slice sb6.1 (epX x0 x1).1.length sd6.1) := cell_later hb (by simp)
  have q8 : w9.cell? ⟨w8.heap.size, 1, none⟩ = some (.slice sb6.2 (epX x0 x1).2.length sd6.2) := cell_later hb (by simp)
  replace yq1 := cell_lt q1
  replace yq3 := cell_lt q3
  replace yq5 := cell_lt q5
  have yq7 := cell_lt q7
  replace hbase := baseB1 hbase hb
  clear hb
  go_wp2_with fail
  refine wp_region_rel (fun i v w' => match i with
      | 0 => v = .agg #[.slice sb4.1 x0.1.length sd4.1, .slice sb4.2 x0.2.length sd4.2]
      | 1 => v = .agg #[.slice sa0.1 x0.1.length sc0.1, .slice sa0.2 x0.2.length sc0.2]
      | 2 => rPerceptron.own w9.heap.size w'.heap.size w' v x0
      | 3 => v = .bool true
      | _ => v = .bool false) (by kernel_rfl) (by kernel_rfl) (by kernel_rfl) (by kernel_rfl) ?_ ?_ ?_
  · intro i v w w' h hb
    match i, h with
    | 0, h => exact h
    | 1, h => exact h
    | 2, h => exact rPerceptron.own_now h hb
    | 3, h => exact h
    | (m + 4), h => exact h
  · refine ⟨?_, ?_, ?_, ?_, ?_, trivial⟩
    · intro ρ w' hbw ht hcs hfn hgl hdep
      refine ⟨fun _ => ?_, fun h => by cases h⟩
      have s9 : ρ (.tmp 9) = .pointer (some ⟨w6.heap.size, 0, none⟩) := ht 9 rfl
      have c0 := cell_later hbw q5
      have c1 := cell_later hbw q6
      clear ht hdep
      go_simp
      exact ⟨Below.refl _ _, rfl⟩
    · intro ρ w' hbw ht hcs hfn hgl hdep
      refine ⟨fun _ => ?_, fun h => by cases h⟩
      have s2 : ρ (.tmp 2) = .pointer (some ⟨w.heap.size, 0, none⟩) := ht 2 rfl
      have c0 := cell_later hbw q1
      have c1 := cell_later hbw q2
      clear ht hdep
      go_simp
      exact ⟨Below.refl _ _, rfl⟩
    · intro ρ w' hbw ht hcs hfn hgl hdep
      refine ⟨fun _ => ?_, fun h => by cases h⟩
      have s65 : ρ (.tmp 65) = .agg #[.slice sa0.1 x0.1.length sc0.1, .slice sa0.2 x0.2.length sc0.2] := hdep ⟨1, .data⟩ (by simp) rfl 65 rfl
      clear ht hdep
      go_simp
      exact (toPerceptron_any _ x0 w' (rPerceptron.at_below a0 hbw) ok_x0).mono fun e w'' ⟨u, he, ho, hb⟩ => ⟨_, he, hb, rPerceptron.own_mono ho hbw.size (Nat.le_refl _)⟩
    · intro ρ w' hbw ht hcs hfn hgl hdep
      refine ⟨fun _ => ?_, fun h => by cases h⟩
      have s64 : ρ (.tmp 64) = .agg #[.slice sb4.1 x0.1.length sd4.1, .slice sb4.2 x0.2.length sd4.2] := hdep ⟨0, .data⟩ (by simp) rfl 64 rfl
      have o66 := hdep ⟨2, .data⟩ (by simp) rfl 66 rfl
      clear ht hdep
      go_simp
      exact (eqPerceptron_any _ _ x0 w' (rPerceptron.own_at (rPerceptron.own_below o4 hbw)) (rPerceptron.own_at o66)).mono fun e w'' ⟨he, hb⟩ => ⟨_, he, hb, rfl⟩
    · intro ρ w' hbw ht hcs hfn hgl hdep
      refine ⟨fun _ => ?_, fun h => by cases h⟩
      have s67 : ρ (.tmp 67) = .bool true := hdep ⟨3, .data⟩ (by simp) rfl 67 rfl
      clear ht hdep
      go_simp
      exact ⟨Below.refl _ _, rfl⟩
  · intro x w10 hb hx
    have hx0 : x 0 = .agg #[.slice sb4.1 x0.1.length sd4.1, .slice sb4.2 x0.2.length sd4.2] := hx 0 (by simp)
    have hx1 : x 1 = .agg #[.slice sa0.1 x0.1.length sc0.1, .slice sa0.2 x0.2.length sc0.2] := hx 1 (by simp)
    have hx2 := hx 2 (by simp)
    have hx3 : x 3 = .bool true := hx 3 (by simp)
    have hx4 : x 4 = .bool false := hx 4 (by simp)
    clear hx
    have z10 : w9.heap.size + 0 ≤ w10.heap.size := by have := hb.size; (try simp at this); omega
    replace a0 := rPerceptron.at_below a0 hb
    replace a1 := rSampleS.at_below a1 hb
    replace o1 := rPerceptron.own_below o1 hb
    replace o2 := rSampleS.own_below o2 hb
    replace o3 := rPerceptron.own_below o3 hb
    replace o4 := rPerceptron.own_below o4 hb
    replace o5 := rSampleS.own_below o5 hb
    replace o6 := rPerceptron.own_below o6 hb
    replace q1 := cell_later hb q1
    replace q2 := cell_later hb q2
    replace q3 := cell_later hb q3
    replace q4 := cell_later hb q4
    replace q5 := cell_later hb q5
    replace q6 := cell_later hb q6
    replace q7 := cell_later hb q7
    replace q8 := cell_later hb q8
    replace yq1 := cell_lt q1
    replace yq3 := cell_lt q3
    replace yq5 := cell_lt q5
    replace yq7 := cell_lt q7
    replace hbase := baseB0 hbase hb
    clear hb
    simp only [putAll, Act.put, List.setIfInBounds_toArray, List.set_cons_succ, List.set_cons_zero, Nat.zero_add, Nat.reduceAdd, hx0, hx1, hx3, hx4]
    generalize x 2 = k14_2 at *
    clear hx0 hx1 hx3 hx4
    have o7 := hx2
    clear hx2
    obtain ⟨sb7, sd7, hsh7⟩ := shapePerceptron (rPerceptron.own_at o7)
    subst hsh7
    go_wp2_with fail
    refine (toSampleS_any _ x1 _ a1 ok_x1).mono ?_
    rintro e w11 ⟨u8, rfl, o8, hb⟩
    obtain ⟨sb8, sd8, rfl⟩ := shapeSampleS (rSampleS.own_at o8)
    have z11 : w10.heap.size + 0 ≤ w11.heap.size := by have := hb.size; (try simp at this); omega
    replace a0 := rPerceptron.at_below a0 hb
    replace a1 := rSampleS.at_below a1 hb
    replace o1 := rPerceptron.own_below o1 hb
    replace o2 := rSampleS.own_below o2 hb
    replace o3 := rPerceptron.own_below o3 hb
    replace o4 := rPerceptron.own_below o4 hb
    replace o5 := rSampleS.own_below o5 hb
    replace o6 := rPerceptron.own_below o6 hb
    replace o7 := rPerceptron.own_below o7 hb
    replace q1 := cell_later hb q1
    replace q2 := cell_later hb q2
    replace q3 := cell_later hb q3
    replace q4 := cell_later hb q4
    replace q5 := cell_later hb q5
    replace q6 := cell_later hb q6
    replace q7 := cell_later hb q7
    replace q8 := cell_later hb q8
    replace yq1 := cell_lt q1
    replace yq3 := cell_lt q3
    replace yq5 := cell_lt q5
    replace yq7 := cell_lt q7
    replace hbase := baseB0 hbase hb
    clear hb
    go_wp2_with fail
    refine (eqSampleS_any _ _ x1 _ (rSampleS.own_at o5) (rSampleS.own_at o8)).mono ?_
    rintro e w12 ⟨rfl, hb⟩
    have z12 : w11.heap.size + 0 ≤ w12.heap.size := by have := hb.size; (try simp at this); omega
    replace a0 := rPerceptron.at_below a0 hb
    replace a1 := rSampleS.at_below a1 hb
    replace o1 := rPerceptron.own_below o1 hb
    replace o2 := rSampleS.own_below o2 hb
    replace o3 := rPerceptron.own_below o3 hb
    replace o4 := rPerceptron.own_below o4 hb
    replace o5 := rSampleS.own_below o5 hb
    replace o6 := rPerceptron.own_below o6 hb
    replace o7 := rPerceptron.own_below o7 hb
    replace o8 := rSampleS.own_below o8 hb
    replace q1 := cell_later hb q1
    replace q2 := cell_later hb q2
    replace q3 := cell_later hb q3
    replace q4 := cell_later hb q4
    replace q5 := cell_later hb q5
    replace q6 := cell_later hb q6
    replace q7 := cell_later hb q7
    replace q8 := cell_later hb q8
    replace yq1 := cell_lt q1
    replace yq3 := cell_lt q3
    replace yq5 := cell_lt q5
    replace yq7 := cell_lt q7
    replace hbase := baseB0 hbase hb
    clear hb
    go_wp2_with fail
    refine (markPerceptron_any _ x0 _ _ (1) _ o4 ok_x0 (by omega) (by omega)).mono ?_
    rintro e w13 ⟨rfl, o4n, hc, hty⟩
    have z13 : w12.heap.size + 0 ≤ w13.heap.size := by have := hc.size; (try simp at this); omega
    replace a0 := rPerceptron.at_chg a0 hc (by first | (left; omega) | (right; omega))
    replace a1 := rSampleS.at_chg a1 hc (by first | (left; omega) | (right; omega))
    replace o1 := rPerceptron.own_chg o1 hc (by first | (left; omega) | (right; omega))
    replace o2 := rSampleS.own_chg o2 hc (by first | (left; omega) | (right; omega))
    replace o3 := rPerceptron.own_chg o3 hc (by first | (left; omega) | (right; omega))
    replace o5 := rSampleS.own_chg o5 hc (by first | (left; omega) | (right; omega))
    replace o6 := rPerceptron.own_chg o6 hc (by first | (left; omega) | (right; omega))
    replace o7 := rPerceptron.own_chg o7 hc (by first | (left; omega) | (right; omega))
    replace o8 := rSampleS.own_chg o8 hc (by first | (left; omega) | (right; omega))
    replace q1 := chg_cell hc q1 (by first | (left; omega) | (right; omega))
    replace q2 := chg_cell hc q2 (by first | (left; omega) | (right; omega))
    replace q3 := chg_cell hc q3 (by first | (left; omega) | (right; omega))
    replace q4 := chg_cell hc q4 (by first | (left; omega) | (right; omega))
    replace q5 := chg_cell hc q5 (by first | (left; omega) | (right; omega))
    replace q6 := chg_cell hc q6 (by first | (left; omega) | (right; omega))
    replace q7 := chg_cell hc q7 (by first | (left; omega) | (right; omega))
    replace q8 := chg_cell hc q8 (by first | (left; omega) | (right; omega))
    replace yq1 := cell_lt q1
    replace yq3 := cell_lt q3
    replace yq5 := cell_lt q5
    replace yq7 := cell_lt q7
    replace hbase := below_chg hbase hc (by omega)
    clear hc
    clear hty
    clear o4
    have o4 := o4n
    clear o4n
    have cn13 : 0 ≤ cntPerceptron x0 ∧ cntPerceptron x0 ≤ 2200000 := cntPerceptron_bd2 ok_x0
    go_wp2_with fail
    refine (markSampleS_any _ x1 _ _ (1 + cntPerceptron x0) _ o5 ok_x1 (by omega) (by omega)).mono ?_
    rintro e w14 ⟨rfl, o5n, hc, hty⟩
    have z14 : w13.heap.size + 0 ≤ w14.heap.size := by have := hc.size; (try simp at this); omega
    replace a0 := rPerceptron.at_chg a0 hc (by first | (left; omega) | (right; omega))
    replace a1 := rSampleS.at_chg a1 hc (by first | (left; omega) | (right; omega))
    replace o1 := rPerceptron.own_chg o1 hc (by first | (left; omega) | (right; omega))
    replace o2 := rSampleS.own_chg o2 hc (by first | (left; omega) | (right; omega))
    replace o3 := rPerceptron.own_chg o3 hc (by first | (left; omega) | (right; omega))
    replace o4 := rPerceptron.own_chg o4 hc (by first | (left; omega) | (right; omega))
    replace o6 := rPerceptron.own_chg o6 hc (by first | (left; omega) | (right; omega))
    replace o7 := rPerceptron.own_chg o7 hc (by first | (left; omega) | (right; omega))
    replace o8 := rSampleS.own_chg o8 hc (by first | (left; omega) | (right; omega))
    replace q1 := chg_cell hc q1 (by first | (left; omega) | (right; omega))
    replace q2 := chg_cell hc q2 (by first | (left; omega) | (right; omega))
    replace q3 := chg_cell hc q3 (by first | (left; omega) | (right; omega))
    replace q4 := chg_cell hc q4 (by first | (left; omega) | (right; omega))
    replace q5 := chg_cell hc q5 (by first | (left; omega) | (right; omega))
    replace q6 := chg_cell hc q6 (by first | (left; omega) | (right; omega))
    replace q7 := chg_cell hc q7 (by first | (left; omega) | (right; omega))
    replace q8 := chg_cell hc q8 (by first | (left; omega) | (right; omega))
    replace yq1 := cell_lt q1
    replace yq3 := cell_lt q3
    replace yq5 := cell_lt q5
    replace yq7 := cell_lt q7
    replace hbase := below_chg hbase hc (by omega)
    clear hc
    clear hty
    clear o5
    have o5 := o5n
    clear o5n
    have cn14 : 0 ≤ cntSampleS x1 ∧ cntSampleS x1 ≤ 3200000 := cntSampleS_bd2 ok_x1
    go_wp2_with fail
    refine (eqPerceptron_any _ _ (epX x0 x1) _ (rPerceptron.own_at o6) (rPerceptron.own_at o3)).mono ?_
    rintro e w15 ⟨rfl, hb⟩
    have z15 : w14.heap.size + 0 ≤ w15.heap.size := by have := hb.size; (try simp at this); omega
    replace a0 := rPerceptron.at_below a0 hb
    replace a1 := rSampleS.at_below a1 hb
    replace o1 := rPerceptron.own_below o1 hb
    replace o2 := rSampleS.own_below o2 hb
    replace o3 := rPerceptron.own_below o3 hb
    replace o4 := rPerceptron.own_below o4 hb
    replace o5 := rSampleS.own_below o5 hb
    replace o6 := rPerceptron.own_below o6 hb
    replace o7 := rPerceptron.own_below o7 hb
    replace o8 := rSampleS.own_below o8 hb
    replace q1 := cell_later hb q1
    replace q2 := cell_later hb q2
    replace q3 := cell_later hb q3
    replace q4 := cell_later hb q4
    replace q5 := cell_later hb q5
    replace q6 := cell_later hb q6
    replace q7 := cell_later hb q7
    replace q8 := cell_later hb q8
    replace yq1 := cell_lt q1
    replace yq3 := cell_lt q3
    replace yq5 := cell_lt q5
    replace yq7 := cell_lt q7
    replace hbase := baseB0 hbase hb
    clear hb
    go_wp2_with fail
    refine (markPerceptron_any _ (epX x0 x1) _ _ (1) _ o6 (okEp x0 x1) (by omega) (by omega)).mono ?_
    rintro e w16 ⟨rfl, o6n, hc, hty⟩
    have z16 : w15.heap.size + 0 ≤ w16.heap.size := by have := hc.size; (try simp at this); omega
    replace a0 := rPerceptron.at_chg a0 hc (by first | (left; omega) | (right; omega))
    replace a1 := rSampleS.at_chg a1 hc (by first | (left; omega) | (right; omega))
    replace o1 := rPerceptron.own_chg o1 hc (by first | (left; omega) | (right; omega))
    replace o2 := rSampleS.own_chg o2 hc (by first | (left; omega) | (right; omega))
    replace o3 := rPerceptron.own_chg o3 hc (by first | (left; omega) | (right; omega))
    replace o4 := rPerceptron.own_chg o4 hc (by first | (left; omega) | (right; omega))
    replace o5 := rSampleS.own_chg o5 hc (by first | (left; omega) | (right; omega))
    replace o7 := rPerceptron.own_chg o7 hc (by first | (left; omega) | (right; omega))
    replace o8 := rSampleS.own_chg o8 hc (by first | (left; omega) | (right; omega))
    replace q1 := chg_cell hc q1 (by first | (left; omega) | (right; omega))
    replace q2 := chg_cell hc q2 (by first | (left; omega) | (right; omega))
    replace q3 := chg_cell hc q3 (by first | (left; omega) | (right; omega))
    replace q4 := chg_cell hc q4 (by first | (left; omega) | (right; omega))
    replace q5 := chg_cell hc q5 (by first | (left; omega) | (right; omega))
    replace q6 := chg_cell hc q6 (by first | (left; omega) | (right; omega))
    replace q7 := chg_cell hc q7 (by first | (left; omega) | (right; omega))
    replace q8 := chg_cell hc q8 (by first | (left; omega) | (right; omega))
    replace yq1 := cell_lt q1
    replace yq3 := cell_lt q3
    replace yq5 := cell_lt q5
    replace yq7 := cell_lt q7
    replace hbase := below_chg hbase hc (by omega)
    clear hc
    clear hty
    clear o6
    have o6 := o6n
    clear o6n
    have cn16 : 0 ≤ cntPerceptron (epX x0 x1) ∧ cntPerceptron (epX x0 x1) ≤ 2200000 := cntPerceptron_bd2 (okEp x0 x1)
    go_wp2_with fail
    refine (heldPerceptron_any _ (epX x0 x1) (1) _ (rPerceptron.own_at o6) (okEp x0 x1) (by omega) (by omega)).mono ?_
    rintro e w17 ⟨rfl, hb⟩
    have z17 : w16.heap.size + 0 ≤ w17.heap.size := by have := hb.size; (try simp at this); omega
    replace a0 := rPerceptron.at_below a0 hb
    replace a1 := rSampleS.at_below a1 hb
    replace o1 := rPerceptron.own_below o1 hb
    replace o2 := rSampleS.own_below o2 hb
    replace o3 := rPerceptron.own_below o3 hb
    replace o4 := rPerceptron.own_below o4 hb
    replace o5 := rSampleS.own_below o5 hb
    replace o6 := rPerceptron.own_below o6 hb
    replace o7 := rPerceptron.own_below o7 hb
    replace o8 := rSampleS.own_below o8 hb
    replace q1 := cell_later hb q1
    replace q2 := cell_later hb q2
    replace q3 := cell_later hb q3
    replace q4 := cell_later hb q4
    replace q5 := cell_later hb q5
    replace q6 := cell_later hb q6
    replace q7 := cell_later hb q7
    replace q8 := cell_later hb q8
    replace yq1 := cell_lt q1
    replace yq3 := cell_lt q3
    replace yq5 := cell_lt q5
    replace yq7 := cell_lt q7
    replace hbase := baseB0 hbase hb
    clear hb
    go_wp2_with fail
    refine (toPerceptron_any _ x0 _ a0 ok_x0).mono ?_
    rintro e w18 ⟨u9, rfl, o9, hb⟩
    obtain ⟨sb9, sd9, rfl⟩ := shapePerceptron (rPerceptron.own_at o9)
    have z18 : w17.heap.size + 0 ≤ w18.heap.size := by have := hb.size; (try simp at this); omega
    replace a0 := rPerceptron.at_below a0 hb
    replace a1 := rSampleS.at_below a1 hb
    replace o1 := rPerceptron.own_below o1 hb
    replace o2 := rSampleS.own_below o2 hb
    replace o3 := rPerceptron.own_below o3 hb
    replace o4 := rPerceptron.own_below o4 hb
    replace o5 := rSampleS.own_below o5 hb
    replace o6 := rPerceptron.own_below o6 hb
    replace o7 := rPerceptron.own_below o7 hb
    replace o8 := rSampleS.own_below o8 hb
    replace q1 := cell_later hb q1
    replace q2 := cell_later hb q2
    replace q3 := cell_later hb q3
    replace q4 := cell_later hb q4
    replace q5 := cell_later hb q5
    replace q6 := cell_later hb q6
    replace q7 := cell_later hb q7
    replace q8 := cell_later hb q8
    replace yq1 := cell_lt q1
    replace yq3 := cell_lt q3
    replace yq5 := cell_lt q5
    replace yq7 := cell_lt q7
    replace hbase := baseB0 hbase hb
    clear hb
    go_wp2_with fail
    refine (toSampleS_any _ x1 _ a1 ok_x1).mono ?_
    rintro e w19 ⟨u10, rfl, o10, hb⟩
    obtain ⟨sb10, sd10, rfl⟩ := shapeSampleS (rSampleS.own_at o10)
    have z19 : w18.heap.size + 0 ≤ w19.heap.size := by have := hb.size; (try simp at this); omega
    replace a0 := rPerceptron.at_below a0 hb
    replace a1 := rSampleS.at_below a1 hb
    replace o1 := rPerceptron.own_below o1 hb
    replace o2 := rSampleS.own_below o2 hb
    replace o3 := rPerceptron.own_below o3 hb
    replace o4 := rPerceptron.own_below o4 hb
    replace o5 := rSampleS.own_below o5 hb
    replace o6 := rPerceptron.own_below o6 hb
    replace o7 := rPerceptron.own_below o7 hb
    replace o8 := rSampleS.own_below o8 hb
    replace o9 := rPerceptron.own_below o9 hb
    replace q1 := cell_later hb q1
    replace q2 := cell_later hb q2
    replace q3 := cell_later hb q3
    replace q4 := cell_later hb q4
    replace q5 := cell_later hb q5
    replace q6 := cell_later hb q6
    replace q7 := cell_later hb q7
    replace q8 := cell_later hb q8
    replace yq1 := cell_lt q1
    replace yq3 := cell_lt q3
    replace yq5 := cell_lt q5
    replace yq7 := cell_lt q7
    replace hbase := baseB0 hbase hb
    clear hb
    go_wp2_with fail
    refine (implTrainEpoch_any _ x0 _ x1 _ (rPerceptron.own_at o9) (rSampleS.own_at o10) ok_x0 ok_x1 g0 g1).mono ?_
    rintro e w20 ⟨u11, rfl, o11, hb⟩
    obtain ⟨sb11, sd11, rfl⟩ := shapePerceptron (rPerceptron.own_at o11)
    have z20 : w19.heap.size + 0 ≤ w20.heap.size := by have := hb.size; (try simp at this); omega
    replace a0 := rPerceptron.at_below a0 hb
    replace a1 := rSampleS.at_below a1 hb
    replace o1 := rPerceptron.own_below o1 hb
    replace o2 := rSampleS.own_below o2 hb
    replace o3 := rPerceptron.own_below o3 hb
    replace o4 := rPerceptron.own_below o4 hb
    replace o5 := rSampleS.own_below o5 hb
    replace o6 := rPerceptron.own_below o6 hb
    replace o7 := rPerceptron.own_below o7 hb
    replace o8 := rSampleS.own_below o8 hb
    replace o9 := rPerceptron.own_below o9 hb
    replace o10 := rSampleS.own_below o10 hb
    replace q1 := cell_later hb q1
    replace q2 := cell_later hb q2
    replace q3 := cell_later hb q3
    replace q4 := cell_later hb q4
    replace q5 := cell_later hb q5
    replace q6 := cell_later hb q6
    replace q7 := cell_later hb q7
    replace q8 := cell_later hb q8
    replace yq1 := cell_lt q1
    replace yq3 := cell_lt q3
    replace yq5 := cell_lt q5
    replace yq7 := cell_lt q7
    replace hbase := baseB0 hbase hb
    clear hb
    go_wp2_with fail
    refine (eqPerceptron_any _ _ (epX x0 x1) _ (rPerceptron.own_at (rPerceptron.own_alloc o11 _)) (rPerceptron.own_at (rPerceptron.own_alloc o3 _))).mono ?_
    rintro e w21 ⟨rfl, hb⟩
    have z21 : w20.heap.size + 1 ≤ w21.heap.size := by have := hb.size; (try simp at this); omega
    replace a0 := rPerceptron.at_below (rPerceptron.at_alloc a0 _) hb
    replace a1 := rSampleS.at_below (rSampleS.at_alloc a1 _) hb
    replace o1 := rPerceptron.own_below (rPerceptron.own_alloc o1 _) hb
    replace o2 := rSampleS.own_below (rSampleS.own_alloc o2 _) hb
    replace o3 := rPerceptron.own_below (rPerceptron.own_alloc o3 _) hb
    replace o4 := rPerceptron.own_below (rPerceptron.own_alloc o4 _) hb
    replace o5 := rSampleS.own_below (rSampleS.own_alloc o5 _) hb
    replace o6 := rPerceptron.own_below (rPerceptron.own_alloc o6 _) hb
    replace o7 := rPerceptron.own_below (rPerceptron.own_alloc o7 _) hb
    replace o8 := rSampleS.own_below (rSampleS.own_alloc o8 _) hb
    replace o9 := rPerceptron.own_below (rPerceptron.own_alloc o9 _) hb
    replace o10 := rSampleS.own_below (rSampleS.own_alloc o10 _) hb
    replace o11 := rPerceptron.own_below (rPerceptron.own_alloc o11 _) hb
    replace q1 := cell_later hb (cell_alloc q1 _)
    replace q2 := cell_later hb (cell_alloc q2 _)
    replace q3 := cell_later hb (cell_alloc q3 _)
    replace q4 := cell_later hb (cell_alloc q4 _)
    replace q5 := cell_later hb (cell_alloc q5 _)
    replace q6 := cell_later hb (cell_alloc q6 _)
    replace q7 := cell_later hb (cell_alloc q7 _)
    replace q8 := cell_later hb (cell_alloc q8 _)
    have q9 : w21.cell? ⟨w20.heap.size, 0, none⟩ = some (.slice sb11.1 (epX x0 x1).1.length sd11.1) := cell_later hb (by simp)
    have q10 : w21.cell? ⟨w20.heap.size, 1, none⟩ = some (.slice sb11.2 (epX x0 x1).2.length sd11.2) := cell_later hb (by simp)
    replace yq1 := cell_lt q1
    replace yq3 := cell_lt q3
    replace yq5 := cell_lt q5
    replace yq7 := cell_lt q7
    have yq9 := cell_lt q9
    replace hbase := baseB1 hbase hb
    clear hb
    go_wp2_with fail
    refine (heldPerceptron_any _ (epX x0 x1) (1) _ (rPerceptron.own_at o6) (okEp x0 x1) (by omega) (by omega)).mono ?_
    rintro e w22 ⟨rfl, hb⟩
    have z22 : w21.heap.size + 0 ≤ w22.heap.size := by have := hb.size; (try simp at this); omega
    replace a0 := rPerceptron.at_below a0 hb
    replace a1 := rSampleS.at_below a1 hb
    replace o1 := rPerceptron.own_below o1 hb
    replace o2 := rSampleS.own_below o2 hb
    replace o3 := rPerceptron.own_below o3 hb
    replace o4 := rPerceptron.own_below o4 hb
    replace o5 := rSampleS.own_below o5 hb
    replace o6 := rPerceptron.own_below o6 hb
    replace o7 := rPerceptron.own_below o7 hb
    replace o8 := rSampleS.own_below o8 hb
    replace o9 := rPerceptron.own_below o9 hb
    replace o10 := rSampleS.own_below o10 hb
    replace o11 := rPerceptron.own_below o11 hb
    replace q1 := cell_later hb q1
    replace q2 := cell_later hb q2
    replace q3 := cell_later hb q3
    replace q4 := cell_later hb q4
    replace q5 := cell_later hb q5
    replace q6 := cell_later hb q6
    replace q7 := cell_later hb q7
    replace q8 := cell_later hb q8
    replace q9 := cell_later hb q9
    replace q10 := cell_later hb q10
    replace yq1 := cell_lt q1
    replace yq3 := cell_lt q3
    replace yq5 := cell_lt q5
    replace yq7 := cell_lt q7
    replace yq9 := cell_lt q9
    replace hbase := baseB0 hbase hb
    clear hb
    go_wp2_with fail
    go_ret
    exact ret_bool rfl hbase
end Go.Proofs.YtdifhnckhocmdabGreat
