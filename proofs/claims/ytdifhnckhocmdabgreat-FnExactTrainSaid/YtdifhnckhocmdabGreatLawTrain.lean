/- The walk of the law FnExactTrain: for every argument it returns true and leaves what was there. -/
import Derived.Test.YtdifhnckhocmdabGreatReg
import Derived.Test.YtdifhnckhocmdabGreatRep
import Derived.Test.YtdifhnckhocmdabGreatWrPcp
import Derived.Test.YtdifhnckhocmdabGreatPcOpen
import Derived.Test.YtdifhnckhocmdabGreatPcOpenS
import Derived.Test.YtdifhnckhocmdabGreatPcSmpM
import Derived.Test.YtdifhnckhocmdabGreatPcTrE
import Derived.Test.YtdifhnckhocmdabGreatPcBd
namespace Go.Proofs.YtdifhnckhocmdabGreat
open Go.RowKit

set_option maxRecDepth 100000 in
set_option maxHeartbeats 4000000 in
theorem lawTrain (v0 : Value) (x0 : XPerceptron) (v1 : Value) (x1 : XSampleS) (n2 : Int) (w : World) (a0 : rPerceptron.at_ 0 w.heap.size w v0 x0) (g0 : goodPerceptron x0) (a1 : rSampleS.at_ 0 w.heap.size w v1 x1) (g1 : goodSampleS x1) :
    Calls Tryz.prog 4 #[v0, v1, .int .i64 n2] w (Ret (.bool true) w) := by
  obtain ⟨sa0, sc0, rfl⟩ := shapePerceptron a0
  obtain ⟨sa1, sc1, rfl⟩ := shapeSampleS a1
  have hbase : Below w.heap.size w w := Below.refl _ _
  go_enter Tryz.func4, Tryz.ntmps4
  go_wp2_with fail
  refine (szPerceptron_any _ x0 (1048576) _ (rPerceptron.at_alloc a0 _) g0 (by omega) (by omega)).mono ?_
  rintro e w1 ⟨rfl, hb⟩
  have z1 : w.heap.size + 1 ≤ w1.heap.size := by have := hb.size; (try simp at this); omega
  replace a0 := rPerceptron.at_below (rPerceptron.at_alloc a0 _) hb
  replace a1 := rSampleS.at_below (rSampleS.at_alloc a1 _) hb
  have q1 : w1.cell? ⟨w.heap.size, 0, none⟩ = some (.slice sa0.1 x0.1.length sc0.1) := cell_later hb (by simp)
  have q2 : w1.cell? ⟨w.heap.size, 1, none⟩ = some (.slice sa0.2 x0.2.length sc0.2) := cell_later hb (by simp)
  have yq1 := cell_lt q1
  replace hbase := baseB1 hbase hb
  clear hb
  by_cases hszx0 : (1048576 : Int) < (sizePerceptron x0 : Nat)
  · rw [szOf_neg hszx0]
    go_wp2_with fail
    go_ret
    exact ret_bool rfl hbase
  rw [szOf_pos (by omega)]
  have ok_x0 : okPerceptron x0 := okPerceptron_of (by omega)
  go_wp2_with fail
  refine (szSampleS_any _ x1 (1048576 - (sizePerceptron x0 : Nat)) _ a1 g1 (by omega) (by omega)).mono ?_
  rintro e w2 ⟨rfl, hb⟩
  have z2 : w1.heap.size + 0 ≤ w2.heap.size := by have := hb.size; (try simp at this); omega
  replace a0 := rPerceptron.at_below a0 hb
  replace a1 := rSampleS.at_below a1 hb
  replace q1 := cell_later hb q1
  replace q2 := cell_later hb q2
  replace yq1 := cell_lt q1
  replace hbase := baseB0 hbase hb
  clear hb
  by_cases hszx1 : (1048576 - (sizePerceptron x0 : Nat) : Int) < (sizeSampleS x1 : Nat)
  · rw [szOf_neg hszx1]
    go_wp2_with fail
    go_ret
    exact ret_bool rfl hbase
  rw [szOf_pos (by omega)]
  have ok_x1 : okSampleS x1 := okSampleS_of (by omega)
  go_wp2_with fail
  refine (toPerceptron_any _ x0 _ a0 ok_x0).mono ?_
  rintro e w3 ⟨u1, rfl, o1, hb⟩
  obtain ⟨sb1, sd1, rfl⟩ := shapePerceptron (rPerceptron.own_at o1)
  have z3 : w2.heap.size + 0 ≤ w3.heap.size := by have := hb.size; (try simp at this); omega
  replace a0 := rPerceptron.at_below a0 hb
  replace a1 := rSampleS.at_below a1 hb
  replace q1 := cell_later hb q1
  replace q2 := cell_later hb q2
  replace yq1 := cell_lt q1
  replace hbase := baseB0 hbase hb
  clear hb
  go_wp2_with fail
  refine (toSampleS_any _ x1 _ a1 ok_x1).mono ?_
  rintro e w4 ⟨u2, rfl, o2, hb⟩
  obtain ⟨sb2, sd2, rfl⟩ := shapeSampleS (rSampleS.own_at o2)
  have z4 : w3.heap.size + 0 ≤ w4.heap.size := by have := hb.size; (try simp at this); omega
  replace a0 := rPerceptron.at_below a0 hb
  replace a1 := rSampleS.at_below a1 hb
  replace o1 := rPerceptron.own_below o1 hb
  replace q1 := cell_later hb q1
  replace q2 := cell_later hb q2
  replace yq1 := cell_lt q1
  replace hbase := baseB0 hbase hb
  clear hb
  go_wp2_with fail
  refine (specTrain_any _ x0 _ x1 n2 _ (rPerceptron.own_at o1) (rSampleS.own_at o2) ok_x0 ok_x1 g0 g1).mono ?_
  rintro e w5 ⟨u3, u4, rfl, t3, t4, hb⟩
  obtain ⟨sb3, sd3, rfl⟩ := shapePerceptron t3
  obtain ⟨sb4, sd4, rfl⟩ := shapeInt64S t4
  replace t3 : rPerceptron.at_ (w4.heap.size + 0) w5.heap.size w5 _ _ := rPerceptron.at_mono t3 (by simp <;> omega) (Nat.le_refl _)
  replace t4 : rInt64S.at_ (w4.heap.size + 0) w5.heap.size w5 _ _ := rInt64S.at_mono t4 (by simp <;> omega) (Nat.le_refl _)
  have z5 : w4.heap.size + 0 ≤ w5.heap.size := by have := hb.size; (try simp at this); omega
  replace a0 := rPerceptron.at_below a0 hb
  replace a1 := rSampleS.at_below a1 hb
  replace o1 := rPerceptron.own_below o1 hb
  replace o2 := rSampleS.own_below o2 hb
  replace q1 := cell_later hb q1
  replace q2 := cell_later hb q2
  replace yq1 := cell_lt q1
  replace hbase := baseB0 hbase hb
  clear hb
  go_wp2_with fail
  refine (toPerceptron_any _ x0 _ (rPerceptron.at_alloc a0 _) ok_x0).mono ?_
  rintro e w6 ⟨u5, rfl, o5, hb⟩
  obtain ⟨sb5, sd5, rfl⟩ := shapePerceptron (rPerceptron.own_at o5)
  replace o5 : rPerceptron.own (w5.heap.size + 1) w6.heap.size w6 _ _ := rPerceptron.own_mono o5 (by simp <;> omega) (Nat.le_refl _)
  have z6 : w5.heap.size + 1 ≤ w6.heap.size := by have := hb.size; (try simp at this); omega
  replace a0 := rPerceptron.at_below (rPerceptron.at_alloc a0 _) hb
  replace a1 := rSampleS.at_below (rSampleS.at_alloc a1 _) hb
  replace o1 := rPerceptron.own_below (rPerceptron.own_alloc o1 _) hb
  replace o2 := rSampleS.own_below (rSampleS.own_alloc o2 _) hb
  replace t3 := rPerceptron.at_below (rPerceptron.at_alloc t3 _) hb
  replace t4 := rInt64S.at_below (rInt64S.at_alloc t4 _) hb
  replace q1 := cell_later hb (cell_alloc q1 _)
  replace q2 := cell_later hb (cell_alloc q2 _)
  have q3 : w6.cell? ⟨w5.heap.size, 0, none⟩ = some (.slice sb3.1 (trX x0 x1 n2).1.length sd3.1) := cell_later hb (by simp)
  have q4 : w6.cell? ⟨w5.heap.size, 1, none⟩ = some (.slice sb3.2 (trX x0 x1 n2).2.length sd3.2) := cell_later hb (by simp)
  replace yq1 := cell_lt q1
  have yq3 := cell_lt q3
  replace hbase := baseB1 hbase hb
  clear hb
  go_wp2_with fail
  refine (toSampleS_any _ x1 _ (rSampleS.at_alloc a1 _) ok_x1).mono ?_
  rintro e w7 ⟨u6, rfl, o6, hb⟩
  obtain ⟨sb6, sd6, rfl⟩ := shapeSampleS (rSampleS.own_at o6)
  replace o6 : rSampleS.own (w6.heap.size + 1) w7.heap.size w7 _ _ := rSampleS.own_mono o6 (by simp <;> omega) (Nat.le_refl _)
  have z7 : w6.heap.size + 1 ≤ w7.heap.size := by have := hb.size; (try simp at this); omega
  replace a0 := rPerceptron.at_below (rPerceptron.at_alloc a0 _) hb
  replace a1 := rSampleS.at_below (rSampleS.at_alloc a1 _) hb
  replace o1 := rPerceptron.own_below (rPerceptron.own_alloc o1 _) hb
  replace o2 := rSampleS.own_below (rSampleS.own_alloc o2 _) hb
  replace t3 := rPerceptron.at_below (rPerceptron.at_alloc t3 _) hb
  replace t4 := rInt64S.at_below (rInt64S.at_alloc t4 _) hb
  replace o5 := rPerceptron.own_below (rPerceptron.own_alloc o5 _) hb
  replace q1 := cell_later hb (cell_alloc q1 _)
  replace q2 := cell_later hb (cell_alloc q2 _)
  replace q3 := cell_later hb (cell_alloc q3 _)
  replace q4 := cell_later hb (cell_alloc q4 _)
  have q5 : w7.cell? ⟨w6.heap.size, 0, none⟩ = some (.slice sb5.1 x0.1.length sd5.1) := cell_later hb (by simp)
  have q6 : w7.cell? ⟨w6.heap.size, 1, none⟩ = some (.slice sb5.2 x0.2.length sd5.2) := cell_later hb (by simp)
  replace yq1 := cell_lt q1
  replace yq3 := cell_lt q3
  have yq5 := cell_lt q5
  replace hbase := baseB1 hbase hb
  clear hb
  go_wp2_with fail
  refine (implTrain_any _ x0 _ x1 n2 _ (rPerceptron.own_at o5) (rSampleS.own_at o6) ok_x0 ok_x1 g0 g1).mono ?_
  rintro e w8 ⟨u7, u8, md7, rfl, o7, o8, hm1, hm2, hb⟩
  obtain ⟨sb7, sd7, rfl⟩ := shapePerceptron (rPerceptron.own_at o7)
  obtain ⟨sb8, sd8, rfl⟩ := shapeInt64S (rInt64S.own_at o8)
  have hM1 : w7.heap.size + 0 ≤ md7 := by (try simp at hm1); omega
  have hM2 : md7 ≤ w8.heap.size := hm2
  clear hm1 hm2
  replace o7 : rPerceptron.own (w7.heap.size + 0) md7 w8 _ _ := rPerceptron.own_mono o7 (by simp <;> omega) (Nat.le_refl _)
  have HM7 := hM1
  have HN7 := hM2
  clear hM1 hM2
  have z8 : w7.heap.size + 0 ≤ w8.heap.size := by have := hb.size; (try simp at this); omega
  replace a0 := rPerceptron.at_below a0 hb
  replace a1 := rSampleS.at_below a1 hb
  replace o1 := rPerceptron.own_below o1 hb
  replace o2 := rSampleS.own_below o2 hb
  replace t3 := rPerceptron.at_below t3 hb
  replace t4 := rInt64S.at_below t4 hb
  replace o5 := rPerceptron.own_below o5 hb
  replace o6 := rSampleS.own_below o6 hb
  replace q1 := cell_later hb q1
  replace q2 := cell_later hb q2
  replace q3 := cell_later hb q3
  replace q4 := cell_later hb q4
  replace q5 := cell_later hb q5
  replace q6 := cell_later hb q6
  replace yq1 := cell_lt q1
  replace yq3 := cell_lt q3
  replace yq5 := cell_lt q5
  replace hbase := baseB0 hbase hb
  clear hb
  go_wp2_with fail
  refine (eqPerceptron_any _ _ (trX x0 x1 n2) _ (rPerceptron.own_at (rPerceptron.own_alloc o7 _)) (rPerceptron.at_alloc t3 _)).mono ?_
  rintro e w9 ⟨rfl, hb⟩
  have z9 : w8.heap.size + 1 ≤ w9.heap.size := by have := hb.size; (try simp at this); omega
  replace a0 := rPerceptron.at_below (rPerceptron.at_alloc a0 _) hb
  replace a1 := rSampleS.at_below (rSampleS.at_alloc a1 _) hb
  replace o1 := rPerceptron.own_below (rPerceptron.own_alloc o1 _) hb
  replace o2 := rSampleS.own_below (rSampleS.own_alloc o2 _) hb
  replace t3 := rPerceptron.at_below (rPerceptron.at_alloc t3 _) hb
  replace t4 := rInt64S.at_below (rInt64S.at_alloc t4 _) hb
  replace o5 := rPerceptron.own_below (rPerceptron.own_alloc o5 _) hb
  replace o6 := rSampleS.own_below (rSampleS.own_alloc o6 _) hb
  replace o7 := rPerceptron.own_below (rPerceptron.own_alloc o7 _) hb
  replace o8 := rInt64S.own_below (rInt64S.own_alloc o8 _) hb
  replace q1 := cell_later hb (cell_alloc q1 _)
  replace q2 := cell_later hb (cell_alloc q2 _)
  replace q3 := cell_later hb (cell_alloc q3 _)
  replace q4 := cell_later hb (cell_alloc q4 _)
  replace q5 := cell_later hb (cell_alloc q5 _)
  replace q6 := cell_later hb (cell_alloc q6 _)
  have q7 : w9.cell? ⟨w8.heap.size, 0, none⟩ = some (.slice sb7.1 (trX x0 x1 n2).1.length sd7.1) := cell_later hb (by simp)
  have q8 : w9.cell? ⟨w8.heap.size, 1, none⟩ = some (.slice sb7.2 (trX x0 x1 n2).2.length sd7.2) := cell_later hb (by simp)
  replace yq1 := cell_lt q1
  replace yq3 := cell_lt q3
  replace yq5 := cell_lt q5
  have yq7 := cell_lt q7
  replace hbase := baseB1 hbase hb
  clear hb
  go_wp2_with fail
  refine (eqInt64SR_any _ _ (trL x0 x1 n2) _ (rInt64S.own_at o8) t4).mono ?_
  rintro e w10 ⟨rfl, hb⟩
  have z10 : w9.heap.size + 0 ≤ w10.heap.size := by have := hb.size; (try simp at this); omega
  replace a0 := rPerceptron.at_below a0 hb
  replace a1 := rSampleS.at_below a1 hb
  replace o1 := rPerceptron.own_below o1 hb
  replace o2 := rSampleS.own_below o2 hb
  replace t3 := rPerceptron.at_below t3 hb
  replace t4 := rInt64S.at_below t4 hb
  replace o5 := rPerceptron.own_below o5 hb
  replace o6 := rSampleS.own_below o6 hb
  replace o7 := rPerceptron.own_below o7 hb
  replace o8 := rInt64S.own_below o8 hb
  replace q1 := cell_later hb q1
  replace q2 := cell_later hb q2
  replace q3 := cell_later hb q3
  replace q4 := cell_later hb q4
  replace q5 := cell_later hb q5
  replace q6 := cell_later hb q6
  replace q7 := cell_later hb q7
  replace q8 := cell_later hb q8
  replace yq1 := cell_lt q1
  replace yq3 := cell_lt q3
  replace yq5 := cell_lt q5
  replace yq7 := cell_lt q7
  replace hbase := baseB0 hbase hb
  clear hb
  go_wp2_with fail
  refine wp_region_rel (fun i v w' => match i with
      | 0 => v = .agg #[.slice sb5.1 x0.1.length sd5.1, .slice sb5.2 x0.2.length sd5.2]
      | 1 => v = .agg #[.slice sa0.1 x0.1.length sc0.1, .slice sa0.2 x0.2.length sc0.2]
      | 2 => rPerceptron.own w10.heap.size w'.heap.size w' v x0
      | 3 => v = .bool true
      | _ => v = .bool false) (by kernel_rfl) (by kernel_rfl) (by kernel_rfl) (by kernel_rfl) ?_ ?_ ?_
  · intro i v w w' h hb
    match i, h with
    | 0, h => exact h
    | 1, h => exact h
    | 2, h => exact rPerceptron.own_now h hb
    | 3, h => exact h
    | (m + 4), h => exact h
  · refine ⟨?_, ?_, ?_, ?_, ?_, trivial⟩
    · intro ρ w' hbw ht hcs hfn hgl hdep
      refine ⟨fun _ => ?_, fun h => by cases h⟩
      have s11 : ρ (.tmp 11) = .pointer (some ⟨w6.heap.size, 0, none⟩) := ht 11 rfl
      have c0 := cell_later hbw q5
      have c1 := cell_later hbw q6
      clear ht hdep
      go_simp
      exact ⟨Below.refl _ _, rfl⟩
    · intro ρ w' hbw ht hcs hfn hgl hdep
      refine ⟨fun _ => ?_, fun h => by cases h⟩
      have s3 : ρ (.tmp 3) = .pointer (some ⟨w.heap.size, 0, none⟩) := ht 3 rfl
      have c0 := cell_later hbw q1
      have c1 := cell_later hbw q2
      clear ht hdep
      go_simp
      exact ⟨Below.refl _ _, rfl⟩
    · intro ρ w' hbw ht hcs hfn hgl hdep
      refine ⟨fun _ => ?_, fun h => by cases h⟩
      have s70 : ρ (.tmp 70) = .agg #[.slice sa0.1 x0.1.length sc0.1, .slice sa0.2 x0.2.length sc0.2] := hdep ⟨1, .data⟩ (by simp) rfl 70 rfl
      clear ht hdep
      go_simp
      exact (toPerceptron_any _ x0 w' (rPerceptron.at_below a0 hbw) ok_x0).mono fun e w'' ⟨u, he, ho, hb⟩ => ⟨_, he, hb, rPerceptron.own_mono ho hbw.size (Nat.le_refl _)⟩
    · intro ρ w' hbw ht hcs hfn hgl hdep
      refine ⟨fun _ => ?_, fun h => by cases h⟩
      have s69 : ρ (.tmp 69) = .agg #[.slice sb5.1 x0.1.length sd5.1, .slice sb5.2 x0.2.length sd5.2] := hdep ⟨0, .data⟩ (by simp) rfl 69 rfl
      have o71 := hdep ⟨2, .data⟩ (by simp) rfl 71 rfl
      clear ht hdep
      go_simp
      exact (eqPerceptron_any _ _ x0 w' (rPerceptron.own_at (rPerceptron.own_below o5 hbw)) (rPerceptron.own_at o71)).mono fun e w'' ⟨he, hb⟩ => ⟨_, he, hb, rfl⟩
    · intro ρ w' hbw ht hcs hfn hgl hdep
      refine ⟨fun _ => ?_, fun h => by cases h⟩
      have s72 : ρ (.tmp 72) = .bool true := hdep ⟨3, .data⟩ (by simp) rfl 72 rfl
      clear ht hdep
      go_simp
      exact ⟨Below.refl _ _, rfl⟩
  · intro x w11 hb hx
    have hx0 : x 0 = .agg #[.slice sb5.1 x0.1.length sd5.1, .slice sb5.2 x0.2.length sd5.2] := hx 0 (by simp)
    have hx1 : x 1 = .agg #[.slice sa0.1 x0.1.length sc0.1, .slice sa0.2 x0.2.length sc0.2] := hx 1 (by simp)
    have hx2 := hx 2 (by simp)
    have hx3 : x 3 = .bool true := hx 3 (by simp)
    have hx4 : x 4 = .bool false := hx 4 (by simp)
    clear hx
    have z11 : w10.heap.size + 0 ≤ w11.heap.size := by have := hb.size; (try simp at this); omega
    replace a0 := rPerceptron.at_below a0 hb
    replace a1 := rSampleS.at_below a1 hb
    replace o1 := rPerceptron.own_below o1 hb
    replace o2 := rSampleS.own_below o2 hb
    replace t3 := rPerceptron.at_below t3 hb
    replace t4 := rInt64S.at_below t4 hb
    replace o5 := rPerceptron.own_below o5 hb
    replace o6 := rSampleS.own_below o6 hb
    replace o7 := rPerceptron.own_below o7 hb
    replace o8 := rInt64S.own_below o8 hb
    replace q1 := cell_later hb q1
    replace q2 := cell_later hb q2
    replace q3 := cell_later hb q3
    replace q4 := cell_later hb q4
    replace q5 := cell_later hb q5
    replace q6 := cell_later hb q6
    replace q7 := cell_later hb q7
    replace q8 := cell_later hb q8
    replace yq1 := cell_lt q1
    replace yq3 := cell_lt q3
    replace yq5 := cell_lt q5
    replace yq7 := cell_lt q7
    replace hbase := baseB0 hbase hb
    clear hb
    simp only [putAll, Act.put, List.setIfInBounds_toArray, List.set_cons_succ, List.set_cons_zero, Nat.zero_add, Nat.reduceAdd, hx0, hx1, hx3, hx4]
    generalize x 2 = k14_2 at *
    clear hx0 hx1 hx3 hx4
    have o9 := hx2
    clear hx2
    obtain ⟨sb9, sd9, hsh9⟩ := shapePerceptron (rPerceptron.own_at o9)
    subst hsh9
    go_wp2_with fail
    refine (toSampleS_any _ x1 _ a1 ok_x1).mono ?_
    rintro e w12 ⟨u10, rfl, o10, hb⟩
    obtain ⟨sb10, sd10, rfl⟩ := shapeSampleS (rSampleS.own_at o10)
    have z12 : w11.heap.size + 0 ≤ w12.heap.size := by have := hb.size; (try simp at this); omega
    replace a0 := rPerceptron.at_below a0 hb
    replace a1 := rSampleS.at_below a1 hb
    replace o1 := rPerceptron.own_below o1 hb
    replace o2 := rSampleS.own_below o2 hb
    replace t3 := rPerceptron.at_below t3 hb
    replace t4 := rInt64S.at_below t4 hb
    replace o5 := rPerceptron.own_below o5 hb
    replace o6 := rSampleS.own_below o6 hb
    replace o7 := rPerceptron.own_below o7 hb
    replace o8 := rInt64S.own_below o8 hb
    replace o9 := rPerceptron.own_below o9 hb
    replace q1 := cell_later hb q1
    replace q2 := cell_later hb q2
    replace q3 := cell_later hb q3
    replace q4 := cell_later hb q4
    replace q5 := cell_later hb q5
    replace q6 := cell_later hb q6
    replace q7 := cell_later hb q7
    replace q8 := cell_later hb q8
    replace yq1 := cell_lt q1
    replace yq3 := cell_lt q3
    replace yq5 := cell_lt q5
    replace yq7 := cell_lt q7
    replace hbase := baseB0 hbase hb
    clear hb
    go_wp2_with fail
    refine (eqSampleS_any _ _ x1 _ (rSampleS.own_at o6) (rSampleS.own_at o10)).mono ?_
    rintro e w13 ⟨rfl, hb⟩
    have z13 : w12.heap.size + 0 ≤ w13.heap.size := by have := hb.size; (try simp at this); omega
    replace a0 := rPerceptron.at_below a0 hb
    replace a1 := rSampleS.at_below a1 hb
    replace o1 := rPerceptron.own_below o1 hb
    replace o2 := rSampleS.own_below o2 hb
    replace t3 := rPerceptron.at_below t3 hb
    replace t4 := rInt64S.at_below t4 hb
    replace o5 := rPerceptron.own_below o5 hb
    replace o6 := rSampleS.own_below o6 hb
    replace o7 := rPerceptron.own_below o7 hb
    replace o8 := rInt64S.own_below o8 hb
    replace o9 := rPerceptron.own_below o9 hb
    replace o10 := rSampleS.own_below o10 hb
    replace q1 := cell_later hb q1
    replace q2 := cell_later hb q2
    replace q3 := cell_later hb q3
    replace q4 := cell_later hb q4
    replace q5 := cell_later hb q5
    replace q6 := cell_later hb q6
    replace q7 := cell_later hb q7
    replace q8 := cell_later hb q8
    replace yq1 := cell_lt q1
    replace yq3 := cell_lt q3
    replace yq5 := cell_lt q5
    replace yq7 := cell_lt q7
    replace hbase := baseB0 hbase hb
    clear hb
    go_wp2_with fail
    refine (markPerceptron_any _ x0 _ _ (1) _ o5 ok_x0 (by omega) (by omega)).mono ?_
    rintro e w14 ⟨rfl, o5n, hc, hty⟩
    have z14 : w13.heap.size + 0 ≤ w14.heap.size := by have := hc.size; (try simp at this); omega
    replace a0 := rPerceptron.at_chg a0 hc (by first | (left; omega) | (right; omega))
    replace a1 := rSampleS.at_chg a1 hc (by first | (left; omega) | (right; omega))
    replace o1 := rPerceptron.own_chg o1 hc (by first | (left; omega) | (right; omega))
    replace o2 := rSampleS.own_chg o2 hc (by first | (left; omega) | (right; omega))
    replace t3 := rPerceptron.at_chg t3 hc (by first | (left; omega) | (right; omega))
    replace t4 := rInt64S.at_chg t4 hc (by first | (left; omega) | (right; omega))
    replace o6 := rSampleS.own_chg o6 hc (by first | (left; omega) | (right; omega))
    replace o7 := rPerceptron.own_chg o7 hc (by first | (left; omega) | (right; omega))
    replace o8 := rInt64S.own_chg o8 hc (by first | (left; omega) | (right; omega))
    replace o9 := rPerceptron.own_chg o9 hc (by first | (left; omega) | (right; omega))
    replace o10 := rSampleS.own_chg o10 hc (by first | (left; omega) | (right; omega))
    replace q1 := chg_cell hc q1 (by first | (left; omega) | (right; omega))
    replace q2 := chg_cell hc q2 (by first | (left; omega) | (right; omega))
    replace q3 := chg_cell hc q3 (by first | (left; omega) | (right; omega))
    replace q4 := chg_cell hc q4 (by first | (left; omega) | (right; omega))
    replace q5 := chg_cell hc q5 (by first | (left; omega) | (right; omega))
    replace q6 := chg_cell hc q6 (by first | (left; omega) | (right; omega))
    replace q7 := chg_cell hc q7 (by first | (left; omega) | (right; omega))
    replace q8 := chg_cell hc q8 (by first | (left; omega) | (right; omega))
    replace yq1 := cell_lt q1
    replace yq3 := cell_lt q3
    replace yq5 := cell_lt q5
    replace yq7 := cell_lt q7
    replace hbase := below_chg hbase hc (by omega)
    clear hc
    clear hty
    clear o5
    have o5 := o5n
    clear o5n
    have cn14 : 0 ≤ cntPerceptron x0 ∧ cntPerceptron x0 ≤ 2200000 := cntPerceptron_bd2 ok_x0
    go_wp2_with fail
    refine (markSampleS_any _ x1 _ _ (1 + cntPerceptron x0) _ o6 ok_x1 (by omega) (by omega)).mono ?_
    rintro e w15 ⟨rfl, o6n, hc, hty⟩
    have z15 : w14.heap.size + 0 ≤ w15.heap.size := by have := hc.size; (try simp at this); omega
    replace a0 := rPerceptron.at_chg a0 hc (by first | (left; omega) | (right; omega))
    replace a1 := rSampleS.at_chg a1 hc (by first | (left; omega) | (right; omega))
    replace o1 := rPerceptron.own_chg o1 hc (by first | (left; omega) | (right; omega))
    replace o2 := rSampleS.own_chg o2 hc (by first | (left; omega) | (right; omega))
    replace t3 := rPerceptron.at_chg t3 hc (by first | (left; omega) | (right; omega))
    replace t4 := rInt64S.at_chg t4 hc (by first | (left; omega) | (right; omega))
    replace o5 := rPerceptron.own_chg o5 hc (by first | (left; omega) | (right; omega))
    replace o7 := rPerceptron.own_chg o7 hc (by first | (left; omega) | (right; omega))
    replace o8 := rInt64S.own_chg o8 hc (by first | (left; omega) | (right; omega))
    replace o9 := rPerceptron.own_chg o9 hc (by first | (left; omega) | (right; omega))
    replace o10 := rSampleS.own_chg o10 hc (by first | (left; omega) | (right; omega))
    replace q1 := chg_cell hc q1 (by first | (left; omega) | (right; omega))
    replace q2 := chg_cell hc q2 (by first | (left; omega) | (right; omega))
    replace q3 := chg_cell hc q3 (by first | (left; omega) | (right; omega))
    replace q4 := chg_cell hc q4 (by first | (left; omega) | (right; omega))
    replace q5 := chg_cell hc q5 (by first | (left; omega) | (right; omega))
    replace q6 := chg_cell hc q6 (by first | (left; omega) | (right; omega))
    replace q7 := chg_cell hc q7 (by first | (left; omega) | (right; omega))
    replace q8 := chg_cell hc q8 (by first | (left; omega) | (right; omega))
    replace yq1 := cell_lt q1
    replace yq3 := cell_lt q3
    replace yq5 := cell_lt q5
    replace yq7 := cell_lt q7
    replace hbase := below_chg hbase hc (by omega)
    clear hc
    clear hty
    clear o6
    have o6 := o6n
    clear o6n
    have cn15 : 0 ≤ cntSampleS x1 ∧ cntSampleS x1 ≤ 3200000 := cntSampleS_bd2 ok_x1
    go_wp2_with fail
    refine (eqPerceptron_any _ _ (trX x0 x1 n2) _ (rPerceptron.own_at o7) t3).mono ?_
    rintro e w16 ⟨rfl, hb⟩
    have z16 : w15.heap.size + 0 ≤ w16.heap.size := by have := hb.size; (try simp at this); omega
    replace a0 := rPerceptron.at_below a0 hb
    replace a1 := rSampleS.at_below a1 hb
    replace o1 := rPerceptron.own_below o1 hb
    replace o2 := rSampleS.own_below o2 hb
    replace t3 := rPerceptron.at_below t3 hb
    replace t4 := rInt64S.at_below t4 hb
    replace o5 := rPerceptron.own_below o5 hb
    replace o6 := rSampleS.own_below o6 hb
    replace o7 := rPerceptron.own_below o7 hb
    replace o8 := rInt64S.own_below o8 hb
    replace o9 := rPerceptron.own_below o9 hb
    replace o10 := rSampleS.own_below o10 hb
    replace q1 := cell_later hb q1
    replace q2 := cell_later hb q2
    replace q3 := cell_later hb q3
    replace q4 := cell_later hb q4
    replace q5 := cell_later hb q5
    replace q6 := cell_later hb q6
    replace q7 := cell_later hb q7
    replace q8 := cell_later hb q8
    replace yq1 := cell_lt q1
    replace yq3 := cell_lt q3
    replace yq5 := cell_lt q5
    replace yq7 := cell_lt q7
    replace hbase := baseB0 hbase hb
    clear hb
    go_wp2_with fail
    refine (eqInt64SR_any _ _ (trL x0 x1 n2) _ (rInt64S.own_at o8) t4).mono ?_
    rintro e w17 ⟨rfl, hb⟩
    have z17 : w16.heap.size + 0 ≤ w17.heap.size := by have := hb.size; (try simp at this); omega
    replace a0 := rPerceptron.at_below a0 hb
    replace a1 := rSampleS.at_below a1 hb
    replace o1 := rPerceptron.own_below o1 hb
    replace o2 := rSampleS.own_below o2 hb
    replace t3 := rPerceptron.at_below t3 hb
    replace t4 := rInt64S.at_below t4 hb
    replace o5 := rPerceptron.own_below o5 hb
    replace o6 := rSampleS.own_below o6 hb
    replace o7 := rPerceptron.own_below o7 hb
    replace o8 := rInt64S.own_below o8 hb
    replace o9 := rPerceptron.own_below o9 hb
    replace o10 := rSampleS.own_below o10 hb
    replace q1 := cell_later hb q1
    replace q2 := cell_later hb q2
    replace q3 := cell_later hb q3
    replace q4 := cell_later hb q4
    replace q5 := cell_later hb q5
    replace q6 := cell_later hb q6
    replace q7 := cell_later hb q7
    replace q8 := cell_later hb q8
    replace yq1 := cell_lt q1
    replace yq3 := cell_lt q3
    replace yq5 := cell_lt q5
    replace yq7 := cell_lt q7
    replace hbase := baseB0 hbase hb
    clear hb
    go_wp2_with fail
    refine (markPerceptron_any _ (trX x0 x1 n2) _ _ (1) _ o7 (okTr x0 x1 n2) (by omega) (by omega)).mono ?_
    rintro e w18 ⟨rfl, o7n, hc, hty⟩
    have z18 : w17.heap.size + 0 ≤ w18.heap.size := by have := hc.size; (try simp at this); omega
    replace a0 := rPerceptron.at_chg a0 hc (by first | (left; omega) | (right; omega))
    replace a1 := rSampleS.at_chg a1 hc (by first | (left; omega) | (right; omega))
    replace o1 := rPerceptron.own_chg o1 hc (by first | (left; omega) | (right; omega))
    replace o2 := rSampleS.own_chg o2 hc (by first | (left; omega) | (right; omega))
    replace t3 := rPerceptron.at_chg t3 hc (by first | (left; omega) | (right; omega))
    replace t4 := rInt64S.at_chg t4 hc (by first | (left; omega) | (right; omega))
    replace o5 := rPerceptron.own_chg o5 hc (by first | (left; omega) | (right; omega))
    replace o6 := rSampleS.own_chg o6 hc (by first | (left; omega) | (right; omega))
    replace o8 := rInt64S.own_chg o8 hc (by first | (left; omega) | (right; omega))
    replace o9 := rPerceptron.own_chg o9 hc (by first | (left; omega) | (right; omega))
    replace o10 := rSampleS.own_chg o10 hc (by first | (left; omega) | (right; omega))
    replace q1 := chg_cell hc q1 (by first | (left; omega) | (right; omega))
    replace q2 := chg_cell hc q2 (by first | (left; omega) | (right; omega))
    replace q3 := chg_cell hc q3 (by first | (left; omega) | (right; omega))
    replace q4 := chg_cell hc q4 (by first | (left; omega) | (right; omega))
    replace q5 := chg_cell hc q5 (by first | (left; omega) | (right; omega))
    replace q6 := chg_cell hc q6 (by first | (left; omega) | (right; omega))
    replace q7 := chg_cell hc q7 (by first | (left; omega) | (right; omega))
    replace q8 := chg_cell hc q8 (by first | (left; omega) | (right; omega))
    replace yq1 := cell_lt q1
    replace yq3 := cell_lt q3
    replace yq5 := cell_lt q5
    replace yq7 := cell_lt q7
    replace hbase := below_chg hbase hc (by omega)
    clear hc
    clear hty
    clear o7
    have o7 := o7n
    clear o7n
    have cn18 : 0 ≤ cntPerceptron (trX x0 x1 n2) ∧ cntPerceptron (trX x0 x1 n2) ≤ 2200000 := cntPerceptron_bd2 (okTr x0 x1 n2)
    go_wp2_with fail
    refine (markInt64SR_any _ (trL x0 x1 n2) _ _ (1 + cntPerceptron (trX x0 x1 n2)) _ o8 (okTrL x0 x1 n2) (by omega) (by omega)).mono ?_
    rintro e w19 ⟨rfl, o8n, hc, hty⟩
    have z19 : w18.heap.size + 0 ≤ w19.heap.size := by have := hc.size; (try simp at this); omega
    replace a0 := rPerceptron.at_chg a0 hc (by first | (left; omega) | (right; omega))
    replace a1 := rSampleS.at_chg a1 hc (by first | (left; omega) | (right; omega))
    replace o1 := rPerceptron.own_chg o1 hc (by first | (left; omega) | (right; omega))
    replace o2 := rSampleS.own_chg o2 hc (by first | (left; omega) | (right; omega))
    replace t3 := rPerceptron.at_chg t3 hc (by first | (left; omega) | (right; omega))
    replace t4 := rInt64S.at_chg t4 hc (by first | (left; omega) | (right; omega))
    replace o5 := rPerceptron.own_chg o5 hc (by first | (left; omega) | (right; omega))
    replace o6 := rSampleS.own_chg o6 hc (by first | (left; omega) | (right; omega))
    replace o7 := rPerceptron.own_chg o7 hc (by first | (left; omega) | (right; omega))
    replace o9 := rPerceptron.own_chg o9 hc (by first | (left; omega) | (right; omega))
    replace o10 := rSampleS.own_chg o10 hc (by first | (left; omega) | (right; omega))
    replace q1 := chg_cell hc q1 (by first | (left; omega) | (right; omega))
    replace q2 := chg_cell hc q2 (by first | (left; omega) | (right; omega))
    replace q3 := chg_cell hc q3 (by first | (left; omega) | (right; omega))
    replace q4 := chg_cell hc q4 (by first | (left; omega) | (right; omega))
    replace q5 := chg_cell hc q5 (by first | (left; omega) | (right; omega))
    replace q6 := chg_cell hc q6 (by first | (left; omega) | (right; omega))
    replace q7 := chg_cell hc q7 (by first | (left; omega) | (right; omega))
    replace q8 := chg_cell hc q8 (by first | (left; omega) | (right; omega))
    replace yq1 := cell_lt q1
    replace yq3 := cell_lt q3
    replace yq5 := cell_lt q5
    replace yq7 := cell_lt q7
    replace hbase := below_chg hbase hc (by omega)
    clear hc
    clear hty
    clear o8
    have o8 := o8n
    clear o8n
    have cn19 : 0 ≤ cntInt64S (trL x0 x1 n2) ∧ cntInt64S (trL x0 x1 n2) ≤ 1048576 := cntInt64S_bd2 (okTrL x0 x1 n2)
    go_wp2_with fail
    refine (heldPerceptron_any _ (trX x0 x1 n2) (1) _ (rPerceptron.own_at o7) (okTr x0 x1 n2) (by omega) (by omega)).mono ?_
    rintro e w20 ⟨rfl, hb⟩
    have z20 : w19.heap.size + 0 ≤ w20.heap.size := by have := hb.size; (try simp at this); omega
    replace a0 := rPerceptron.at_below a0 hb
    replace a1 := rSampleS.at_below a1 hb
    replace o1 := rPerceptron.own_below o1 hb
    replace o2 := rSampleS.own_below o2 hb
    replace t3 := rPerceptron.at_below t3 hb
    replace t4 := rInt64S.at_below t4 hb
    replace o5 := rPerceptron.own_below o5 hb
    replace o6 := rSampleS.own_below o6 hb
    replace o7 := rPerceptron.own_below o7 hb
    replace o8 := rInt64S.own_below o8 hb
    replace o9 := rPerceptron.own_below o9 hb
    replace o10 := rSampleS.own_below o10 hb
    replace q1 := cell_later hb q1
    replace q2 := cell_later hb q2
    replace q3 := cell_later hb q3
    replace q4 := cell_later hb q4
    replace q5 := cell_later hb q5
    replace q6 := cell_later hb q6
    replace q7 := cell_later hb q7
    replace q8 := cell_later hb q8
    replace yq1 := cell_lt q1
    replace yq3 := cell_lt q3
    replace yq5 := cell_lt q5
    replace yq7 := cell_lt q7
    replace hbase := baseB0 hbase hb
    clear hb
    go_wp2_with fail
    refine (heldInt64SR_any _ (trL x0 x1 n2) (1 + cntPerceptron (trX x0 x1 n2)) _ (rInt64S.own_at o8) (okTrL x0 x1 n2) (by omega) (by omega)).mono ?_
    rintro e w21 ⟨rfl, hb⟩
    have z21 : w20.heap.size + 0 ≤ w21.heap.size := by have := hb.size; (try simp at this); omega
    replace a0 := rPerceptron.at_below a0 hb
    replace a1 := rSampleS.at_below a1 hb
    replace o1 := rPerceptron.own_below o1 hb
    replace o2 := rSampleS.own_below o2 hb
    replace t3 := rPerceptron.at_below t3 hb
    replace t4 := rInt64S.at_below t4 hb
    replace o5 := rPerceptron.own_below o5 hb
    replace o6 := rSampleS.own_below o6 hb
    replace o7 := rPerceptron.own_below o7 hb
    replace o8 := rInt64S.own_below o8 hb
    replace o9 := rPerceptron.own_below o9 hb
    replace o10 := rSampleS.own_below o10 hb
    replace q1 := cell_later hb q1
    replace q2 := cell_later hb q2
    replace q3 := cell_later hb q3
    replace q4 := cell_later hb q4
    replace q5 := cell_later hb q5
    replace q6 := cell_later hb q6
    replace q7 := cell_later hb q7
    replace q8 := cell_later hb q8
    replace yq1 := cell_lt q1
    replace yq3 := cell_lt q3
    replace yq5 := cell_lt q5
    replace yq7 := cell_lt q7
    replace hbase := baseB0 hbase hb
    clear hb
    go_wp2_with fail
    refine (toPerceptron_any _ x0 _ a0 ok_x0).mono ?_
    rintro e w22 ⟨u11, rfl, o11, hb⟩
    obtain ⟨sb11, sd11, rfl⟩ := shapePerceptron (rPerceptron.own_at o11)
    have z22 : w21.heap.size + 0 ≤ w22.heap.size := by have := hb.size; (try simp at this); omega
    replace a0 := rPerceptron.at_below a0 hb
    replace a1 := rSampleS.at_below a1 hb
    replace o1 := rPerceptron.own_below o1 hb
    replace o2 := rSampleS.own_below o2 hb
    replace t3 := rPerceptron.at_below t3 hb
    replace t4 := rInt64S.at_below t4 hb
    replace o5 := rPerceptron.own_below o5 hb
    replace o6 := rSampleS.own_below o6 hb
    replace o7 := rPerceptron.own_below o7 hb
    replace o8 := rInt64S.own_below o8 hb
    replace o9 := rPerceptron.own_below o9 hb
    replace o10 := rSampleS.own_below o10 hb
    replace q1 := cell_later hb q1
    replace q2 := cell_later hb q2
    replace q3 := cell_later hb q3
    replace q4 := cell_later hb q4
    replace q5 := cell_later hb q5
    replace q6 := cell_later hb q6
    replace q7 := cell_later hb q7
    replace q8 := cell_later hb q8
    replace yq1 := cell_lt q1
    replace yq3 := cell_lt q3
    replace yq5 := cell_lt q5
    replace yq7 := cell_lt q7
    replace hbase := baseB0 hbase hb
    clear hb
    go_wp2_with fail
    refine (toSampleS_any _ x1 _ a1 ok_x1).mono ?_
    rintro e w23 ⟨u12, rfl, o12, hb⟩
    obtain ⟨sb12, sd12, rfl⟩ := shapeSampleS (rSampleS.own_at o12)
    have z23 : w22.heap.size + 0 ≤ w23.heap.size := by have := hb.size; (try simp at this); omega
    replace a0 := rPerceptron.at_below a0 hb
    replace a1 := rSampleS.at_below a1 hb
    replace o1 := rPerceptron.own_below o1 hb
    replace o2 := rSampleS.own_below o2 hb
    replace t3 := rPerceptron.at_below t3 hb
    replace t4 := rInt64S.at_below t4 hb
    replace o5 := rPerceptron.own_below o5 hb
    replace o6 := rSampleS.own_below o6 hb
    replace o7 := rPerceptron.own_below o7 hb
    replace o8 := rInt64S.own_below o8 hb
    replace o9 := rPerceptron.own_below o9 hb
    replace o10 := rSampleS.own_below o10 hb
    replace o11 := rPerceptron.own_below o11 hb
    replace q1 := cell_later hb q1
    replace q2 := cell_later hb q2
    replace q3 := cell_later hb q3
    replace q4 := cell_later hb q4
    replace q5 := cell_later hb q5
    replace q6 := cell_later hb q6
    replace q7 := cell_later hb q7
    replace q8 := cell_later hb q8
    replace yq1 := cell_lt q1
    replace yq3 := cell_lt q3
    replace yq5 := cell_lt q5
    replace yq7 := cell_lt q7
    replace hbase := baseB0 hbase hb
    clear hb
    go_wp2_with fail
    refine (implTrain_any _ x0 _ x1 n2 _ (rPerceptron.own_at o11) (rSampleS.own_at o12) ok_x0 ok_x1 g0 g1).mono ?_
    rintro e w24 ⟨u13, u14, md13, rfl, o13, o14, hm1, hm2, hb⟩
    obtain ⟨sb13, sd13, rfl⟩ := shapePerceptron (rPerceptron.own_at o13)
    obtain ⟨sb14, sd14, rfl⟩ := shapeInt64S (rInt64S.own_at o14)
    have hM1 : w23.heap.size + 0 ≤ md13 := by (try simp at hm1); omega
    have hM2 : md13 ≤ w24.heap.size := hm2
    clear hm1 hm2
    replace o13 : rPerceptron.own (w23.heap.size + 0) md13 w24 _ _ := rPerceptron.own_mono o13 (by simp <;> omega) (Nat.le_refl _)
    have HM13 := hM1
    have HN13 := hM2
    clear hM1 hM2
    have z24 : w23.heap.size + 0 ≤ w24.heap.size := by have := hb.size; (try simp at this); omega
    replace a0 := rPerceptron.at_below a0 hb
    replace a1 := rSampleS.at_below a1 hb
    replace o1 := rPerceptron.own_below o1 hb
    replace o2 := rSampleS.own_below o2 hb
    replace t3 := rPerceptron.at_below t3 hb
    replace t4 := rInt64S.at_below t4 hb
    replace o5 := rPerceptron.own_below o5 hb
    replace o6 := rSampleS.own_below o6 hb
    replace o7 := rPerceptron.own_below o7 hb
    replace o8 := rInt64S.own_below o8 hb
    replace o9 := rPerceptron.own_below o9 hb
    replace o10 := rSampleS.own_below o10 hb
    replace o11 := rPerceptron.own_below o11 hb
    replace o12 := rSampleS.own_below o12 hb
    replace q1 := cell_later hb q1
    replace q2 := cell_later hb q2
    replace q3 := cell_later hb q3
    replace q4 := cell_later hb q4
    replace q5 := cell_later hb q5
    replace q6 := cell_later hb q6
    replace q7 := cell_later hb q7
    replace q8 := cell_later hb q8
    replace yq1 := cell_lt q1
    replace yq3 := cell_lt q3
    replace yq5 := cell_lt q5
    replace yq7 := cell_lt q7
    replace hbase := baseB0 hbase hb
    clear hb
    go_wp2_with fail
    refine (eqPerceptron_any _ _ (trX x0 x1 n2) _ (rPerceptron.own_at (rPerceptron.own_alloc o13 _)) (rPerceptron.at_alloc t3 _)).mono ?_
    rintro e w25 ⟨rfl, hb⟩
    have z25 : w24.heap.size + 1 ≤ w25.heap.size := by have := hb.size; (try simp at this); omega
    replace a0 := rPerceptron.at_below (rPerceptron.at_alloc a0 _) hb
    replace a1 := rSampleS.at_below (rSampleS.at_alloc a1 _) hb
    replace o1 := rPerceptron.own_below (rPerceptron.own_alloc o1 _) hb
    replace o2 := rSampleS.own_below (rSampleS.own_alloc o2 _) hb
    replace t3 := rPerceptron.at_below (rPerceptron.at_alloc t3 _) hb
    replace t4 := rInt64S.at_below (rInt64S.at_alloc t4 _) hb
    replace o5 := rPerceptron.own_below (rPerceptron.own_alloc o5 _) hb
    replace o6 := rSampleS.own_below (rSampleS.own_alloc o6 _) hb
    replace o7 := rPerceptron.own_below (rPerceptron.own_alloc o7 _) hb
    replace o8 := rInt64S.own_below (rInt64S.own_alloc o8 _) hb
    replace o9 := rPerceptron.own_below (rPerceptron.own_alloc o9 _) hb
    replace o10 := rSampleS.own_below (rSampleS.own_alloc o10 _) hb
    replace o11 := rPerceptron.own_below (rPerceptron.own_alloc o11 _) hb
    replace o12 := rSampleS.own_below (rSampleS.own_alloc o12 _) hb
    replace o13 := rPerceptron.own_below (rPerceptron.own_alloc o13 _) hb
    replace o14 := rInt64S.own_below (rInt64S.own_alloc o14 _) hb
    replace q1 := cell_later hb (cell_alloc q1 _)
    replace q2 := cell_later hb (cell_alloc q2 _)
    replace q3 := cell_later hb (cell_alloc q3 _)
    replace q4 := cell_later hb (cell_alloc q4 _)
    replace q5 := cell_later hb (cell_alloc q5 _)
    replace q6 := cell_later hb (cell_alloc q6 _)
    replace q7 := cell_later hb (cell_alloc q7 _)
    replace q8 := cell_later hb (cell_alloc q8 _)
    have q9 : w25.cell? ⟨w24.heap.size, 0, none⟩ = some (.slice sb13.1 (trX x0 x1 n2).1.length sd13.1) := cell_later hb (by simp)
    have q10 : w25.cell? ⟨w24.heap.size, 1, none⟩ = some (.slice sb13.2 (trX x0 x1 n2).2.length sd13.2) := cell_later hb (by simp)
    replace yq1 := cell_lt q1
    replace yq3 := cell_lt q3
    replace yq5 := cell_lt q5
    replace yq7 := cell_lt q7
    have yq9 := cell_lt q9
    replace hbase := baseB1 hbase hb
    clear hb
    go_wp2_with fail
    refine (eqInt64SR_any _ _ (trL x0 x1 n2) _ (rInt64S.own_at o14) t4).mono ?_
    rintro e w26 ⟨rfl, hb⟩
    have z26 : w25.heap.size + 0 ≤ w26.heap.size := by have := hb.size; (try simp at this); omega
    replace a0 := rPerceptron.at_below a0 hb
    replace a1 := rSampleS.at_below a1 hb
    replace o1 := rPerceptron.own_below o1 hb
    replace o2 := rSampleS.own_below o2 hb
    replace t3 := rPerceptron.at_below t3 hb
    replace t4 := rInt64S.at_below t4 hb
    replace o5 := rPerceptron.own_below o5 hb
    replace o6 := rSampleS.own_below o6 hb
    replace o7 := rPerceptron.own_below o7 hb
    replace o8 := rInt64S.own_below o8 hb
    replace o9 := rPerceptron.own_below o9 hb
    replace o10 := rSampleS.own_below o10 hb
    replace o11 := rPerceptron.own_below o11 hb
    replace o12 := rSampleS.own_below o12 hb
    replace o13 := rPerceptron.own_below o13 hb
    replace o14 := rInt64S.own_below o14 hb
    replace q1 := cell_later hb q1
    replace q2 := cell_later hb q2
    replace q3 := cell_later hb q3
    replace q4 := cell_later hb q4
    replace q5 := cell_later hb q5
    replace q6 := cell_later hb q6
    replace q7 := cell_later hb q7
    replace q8 := cell_later hb q8
    replace q9 := cell_later hb q9
    replace q10 := cell_later hb q10
    replace yq1 := cell_lt q1
    replace yq3 := cell_lt q3
    replace yq5 := cell_lt q5
    replace yq7 := cell_lt q7
    replace yq9 := cell_lt q9
    replace hbase := baseB0 hbase hb
    clear hb
    go_wp2_with fail
    refine (heldPerceptron_any _ (trX x0 x1 n2) (1) _ (rPerceptron.own_at o7) (okTr x0 x1 n2) (by omega) (by omega)).mono ?_
    rintro e w27 ⟨rfl, hb⟩
    have z27 : w26.heap.size + 0 ≤ w27.heap.size := by have := hb.size; (try simp at this); omega
    replace a0 := rPerceptron.at_below a0 hb
    replace a1 := rSampleS.at_below a1 hb
    replace o1 := rPerceptron.own_below o1 hb
    replace o2 := rSampleS.own_below o2 hb
    replace t3 := rPerceptron.at_below t3 hb
    replace t4 := rInt64S.at_below t4 hb
    replace o5 := rPerceptron.own_below o5 hb
    replace o6 := rSampleS.own_below o6 hb
    replace o7 := rPerceptron.own_below o7 hb
    replace o8 := rInt64S.own_below o8 hb
    replace o9 := rPerceptron.own_below o9 hb
    replace o10 := rSampleS.own_below o10 hb
    replace o11 := rPerceptron.own_below o11 hb
    replace o12 := rSampleS.own_below o12 hb
    replace o13 := rPerceptron.own_below o13 hb
    replace o14 := rInt64S.own_below o14 hb
    replace q1 := cell_later hb q1
    replace q2 := cell_later hb q2
    replace q3 := cell_later hb q3
    replace q4 := cell_later hb q4
    replace q5 := cell_later hb q5
    replace q6 := cell_later hb q6
    replace q7 := cell_later hb q7
    replace q8 := cell_later hb q8
    replace q9 := cell_later hb q9
    replace q10 := cell_later hb q10
    replace yq1 := cell_lt q1
    replace yq3 := cell_lt q3
    replace yq5 := cell_lt q5
    replace yq7 := cell_lt q7
    replace yq9 := cell_lt q9
    replace hbase := baseB0 hbase hb
    clear hb
    go_wp2_with fail
    refine (heldInt64SR_any _ (trL x0 x1 n2) (1 + cntPerceptron (trX x0 x1 n2)) _ (rInt64S.own_at o8) (okTrL x0 x1 n2) (by omega) (by omega)).mono ?_
    rintro e w28 ⟨rfl, hb⟩
    have z28 : w27.heap.size + 0 ≤ w28.heap.size := by have := hb.size; (try simp at this); omega
    replace a0 := rPerceptron.at_below a0 hb
    replace a1 := rSampleS.at_below a1 hb
    replace o1 := rPerceptron.own_below o1 hb
    replace o2 := rSampleS.own_below o2 hb
    replace t3 := rPerceptron.at_below t3 hb
    replace t4 := rInt64S.at_below t4 hb
    replace o5 := rPerceptron.own_below o5 hb
    replace o6 := rSampleS.own_below o6 hb
    replace o7 := rPerceptron.own_below o7 hb
    replace o8 := rInt64S.own_below o8 hb
    replace o9 := rPerceptron.own_below o9 hb
    replace o10 := rSampleS.own_below o10 hb
    replace o11 := rPerceptron.own_below o11 hb
    replace o12 := rSampleS.own_below o12 hb
    replace o13 := rPerceptron.own_below o13 hb
    replace o14 := rInt64S.own_below o14 hb
    replace q1 := cell_later hb q1
    replace q2 := cell_later hb q2
    replace q3 := cell_later hb q3
    replace q4 := cell_later hb q4
    replace q5 := cell_later hb q5
    replace q6 := cell_later hb q6
    replace q7 := cell_later hb q7
    replace q8 := cell_later hb q8
    replace q9 := cell_later hb q9
    replace q10 := cell_later hb q10
    replace yq1 := cell_lt q1
    replace yq3 := cell_lt q3
    replace yq5 := cell_lt q5
    replace yq7 := cell_lt q7
    replace yq9 := cell_lt q9
    replace hbase := baseB0 hbase hb
    clear hb
    go_wp2_with fail
    go_ret
    exact ret_bool rfl hbase
end Go.Proofs.YtdifhnckhocmdabGreat
