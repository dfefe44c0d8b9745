/- The walk of the law FnExactCountCosts: for every argument it returns true and leaves what was there. -/
import Derived.Test.YthooeaappnkjgaaReg
import Derived.Test.YthooeaappnkjgaaRep
import Derived.Test.YthooeaappnkjgaaWrStringS
import Derived.Test.YthooeaappnkjgaaWrLexicon
import Derived.Test.YthooeaappnkjgaaCcImpl
import Derived.Test.YthooeaappnkjgaaOpStr
namespace Go.Proofs.Ythooeaappnkjgaa
open Go.RowKit

set_option maxHeartbeats 4000000 in
theorem lawCountCosts (v0 : Value) (x0 : XStringS) (n1 : Int) (w : World) (a0 : rStringS.at_ 0 w.heap.size w v0 x0) (g0 : goodStringS x0) :
    Calls Try.prog 4 #[v0, .int .i64 n1] w (Ret (.bool true) w) := by
  obtain ⟨sa0, sc0, rfl⟩ := shapeStringS a0
  have hbase : Below w.heap.size w w := Below.refl _ _
  go_enter Try.func4, Try.ntmps4
  go_wp2_with fail
  refine (szStringSR_any _ x0 (1048576) _ a0 g0 (by omega) (by omega)).mono ?_
  rintro e w1 ⟨rfl, hb⟩
  have z1 : w.heap.size + 0 ≤ w1.heap.size := by have := hb.size; (try simp at this); omega
  replace a0 := rStringS.at_below a0 hb
  replace hbase := baseB0 hbase hb
  clear hb
  by_cases hszx0 : (1048576 : Int) < (sizeStringS x0 : Nat)
  · rw [szOf_neg hszx0]
    go_wp2_with fail
    go_ret
    exact ret_bool rfl hbase
  rw [szOf_pos (by omega)]
  have ok_x0 : okStringS x0 := okStringS_of (by omega)
  go_wp2_with fail
  refine (toStringSR_any _ x0 _ a0 ok_x0).mono ?_
  rintro e w2 ⟨u1, rfl, o1, hb⟩
  obtain ⟨sb1, sd1, rfl⟩ := shapeStringS (rStringS.own_at o1)
  have z2 : w1.heap.size + 0 ≤ w2.heap.size := by have := hb.size; (try simp at this); omega
  replace a0 := rStringS.at_below a0 hb
  replace hbase := baseB0 hbase hb
  clear hb
  go_wp2_with fail
  refine (specCountCosts_any _ x0 n1 _ (rStringS.own_at o1) ok_x0 g0).mono ?_
  rintro e w3 ⟨u2, rfl, o2, hb⟩
  obtain ⟨sb2, sd2, rfl⟩ := shapeLexicon (rLexicon.own_at o2)
  have z3 : w2.heap.size + 0 ≤ w3.heap.size := by have := hb.size; (try simp at this); omega
  replace a0 := rStringS.at_below a0 hb
  replace o1 := rStringS.own_below o1 hb
  replace hbase := baseB0 hbase hb
  clear hb
  go_wp2_with fail
  refine (toStringSR_any _ x0 _ (rStringS.at_alloc a0 _) ok_x0).mono ?_
  rintro e w4 ⟨u3, rfl, o3, hb⟩
  obtain ⟨sb3, sd3, rfl⟩ := shapeStringS (rStringS.own_at o3)
  replace o3 : rStringS.own (w3.heap.size + 1) w4.heap.size w4 _ _ := rStringS.own_mono o3 (by simp <;> omega) (Nat.le_refl _)
  have z4 : w3.heap.size + 1 ≤ w4.heap.size := by have := hb.size; (try simp at this); omega
  replace a0 := rStringS.at_below (rStringS.at_alloc a0 _) hb
  replace o1 := rStringS.own_below (rStringS.own_alloc o1 _) hb
  replace o2 := rLexicon.own_below (rLexicon.own_alloc o2 _) hb
  have q1 : w4.cell? ⟨w3.heap.size, 0, none⟩ = some (.slice sb2 (cntLx x0 n1).length sd2) := cell_later hb (by simp)
  have yq1 := cell_lt q1
  replace hbase := baseB1 hbase hb
  clear hb
  go_wp2_with fail
  refine (implCountCosts_any _ x0 n1 _ (rStringS.own_at o3) ok_x0 g0).mono ?_
  rintro e w5 ⟨u4, rfl, o4, hb⟩
  obtain ⟨sb4, sd4, rfl⟩ := shapeLexicon (rLexicon.own_at o4)
  have z5 : w4.heap.size + 0 ≤ w5.heap.size := by have := hb.size; (try simp at this); omega
  replace a0 := rStringS.at_below a0 hb
  replace o1 := rStringS.own_below o1 hb
  replace o2 := rLexicon.own_below o2 hb
  replace o3 := rStringS.own_below o3 hb
  replace q1 := cell_later hb q1
  replace yq1 := cell_lt q1
  replace hbase := baseB0 hbase hb
  clear hb
  go_wp2_with fail
  refine (eqLexicon_any _ _ (cntLx x0 n1) _ (rLexicon.own_at (rLexicon.own_alloc o4 _)) (rLexicon.own_at (rLexicon.own_alloc o2 _))).mono ?_
  rintro e w6 ⟨rfl, hb⟩
  have z6 : w5.heap.size + 1 ≤ w6.heap.size := by have := hb.size; (try simp at this); omega
  replace a0 := rStringS.at_below (rStringS.at_alloc a0 _) hb
  replace o1 := rStringS.own_below (rStringS.own_alloc o1 _) hb
  replace o2 := rLexicon.own_below (rLexicon.own_alloc o2 _) hb
  replace o3 := rStringS.own_below (rStringS.own_alloc o3 _) hb
  replace o4 := rLexicon.own_below (rLexicon.own_alloc o4 _) hb
  replace q1 := cell_later hb (cell_alloc q1 _)
  have q2 : w6.cell? ⟨w5.heap.size, 0, none⟩ = some (.slice sb4 (cntLx x0 n1).length sd4) := cell_later hb (by simp)
  replace yq1 := cell_lt q1
  have yq2 := cell_lt q2
  replace hbase := baseB1 hbase hb
  clear hb
  go_wp2_with fail
  refine (toStringSR_any _ x0 _ a0 ok_x0).mono ?_
  rintro e w7 ⟨u5, rfl, o5, hb⟩
  obtain ⟨sb5, sd5, rfl⟩ := shapeStringS (rStringS.own_at o5)
  have z7 : w6.heap.size + 0 ≤ w7.heap.size := by have := hb.size; (try simp at this); omega
  replace a0 := rStringS.at_below a0 hb
  replace o1 := rStringS.own_below o1 hb
  replace o2 := rLexicon.own_below o2 hb
  replace o3 := rStringS.own_below o3 hb
  replace o4 := rLexicon.own_below o4 hb
  replace q1 := cell_later hb q1
  replace q2 := cell_later hb q2
  replace yq1 := cell_lt q1
  replace yq2 := cell_lt q2
  replace hbase := baseB0 hbase hb
  clear hb
  go_wp2_with fail
  refine (eqStringSR_any _ _ x0 _ (rStringS.own_at o3) (rStringS.own_at o5)).mono ?_
  rintro e w8 ⟨rfl, hb⟩
  have z8 : w7.heap.size + 0 ≤ w8.heap.size := by have := hb.size; (try simp at this); omega
  replace a0 := rStringS.at_below a0 hb
  replace o1 := rStringS.own_below o1 hb
  replace o2 := rLexicon.own_below o2 hb
  replace o3 := rStringS.own_below o3 hb
  replace o4 := rLexicon.own_below o4 hb
  replace o5 := rStringS.own_below o5 hb
  replace q1 := cell_later hb q1
  replace q2 := cell_later hb q2
  replace yq1 := cell_lt q1
  replace yq2 := cell_lt q2
  replace hbase := baseB0 hbase hb
  clear hb
  go_wp2_with fail
  refine (markStringSR_any _ x0 _ _ (1) _ o3 ok_x0 (by omega) (by omega)).mono ?_
  rintro e w9 ⟨rfl, o3n, hc, hty⟩
  have z9 : w8.heap.size + 0 ≤ w9.heap.size := by have := hc.size; (try simp at this); omega
  replace a0 := rStringS.at_chg a0 hc (by first | (left; omega) | (right; omega))
  replace o1 := rStringS.own_chg o1 hc (by first | (left; omega) | (right; omega))
  replace o2 := rLexicon.own_chg o2 hc (by first | (left; omega) | (right; omega))
  replace o4 := rLexicon.own_chg o4 hc (by first | (left; omega) | (right; omega))
  replace o5 := rStringS.own_chg o5 hc (by first | (left; omega) | (right; omega))
  replace q1 := chg_cell hc q1 (by first | (left; omega) | (right; omega))
  replace q2 := chg_cell hc q2 (by first | (left; omega) | (right; omega))
  replace yq1 := cell_lt q1
  replace yq2 := cell_lt q2
  replace hbase := below_chg hbase hc (by omega)
  clear hc
  clear hty
  clear o3
  have o3 := o3n
  clear o3n
  have cn9 : 0 ≤ cntStringS x0 ∧ cntStringS x0 ≤ 10000000 := cntStringS_bd ok_x0
  go_wp2_with fail
  refine (eqLexicon_any _ _ (cntLx x0 n1) _ (rLexicon.own_at o4) (rLexicon.own_at o2)).mono ?_
  rintro e w10 ⟨rfl, hb⟩
  have z10 : w9.heap.size + 0 ≤ w10.heap.size := by have := hb.size; (try simp at this); omega
  replace a0 := rStringS.at_below a0 hb
  replace o1 := rStringS.own_below o1 hb
  replace o2 := rLexicon.own_below o2 hb
  replace o3 := rStringS.own_below o3 hb
  replace o4 := rLexicon.own_below o4 hb
  replace o5 := rStringS.own_below o5 hb
  replace q1 := cell_later hb q1
  replace q2 := cell_later hb q2
  replace yq1 := cell_lt q1
  replace yq2 := cell_lt q2
  replace hbase := baseB0 hbase hb
  clear hb
  go_wp2_with fail
  refine (markLexicon_any _ (cntLx x0 n1) _ _ (1) _ o4 (okCnt) (by omega) (by omega)).mono ?_
  rintro e w11 ⟨rfl, o4n, hc, hty⟩
  have z11 : w10.heap.size + 0 ≤ w11.heap.size := by have := hc.size; (try simp at this); omega
  replace a0 := rStringS.at_chg a0 hc (by first | (left; omega) | (right; omega))
  replace o1 := rStringS.own_chg o1 hc (by first | (left; omega) | (right; omega))
  replace o2 := rLexicon.own_chg o2 hc (by first | (left; omega) | (right; omega))
  replace o3 := rStringS.own_chg o3 hc (by first | (left; omega) | (right; omega))
  replace o5 := rStringS.own_chg o5 hc (by first | (left; omega) | (right; omega))
  replace q1 := chg_cell hc q1 (by first | (left; omega) | (right; omega))
  replace q2 := chg_cell hc q2 (by first | (left; omega) | (right; omega))
  replace yq1 := cell_lt q1
  replace yq2 := cell_lt q2
  replace hbase := below_chg hbase hc (by omega)
  clear hc
  clear hty
  clear o4
  have o4 := o4n
  clear o4n
  have cn11 : 0 ≤ cntLexicon (cntLx x0 n1) ∧ cntLexicon (cntLx x0 n1) ≤ 10000000 := cntLexicon_bd (okCnt)
  go_wp2_with fail
  refine (heldLexicon_any _ (cntLx x0 n1) (1) _ (rLexicon.own_at o4) (okCnt) (by omega) (by omega)).mono ?_
  rintro e w12 ⟨rfl, hb⟩
  have z12 : w11.heap.size + 0 ≤ w12.heap.size := by have := hb.size; (try simp at this); omega
  replace a0 := rStringS.at_below a0 hb
  replace o1 := rStringS.own_below o1 hb
  replace o2 := rLexicon.own_below o2 hb
  replace o3 := rStringS.own_below o3 hb
  replace o4 := rLexicon.own_below o4 hb
  replace o5 := rStringS.own_below o5 hb
  replace q1 := cell_later hb q1
  replace q2 := cell_later hb q2
  replace yq1 := cell_lt q1
  replace yq2 := cell_lt q2
  replace hbase := baseB0 hbase hb
  clear hb
  go_wp2_with fail
  refine (toStringSR_any _ x0 _ a0 ok_x0).mono ?_
  rintro e w13 ⟨u6, rfl, o6, hb⟩
  obtain ⟨sb6, sd6, rfl⟩ := shapeStringS (rStringS.own_at o6)
  have z13 : w12.heap.size + 0 ≤ w13.heap.size := by have := hb.size; (try simp at this); omega
  replace a0 := rStringS.at_below a0 hb
  replace o1 := rStringS.own_below o1 hb
  replace o2 := rLexicon.own_below o2 hb
  replace o3 := rStringS.own_below o3 hb
  replace o4 := rLexicon.own_below o4 hb
  replace o5 := rStringS.own_below o5 hb
  replace q1 := cell_later hb q1
  replace q2 := cell_later hb q2
  replace yq1 := cell_lt q1
  replace yq2 := cell_lt q2
  replace hbase := baseB0 hbase hb
  clear hb
  go_wp2_with fail
  refine (implCountCosts_any _ x0 n1 _ (rStringS.own_at o6) ok_x0 g0).mono ?_
  rintro e w14 ⟨u7, rfl, o7, hb⟩
  obtain ⟨sb7, sd7, rfl⟩ := shapeLexicon (rLexicon.own_at o7)
  have z14 : w13.heap.size + 0 ≤ w14.heap.size := by have := hb.size; (try simp at this); omega
  replace a0 := rStringS.at_below a0 hb
  replace o1 := rStringS.own_below o1 hb
  replace o2 := rLexicon.own_below o2 hb
  replace o3 := rStringS.own_below o3 hb
  replace o4 := rLexicon.own_below o4 hb
  replace o5 := rStringS.own_below o5 hb
  replace o6 := rStringS.own_below o6 hb
  replace q1 := cell_later hb q1
  replace q2 := cell_later hb q2
  replace yq1 := cell_lt q1
  replace yq2 := cell_lt q2
  replace hbase := baseB0 hbase hb
  clear hb
  go_wp2_with fail
  refine (eqLexicon_any _ _ (cntLx x0 n1) _ (rLexicon.own_at (rLexicon.own_alloc o7 _)) (rLexicon.own_at (rLexicon.own_alloc o2 _))).mono ?_
  rintro e w15 ⟨rfl, hb⟩
  have z15 : w14.heap.size + 1 ≤ w15.heap.size := by have := hb.size; (try simp at this); omega
  replace a0 := rStringS.at_below (rStringS.at_alloc a0 _) hb
  replace o1 := rStringS.own_below (rStringS.own_alloc o1 _) hb
  replace o2 := rLexicon.own_below (rLexicon.own_alloc o2 _) hb
  replace o3 := rStringS.own_below (rStringS.own_alloc o3 _) hb
  replace o4 := rLexicon.own_below (rLexicon.own_alloc o4 _) hb
  replace o5 := rStringS.own_below (rStringS.own_alloc o5 _) hb
  replace o6 := rStringS.own_below (rStringS.own_alloc o6 _) hb
  replace o7 := rLexicon.own_below (rLexicon.own_alloc o7 _) hb
  replace q1 := cell_later hb (cell_alloc q1 _)
  replace q2 := cell_later hb (cell_alloc q2 _)
  have q3 : w15.cell? ⟨w14.heap.size, 0, none⟩ = some (.slice sb7 (cntLx x0 n1).length sd7) := cell_later hb (by simp)
  replace yq1 := cell_lt q1
  replace yq2 := cell_lt q2
  have yq3 := cell_lt q3
  replace hbase := baseB1 hbase hb
  clear hb
  go_wp2_with fail
  refine (heldLexicon_any _ (cntLx x0 n1) (1) _ (rLexicon.own_at o4) (okCnt) (by omega) (by omega)).mono ?_
  rintro e w16 ⟨rfl, hb⟩
  have z16 : w15.heap.size + 0 ≤ w16.heap.size := by have := hb.size; (try simp at this); omega
  replace a0 := rStringS.at_below a0 hb
  replace o1 := rStringS.own_below o1 hb
  replace o2 := rLexicon.own_below o2 hb
  replace o3 := rStringS.own_below o3 hb
  replace o4 := rLexicon.own_below o4 hb
  replace o5 := rStringS.own_below o5 hb
  replace o6 := rStringS.own_below o6 hb
  replace o7 := rLexicon.own_below o7 hb
  replace q1 := cell_later hb q1
  replace q2 := cell_later hb q2
  replace q3 := cell_later hb q3
  replace yq1 := cell_lt q1
  replace yq2 := cell_lt q2
  replace yq3 := cell_lt q3
  replace hbase := baseB0 hbase hb
  clear hb
  go_wp2_with fail
  go_ret
  exact ret_bool rfl hbase
end Go.Proofs.Ythooeaappnkjgaa
