/- The walk of the law FnExactMergeHyps: for every argument it returns true and leaves what was there. -/
import Derived.Test.YtnanegdcoegahaaReg2
import Derived.Test.YtnanegdcoegahaaBase2
import Derived.Test.YtnanegdcoegahaaWrHypS
import Derived.Test.YtnanegdcoegahaaHySpec2
namespace Go.Proofs.Ytnanegdcoegahaa
open Go.RowKit

set_option maxHeartbeats 4000000 in
theorem lawMergeHyps (v0 : Value) (x0 : XHypS) (v1 : Value) (x1 : XHypS) (n2 : Int) (w : World) (a0 : rHypS.at_ 0 w.heap.size w v0 x0) (g0 : goodHypS x0) (a1 : rHypS.at_ 0 w.heap.size w v1 x1) (g1 : goodHypS x1) :
    Calls Try.prog 8 #[v0, v1, .int .i64 n2] w (Ret (.bool true) w) := by
  obtain ⟨sa0, sc0, rfl⟩ := shapeHypS a0
  obtain ⟨sa1, sc1, rfl⟩ := shapeHypS a1
  have hbase : Below w.heap.size w w := Below.refl _ _
  go_enter Try.func8, Try.ntmps8
  go_wp2_with fail
  refine (szHypSR_any _ x0 (1048576) _ a0 g0 (by omega) (by omega)).mono ?_
  rintro e w1 ⟨rfl, hb⟩
  have z1 : w.heap.size + 0 ≤ w1.heap.size := by have := hb.size; (try simp at this); omega
  replace a0 := rHypS.at_below a0 hb
  replace a1 := rHypS.at_below a1 hb
  replace hbase := baseB0 hbase hb
  clear hb
  by_cases hszx0 : (1048576 : Int) < (sizeHypS x0 : Nat)
  · rw [szOf_neg hszx0]
    go_wp2_with fail
    go_ret
    exact ret_bool rfl hbase
  rw [szOf_pos (by omega)]
  have ok_x0 : okHypS x0 := okHypS_of (by omega)
  go_wp2_with fail
  refine (szHypSR_any _ x1 (1048576 - (sizeHypS x0 : Nat)) _ a1 g1 (by omega) (by omega)).mono ?_
  rintro e w2 ⟨rfl, hb⟩
  have z2 : w1.heap.size + 0 ≤ w2.heap.size := by have := hb.size; (try simp at this); omega
  replace a0 := rHypS.at_below a0 hb
  replace a1 := rHypS.at_below a1 hb
  replace hbase := baseB0 hbase hb
  clear hb
  by_cases hszx1 : (1048576 - (sizeHypS x0 : Nat) : Int) < (sizeHypS x1 : Nat)
  · rw [szOf_neg hszx1]
    go_wp2_with fail
    go_ret
    exact ret_bool rfl hbase
  rw [szOf_pos (by omega)]
  have ok_x1 : okHypS x1 := okHypS_of (by omega)
  go_wp2_with fail
  refine (toHypSR_any _ x0 _ a0 ok_x0).mono ?_
  rintro e w3 ⟨u1, rfl, o1, hb⟩
  obtain ⟨sb1, sd1, rfl⟩ := shapeHypS (rHypS.own_at o1)
  have z3 : w2.heap.size + 0 ≤ w3.heap.size := by have := hb.size; (try simp at this); omega
  replace a0 := rHypS.at_below a0 hb
  replace a1 := rHypS.at_below a1 hb
  replace hbase := baseB0 hbase hb
  clear hb
  go_wp2_with fail
  refine (toHypSR_any _ x1 _ a1 ok_x1).mono ?_
  rintro e w4 ⟨u2, rfl, o2, hb⟩
  obtain ⟨sb2, sd2, rfl⟩ := shapeHypS (rHypS.own_at o2)
  have z4 : w3.heap.size + 0 ≤ w4.heap.size := by have := hb.size; (try simp at this); omega
  replace a0 := rHypS.at_below a0 hb
  replace a1 := rHypS.at_below a1 hb
  replace o1 := rHypS.own_below o1 hb
  replace hbase := baseB0 hbase hb
  clear hb
  go_wp2_with fail
  refine (specMergeHyps_any _ x0 _ x1 n2 _ (rHypS.own_at o1) (rHypS.own_at o2) ok_x0 ok_x1 g0 g1).mono ?_
  rintro e w5 ⟨u3, rfl, o3, hb⟩
  obtain ⟨sb3, sd3, rfl⟩ := shapeHypS (rHypS.own_at o3)
  have z5 : w4.heap.size + 0 ≤ w5.heap.size := by have := hb.size; (try simp at this); omega
  replace a0 := rHypS.at_below a0 hb
  replace a1 := rHypS.at_below a1 hb
  replace o1 := rHypS.own_below o1 hb
  replace o2 := rHypS.own_below o2 hb
  replace hbase := baseB0 hbase hb
  clear hb
  go_wp2_with fail
  refine (toHypSR_any _ x0 _ a0 ok_x0).mono ?_
  rintro e w6 ⟨u4, rfl, o4, hb⟩
  obtain ⟨sb4, sd4, rfl⟩ := shapeHypS (rHypS.own_at o4)
  have z6 : w5.heap.size + 0 ≤ w6.heap.size := by have := hb.size; (try simp at this); omega
  replace a0 := rHypS.at_below a0 hb
  replace a1 := rHypS.at_below a1 hb
  replace o1 := rHypS.own_below o1 hb
  replace o2 := rHypS.own_below o2 hb
  replace o3 := rHypS.own_below o3 hb
  replace hbase := baseB0 hbase hb
  clear hb
  go_wp2_with fail
  refine (toHypSR_any _ x1 _ a1 ok_x1).mono ?_
  rintro e w7 ⟨u5, rfl, o5, hb⟩
  obtain ⟨sb5, sd5, rfl⟩ := shapeHypS (rHypS.own_at o5)
  have z7 : w6.heap.size + 0 ≤ w7.heap.size := by have := hb.size; (try simp at this); omega
  replace a0 := rHypS.at_below a0 hb
  replace a1 := rHypS.at_below a1 hb
  replace o1 := rHypS.own_below o1 hb
  replace o2 := rHypS.own_below o2 hb
  replace o3 := rHypS.own_below o3 hb
  replace o4 := rHypS.own_below o4 hb
  replace hbase := baseB0 hbase hb
  clear hb
  go_wp2_with fail
  refine (implMergeHyps_any _ x0 _ x1 n2 _ (rHypS.own_at o4) (rHypS.own_at o5) ok_x0 ok_x1 g0 g1).mono ?_
  rintro e w8 ⟨u6, rfl, o6, hb⟩
  obtain ⟨sb6, sd6, rfl⟩ := shapeHypS (rHypS.own_at o6)
  have z8 : w7.heap.size + 0 ≤ w8.heap.size := by have := hb.size; (try simp at this); omega
  replace a0 := rHypS.at_below a0 hb
  replace a1 := rHypS.at_below a1 hb
  replace o1 := rHypS.own_below o1 hb
  replace o2 := rHypS.own_below o2 hb
  replace o3 := rHypS.own_below o3 hb
  replace o4 := rHypS.own_below o4 hb
  replace o5 := rHypS.own_below o5 hb
  replace hbase := baseB0 hbase hb
  clear hb
  go_wp2_with fail
  refine (eqHypSR_any _ _ (mergeHy x0 x1 n2) _ (rHypS.own_at o6) (rHypS.own_at o3)).mono ?_
  rintro e w9 ⟨rfl, hb⟩
  have z9 : w8.heap.size + 0 ≤ w9.heap.size := by have := hb.size; (try simp at this); omega
  replace a0 := rHypS.at_below a0 hb
  replace a1 := rHypS.at_below a1 hb
  replace o1 := rHypS.own_below o1 hb
  replace o2 := rHypS.own_below o2 hb
  replace o3 := rHypS.own_below o3 hb
  replace o4 := rHypS.own_below o4 hb
  replace o5 := rHypS.own_below o5 hb
  replace o6 := rHypS.own_below o6 hb
  replace hbase := baseB0 hbase hb
  clear hb
  go_wp2_with fail
  refine (toHypSR_any _ x0 _ a0 ok_x0).mono ?_
  rintro e w10 ⟨u7, rfl, o7, hb⟩
  obtain ⟨sb7, sd7, rfl⟩ := shapeHypS (rHypS.own_at o7)
  have z10 : w9.heap.size + 0 ≤ w10.heap.size := by have := hb.size; (try simp at this); omega
  replace a0 := rHypS.at_below a0 hb
  replace a1 := rHypS.at_below a1 hb
  replace o1 := rHypS.own_below o1 hb
  replace o2 := rHypS.own_below o2 hb
  replace o3 := rHypS.own_below o3 hb
  replace o4 := rHypS.own_below o4 hb
  replace o5 := rHypS.own_below o5 hb
  replace o6 := rHypS.own_below o6 hb
  replace hbase := baseB0 hbase hb
  clear hb
  go_wp2_with fail
  refine (eqHypSR_any _ _ x0 _ (rHypS.own_at o4) (rHypS.own_at o7)).mono ?_
  rintro e w11 ⟨rfl, hb⟩
  have z11 : w10.heap.size + 0 ≤ w11.heap.size := by have := hb.size; (try simp at this); omega
  replace a0 := rHypS.at_below a0 hb
  replace a1 := rHypS.at_below a1 hb
  replace o1 := rHypS.own_below o1 hb
  replace o2 := rHypS.own_below o2 hb
  replace o3 := rHypS.own_below o3 hb
  replace o4 := rHypS.own_below o4 hb
  replace o5 := rHypS.own_below o5 hb
  replace o6 := rHypS.own_below o6 hb
  replace o7 := rHypS.own_below o7 hb
  replace hbase := baseB0 hbase hb
  clear hb
  go_wp2_with fail
  refine (toHypSR_any _ x1 _ a1 ok_x1).mono ?_
  rintro e w12 ⟨u8, rfl, o8, hb⟩
  obtain ⟨sb8, sd8, rfl⟩ := shapeHypS (rHypS.own_at o8)
  have z12 : w11.heap.size + 0 ≤ w12.heap.size := by have := hb.size; (try simp at this); omega
  replace a0 := rHypS.at_below a0 hb
  replace a1 := rHypS.at_below a1 hb
  replace o1 := rHypS.own_below o1 hb
  replace o2 := rHypS.own_below o2 hb
  replace o3 := rHypS.own_below o3 hb
  replace o4 := rHypS.own_below o4 hb
  replace o5 := rHypS.own_below o5 hb
  replace o6 := rHypS.own_below o6 hb
  replace o7 := rHypS.own_below o7 hb
  replace hbase := baseB0 hbase hb
  clear hb
  go_wp2_with fail
  refine (eqHypSR_any _ _ x1 _ (rHypS.own_at o5) (rHypS.own_at o8)).mono ?_
  rintro e w13 ⟨rfl, hb⟩
  have z13 : w12.heap.size + 0 ≤ w13.heap.size := by have := hb.size; (try simp at this); omega
  replace a0 := rHypS.at_below a0 hb
  replace a1 := rHypS.at_below a1 hb
  replace o1 := rHypS.own_below o1 hb
  replace o2 := rHypS.own_below o2 hb
  replace o3 := rHypS.own_below o3 hb
  replace o4 := rHypS.own_below o4 hb
  replace o5 := rHypS.own_below o5 hb
  replace o6 := rHypS.own_below o6 hb
  replace o7 := rHypS.own_below o7 hb
  replace o8 := rHypS.own_below o8 hb
  replace hbase := baseB0 hbase hb
  clear hb
  go_wp2_with fail
  refine (markHypSR_any _ x0 _ _ (1) _ o4 ok_x0 (by omega) (by omega)).mono ?_
  rintro e w14 ⟨rfl, o4n, hc, hty⟩
  have z14 : w13.heap.size + 0 ≤ w14.heap.size := by have := hc.size; (try simp at this); omega
  replace a0 := rHypS.at_chg a0 hc (by first | (left; omega) | (right; omega))
  replace a1 := rHypS.at_chg a1 hc (by first | (left; omega) | (right; omega))
  replace o1 := rHypS.own_chg o1 hc (by first | (left; omega) | (right; omega))
  replace o2 := rHypS.own_chg o2 hc (by first | (left; omega) | (right; omega))
  replace o3 := rHypS.own_chg o3 hc (by first | (left; omega) | (right; omega))
  replace o5 := rHypS.own_chg o5 hc (by first | (left; omega) | (right; omega))
  replace o6 := rHypS.own_chg o6 hc (by first | (left; omega) | (right; omega))
  replace o7 := rHypS.own_chg o7 hc (by first | (left; omega) | (right; omega))
  replace o8 := rHypS.own_chg o8 hc (by first | (left; omega) | (right; omega))
  replace hbase := below_chg hbase hc (by omega)
  clear hc
  clear hty
  clear o4
  have o4 := o4n
  clear o4n
  have cn14 : 0 ≤ cntHypS x0 ∧ cntHypS x0 ≤ 10000000 := cntHypS_bd ok_x0
  go_wp2_with fail
  refine (markHypSR_any _ x1 _ _ (1 + cntHypS x0) _ o5 ok_x1 (by omega) (by omega)).mono ?_
  rintro e w15 ⟨rfl, o5n, hc, hty⟩
  have z15 : w14.heap.size + 0 ≤ w15.heap.size := by have := hc.size; (try simp at this); omega
  replace a0 := rHypS.at_chg a0 hc (by first | (left; omega) | (right; omega))
  replace a1 := rHypS.at_chg a1 hc (by first | (left; omega) | (right; omega))
  replace o1 := rHypS.own_chg o1 hc (by first | (left; omega) | (right; omega))
  replace o2 := rHypS.own_chg o2 hc (by first | (left; omega) | (right; omega))
  replace o3 := rHypS.own_chg o3 hc (by first | (left; omega) | (right; omega))
  replace o4 := rHypS.own_chg o4 hc (by first | (left; omega) | (right; omega))
  replace o6 := rHypS.own_chg o6 hc (by first | (left; omega) | (right; omega))
  replace o7 := rHypS.own_chg o7 hc (by first | (left; omega) | (right; omega))
  replace o8 := rHypS.own_chg o8 hc (by first | (left; omega) | (right; omega))
  replace hbase := below_chg hbase hc (by omega)
  clear hc
  clear hty
  clear o5
  have o5 := o5n
  clear o5n
  have cn15 : 0 ≤ cntHypS x1 ∧ cntHypS x1 ≤ 10000000 := cntHypS_bd ok_x1
  go_wp2_with fail
  refine (eqHypSR_any _ _ (mergeHy x0 x1 n2) _ (rHypS.own_at o6) (rHypS.own_at o3)).mono ?_
  rintro e w16 ⟨rfl, hb⟩
  have z16 : w15.heap.size + 0 ≤ w16.heap.size := by have := hb.size; (try simp at this); omega
  replace a0 := rHypS.at_below a0 hb
  replace a1 := rHypS.at_below a1 hb
  replace o1 := rHypS.own_below o1 hb
  replace o2 := rHypS.own_below o2 hb
  replace o3 := rHypS.own_below o3 hb
  replace o4 := rHypS.own_below o4 hb
  replace o5 := rHypS.own_below o5 hb
  replace o6 := rHypS.own_below o6 hb
  replace o7 := rHypS.own_below o7 hb
  replace o8 := rHypS.own_below o8 hb
  replace hbase := baseB0 hbase hb
  clear hb
  go_wp2_with fail
  refine (markHypSR_any _ (mergeHy x0 x1 n2) _ _ (1) _ o6 okMerge (by omega) (by omega)).mono ?_
  rintro e w17 ⟨rfl, o6n, hc, hty⟩
  have z17 : w16.heap.size + 0 ≤ w17.heap.size := by have := hc.size; (try simp at this); omega
  replace a0 := rHypS.at_chg a0 hc (by first | (left; omega) | (right; omega))
  replace a1 := rHypS.at_chg a1 hc (by first | (left; omega) | (right; omega))
  replace o1 := rHypS.own_chg o1 hc (by first | (left; omega) | (right; omega))
  replace o2 := rHypS.own_chg o2 hc (by first | (left; omega) | (right; omega))
  replace o3 := rHypS.own_chg o3 hc (by first | (left; omega) | (right; omega))
  replace o4 := rHypS.own_chg o4 hc (by first | (left; omega) | (right; omega))
  replace o5 := rHypS.own_chg o5 hc (by first | (left; omega) | (right; omega))
  replace o7 := rHypS.own_chg o7 hc (by first | (left; omega) | (right; omega))
  replace o8 := rHypS.own_chg o8 hc (by first | (left; omega) | (right; omega))
  replace hbase := below_chg hbase hc (by omega)
  clear hc
  clear hty
  clear o6
  have o6 := o6n
  clear o6n
  have cn17 : 0 ≤ cntHypS (mergeHy x0 x1 n2) ∧ cntHypS (mergeHy x0 x1 n2) ≤ 10000000 := cntHypS_bd okMerge
  go_wp2_with fail
  refine (heldHypSR_any _ (mergeHy x0 x1 n2) (1) _ (rHypS.own_at o6) okMerge (by omega) (by omega)).mono ?_
  rintro e w18 ⟨rfl, hb⟩
  have z18 : w17.heap.size + 0 ≤ w18.heap.size := by have := hb.size; (try simp at this); omega
  replace a0 := rHypS.at_below a0 hb
  replace a1 := rHypS.at_below a1 hb
  replace o1 := rHypS.own_below o1 hb
  replace o2 := rHypS.own_below o2 hb
  replace o3 := rHypS.own_below o3 hb
  replace o4 := rHypS.own_below o4 hb
  replace o5 := rHypS.own_below o5 hb
  replace o6 := rHypS.own_below o6 hb
  replace o7 := rHypS.own_below o7 hb
  replace o8 := rHypS.own_below o8 hb
  replace hbase := baseB0 hbase hb
  clear hb
  go_wp2_with fail
  refine (toHypSR_any _ x0 _ a0 ok_x0).mono ?_
  rintro e w19 ⟨u9, rfl, o9, hb⟩
  obtain ⟨sb9, sd9, rfl⟩ := shapeHypS (rHypS.own_at o9)
  have z19 : w18.heap.size + 0 ≤ w19.heap.size := by have := hb.size; (try simp at this); omega
  replace a0 := rHypS.at_below a0 hb
  replace a1 := rHypS.at_below a1 hb
  replace o1 := rHypS.own_below o1 hb
  replace o2 := rHypS.own_below o2 hb
  replace o3 := rHypS.own_below o3 hb
  replace o4 := rHypS.own_below o4 hb
  replace o5 := rHypS.own_below o5 hb
  replace o6 := rHypS.own_below o6 hb
  replace o7 := rHypS.own_below o7 hb
  replace o8 := rHypS.own_below o8 hb
  replace hbase := baseB0 hbase hb
  clear hb
  go_wp2_with fail
  refine (toHypSR_any _ x1 _ a1 ok_x1).mono ?_
  rintro e w20 ⟨u10, rfl, o10, hb⟩
  obtain ⟨sb10, sd10, rfl⟩ := shapeHypS (rHypS.own_at o10)
  have z20 : w19.heap.size + 0 ≤ w20.heap.size := by have := hb.size; (try simp at this); omega
  replace a0 := rHypS.at_below a0 hb
  replace a1 := rHypS.at_below a1 hb
  replace o1 := rHypS.own_below o1 hb
  replace o2 := rHypS.own_below o2 hb
  replace o3 := rHypS.own_below o3 hb
  replace o4 := rHypS.own_below o4 hb
  replace o5 := rHypS.own_below o5 hb
  replace o6 := rHypS.own_below o6 hb
  replace o7 := rHypS.own_below o7 hb
  replace o8 := rHypS.own_below o8 hb
  replace o9 := rHypS.own_below o9 hb
  replace hbase := baseB0 hbase hb
  clear hb
  go_wp2_with fail
  refine (implMergeHyps_any _ x0 _ x1 n2 _ (rHypS.own_at o9) (rHypS.own_at o10) ok_x0 ok_x1 g0 g1).mono ?_
  rintro e w21 ⟨u11, rfl, o11, hb⟩
  obtain ⟨sb11, sd11, rfl⟩ := shapeHypS (rHypS.own_at o11)
  have z21 : w20.heap.size + 0 ≤ w21.heap.size := by have := hb.size; (try simp at this); omega
  replace a0 := rHypS.at_below a0 hb
  replace a1 := rHypS.at_below a1 hb
  replace o1 := rHypS.own_below o1 hb
  replace o2 := rHypS.own_below o2 hb
  replace o3 := rHypS.own_below o3 hb
  replace o4 := rHypS.own_below o4 hb
  replace o5 := rHypS.own_below o5 hb
  replace o6 := rHypS.own_below o6 hb
  replace o7 := rHypS.own_below o7 hb
  replace o8 := rHypS.own_below o8 hb
  replace o9 := rHypS.own_below o9 hb
  replace o10 := rHypS.own_below o10 hb
  replace hbase := baseB0 hbase hb
  clear hb
  go_wp2_with fail
  refine (eqHypSR_any _ _ (mergeHy x0 x1 n2) _ (rHypS.own_at o11) (rHypS.own_at o3)).mono ?_
  rintro e w22 ⟨rfl, hb⟩
  have z22 : w21.heap.size + 0 ≤ w22.heap.size := by have := hb.size; (try simp at this); omega
  replace a0 := rHypS.at_below a0 hb
  replace a1 := rHypS.at_below a1 hb
  replace o1 := rHypS.own_below o1 hb
  replace o2 := rHypS.own_below o2 hb
  replace o3 := rHypS.own_below o3 hb
  replace o4 := rHypS.own_below o4 hb
  replace o5 := rHypS.own_below o5 hb
  replace o6 := rHypS.own_below o6 hb
  replace o7 := rHypS.own_below o7 hb
  replace o8 := rHypS.own_below o8 hb
  replace o9 := rHypS.own_below o9 hb
  replace o10 := rHypS.own_below o10 hb
  replace o11 := rHypS.own_below o11 hb
  replace hbase := baseB0 hbase hb
  clear hb
  go_wp2_with fail
  refine (heldHypSR_any _ (mergeHy x0 x1 n2) (1) _ (rHypS.own_at o6) okMerge (by omega) (by omega)).mono ?_
  rintro e w23 ⟨rfl, hb⟩
  have z23 : w22.heap.size + 0 ≤ w23.heap.size := by have := hb.size; (try simp at this); omega
  replace a0 := rHypS.at_below a0 hb
  replace a1 := rHypS.at_below a1 hb
  replace o1 := rHypS.own_below o1 hb
  replace o2 := rHypS.own_below o2 hb
  replace o3 := rHypS.own_below o3 hb
  replace o4 := rHypS.own_below o4 hb
  replace o5 := rHypS.own_below o5 hb
  replace o6 := rHypS.own_below o6 hb
  replace o7 := rHypS.own_below o7 hb
  replace o8 := rHypS.own_below o8 hb
  replace o9 := rHypS.own_below o9 hb
  replace o10 := rHypS.own_below o10 hb
  replace o11 := rHypS.own_below o11 hb
  replace hbase := baseB0 hbase hb
  clear hb
  go_wp2_with fail
  go_ret
  exact ret_bool rfl hbase
end Go.Proofs.Ytnanegdcoegahaa
