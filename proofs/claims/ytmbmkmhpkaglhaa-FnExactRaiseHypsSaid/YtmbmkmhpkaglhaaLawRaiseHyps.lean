/- The walk of the law FnExactRaiseHyps: for every argument it returns true and leaves what was there. -/
import Derived.Test.YtmbmkmhpkaglhaaReg2
import Derived.Test.YtmbmkmhpkaglhaaBase2
import Derived.Test.YtmbmkmhpkaglhaaWrHypS
import Derived.Test.YtmbmkmhpkaglhaaHyRaise
namespace Go.Proofs.Ytmbmkmhpkaglhaa
open Go.RowKit

set_option maxHeartbeats 4000000 in
theorem lawRaiseHyps (v0 : Value) (x0 : XHypS) (n1 : Int) (w : World) (a0 : rHypS.at_ 0 w.heap.size w v0 x0) (g0 : goodHypS x0) :
    Calls Try.prog 7 #[v0, .int .i64 n1] w (Ret (.bool true) w) := by
  obtain ⟨sa0, sc0, rfl⟩ := shapeHypS a0
  have hbase : Below w.heap.size w w := Below.refl _ _
  go_enter Try.func7, Try.ntmps7
  go_wp2_with fail
  refine (szHypSR_any _ x0 (1048576) _ a0 g0 (by omega) (by omega)).mono ?_
  rintro e w1 ⟨rfl, hb⟩
  have z1 : w.heap.size + 0 ≤ w1.heap.size := by have := hb.size; (try simp at this); omega
  replace a0 := rHypS.at_below a0 hb
  replace hbase := baseB0 hbase hb
  clear hb
  by_cases hszx0 : (1048576 : Int) < (sizeHypS x0 : Nat)
  · rw [szOf_neg hszx0]
    go_wp2_with fail
    go_ret
    exact ret_bool rfl hbase
  rw [szOf_pos (by omega)]
  have ok_x0 : okHypS x0 := okHypS_of (by omega)
  go_wp2_with fail
  refine (toHypSR_any _ x0 _ a0 ok_x0).mono ?_
  rintro e w2 ⟨u1, rfl, o1, hb⟩
  obtain ⟨sb1, sd1, rfl⟩ := shapeHypS (rHypS.own_at o1)
  have z2 : w1.heap.size + 0 ≤ w2.heap.size := by have := hb.size; (try simp at this); omega
  replace a0 := rHypS.at_below a0 hb
  replace hbase := baseB0 hbase hb
  clear hb
  go_wp2_with fail
  refine (specRaiseHyps_any _ x0 n1 _ (rHypS.own_at o1) ok_x0 g0).mono ?_
  rintro e w3 ⟨u2, rfl, o2, hb⟩
  obtain ⟨sb2, sd2, rfl⟩ := shapeHypS (rHypS.own_at o2)
  have z3 : w2.heap.size + 0 ≤ w3.heap.size := by have := hb.size; (try simp at this); omega
  replace a0 := rHypS.at_below a0 hb
  replace o1 := rHypS.own_below o1 hb
  replace hbase := baseB0 hbase hb
  clear hb
  go_wp2_with fail
  refine (toHypSR_any _ x0 _ a0 ok_x0).mono ?_
  rintro e w4 ⟨u3, rfl, o3, hb⟩
  obtain ⟨sb3, sd3, rfl⟩ := shapeHypS (rHypS.own_at o3)
  have z4 : w3.heap.size + 0 ≤ w4.heap.size := by have := hb.size; (try simp at this); omega
  replace a0 := rHypS.at_below a0 hb
  replace o1 := rHypS.own_below o1 hb
  replace o2 := rHypS.own_below o2 hb
  replace hbase := baseB0 hbase hb
  clear hb
  go_wp2_with fail
  refine (implRaiseHyps_any _ x0 n1 _ (rHypS.own_at o3) ok_x0 g0).mono ?_
  rintro e w5 ⟨u4, rfl, o4, hb⟩
  obtain ⟨sb4, sd4, rfl⟩ := shapeHypS (rHypS.own_at o4)
  have z5 : w4.heap.size + 0 ≤ w5.heap.size := by have := hb.size; (try simp at this); omega
  replace a0 := rHypS.at_below a0 hb
  replace o1 := rHypS.own_below o1 hb
  replace o2 := rHypS.own_below o2 hb
  replace o3 := rHypS.own_below o3 hb
  replace hbase := baseB0 hbase hb
  clear hb
  go_wp2_with fail
  refine (eqHypSR_any _ _ (raiseHy x0 n1) _ (rHypS.own_at o4) (rHypS.own_at o2)).mono ?_
  rintro e w6 ⟨rfl, hb⟩
  have z6 : w5.heap.size + 0 ≤ w6.heap.size := by have := hb.size; (try simp at this); omega
  replace a0 := rHypS.at_below a0 hb
  replace o1 := rHypS.own_below o1 hb
  replace o2 := rHypS.own_below o2 hb
  replace o3 := rHypS.own_below o3 hb
  replace o4 := rHypS.own_below o4 hb
  replace hbase := baseB0 hbase hb
  clear hb
  go_wp2_with fail
  refine (toHypSR_any _ x0 _ a0 ok_x0).mono ?_
  rintro e w7 ⟨u5, rfl, o5, hb⟩
  obtain ⟨sb5, sd5, rfl⟩ := shapeHypS (rHypS.own_at o5)
  have z7 : w6.heap.size + 0 ≤ w7.heap.size := by have := hb.size; (try simp at this); omega
  replace a0 := rHypS.at_below a0 hb
  replace o1 := rHypS.own_below o1 hb
  replace o2 := rHypS.own_below o2 hb
  replace o3 := rHypS.own_below o3 hb
  replace o4 := rHypS.own_below o4 hb
  replace hbase := baseB0 hbase hb
  clear hb
  go_wp2_with fail
  refine (eqHypSR_any _ _ x0 _ (rHypS.own_at o3) (rHypS.own_at o5)).mono ?_
  rintro e w8 ⟨rfl, hb⟩
  have z8 : w7.heap.size + 0 ≤ w8.heap.size := by have := hb.size; (try simp at this); omega
  replace a0 := rHypS.at_below a0 hb
  replace o1 := rHypS.own_below o1 hb
  replace o2 := rHypS.own_below o2 hb
  replace o3 := rHypS.own_below o3 hb
  replace o4 := rHypS.own_below o4 hb
  replace o5 := rHypS.own_below o5 hb
  replace hbase := baseB0 hbase hb
  clear hb
  go_wp2_with fail
  refine (markHypSR_any _ x0 _ _ (1) _ o3 ok_x0 (by omega) (by omega)).mono ?_
  rintro e w9 ⟨rfl, o3n, hc, hty⟩
  have z9 : w8.heap.size + 0 ≤ w9.heap.size := by have := hc.size; (try simp at this); omega
  replace a0 := rHypS.at_chg a0 hc (by first | (left; omega) | (right; omega))
  replace o1 := rHypS.own_chg o1 hc (by first | (left; omega) | (right; omega))
  replace o2 := rHypS.own_chg o2 hc (by first | (left; omega) | (right; omega))
  replace o4 := rHypS.own_chg o4 hc (by first | (left; omega) | (right; omega))
  replace o5 := rHypS.own_chg o5 hc (by first | (left; omega) | (right; omega))
  replace hbase := below_chg hbase hc (by omega)
  clear hc
  clear hty
  clear o3
  have o3 := o3n
  clear o3n
  have cn9 : 0 ≤ cntHypS x0 ∧ cntHypS x0 ≤ 10000000 := cntHypS_bd ok_x0
  go_wp2_with fail
  refine (eqHypSR_any _ _ (raiseHy x0 n1) _ (rHypS.own_at o4) (rHypS.own_at o2)).mono ?_
  rintro e w10 ⟨rfl, hb⟩
  have z10 : w9.heap.size + 0 ≤ w10.heap.size := by have := hb.size; (try simp at this); omega
  replace a0 := rHypS.at_below a0 hb
  replace o1 := rHypS.own_below o1 hb
  replace o2 := rHypS.own_below o2 hb
  replace o3 := rHypS.own_below o3 hb
  replace o4 := rHypS.own_below o4 hb
  replace o5 := rHypS.own_below o5 hb
  replace hbase := baseB0 hbase hb
  clear hb
  go_wp2_with fail
  refine (markHypSR_any _ (raiseHy x0 n1) _ _ (1) _ o4 (okRaise ok_x0) (by omega) (by omega)).mono ?_
  rintro e w11 ⟨rfl, o4n, hc, hty⟩
  have z11 : w10.heap.size + 0 ≤ w11.heap.size := by have := hc.size; (try simp at this); omega
  replace a0 := rHypS.at_chg a0 hc (by first | (left; omega) | (right; omega))
  replace o1 := rHypS.own_chg o1 hc (by first | (left; omega) | (right; omega))
  replace o2 := rHypS.own_chg o2 hc (by first | (left; omega) | (right; omega))
  replace o3 := rHypS.own_chg o3 hc (by first | (left; omega) | (right; omega))
  replace o5 := rHypS.own_chg o5 hc (by first | (left; omega) | (right; omega))
  replace hbase := below_chg hbase hc (by omega)
  clear hc
  clear hty
  clear o4
  have o4 := o4n
  clear o4n
  have cn11 : 0 ≤ cntHypS (raiseHy x0 n1) ∧ cntHypS (raiseHy x0 n1) ≤ 10000000 := cntHypS_bd (okRaise ok_x0)
  go_wp2_with fail
  refine (heldHypSR_any _ (raiseHy x0 n1) (1) _ (rHypS.own_at o4) (okRaise ok_x0) (by omega) (by omega)).mono ?_
  rintro e w12 ⟨rfl, hb⟩
  have z12 : w11.heap.size + 0 ≤ w12.heap.size := by have := hb.size; (try simp at this); omega
  replace a0 := rHypS.at_below a0 hb
  replace o1 := rHypS.own_below o1 hb
  replace o2 := rHypS.own_below o2 hb
  replace o3 := rHypS.own_below o3 hb
  replace o4 := rHypS.own_below o4 hb
  replace o5 := rHypS.own_below o5 hb
  replace hbase := baseB0 hbase hb
  clear hb
  go_wp2_with fail
  refine (toHypSR_any _ x0 _ a0 ok_x0).mono ?_
  rintro e w13 ⟨u6, rfl, o6, hb⟩
  obtain ⟨sb6, sd6, rfl⟩ := shapeHypS (rHypS.own_at o6)
  have z13 : w12.heap.size + 0 ≤ w13.heap.size := by have := hb.size; (try simp at this); omega
  replace a0 := rHypS.at_below a0 hb
  replace o1 := rHypS.own_below o1 hb
  replace o2 := rHypS.own_below o2 hb
  replace o3 := rHypS.own_below o3 hb
  replace o4 := rHypS.own_below o4 hb
  replace o5 := rHypS.own_below o5 hb
  replace hbase := baseB0 hbase hb
  clear hb
  go_wp2_with fail
  refine (implRaiseHyps_any _ x0 n1 _ (rHypS.own_at o6) ok_x0 g0).mono ?_
  rintro e w14 ⟨u7, rfl, o7, hb⟩
  obtain ⟨sb7, sd7, rfl⟩ := shapeHypS (rHypS.own_at o7)
  have z14 : w13.heap.size + 0 ≤ w14.heap.size := by have := hb.size; (try simp at this); omega
  replace a0 := rHypS.at_below a0 hb
  replace o1 := rHypS.own_below o1 hb
  replace o2 := rHypS.own_below o2 hb
  replace o3 := rHypS.own_below o3 hb
  replace o4 := rHypS.own_below o4 hb
  replace o5 := rHypS.own_below o5 hb
  replace o6 := rHypS.own_below o6 hb
  replace hbase := baseB0 hbase hb
  clear hb
  go_wp2_with fail
  refine (eqHypSR_any _ _ (raiseHy x0 n1) _ (rHypS.own_at o7) (rHypS.own_at o2)).mono ?_
  rintro e w15 ⟨rfl, hb⟩
  have z15 : w14.heap.size + 0 ≤ w15.heap.size := by have := hb.size; (try simp at this); omega
  replace a0 := rHypS.at_below a0 hb
  replace o1 := rHypS.own_below o1 hb
  replace o2 := rHypS.own_below o2 hb
  replace o3 := rHypS.own_below o3 hb
  replace o4 := rHypS.own_below o4 hb
  replace o5 := rHypS.own_below o5 hb
  replace o6 := rHypS.own_below o6 hb
  replace o7 := rHypS.own_below o7 hb
  replace hbase := baseB0 hbase hb
  clear hb
  go_wp2_with fail
  refine (heldHypSR_any _ (raiseHy x0 n1) (1) _ (rHypS.own_at o4) (okRaise ok_x0) (by omega) (by omega)).mono ?_
  rintro e w16 ⟨rfl, hb⟩
  have z16 : w15.heap.size + 0 ≤ w16.heap.size := by have := hb.size; (try simp at this); omega
  replace a0 := rHypS.at_below a0 hb
  replace o1 := rHypS.own_below o1 hb
  replace o2 := rHypS.own_below o2 hb
  replace o3 := rHypS.own_below o3 hb
  replace o4 := rHypS.own_below o4 hb
  replace o5 := rHypS.own_below o5 hb
  replace o6 := rHypS.own_below o6 hb
  replace o7 := rHypS.own_below o7 hb
  replace hbase := baseB0 hbase hb
  clear hb
  go_wp2_with fail
  go_ret
  exact ret_bool rfl hbase
end Go.Proofs.Ytmbmkmhpkaglhaa
