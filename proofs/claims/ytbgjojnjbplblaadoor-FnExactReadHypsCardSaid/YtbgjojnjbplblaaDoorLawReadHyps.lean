/- The walk of the law FnExactReadHyps: for every argument it returns true and leaves what was there. -/
import Derived.Test.YtbgjojnjbplblaaDoorReg
import Derived.Test.YtbgjojnjbplblaaDoorRep
import Derived.Test.YtbgjojnjbplblaaDoorWrHypS
import Derived.Test.YtbgjojnjbplblaaDoorRtHypI
namespace Go.Proofs.YtbgjojnjbplblaaDoor
open Go.RowKit

set_option maxHeartbeats 4000000 in
theorem lawReadHyps (s0 : ByteArray) (w : World) (g0 : s0.size ≤ maxLen) (htab : TabR w) :
    Calls Tryd.prog 4 #[.string s0] w (Ret (.bool true) w) := by
  unfold maxLen at g0
  by_cases hs0 : (1048576 : Int) < s0.size
  · go_enter Tryd.func4, Tryd.ntmps4
    go_wp2_with fail
    go_ret
    exact ret_bool rfl (by repeat (first | exact Below.refl _ _ | (refine Below.alloc ?_ (by simp <;> omega) _)))
  have hs0 : s0.size ≤ 1048576 := by omega
  have hbase : Below w.heap.size w w := Below.refl _ _
  go_enter Tryd.func4, Tryd.ntmps4
  go_wp2_with fail
  refine (specReadHyps_any s0 _  (by omega) (htab.below hbase)).mono ?_
  rintro e w1 ⟨u1, rfl, o1, hb⟩
  obtain ⟨sb1, sd1, rfl⟩ := shapeHypS (rHypS.own_at o1)
  have z1 : w.heap.size + 0 ≤ w1.heap.size := by have := hb.size; (try simp at this); omega
  replace hbase := baseB0 hbase hb
  clear hb
  go_wp2_with fail
  refine (implReadHyps_any s0 _  (by omega) (htab.below hbase)).mono ?_
  rintro e w2 ⟨u2, rfl, o2, hb⟩
  obtain ⟨sb2, sd2, rfl⟩ := shapeHypS (rHypS.own_at o2)
  have z2 : w1.heap.size + 0 ≤ w2.heap.size := by have := hb.size; (try simp at this); omega
  replace o1 := rHypS.own_below o1 hb
  replace hbase := baseB0 hbase hb
  clear hb
  go_wp2_with fail
  refine (eqHypSR_any _ _ (rdHy s0) _ (rHypS.own_at o2) (rHypS.own_at o1)).mono ?_
  rintro e w3 ⟨rfl, hb⟩
  have z3 : w2.heap.size + 0 ≤ w3.heap.size := by have := hb.size; (try simp at this); omega
  replace o1 := rHypS.own_below o1 hb
  replace o2 := rHypS.own_below o2 hb
  replace hbase := baseB0 hbase hb
  clear hb
  go_wp2_with fail
  refine (markHypSR_any _ (rdHy s0) _ _ (1) _ o2 (okRdHy) (by omega) (by omega)).mono ?_
  rintro e w4 ⟨rfl, o2n, hc, hty⟩
  have z4 : w3.heap.size + 0 ≤ w4.heap.size := by have := hc.size; (try simp at this); omega
  replace o1 := rHypS.own_chg o1 hc (by first | (left; omega) | (right; omega))
  replace hbase := below_chg hbase hc (by omega)
  clear hc
  clear hty
  clear o2
  have o2 := o2n
  clear o2n
  have cn4 : 0 ≤ cntHypS (rdHy s0) ∧ cntHypS (rdHy s0) ≤ 10000000 := cntHypS_bd (okRdHy)
  go_wp2_with fail
  refine (heldHypSR_any _ (rdHy s0) (1) _ (rHypS.own_at o2) (okRdHy) (by omega) (by omega)).mono ?_
  rintro e w5 ⟨rfl, hb⟩
  have z5 : w4.heap.size + 0 ≤ w5.heap.size := by have := hb.size; (try simp at this); omega
  replace o1 := rHypS.own_below o1 hb
  replace o2 := rHypS.own_below o2 hb
  replace hbase := baseB0 hbase hb
  clear hb
  go_wp2_with fail
  refine (implReadHyps_any s0 _  (by omega) (htab.below hbase)).mono ?_
  rintro e w6 ⟨u3, rfl, o3, hb⟩
  obtain ⟨sb3, sd3, rfl⟩ := shapeHypS (rHypS.own_at o3)
  have z6 : w5.heap.size + 0 ≤ w6.heap.size := by have := hb.size; (try simp at this); omega
  replace o1 := rHypS.own_below o1 hb
  replace o2 := rHypS.own_below o2 hb
  replace hbase := baseB0 hbase hb
  clear hb
  go_wp2_with fail
  refine (eqHypSR_any _ _ (rdHy s0) _ (rHypS.own_at o3) (rHypS.own_at o1)).mono ?_
  rintro e w7 ⟨rfl, hb⟩
  have z7 : w6.heap.size + 0 ≤ w7.heap.size := by have := hb.size; (try simp at this); omega
  replace o1 := rHypS.own_below o1 hb
  replace o2 := rHypS.own_below o2 hb
  replace o3 := rHypS.own_below o3 hb
  replace hbase := baseB0 hbase hb
  clear hb
  go_wp2_with fail
  refine (heldHypSR_any _ (rdHy s0) (1) _ (rHypS.own_at o2) (okRdHy) (by omega) (by omega)).mono ?_
  rintro e w8 ⟨rfl, hb⟩
  have z8 : w7.heap.size + 0 ≤ w8.heap.size := by have := hb.size; (try simp at this); omega
  replace o1 := rHypS.own_below o1 hb
  replace o2 := rHypS.own_below o2 hb
  replace o3 := rHypS.own_below o3 hb
  replace hbase := baseB0 hbase hb
  clear hb
  go_wp2_with fail
  go_ret
  exact ret_bool rfl hbase
end Go.Proofs.YtbgjojnjbplblaaDoor
