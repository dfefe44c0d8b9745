/- The walk of the law FnExactHypsText: for every argument it returns true and leaves what was there. -/
import Derived.Test.YtldmphkakkggaaaDoorReg
import Derived.Test.YtldmphkakkggaaaDoorRep
import Derived.Test.YtldmphkakkggaaaDoorWrHypS
import Derived.Test.YtldmphkakkggaaaDoorTxHyp
namespace Go.Proofs.YtldmphkakkggaaaDoor
open Go.RowKit

set_option maxHeartbeats 4000000 in
theorem lawHypsText (v0 : Value) (x0 : XHypS) (w : World) (a0 : rHypS.at_ 0 w.heap.size w v0 x0) (g0 : goodHypS x0) (htab : TabL w) :
    Calls Tryd.prog 4 #[v0] w (Ret (.bool true) w) := by
  obtain ⟨sa0, sc0, rfl⟩ := shapeHypS a0
  have hbase : Below w.heap.size w w := Below.refl _ _
  go_enter Tryd.func4, Tryd.ntmps4
  go_wp2_with fail
  refine (szHypSR_any _ x0 (1048576) _ a0 g0 (by omega) (by omega)).mono ?_
  rintro e w1 ⟨rfl, hb⟩
  have z1 : w.heap.size + 0 ≤ w1.heap.size := by have := hb.size; (try simp at this); omega
  replace a0 := rHypS.at_below a0 hb
  replace hbase := baseB0 hbase hb
  clear hb
  by_cases hszx0 : (1048576 : Int) < (sizeHypS x0 : Nat)
  · rw [szOf_neg hszx0]
    go_wp2_with fail
    go_ret
    exact ret_bool rfl hbase
  rw [szOf_pos (by omega)]
  have ok_x0 : okHypS x0 := okHypS_of (by omega)
  go_wp2_with fail
  refine (toHypSR_any _ x0 _ a0 ok_x0).mono ?_
  rintro e w2 ⟨u1, rfl, o1, hb⟩
  obtain ⟨sb1, sd1, rfl⟩ := shapeHypS (rHypS.own_at o1)
  have z2 : w1.heap.size + 0 ≤ w2.heap.size := by have := hb.size; (try simp at this); omega
  replace a0 := rHypS.at_below a0 hb
  replace hbase := baseB0 hbase hb
  clear hb
  go_wp2_with fail
  refine (specHypsText_any _ x0 _ (rHypS.own_at o1) ok_x0 g0 (htab.below hbase)).mono ?_
  rintro e w3 ⟨rfl, hb⟩
  have z3 : w2.heap.size + 0 ≤ w3.heap.size := by have := hb.size; (try simp at this); omega
  replace a0 := rHypS.at_below a0 hb
  replace o1 := rHypS.own_below o1 hb
  replace hbase := baseB0 hbase hb
  clear hb
  go_wp2_with fail
  refine (toHypSR_any _ x0 _ a0 ok_x0).mono ?_
  rintro e w4 ⟨u2, rfl, o2, hb⟩
  obtain ⟨sb2, sd2, rfl⟩ := shapeHypS (rHypS.own_at o2)
  have z4 : w3.heap.size + 0 ≤ w4.heap.size := by have := hb.size; (try simp at this); omega
  replace a0 := rHypS.at_below a0 hb
  replace o1 := rHypS.own_below o1 hb
  replace hbase := baseB0 hbase hb
  clear hb
  go_wp2_with fail
  refine (implHypsText_any _ x0 _ (rHypS.own_at o2) ok_x0 g0 (htab.below hbase)).mono ?_
  rintro e w5 ⟨rfl, hb⟩
  have z5 : w4.heap.size + 0 ≤ w5.heap.size := by have := hb.size; (try simp at this); omega
  replace a0 := rHypS.at_below a0 hb
  replace o1 := rHypS.own_below o1 hb
  replace o2 := rHypS.own_below o2 hb
  replace hbase := baseB0 hbase hb
  clear hb
  go_wp2_with fail
  refine (toHypSR_any _ x0 _ a0 ok_x0).mono ?_
  rintro e w6 ⟨u3, rfl, o3, hb⟩
  obtain ⟨sb3, sd3, rfl⟩ := shapeHypS (rHypS.own_at o3)
  have z6 : w5.heap.size + 0 ≤ w6.heap.size := by have := hb.size; (try simp at this); omega
  replace a0 := rHypS.at_below a0 hb
  replace o1 := rHypS.own_below o1 hb
  replace o2 := rHypS.own_below o2 hb
  replace hbase := baseB0 hbase hb
  clear hb
  go_wp2_with fail
  refine (eqHypSR_any _ _ x0 _ (rHypS.own_at o2) (rHypS.own_at o3)).mono ?_
  rintro e w7 ⟨rfl, hb⟩
  have z7 : w6.heap.size + 0 ≤ w7.heap.size := by have := hb.size; (try simp at this); omega
  replace a0 := rHypS.at_below a0 hb
  replace o1 := rHypS.own_below o1 hb
  replace o2 := rHypS.own_below o2 hb
  replace o3 := rHypS.own_below o3 hb
  replace hbase := baseB0 hbase hb
  clear hb
  go_wp2_with fail
  go_ret
  exact ret_bool rfl hbase
end Go.Proofs.YtldmphkakkggaaaDoor
