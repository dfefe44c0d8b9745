/- The walk of the law FnExactBestHyp: for every argument it returns true and leaves what was there. -/
import Derived.Test.YtmbmkmhpkaglhaaReg2
import Derived.Test.YtmbmkmhpkaglhaaBase2
import Derived.Test.YtmbmkmhpkaglhaaWrHypS
import Derived.Test.YtmbmkmhpkaglhaaHyFns
namespace Go.Proofs.Ytmbmkmhpkaglhaa
open Go.RowKit

set_option maxHeartbeats 4000000 in
theorem lawBestHyp (v0 : Value) (x0 : XHypS) (w : World) (a0 : rHypS.at_ 0 w.heap.size w v0 x0) (g0 : goodHypS x0) :
    Calls Try.prog 4 #[v0] w (Ret (.bool true) w) := by
  obtain ⟨sa0, sc0, rfl⟩ := shapeHypS a0
  have hbase : Below w.heap.size w w := Below.refl _ _
  go_enter Try.func4, Try.ntmps4
  go_wp2_with fail
  refine (szHypSR_any _ x0 (1048576) _ a0 g0 (by omega) (by omega)).mono ?_
  rintro e w1 ⟨rfl, hb⟩
  have z1 : w.heap.size + 0 ≤ w1.heap.size := by have := hb.size; (try simp at this); omega
  replace a0 := rHypS.at_below a0 hb
  replace hbase := baseB0 hbase hb
  clear hb
  by_cases hszx0 : (1048576 : Int) < (sizeHypS x0 : Nat)
  · rw [szOf_neg hszx0]
    go_wp2_with fail
    go_ret
    exact ret_bool rfl hbase
  rw [szOf_pos (by omega)]
  have ok_x0 : okHypS x0 := okHypS_of (by omega)
  go_wp2_with fail
  refine (toHypSR_any _ x0 _ a0 ok_x0).mono ?_
  rintro e w2 ⟨u1, rfl, o1, hb⟩
  obtain ⟨sb1, sd1, rfl⟩ := shapeHypS (rHypS.own_at o1)
  have z2 : w1.heap.size + 0 ≤ w2.heap.size := by have := hb.size; (try simp at this); omega
  replace a0 := rHypS.at_below a0 hb
  replace hbase := baseB0 hbase hb
  clear hb
  go_wp2_with fail
  refine (specBestHyp_any _ x0 _ (rHypS.own_at o1) ok_x0 g0).mono ?_
  rintro e w3 ⟨rfl, hb⟩
  have z3 : w2.heap.size + 0 ≤ w3.heap.size := by have := hb.size; (try simp at this); omega
  replace a0 := rHypS.at_below a0 hb
  replace o1 := rHypS.own_below o1 hb
  replace hbase := baseB0 hbase hb
  clear hb
  go_wp2_with fail
  refine (toHypSR_any _ x0 _ (rHypS.at_alloc a0 _) ok_x0).mono ?_
  rintro e w4 ⟨u2, rfl, o2, hb⟩
  obtain ⟨sb2, sd2, rfl⟩ := shapeHypS (rHypS.own_at o2)
  replace o2 : rHypS.own (w3.heap.size + 1) w4.heap.size w4 _ _ := rHypS.own_mono o2 (by simp <;> omega) (Nat.le_refl _)
  have z4 : w3.heap.size + 1 ≤ w4.heap.size := by have := hb.size; (try simp at this); omega
  replace a0 := rHypS.at_below (rHypS.at_alloc a0 _) hb
  replace o1 := rHypS.own_below (rHypS.own_alloc o1 _) hb
  have q1 : w4.cell? ⟨w3.heap.size, 0, none⟩ = some (.string (bestHy x0).label) := cell_later hb (by simp)
  have q2 : w4.cell? ⟨w3.heap.size, 1, none⟩ = some (.int .i64 (bestHy x0).cost) := cell_later hb (by simp)
  have yq1 := cell_lt q1
  replace hbase := baseB1 hbase hb
  clear hb
  go_wp2_with fail
  refine (implBestHyp_any _ x0 _ (rHypS.own_at o2) ok_x0 g0).mono ?_
  rintro e w5 ⟨rfl, hb⟩
  have z5 : w4.heap.size + 0 ≤ w5.heap.size := by have := hb.size; (try simp at this); omega
  replace a0 := rHypS.at_below a0 hb
  replace o1 := rHypS.own_below o1 hb
  replace o2 := rHypS.own_below o2 hb
  replace q1 := cell_later hb q1
  replace q2 := cell_later hb q2
  replace yq1 := cell_lt q1
  replace hbase := baseB0 hbase hb
  clear hb
  go_wp2_with fail
  refine (eqHyp_any (bestHy x0) _).mono ?_
  rintro e w6 ⟨rfl, hb⟩
  have z6 : w5.heap.size + 1 ≤ w6.heap.size := by have := hb.size; (try simp at this); omega
  replace a0 := rHypS.at_below (rHypS.at_alloc a0 _) hb
  replace o1 := rHypS.own_below (rHypS.own_alloc o1 _) hb
  replace o2 := rHypS.own_below (rHypS.own_alloc o2 _) hb
  replace q1 := cell_later hb (cell_alloc q1 _)
  replace q2 := cell_later hb (cell_alloc q2 _)
  have q3 : w6.cell? ⟨w5.heap.size, 0, none⟩ = some (.string (bestHy x0).label) := cell_later hb (by simp)
  have q4 : w6.cell? ⟨w5.heap.size, 1, none⟩ = some (.int .i64 (bestHy x0).cost) := cell_later hb (by simp)
  replace yq1 := cell_lt q1
  have yq3 := cell_lt q3
  replace hbase := baseB1 hbase hb
  clear hb
  go_wp2_with fail
  refine (toHypSR_any _ x0 _ a0 ok_x0).mono ?_
  rintro e w7 ⟨u3, rfl, o3, hb⟩
  obtain ⟨sb3, sd3, rfl⟩ := shapeHypS (rHypS.own_at o3)
  have z7 : w6.heap.size + 0 ≤ w7.heap.size := by have := hb.size; (try simp at this); omega
  replace a0 := rHypS.at_below a0 hb
  replace o1 := rHypS.own_below o1 hb
  replace o2 := rHypS.own_below o2 hb
  replace q1 := cell_later hb q1
  replace q2 := cell_later hb q2
  replace q3 := cell_later hb q3
  replace q4 := cell_later hb q4
  replace yq1 := cell_lt q1
  replace yq3 := cell_lt q3
  replace hbase := baseB0 hbase hb
  clear hb
  go_wp2_with fail
  refine (eqHypSR_any _ _ x0 _ (rHypS.own_at o2) (rHypS.own_at o3)).mono ?_
  rintro e w8 ⟨rfl, hb⟩
  have z8 : w7.heap.size + 0 ≤ w8.heap.size := by have := hb.size; (try simp at this); omega
  replace a0 := rHypS.at_below a0 hb
  replace o1 := rHypS.own_below o1 hb
  replace o2 := rHypS.own_below o2 hb
  replace o3 := rHypS.own_below o3 hb
  replace q1 := cell_later hb q1
  replace q2 := cell_later hb q2
  replace q3 := cell_later hb q3
  replace q4 := cell_later hb q4
  replace yq1 := cell_lt q1
  replace yq3 := cell_lt q3
  replace hbase := baseB0 hbase hb
  clear hb
  go_wp2_with fail
  go_ret
  exact ret_bool rfl hbase
end Go.Proofs.Ytmbmkmhpkaglhaa
