/- The walk of the law FnExactReadPerceptron: for every argument it returns true and leaves what was there. -/
import Derived.Test.YtbgjojnjbplblaaGreatDoorReg
import Derived.Test.YtbgjojnjbplblaaGreatDoorRep
import Derived.Test.YtbgjojnjbplblaaGreatDoorWrPcp
import Derived.Test.YtbgjojnjbplblaaGreatDoorRtPcI
namespace Go.Proofs.YtbgjojnjbplblaaGreatDoor
open Go.RowKit

set_option maxHeartbeats 4000000 in
theorem lawReadPerceptron (s0 : ByteArray) (w : World) (g0 : s0.size ≤ maxLen) (htab : TabR w) :
    Calls Tryz.prog 4 #[.string s0] w (Ret (.bool true) w) := by
  unfold maxLen at g0
  by_cases hs0 : (1048576 : Int) < s0.size
  · go_enter Tryz.func4, Tryz.ntmps4
    go_wp2_with fail
    go_ret
    exact ret_bool rfl (by repeat (first | exact Below.refl _ _ | (refine Below.alloc ?_ (by simp <;> omega) _)))
  have hs0 : s0.size ≤ 1048576 := by omega
  have hbase : Below w.heap.size w w := Below.refl _ _
  go_enter Tryz.func4, Tryz.ntmps4
  go_wp2_with fail
  refine (specReadPerceptron_any s0 _  (by omega) (htab.below hbase)).mono ?_
  rintro e w1 ⟨u1, rfl, o1, hb⟩
  obtain ⟨sb1, sd1, rfl⟩ := shapePerceptron (rPerceptron.own_at o1)
  have z1 : w.heap.size + 0 ≤ w1.heap.size := by have := hb.size; (try simp at this); omega
  replace hbase := baseB0 hbase hb
  clear hb
  go_wp2_with fail
  refine (implReadPerceptron_any s0 _  (by omega) (TabR.alloc (htab.below hbase) _)).mono ?_
  rintro e w2 ⟨u2, rfl, o2, hb⟩
  obtain ⟨sb2, sd2, rfl⟩ := shapePerceptron (rPerceptron.own_at o2)
  replace o2 : rPerceptron.own (w1.heap.size + 1) w2.heap.size w2 _ _ := rPerceptron.own_mono o2 (by simp <;> omega) (Nat.le_refl _)
  have z2 : w1.heap.size + 1 ≤ w2.heap.size := by have := hb.size; (try simp at this); omega
  replace o1 := rPerceptron.own_below (rPerceptron.own_alloc o1 _) hb
  have q1 : w2.cell? ⟨w1.heap.size, 0, none⟩ = some (.slice sb1.1 (rdPc s0).1.length sd1.1) := cell_later hb (by simp)
  have q2 : w2.cell? ⟨w1.heap.size, 1, none⟩ = some (.slice sb1.2 (rdPc s0).2.length sd1.2) := cell_later hb (by simp)
  have yq1 := cell_lt q1
  replace hbase := baseB1 hbase hb
  clear hb
  go_wp2_with fail
  refine (eqPerceptron_any _ _ (rdPc s0) _ (rPerceptron.own_at (rPerceptron.own_alloc o2 _)) (rPerceptron.own_at (rPerceptron.own_alloc o1 _))).mono ?_
  rintro e w3 ⟨rfl, hb⟩
  have z3 : w2.heap.size + 1 ≤ w3.heap.size := by have := hb.size; (try simp at this); omega
  replace o1 := rPerceptron.own_below (rPerceptron.own_alloc o1 _) hb
  replace o2 := rPerceptron.own_below (rPerceptron.own_alloc o2 _) hb
  replace q1 := cell_later hb (cell_alloc q1 _)
  replace q2 := cell_later hb (cell_alloc q2 _)
  have q3 : w3.cell? ⟨w2.heap.size, 0, none⟩ = some (.slice sb2.1 (rdPc s0).1.length sd2.1) := cell_later hb (by simp)
  have q4 : w3.cell? ⟨w2.heap.size, 1, none⟩ = some (.slice sb2.2 (rdPc s0).2.length sd2.2) := cell_later hb (by simp)
  replace yq1 := cell_lt q1
  have yq3 := cell_lt q3
  replace hbase := baseB1 hbase hb
  clear hb
  go_wp2_with fail
  refine (markPerceptron_any _ (rdPc s0) _ _ (1) _ o2 (okRdPc (by omega)) (by omega) (by omega)).mono ?_
  rintro e w4 ⟨rfl, o2n, hc, hty⟩
  have z4 : w3.heap.size + 0 ≤ w4.heap.size := by have := hc.size; (try simp at this); omega
  replace o1 := rPerceptron.own_chg o1 hc (by first | (left; omega) | (right; omega))
  replace q1 := chg_cell hc q1 (by first | (left; omega) | (right; omega))
  replace q2 := chg_cell hc q2 (by first | (left; omega) | (right; omega))
  replace q3 := chg_cell hc q3 (by first | (left; omega) | (right; omega))
  replace q4 := chg_cell hc q4 (by first | (left; omega) | (right; omega))
  replace yq1 := cell_lt q1
  replace yq3 := cell_lt q3
  replace hbase := below_chg hbase hc (by omega)
  clear hc
  clear hty
  clear o2
  have o2 := o2n
  clear o2n
  have cn4 : 0 ≤ cntPerceptron (rdPc s0) ∧ cntPerceptron (rdPc s0) ≤ 10000000 := cntPerceptron_bd (okRdPc (by omega))
  go_wp2_with fail
  refine (heldPerceptron_any _ (rdPc s0) (1) _ (rPerceptron.own_at o2) (okRdPc (by omega)) (by omega) (by omega)).mono ?_
  rintro e w5 ⟨rfl, hb⟩
  have z5 : w4.heap.size + 0 ≤ w5.heap.size := by have := hb.size; (try simp at this); omega
  replace o1 := rPerceptron.own_below o1 hb
  replace o2 := rPerceptron.own_below o2 hb
  replace q1 := cell_later hb q1
  replace q2 := cell_later hb q2
  replace q3 := cell_later hb q3
  replace q4 := cell_later hb q4
  replace yq1 := cell_lt q1
  replace yq3 := cell_lt q3
  replace hbase := baseB0 hbase hb
  clear hb
  go_wp2_with fail
  refine (implReadPerceptron_any s0 _  (by omega) (htab.below hbase)).mono ?_
  rintro e w6 ⟨u3, rfl, o3, hb⟩
  obtain ⟨sb3, sd3, rfl⟩ := shapePerceptron (rPerceptron.own_at o3)
  have z6 : w5.heap.size + 0 ≤ w6.heap.size := by have := hb.size; (try simp at this); omega
  replace o1 := rPerceptron.own_below o1 hb
  replace o2 := rPerceptron.own_below o2 hb
  replace q1 := cell_later hb q1
  replace q2 := cell_later hb q2
  replace q3 := cell_later hb q3
  replace q4 := cell_later hb q4
  replace yq1 := cell_lt q1
  replace yq3 := cell_lt q3
  replace hbase := baseB0 hbase hb
  clear hb
  go_wp2_with fail
  refine (eqPerceptron_any _ _ (rdPc s0) _ (rPerceptron.own_at (rPerceptron.own_alloc o3 _)) (rPerceptron.own_at (rPerceptron.own_alloc o1 _))).mono ?_
  rintro e w7 ⟨rfl, hb⟩
  have z7 : w6.heap.size + 1 ≤ w7.heap.size := by have := hb.size; (try simp at this); omega
  replace o1 := rPerceptron.own_below (rPerceptron.own_alloc o1 _) hb
  replace o2 := rPerceptron.own_below (rPerceptron.own_alloc o2 _) hb
  replace o3 := rPerceptron.own_below (rPerceptron.own_alloc o3 _) hb
  replace q1 := cell_later hb (cell_alloc q1 _)
  replace q2 := cell_later hb (cell_alloc q2 _)
  replace q3 := cell_later hb (cell_alloc q3 _)
  replace q4 := cell_later hb (cell_alloc q4 _)
  have q5 : w7.cell? ⟨w6.heap.size, 0, none⟩ = some (.slice sb3.1 (rdPc s0).1.length sd3.1) := cell_later hb (by simp)
  have q6 : w7.cell? ⟨w6.heap.size, 1, none⟩ = some (.slice sb3.2 (rdPc s0).2.length sd3.2) := cell_later hb (by simp)
  replace yq1 := cell_lt q1
  replace yq3 := cell_lt q3
  have yq5 := cell_lt q5
  replace hbase := baseB1 hbase hb
  clear hb
  go_wp2_with fail
  refine (heldPerceptron_any _ (rdPc s0) (1) _ (rPerceptron.own_at o2) (okRdPc (by omega)) (by omega) (by omega)).mono ?_
  rintro e w8 ⟨rfl, hb⟩
  have z8 : w7.heap.size + 0 ≤ w8.heap.size := by have := hb.size; (try simp at this); omega
  replace o1 := rPerceptron.own_below o1 hb
  replace o2 := rPerceptron.own_below o2 hb
  replace o3 := rPerceptron.own_below o3 hb
  replace q1 := cell_later hb q1
  replace q2 := cell_later hb q2
  replace q3 := cell_later hb q3
  replace q4 := cell_later hb q4
  replace q5 := cell_later hb q5
  replace q6 := cell_later hb q6
  replace yq1 := cell_lt q1
  replace yq3 := cell_lt q3
  replace yq5 := cell_lt q5
  replace hbase := baseB0 hbase hb
  clear hb
  go_wp2_with fail
  go_ret
  exact ret_bool rfl hbase
end Go.Proofs.YtbgjojnjbplblaaGreatDoor
