/- The walk of the law FnExactReadLattice: for every argument it returns true and leaves what was there. -/
import Derived.Test.YtbgjojnjbplblaaGreatDoorReg
import Derived.Test.YtbgjojnjbplblaaGreatDoorRep
import Derived.Test.YtbgjojnjbplblaaGreatDoorWrLattice
import Derived.Test.YtbgjojnjbplblaaGreatDoorRtLatI
namespace Go.Proofs.YtbgjojnjbplblaaGreatDoor
open Go.RowKit

set_option maxHeartbeats 4000000 in
theorem lawReadLattice (s0 : ByteArray) (w : World) (g0 : s0.size ≤ maxLen) (htab : TabR w) :
    Calls Tryz.prog 3 #[.string s0] w (Ret (.bool true) w) := by
  unfold maxLen at g0
  by_cases hs0 : (1048576 : Int) < s0.size
  · go_enter Tryz.func3, Tryz.ntmps3
    go_wp2_with fail
    go_ret
    exact ret_bool rfl (by repeat (first | exact Below.refl _ _ | (refine Below.alloc ?_ (by simp <;> omega) _)))
  have hs0 : s0.size ≤ 1048576 := by omega
  have hbase : Below w.heap.size w w := Below.refl _ _
  go_enter Tryz.func3, Tryz.ntmps3
  go_wp2_with fail
  refine (specReadLattice_any s0 _  (by omega) (htab.below hbase)).mono ?_
  rintro e w1 ⟨u1, rfl, o1, hb⟩
  obtain ⟨sb1, sd1, rfl⟩ := shapeLattice (rLattice.own_at o1)
  have z1 : w.heap.size + 0 ≤ w1.heap.size := by have := hb.size; (try simp at this); omega
  replace hbase := baseB0 hbase hb
  clear hb
  go_wp2_with fail
  refine (implReadLattice_any s0 _  (by omega) (TabR.alloc (htab.below hbase) _)).mono ?_
  rintro e w2 ⟨u2, rfl, o2, hb⟩
  obtain ⟨sb2, sd2, rfl⟩ := shapeLattice (rLattice.own_at o2)
  replace o2 : rLattice.own (w1.heap.size + 1) w2.heap.size w2 _ _ := rLattice.own_mono o2 (by simp <;> omega) (Nat.le_refl _)
  have z2 : w1.heap.size + 1 ≤ w2.heap.size := by have := hb.size; (try simp at this); omega
  replace o1 := rLattice.own_below (rLattice.own_alloc o1 _) hb
  have q1 : w2.cell? ⟨w1.heap.size, 0, none⟩ = some (.int .i64 (rdLt s0).1) := cell_later hb (by simp)
  have q2 : w2.cell? ⟨w1.heap.size, 1, none⟩ = some (.slice sb1 (rdLt s0).2.length sd1) := cell_later hb (by simp)
  have yq1 := cell_lt q1
  replace hbase := baseB1 hbase hb
  clear hb
  go_wp2_with fail
  refine (eqLattice_any _ _ (rdLt s0) _ (rLattice.own_at (rLattice.own_alloc o2 _)) (rLattice.own_at (rLattice.own_alloc o1 _))).mono ?_
  rintro e w3 ⟨rfl, hb⟩
  have z3 : w2.heap.size + 1 ≤ w3.heap.size := by have := hb.size; (try simp at this); omega
  replace o1 := rLattice.own_below (rLattice.own_alloc o1 _) hb
  replace o2 := rLattice.own_below (rLattice.own_alloc o2 _) hb
  replace q1 := cell_later hb (cell_alloc q1 _)
  replace q2 := cell_later hb (cell_alloc q2 _)
  have q3 : w3.cell? ⟨w2.heap.size, 0, none⟩ = some (.int .i64 (rdLt s0).1) := cell_later hb (by simp)
  have q4 : w3.cell? ⟨w2.heap.size, 1, none⟩ = some (.slice sb2 (rdLt s0).2.length sd2) := cell_later hb (by simp)
  replace yq1 := cell_lt q1
  have yq3 := cell_lt q3
  replace hbase := baseB1 hbase hb
  clear hb
  go_wp2_with fail
  refine (markLattice_any _ (rdLt s0) _ _ (1) _ o2 (okRdLt) (by omega) (by omega)).mono ?_
  rintro e w4 ⟨rfl, o2n, hc, hty⟩
  have z4 : w3.heap.size + 0 ≤ w4.heap.size := by have := hc.size; (try simp at this); omega
  replace o1 := rLattice.own_chg o1 hc (by first | (left; omega) | (right; omega))
  replace q1 := chg_cell hc q1 (by first | (left; omega) | (right; omega))
  replace q2 := chg_cell hc q2 (by first | (left; omega) | (right; omega))
  replace q3 := chg_cell hc q3 (by first | (left; omega) | (right; omega))
  replace q4 := chg_cell hc q4 (by first | (left; omega) | (right; omega))
  replace yq1 := cell_lt q1
  replace yq3 := cell_lt q3
  replace hbase := below_chg hbase hc (by omega)
  clear hc
  clear hty
  clear o2
  have o2 := o2n
  clear o2n
  have cn4 : 0 ≤ cntLattice (rdLt s0) ∧ cntLattice (rdLt s0) ≤ 10000000 := cntLattice_bd (okRdLt)
  go_wp2_with fail
  refine (heldLattice_any _ (rdLt s0) (1) _ (rLattice.own_at o2) (okRdLt) (by omega) (by omega)).mono ?_
  rintro e w5 ⟨rfl, hb⟩
  have z5 : w4.heap.size + 0 ≤ w5.heap.size := by have := hb.size; (try simp at this); omega
  replace o1 := rLattice.own_below o1 hb
  replace o2 := rLattice.own_below o2 hb
  replace q1 := cell_later hb q1
  replace q2 := cell_later hb q2
  replace q3 := cell_later hb q3
  replace q4 := cell_later hb q4
  replace yq1 := cell_lt q1
  replace yq3 := cell_lt q3
  replace hbase := baseB0 hbase hb
  clear hb
  go_wp2_with fail
  refine (implReadLattice_any s0 _  (by omega) (htab.below hbase)).mono ?_
  rintro e w6 ⟨u3, rfl, o3, hb⟩
  obtain ⟨sb3, sd3, rfl⟩ := shapeLattice (rLattice.own_at o3)
  have z6 : w5.heap.size + 0 ≤ w6.heap.size := by have := hb.size; (try simp at this); omega
  replace o1 := rLattice.own_below o1 hb
  replace o2 := rLattice.own_below o2 hb
  replace q1 := cell_later hb q1
  replace q2 := cell_later hb q2
  replace q3 := cell_later hb q3
  replace q4 := cell_later hb q4
  replace yq1 := cell_lt q1
  replace yq3 := cell_lt q3
  replace hbase := baseB0 hbase hb
  clear hb
  go_wp2_with fail
  refine (eqLattice_any _ _ (rdLt s0) _ (rLattice.own_at (rLattice.own_alloc o3 _)) (rLattice.own_at (rLattice.own_alloc o1 _))).mono ?_
  rintro e w7 ⟨rfl, hb⟩
  have z7 : w6.heap.size + 1 ≤ w7.heap.size := by have := hb.size; (try simp at this); omega
  replace o1 := rLattice.own_below (rLattice.own_alloc o1 _) hb
  replace o2 := rLattice.own_below (rLattice.own_alloc o2 _) hb
  replace o3 := rLattice.own_below (rLattice.own_alloc o3 _) hb
  replace q1 := cell_later hb (cell_alloc q1 _)
  replace q2 := cell_later hb (cell_alloc q2 _)
  replace q3 := cell_later hb (cell_alloc q3 _)
  replace q4 := cell_later hb (cell_alloc q4 _)
  have q5 : w7.cell? ⟨w6.heap.size, 0, none⟩ = some (.int .i64 (rdLt s0).1) := cell_later hb (by simp)
  have q6 : w7.cell? ⟨w6.heap.size, 1, none⟩ = some (.slice sb3 (rdLt s0).2.length sd3) := cell_later hb (by simp)
  replace yq1 := cell_lt q1
  replace yq3 := cell_lt q3
  have yq5 := cell_lt q5
  replace hbase := baseB1 hbase hb
  clear hb
  go_wp2_with fail
  refine (heldLattice_any _ (rdLt s0) (1) _ (rLattice.own_at o2) (okRdLt) (by omega) (by omega)).mono ?_
  rintro e w8 ⟨rfl, hb⟩
  have z8 : w7.heap.size + 0 ≤ w8.heap.size := by have := hb.size; (try simp at this); omega
  replace o1 := rLattice.own_below o1 hb
  replace o2 := rLattice.own_below o2 hb
  replace o3 := rLattice.own_below o3 hb
  replace q1 := cell_later hb q1
  replace q2 := cell_later hb q2
  replace q3 := cell_later hb q3
  replace q4 := cell_later hb q4
  replace q5 := cell_later hb q5
  replace q6 := cell_later hb q6
  replace yq1 := cell_lt q1
  replace yq3 := cell_lt q3
  replace yq5 := cell_lt q5
  replace hbase := baseB0 hbase hb
  clear hb
  go_wp2_with fail
  go_ret
  exact ret_bool rfl hbase
end Go.Proofs.YtbgjojnjbplblaaGreatDoor
