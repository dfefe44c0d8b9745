/- The walk of the law FnExactValidSetting: for every argument it returns true and leaves what was there. -/
import Derived.Test.YtmefjlcbkflbmaaReg2
import Derived.Test.YtmefjlcbkflbmaaBase2
import Derived.Test.YtmefjlcbkflbmaaSetting
namespace Go.Proofs.Ytmefjlcbkflbmaa
open Go.RowKit

set_option maxHeartbeats 4000000 in
theorem lawValidSetting (x0 : DSetting) (w : World)  :
    Calls Try.prog 3 #[.agg #[.int .i64 x0.points, .int .i64 x0.most, .int .i64 x0.pen]] w (Ret (.bool true) w) := by
  have hbase : Below w.heap.size w w := Below.refl _ _
  go_enter Try.func3, Try.ntmps3
  go_wp2_with fail
  refine (toSetting_any x0 _).mono ?_
  rintro e w1 ⟨rfl, hb⟩
  have z1 : w.heap.size + 1 ≤ w1.heap.size := by have := hb.size; (try simp at this); omega
  have q1 : w1.cell? ⟨w.heap.size, 0, none⟩ = some (.int .i64 x0.points) := cell_later hb (by simp)
  have q2 : w1.cell? ⟨w.heap.size, 1, none⟩ = some (.int .i64 x0.most) := cell_later hb (by simp)
  have q3 : w1.cell? ⟨w.heap.size, 2, none⟩ = some (.int .i64 x0.pen) := cell_later hb (by simp)
  have yq1 := cell_lt q1
  replace hbase := baseB1 hbase hb
  clear hb
  go_wp2_with fail
  refine (specValidSetting_any x0 _ ).mono ?_
  rintro e w2 ⟨rfl, hb⟩
  have z2 : w1.heap.size + 0 ≤ w2.heap.size := by have := hb.size; (try simp at this); omega
  replace q1 := cell_later hb q1
  replace q2 := cell_later hb q2
  replace q3 := cell_later hb q3
  replace yq1 := cell_lt q1
  replace hbase := baseB0 hbase hb
  clear hb
  go_wp2_with fail
  refine (toSetting_any x0 _).mono ?_
  rintro e w3 ⟨rfl, hb⟩
  have z3 : w2.heap.size + 0 ≤ w3.heap.size := by have := hb.size; (try simp at this); omega
  replace q1 := cell_later hb q1
  replace q2 := cell_later hb q2
  replace q3 := cell_later hb q3
  replace yq1 := cell_lt q1
  replace hbase := baseB0 hbase hb
  clear hb
  go_wp2_with fail
  refine (implValidSetting_any x0 _ ).mono ?_
  rintro e w4 ⟨rfl, hb⟩
  have z4 : w3.heap.size + 0 ≤ w4.heap.size := by have := hb.size; (try simp at this); omega
  replace q1 := cell_later hb q1
  replace q2 := cell_later hb q2
  replace q3 := cell_later hb q3
  replace yq1 := cell_lt q1
  replace hbase := baseB0 hbase hb
  clear hb
  go_wp2_with fail
  go_ret
  exact ret_bool rfl hbase
end Go.Proofs.Ytmefjlcbkflbmaa
