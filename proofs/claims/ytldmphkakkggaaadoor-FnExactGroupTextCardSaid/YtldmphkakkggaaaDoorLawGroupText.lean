/- The walk of the law FnExactGroupText: for every argument it returns true and leaves what was there. -/
import Derived.Test.YtldmphkakkggaaaDoorReg
import Derived.Test.YtldmphkakkggaaaDoorRep
import Derived.Test.YtldmphkakkggaaaDoorFlGroup
import Derived.Test.YtldmphkakkggaaaDoorTxGroup
namespace Go.Proofs.YtldmphkakkggaaaDoor
open Go.RowKit

set_option maxHeartbeats 4000000 in
theorem lawGroupText (x0 : DGroup) (w : World) (g0 : goodGroup x0) (htab : TabL w) :
    Calls Tryd.prog 3 #[.agg #[.int .i64 x0.frm, .int .i64 x0.to_]] w (Ret (.bool true) w) := by
  have hbase : Below w.heap.size w w := Below.refl _ _
  go_enter Tryd.func3, Tryd.ntmps3
  go_wp2_with fail
  refine (toGroup_any x0 _).mono ?_
  rintro e w1 ⟨rfl, hb⟩
  have z1 : w.heap.size + 1 ≤ w1.heap.size := by have := hb.size; (try simp at this); omega
  have q1 : w1.cell? ⟨w.heap.size, 0, none⟩ = some (.int .i64 x0.frm) := cell_later hb (by simp)
  have q2 : w1.cell? ⟨w.heap.size, 1, none⟩ = some (.int .i64 x0.to_) := cell_later hb (by simp)
  have yq1 := cell_lt q1
  replace hbase := baseB1 hbase hb
  clear hb
  go_wp2_with fail
  refine (specGroupText_any x0 _  g0 (htab.below hbase)).mono ?_
  rintro e w2 ⟨rfl, hb⟩
  have z2 : w1.heap.size + 0 ≤ w2.heap.size := by have := hb.size; (try simp at this); omega
  replace q1 := cell_later hb q1
  replace q2 := cell_later hb q2
  replace yq1 := cell_lt q1
  replace hbase := baseB0 hbase hb
  clear hb
  go_wp2_with fail
  refine (toGroup_any x0 _).mono ?_
  rintro e w3 ⟨rfl, hb⟩
  have z3 : w2.heap.size + 0 ≤ w3.heap.size := by have := hb.size; (try simp at this); omega
  replace q1 := cell_later hb q1
  replace q2 := cell_later hb q2
  replace yq1 := cell_lt q1
  replace hbase := baseB0 hbase hb
  clear hb
  go_wp2_with fail
  refine (implGroupText_any x0 _  g0 (htab.below hbase)).mono ?_
  rintro e w4 ⟨rfl, hb⟩
  have z4 : w3.heap.size + 0 ≤ w4.heap.size := by have := hb.size; (try simp at this); omega
  replace q1 := cell_later hb q1
  replace q2 := cell_later hb q2
  replace yq1 := cell_lt q1
  replace hbase := baseB0 hbase hb
  clear hb
  go_wp2_with fail
  go_ret
  exact ret_bool rfl hbase
end Go.Proofs.YtldmphkakkggaaaDoor
