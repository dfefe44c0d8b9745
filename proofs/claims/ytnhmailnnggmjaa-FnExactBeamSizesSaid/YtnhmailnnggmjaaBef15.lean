/- The reference's order of readings. -/
import Derived.Test.YtnhmailnnggmjaaFwPlain
import Derived.Test.YtnhmailnnggmjaaBase2
namespace Go.Proofs.Ytnhmailnnggmjaa
open Go.RowKit

set_option maxHeartbeats 2000000 in
theorem l15Before_any (t1 t2 : ByteArray) (c1 c2 : Int) (w : World) :
    Calls Try.prog 89 #[.agg #[.string t1, .int .i64 c1], .agg #[.string t2, .int .i64 c2]] w (Ret (.bool (befR c1 t1 c2 t2)) w) := by
  have hb : Below w.heap.size w ((w.alloc (.cells #[.string t1, .int .i64 c1] 27)).alloc (.cells #[.string t2, .int .i64 c2] 27)) := belowA2 _ _ _
  by_cases hc : c1 = c2
  · subst hc
    by_cases hl : t1.size = t2.size
    · have hl' : ((t1.size : Int) == (t2.size : Int)) = true := by rw [beq_iff_eq]; omega
      have HV : Hid (befR c1 t1 c1 t2 = ltB t1 t2) := by show _ = _; simp [befR, hl]
      clear hl
      go_enter Try.func89, Try.ntmps89
      go_wp2
      go_ret
      exact ret_bool HV.out.symm hb
    · have hl' : ((t1.size : Int) == (t2.size : Int)) = false := by rw [beq_eq_false_iff_ne]; omega
      have HV : Hid (befR c1 t1 c1 t2 = decide (t1.size < t2.size)) := by show _ = _; simp [befR, hl]
      clear hl
      go_enter Try.func89, Try.ntmps89
      go_wp2
      go_ret
      exact ret_bool HV.out.symm hb
  · have hc' : (c1 == c2) = false := by rw [beq_eq_false_iff_ne]; exact hc
    have HV : Hid (befR c1 t1 c2 t2 = decide (c1 < c2)) := by show _ = _; simp [befR, hc]
    clear hc
    go_enter Try.func89, Try.ntmps89
    go_wp2
    go_ret
    exact ret_bool HV.out.symm hb
end Go.Proofs.Ytnhmailnnggmjaa
