/- The text markText(k) is a function of k. -/
import Derived.Test.YtlnoelbeaolikaaGreatRows
import Derived.Test.YtlnoelbeaolikaaGreatBase
namespace Go.Proofs.YtlnoelbeaolikaaGreat
open Go.RowKit

def mtGo (k : Nat) (out : List UInt8) : List UInt8 := if h : k = 0 then out else mtGo (k / 10) (UInt8.ofNat (48 + k % 10) :: out)
termination_by k
decreasing_by exact Nat.div_lt_self (Nat.pos_of_ne_zero h) (by decide)
def mt (k : Int) : ByteArray := if k ≤ 0 then ⟨#[109, 48]⟩ else ⟨(109 :: mtGo k.toNat []).toArray⟩

set_option maxHeartbeats 400000 in
theorem markText_any (k : Int) (w : World) (hk : k ≤ 100000000) :
    Calls Tryz.prog 41 #[.int .i64 k] w (Ret (.string (mt k)) w) := by
  by_cases h0 : k ≤ 0
  · go_enter Tryz.func41, Tryz.ntmps41
    go_wp2
    go_ret
    exact ret_str (by simp [mt, h0]) (Below.refl _ _)
  · obtain ⟨n, rfl⟩ := Int.eq_ofNat_of_zero_le (show 0 ≤ k by omega)
    have hd : decide ((n : Int) ≤ 0) = false := by simp; omega
    go_enter Tryz.func41, Tryz.ntmps41
    go_wp2
    go_loopw [0, 3] (fun i o wr => ∃ (k : Nat) (out : List UInt8), i = .int .i64 k ∧ o = .string ⟨out.toArray⟩ ∧ out.length + k ≤ n ∧ mtGo k out = mtGo n [] ∧ Below w.heap.size w wr) (fun i _ _ => (intOf i).toNat)
    case atStart => exact ⟨n, [], rfl, rfl, by simp, rfl, Below.refl _ _⟩
    case round =>
      obtain ⟨k, out, rfl, rfl, hl, hg, hb⟩ := hrel
      have HG := hid hg
      clear hg
      by_cases hk : 0 < k
      · have hcv : (convert 136 9 (.slice (some ⟨wr.heap.size, 0, none⟩) 1 1)).run Tryz.prog (wr.alloc (.cells #[.int .u8 (48 + (k : Int) % 10)] 5)) = .ok (.string ⟨#[UInt8.ofNat (48 + k % 10)]⟩) (wr.alloc (.cells #[.int .u8 (48 + (k : Int) % 10)] 5)) := by
          have h := run_convert_bytes_arg (P := Tryz.prog) (wr.alloc (.cells #[.int .u8 (48 + (k : Int) % 10)] 5)) 136 5 Tryz.underlying136 Tryz.underlying5 wr.heap.size 0 1 1 [48 + (k : Int) % 10] rfl (fun i hi => by
            obtain rfl : i = 0 := by omega
            simp) 9 Tryz.underlying9
          rw [h]
          simp only [strOfNums, List.map_cons, List.map_nil]
          rw [show (48 + (k : Int) % 10).toNat = 48 + k % 10 from by omega]
        go_wp2
        go_roundw
        case rel => exact ⟨k / 10, UInt8.ofNat (48 + k % 10) :: out, by go_num, congrArg Value.string (by rw [ByteArray.mk.injEq]; simp), by simp; omega, by have := HG.out; rw [mtGo, dif_neg (by omega)] at this; exact this, hb.alloc hb.size _⟩
        case measure => simp [intOf]; omega
      · obtain rfl : k = 0 := by omega
        go_wp2
        go_ret
        refine ret_str ?_ hb
        rw [mt, if_neg (by omega), Int.toNat_natCast, ← HG.out, mtGo, dif_pos rfl]
        exact ByteArray.ext (by simp)
end Go.Proofs.YtlnoelbeaolikaaGreat
