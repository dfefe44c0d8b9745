/- The text markText(k) is a function of k. -/
import Derived.Test.YtdadmphmpojjhaaRows
import Derived.Test.YtdadmphmpojjhaaBase
namespace Go.Proofs.Ytdadmphmpojjhaa
open Go.RowKit

def mtGo (k : Nat) (out : List UInt8) : List UInt8 := if h : k = 0 then out else mtGo (k / 10) (UInt8.ofNat (48 + k % 10) :: out)
termination_by k
decreasing_by exact Nat.div_lt_self (Nat.pos_of_ne_zero h) (by decide)
def mt (k : Int) : ByteArray := if k ≤ 0 then ⟨#[109, 48]⟩ else ⟨(109 :: mtGo k.toNat []).toArray⟩

end Go.Proofs.Ytdadmphmpojjhaa
