/- OrderOf: the reference and the implementation. -/
import Derived.Test.YtdadmphmpojjhaaInkOrder
namespace Go.Proofs.Ytdadmphmpojjhaa
open Go.RowKit

def orderX (X : XInk) : List Int := if validInk X then orderI X else []
theorem orderI_bd {X : XInk} (hv : validInk X = true) : (orderI X).length ≤ 272 := ordTo_bd (validInk_len hv) (by rw [homesTo_len]; exact validInk_len hv)
theorem okOrder (X : XInk) : okInt64S (orderX X) := by
  unfold orderX
  split
  · rename_i hv
    have := orderI_bd hv
    show (orderI X).length ≤ 1048576
    omega
  · show (0 : Nat) ≤ 1048576; omega
end Go.Proofs.Ytdadmphmpojjhaa
