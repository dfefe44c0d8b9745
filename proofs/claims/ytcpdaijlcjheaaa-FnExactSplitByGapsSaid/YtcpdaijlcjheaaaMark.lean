/- The text markText(k) is a function of k. -/
import Derived.Test.YtcpdaijlcjheaaaRows
import Derived.Test.YtcpdaijlcjheaaaBase
namespace Go.Proofs.Ytcpdaijlcjheaaa
open Go.RowKit

end Go.Proofs.Ytcpdaijlcjheaaa
