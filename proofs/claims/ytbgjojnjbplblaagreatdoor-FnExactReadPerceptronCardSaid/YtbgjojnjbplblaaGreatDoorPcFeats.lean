/- Features are told good: both calls. -/
import Derived.Test.YtbgjojnjbplblaaGreatDoorPcPlain
import Derived.Test.YtbgjojnjbplblaaGreatDoorPcValid
import Derived.Test.YtbgjojnjbplblaaGreatDoorPcClo
namespace Go.Proofs.YtbgjojnjbplblaaGreatDoor
open Go.RowKit

end Go.Proofs.YtbgjojnjbplblaaGreatDoor
