/- (nothing of this at this seat) -/
import Derived.Test.YtbgjojnjbplblaaGreatDoorBase
namespace Go.Proofs.YtbgjojnjbplblaaGreatDoor
end Go.Proofs.YtbgjojnjbplblaaGreatDoor
