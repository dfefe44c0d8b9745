/- (nothing of this at this seat) -/
import Derived.Test.YtldmphkakkggaaaDoorBase
namespace Go.Proofs.YtldmphkakkggaaaDoor
end Go.Proofs.YtldmphkakkggaaaDoor
