/- MistakesOf: the call of the program. Written by genmis.py. -/
import Derived.Test.YtdifhnckhocmdabGreatPcMisP
import Derived.Test.YtdifhnckhocmdabGreatPcTr2
namespace Go.Proofs.YtdifhnckhocmdabGreat
open Go.RowKit

end Go.Proofs.YtdifhnckhocmdabGreat
