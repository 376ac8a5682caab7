/- Print: kept copies. -/
import Derived.Test.YtclioihichcpiaaDoorJoN
import Derived.Deep.QuietTactic
import Derived.BigQuiet
set_option maxHeartbeats 8000000
set_option maxRecDepth 100000
namespace Go.Proofs.YtclioihichcpiaaDoor
open Go.RowKit Go.Shelf Lx
end Go.Proofs.YtclioihichcpiaaDoor
