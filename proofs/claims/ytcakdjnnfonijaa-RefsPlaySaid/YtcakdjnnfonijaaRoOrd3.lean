/- The state of refs.Order's later loops, plainly. -/
import Derived.Test.YtcakdjnnfonijaaRoOrd2
namespace Go.Proofs.Ytcakdjnnfonijaa
open Go.RowKit

end Go.Proofs.Ytcakdjnnfonijaa
