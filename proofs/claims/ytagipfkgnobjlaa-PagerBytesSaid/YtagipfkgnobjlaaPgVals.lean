/- slices.Values of ints: the iterator's contract (DkVals on PgTaken). -/
import Derived.Test.YtagipfkgnobjlaaPgTaken
import Derived.Test.YtagipfkgnobjlaaRange
namespace Go.Proofs.Ytagipfkgnobjlaa
open Go.RowKit

attribute [local go_sem] Oper.semAt_some
end Go.Proofs.Ytagipfkgnobjlaa
