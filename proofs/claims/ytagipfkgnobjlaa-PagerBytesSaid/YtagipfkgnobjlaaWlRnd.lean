/- A range over a function whose rounds write what the iterator handed over: the blocks made since. Nothing of the program is used here. -/
import Derived.Test.YtagipfkgnobjlaaRange
namespace Go.Proofs.Ytagipfkgnobjlaa
open Go.RowKit

end Go.Proofs.Ytagipfkgnobjlaa
