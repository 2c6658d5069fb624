/- A region that draws its order and only reads, within a round of a range over a function: one walk in the order of the text. Nothing of the program is used here. -/
import Derived.Test.YtagipfkgnobjlaaRange
import Derived.OrdersIn
namespace Go.Proofs.Ytagipfkgnobjlaa
open Go.RowKit

end Go.Proofs.Ytagipfkgnobjlaa
