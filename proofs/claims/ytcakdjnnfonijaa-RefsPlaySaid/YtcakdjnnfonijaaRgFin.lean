/- RefsPlay: the walk and what came in. -/
import Derived.Test.YtcakdjnnfonijaaRgPlay
import Derived.Test.YtcakdjnnfonijaaRgOpen
namespace Go.Proofs.Ytcakdjnnfonijaa
open Go.RowKit
theorem refsplay_in (a : Option Addr) (n cap : Nat) (l : List St) (w : World) (hn : n = l.length) (hn2 : n ≤ 9223372036854775807) (hl : RdSt w a l) :
    Calls Try.prog 4 #[.slice a n cap] w fun e w' => e = .returned (.bool true) ∧ Below w.heap.size w w' := refsplay_any w a l n cap hn hn2 hl
end Go.Proofs.Ytcakdjnnfonijaa
