/- refs.Order: the answer that the plain law tells. -/
import Derived.Test.YtcakdjnnfonijaaRoOrd3
namespace Go.Proofs.Ytcakdjnnfonijaa
open Go.RowKit

theorem znil (w : World) : (zeroValue 26).run Try.prog w = .ok (.slice none 0 0) w := by kernel_rfl
end Go.Proofs.Ytcakdjnnfonijaa
