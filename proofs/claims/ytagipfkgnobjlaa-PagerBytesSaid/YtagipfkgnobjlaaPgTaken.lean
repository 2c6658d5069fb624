/- Taken: the pages that are in use, as an iterator. -/
import Derived.Test.YtagipfkgnobjlaaPgFre
namespace Go.Proofs.Ytagipfkgnobjlaa
open Go.RowKit

attribute [local go_sem] Oper.semAt_some
def OwnI (w : World) (base : Nat) (v : Value) (l : List Int) : Prop := w.ownsRow base 3 1 v l.length (l.map (Value.int .i64))
theorem OwnI.nil (w : World) (base : Nat) : OwnI w base (.slice none 0 0) [] := World.ownsRow_nil _ _ _ _
theorem OwnI.later {w w' : World} (hb : Below w.heap.size w w') {base : Nat} {v : Value} {l : List Int} (h : OwnI w base v l) : OwnI w' base v l := own_keep (KeepA.of_below (X := fun _ => False) hb) h fun _ _ h => h
theorem OwnI.rd {w : World} {base : Nat} {v : Value} {l : List Int} (h : OwnI w base v l) : ∃ a cap, v = .slice a l.length cap ∧ l.length ≤ cap ∧ RdI w a l := Rd.of_own h
theorem OwnI.lt {w : World} {base : Nat} {v : Value} {l : List Int} (h : OwnI w base v l) {g : Nat} (hg : v.ownBlock = some g) : base ≤ g := (World.ownsRow.lt h g hg).1
end Go.Proofs.Ytagipfkgnobjlaa
