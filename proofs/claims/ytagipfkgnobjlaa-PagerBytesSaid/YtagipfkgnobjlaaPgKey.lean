/- Maps under numbers. -/
import Derived.Test.YtagipfkgnobjlaaPgRun
import Derived.Test.YtagipfkgnobjlaaPgPut
namespace Go.Proofs.Ytagipfkgnobjlaa
open Go.RowKit

def intV (z : Int) : Value := .int .i64 z
theorem keyI : KeyT Try.prog 3 intV := by
  refine ⟨fun a b h => by unfold intV at h; cases h; rfl, fun w k es hes => ?_, fun w b a => key_int b a w, fun w a => ?_⟩
  · have hi : ∀ e ∈ es, ∃ j, e.key = .int .i64 j := hes
    rcases findNow_int (k := k) es 0 hi with ⟨n, v, h1, e, h2, h3, h4⟩ | ⟨h1, h2⟩
    · refine .inr ⟨n, e, h2, h3, ?_⟩
      have := MapKept.run_findKey (P := Try.prog) (w := w) Try.underlying3 h1
      rw [Nat.zero_add, ← h4] at this
      exact this
    · exact .inl ⟨h2, MapKept.run_findKey (P := Try.prog) (w := w) Try.underlying3 h1⟩
  · unfold Instr.keyThatStays
    rw [if_pos (by simp [Instr.sameBits, intV])]
    rfl
end Go.Proofs.Ytagipfkgnobjlaa
