/- TablesNil answers true: the whole run, reckoned (its arguments are handed on, and not looked at). -/
import Derived.Test.YtloppjfdflacaaaGreatCaught
namespace Go.Proofs.YtloppjfdflacaaaGreat
open Go.RowKit

def isTrue : AV → Ans
  | .v (.bool true) => .yes
  | _ => .no "not true"
theorem isTrue_real (v : AV) (ρ : Env) (x : Value) (h : isTrue v = .yes) (hx : v.real ρ = some x) : x = .bool true := by
  unfold isTrue at h
  split at h
  · exact (Option.some.inj hx).symm
  · cases h
theorem tablesnil_run (b c : Value) : evEnter2 Tryz.prog [80] (ecF Tryz.prog [80] 100) 3 ([b, c].map .v) ⟨.nil, 0⟩ (fun v _ => isTrue v) = .yes := by kernel_rfl
theorem tablesnil_any (b c : Value) (w : World) : Calls Tryz.prog 3 #[b, c] w fun e w' => e = .returned (.bool true) ∧ Below w.heap.size w w' :=
  (quick_calls_rec caught_rec [b, c] (tablesnil_run b c) w isTrue_real).mono fun _ _ ⟨⟨_, h1, h2⟩, h3⟩ => ⟨by rw [h1, h2], h3⟩
end Go.Proofs.YtloppjfdflacaaaGreat
