/- DiskNil answers true: the whole run, reckoned (its arguments are handed on, and not looked at). -/
import Derived.Test.YtloppjfdflacaaaEvRun
import Derived.Test.YtloppjfdflacaaaProg
namespace Go.Proofs.Ytloppjfdflacaaa
open Go.RowKit

def isTrue : AV → Ans
  | .v (.bool true) => .yes
  | _ => .no "not true"
theorem isTrue_real (v : AV) (ρ : Env) (x : Value) (h : isTrue v = .yes) (hx : v.real ρ = some x) : x = .bool true := by
  unfold isTrue at h
  split at h
  · exact (Option.some.inj hx).symm
  · cases h
theorem disknil_run (x y z : Value) : evEnter Try.prog (evC Try.prog 10000) 3 ([x, y, z].map .v) ⟨.nil, 0⟩ (fun v _ => isTrue v) = .yes := by kernel_rfl
theorem disknil_any (x y z : Value) (w : World) : Calls Try.prog 3 #[x, y, z] w fun e w' => e = .returned (.bool true) ∧ Below w.heap.size w w' :=
  (ev_calls_on [x, y, z] (disknil_run x y z) w isTrue_real).mono fun _ _ ⟨⟨_, h1, h2⟩, h3⟩ => ⟨by rw [h1, h2], h3⟩
end Go.Proofs.Ytloppjfdflacaaa
