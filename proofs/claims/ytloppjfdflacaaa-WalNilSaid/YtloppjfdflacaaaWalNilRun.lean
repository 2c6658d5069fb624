/- WalNil answers true: the whole run, reckoned (its arguments are handed on, and not looked at). -/
import Derived.Test.YtloppjfdflacaaaEvComp
import Derived.Test.YtloppjfdflacaaaProg
namespace Go.Proofs.Ytloppjfdflacaaa
open Go.RowKit

def isTrue : AV → Ans
  | .v (.bool true) => .yes
  | _ => .no "not true"
theorem isTrue_real (v : AV) (ρ : Env) (x : Value) (h : isTrue v = .yes) (hx : v.real ρ = some x) : x = .bool true := by
  unfold isTrue at h
  split at h
  · exact (Option.some.inj hx).symm
  · cases h
theorem walnil_run (b : Value) (n m : Int) : evEnter Try.prog (ecF Try.prog 100) 4 ([b, .int .i64 n, .int .i64 m].map .v) ⟨.nil, 0⟩ (fun v _ => isTrue v) = .yes := by kernel_rfl
theorem walnil_any (b : Value) (n m : Int) (w : World) : Calls Try.prog 4 #[b, .int .i64 n, .int .i64 m] w fun e w' => e = .returned (.bool true) ∧ Below w.heap.size w w' :=
  (quick_calls [b, .int .i64 n, .int .i64 m] (walnil_run b n m) w isTrue_real).mono fun _ _ ⟨⟨_, h1, h2⟩, h3⟩ => ⟨by rw [h1, h2], h3⟩
end Go.Proofs.Ytloppjfdflacaaa
