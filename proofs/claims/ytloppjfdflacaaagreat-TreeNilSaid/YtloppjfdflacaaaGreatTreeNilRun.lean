/- TreeNil answers true: the whole run, reckoned (its arguments are handed on, and not looked at). -/
import Derived.Test.YtloppjfdflacaaaGreatCaught
namespace Go.Proofs.YtloppjfdflacaaaGreat
open Go.RowKit

def isTrue : AV → Ans
  | .v (.bool true) => .yes
  | _ => .no "not true"
theorem isTrue_real (v : AV) (ρ : Env) (x : Value) (h : isTrue v = .yes) (hx : v.real ρ = some x) : x = .bool true := by
  unfold isTrue at h
  split at h
  · exact (Option.some.inj hx).symm
  · cases h
theorem treenil_run (b c : Value) (n : Int) : evEnter2 Tryz.prog [80] (ecF Tryz.prog [80] 100) 5 ([b, c, .int .i64 n].map .v) ⟨.nil, 0⟩ (fun v _ => isTrue v) = .yes := by kernel_rfl
theorem treenil_any (b c : Value) (n : Int) (w : World) : Calls Tryz.prog 5 #[b, c, .int .i64 n] w fun e w' => e = .returned (.bool true) ∧ Below w.heap.size w w' :=
  (quick_calls_rec caught_rec [b, c, .int .i64 n] (treenil_run b c n) w isTrue_real).mono fun _ _ ⟨⟨_, h1, h2⟩, h3⟩ => ⟨by rw [h1, h2], h3⟩
end Go.Proofs.YtloppjfdflacaaaGreat
