/- known() of lexiconlaw23 answers true: the whole run, reckoned. -/
import Derived.Test.YtcakdjnnfonijaaEvComp
import Derived.Test.YtcakdjnnfonijaaProg
namespace Go.Proofs.Ytcakdjnnfonijaa
open Go.RowKit

def isTrue : AV → Ans
  | .v (.bool true) => .yes
  | _ => .no "not true"
theorem isTrue_real (v : AV) (ρ : Env) (x : Value) (h : isTrue v = .yes) (hx : v.real ρ = some x) : x = .bool true := by
  unfold isTrue at h
  split at h
  · exact (Option.some.inj hx).symm
  · cases h
theorem known_run : evEnter2 Try.prog [] (ecF Try.prog [] 100) 5 [] ⟨.nil, 0⟩ (fun v _ => isTrue v) = .yes := by kernel_rfl
theorem known_any (w : World) : Calls Try.prog 5 #[] w fun e w' => e = .returned (.bool true) ∧ Below w.heap.size w w' :=
  (quick_calls [] known_run w isTrue_real).mono fun _ _ ⟨⟨_, h1, h2⟩, h3⟩ => ⟨by rw [h1, h2], h3⟩
end Go.Proofs.Ytcakdjnnfonijaa
