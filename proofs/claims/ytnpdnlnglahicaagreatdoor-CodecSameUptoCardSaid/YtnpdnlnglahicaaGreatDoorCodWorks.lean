/- lexiconlaw18's works() answers true: reckoned, its descriptor laid down ahead (printed by gen_cod_ends.py). -/
import Derived.Test.YtnpdnlnglahicaaGreatDoorCodA
import Derived.Test.YtnpdnlnglahicaaGreatDoorEvTop
import Derived.Test.YtnpdnlnglahicaaGreatDoorFace
namespace Go.Proofs.YtnpdnlnglahicaaGreatDoor
open Go.RowKit

noncomputable def khA : FuncId → List AV → Nat → Option (AV × Hp) := khAdd 9 argsA 0 endVA endHA khNone
theorem khA_ok : KhOk Tryz.prog khA := khAdd_ok (khNone_ok _) madeA_calls fun _ => rfl
def sayTrue : AV → Ans
  | .v (.bool true) => .yes
  | _ => .no "not true"
theorem sayTrue_real (v : AV) (ρ : Env) (x : Value) (h : sayTrue v = .yes) (hx : v.real ρ = some x) : x = .bool true := by
  unfold sayTrue at h
  split at h
  · exact (Option.some.inj hx).symm
  · cases h
set_option maxRecDepth 100000 in
theorem works_run : evEnter4 Tryz.prog khA knLex [38] (ecP Tryz.prog khA knLex [38] [20] [25, 46, 24] 100) 5 (([] : List Value).map .v) ⟨.nil, 0⟩ (fun v _ => sayTrue v) = .yes := by kernel_rfl
theorem works_any (w : World) : Calls Tryz.prog 5 #[] w fun e w' => e = .returned (.bool true) ∧ Below w.heap.size w w' :=
  (quick_calls_p khA_ok knLex_ok face_rec [20] [25, 46, 24] [] works_run w sayTrue_real).mono fun _ _ ⟨⟨_, h1, h2⟩, h3⟩ => ⟨by rw [h1, h2], h3⟩
end Go.Proofs.YtnpdnlnglahicaaGreatDoor
