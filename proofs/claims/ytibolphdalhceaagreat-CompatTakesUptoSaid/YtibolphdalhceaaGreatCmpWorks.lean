/- lexiconlaw19's works() answers true: reckoned, its two descriptors laid down ahead (printed by gen_cmp_ends.py). -/
import Derived.Test.YtibolphdalhceaaGreatCmpA
import Derived.Test.YtibolphdalhceaaGreatCmpB
namespace Go.Proofs.YtibolphdalhceaaGreat
open Go.RowKit

noncomputable def khAB : FuncId → List AV → Nat → Option (AV × Hp) := khAdd 8 argsA 0 endVA endHA (khAdd 8 argsB 2 endVB endHB khNone)
theorem khAB_ok : KhOk Tryz.prog khAB := khAdd_ok (khAdd_ok (khNone_ok _) madeB_calls fun _ => rfl) madeA_calls fun _ => rfl
def sayTrue : AV → Ans
  | .v (.bool true) => .yes
  | _ => .no "not true"
theorem sayTrue_real (v : AV) (ρ : Env) (x : Value) (h : sayTrue v = .yes) (hx : v.real ρ = some x) : x = .bool true := by
  unfold sayTrue at h
  split at h
  · exact (Option.some.inj hx).symm
  · cases h
set_option maxRecDepth 100000 in
theorem works_run : evEnter4 Tryz.prog khAB knLex [] (ecH Tryz.prog khAB knLex [] 100) 7 (([] : List Value).map .v) ⟨.nil, 0⟩ (fun v _ => sayTrue v) = .yes := by kernel_rfl
theorem works_any (w : World) : Calls Tryz.prog 7 #[] w fun e w' => e = .returned (.bool true) ∧ Below w.heap.size w w' :=
  (quick_calls_kh khAB_ok knLex_ok (rec_none _) [] works_run w sayTrue_real).mono fun _ _ ⟨⟨_, h1, h2⟩, h3⟩ => ⟨by rw [h1, h2], h3⟩
end Go.Proofs.YtibolphdalhceaaGreat
