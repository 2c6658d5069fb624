/- TablesKeys answers true for every input, and every argument reads afterwards as it read before: the frame follows the guide's proof-skeleton.mjs. -/
import Derived.Test.YtlchnfjbcefkoaaGreatRows
import Derived.Test.YtlchnfjbcefkoaaGreatTabLaw
import Derived.Test.YtlchnfjbcefkoaaGreatTabOpen
import Derived.WalkKit
import Derived.ProofKit
import Derived.OpenShut
import Derived.ShutString
import Derived.ChangeOld
import Derived.Below
namespace Go.Proofs.YtlchnfjbcefkoaaGreat.tablesKeys
open Go.ChangeShapes Go.WideShapes Go.ChangeAt Go.RowKit
set_option linter.unusedVariables false

theorem own : ownKnob Tryz.prog.godebug = none := by kernel_rfl
theorem laidOut : laidOutB Tryz.prog = true := by kernel_rfl

set_option maxRecDepth 100000 in
theorem lifted (os : Os) (started : os.Started) (H : Type) (enc : TypeId × Value → H) :
    ReturnsInHanded {} Tryz.checked os 3 .any (Rows.tablesKeysSpec.pre6 enc Tryz.prog Tryz.f3 Rows.tablesKeysRow.domain false) (Rows.tablesKeysSpec.post enc Tryz.prog Tryz.f3 false true false false) := by
  refine returnsInHanded_of_change (C := Tryz.checked) own started (by kernel_rfl) Tryz.func3
    (ChangeSpec.witness6 (enc := enc) (C := Tryz.checked) false ⟨#[], #[.agg #[.string ⟨#[]⟩, .slice none 0 0, .slice none 0 0, .slice none 0 0]], []⟩ 8 (by kernel_rfl) (by kernel_rfl) (by kernel_rfl) (by kernel_rfl)) ?_
  intro W base args ds gs before hval0 hW hcnd _
  have hW' := hW
  obtain ⟨p, q, hA0, hV, rfl, hfz, hnd⟩ := hW
  have hA : DataW.TrodAll enc Tryz.prog W 0 (fun _ => true) true Tryz.f3.params.toList args.toList ds p := hA0
  have hval : ∀ (j : Nat) t v, Tryz.f3.params[j]? = some t → args[j]? = some v → Value.okWide Tryz.prog W .any base t v := hval0
  rw [Tryz.params3] at hA hval
  obtain ⟨v0, vs0, d0, ds0, p0, q0, hargs, rfl, rfl, h0, r0⟩ := trodAll_cons hA
  obtain ⟨rfl, rfl, rfl⟩ := trodAll_nil r0
  obtain rfl : args = #[v0] := by cases args; simp_all
  obtain ⟨rfl, rfl⟩ := trodVars_none hV
  have lt0 : ∀ x ∈ p0, x.block < W.heap.size := by obtain ⟨m, hm⟩ := h0; exact DataW.trod_lt m _ _ _ hm
  obtain ⟨cs0, rfl, _⟩ := okWide_struct Tryz.underlying25 (hval 0 25 v0 rfl rfl)
  obtain ⟨t, a, a2, a3, n, cap, n2, cap2, n3, cap3, ps, qs, b, e0, q1, q2, q3, q4, q5, q6, q7, q8, q9, q10, q11⟩ : ∃ (t : List UInt8) (a a2 a3 : Option Addr) (n cap n2 cap2 n3 cap3 : Nat) (ps qs : List Pt) (b : List UInt8), cs0.toList = [.string (str t), .slice a n cap, .slice a2 n2 cap2, .slice a3 n3 cap3] ∧ n = ps.length ∧ n ≤ cap ∧ (∀ p ∈ ps, p.Ok) ∧ RdP W a ps ∧ n2 = qs.length ∧ n2 ≤ cap2 ∧ (∀ p ∈ qs, p.Ok) ∧ RdP W a2 qs ∧ n3 = b.length ∧ n3 ≤ cap3 ∧ RdB W a3 b := by obtain ⟨m, hm⟩ := h0; exact keys_open hm
  obtain rfl : cs0 = #[.string (str t), .slice a n cap, .slice a2 n2 cap2, .slice a3 n3 cap3] := by apply Array.ext'; exact e0
  refine (tableskeys_any t (str t) rfl a a2 a3 ps qs b n cap n2 cap2 n3 cap3 W q1 q5 q9 q2 q6 q10 q3 q7 q4 q8 q11).mono fun e W' ⟨he, bel⟩ => ?_
  subst he
  exact ⟨_, rfl, _, _, _, [], _, [], hW', trodAll_mk1 (shut_bool Tryz.underlying4 _), (trodAll_cons_mk (Below.trod laidOut (by kernel_rfl) (of_decide_eq_true (by kernel_rfl)) h0 bel lt0) trodAll_mk0), rfl, bel.frame _, fun h => by cases h⟩

theorem over : Rows.tablesKeysRow.holds Tryz.pinned (OpenSpec.ofChange Rows.tablesKeysSpec) :=
  OpenClaim.holds_of_wide 3 Tryz.f3 rfl rfl rfl rfl rfl rfl rfl ⟨rfl, rfl, rfl, rfl, rfl⟩ rfl rfl rfl rfl rfl (by kernel_rfl) Tryz.func3 (by kernel_rfl)
    (of_decide_eq_true (by kernel_rfl)) (by unfold Func.isWrapper; first | (rw [if_pos (by decide +kernel)]; kernel_rfl) | (rw [if_neg (by decide +kernel)]; exact ⟨rfl, rfl⟩))
    (fun os started H enc _ => lifted os started H enc)

theorem proved : Rows.TablesKeysSaid := over
#print axioms proved
end Go.Proofs.YtlchnfjbcefkoaaGreat.tablesKeys
