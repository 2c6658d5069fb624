/- A reckoner of closed runs, 22: functions whose answers are known ahead. Nothing of the program is used here. -/
import Derived.Test.YtibolphdalhceaaGreatEvComp
namespace Go.Proofs.YtibolphdalhceaaGreat
open Go.RowKit

/-- Functions whose answers are known: each hands back that value, and leaves all that was. -/
def KnOk (P : Program) (kn : FuncId → List AV → Option AV) : Prop :=
  ∀ g args v, kn g args = some v → ∀ (ρ : Env) (xs : Array Value) (w : World), AV.reals ρ args = some xs.toList → Calls P g xs w fun e w' => ∃ x, e = .returned x ∧ v.real ρ = some x ∧ Below w.heap.size w w'
noncomputable def evEnter3 (P : Program) (kn : FuncId → List AV → Option AV) (rc : List FuncId) (ec : Ecf) : Cf := fun g args h kk => match kn g args with
  | some v => kk v h
  | none => evEnter2 P rc ec g args h kk
theorem evEnter3_ok {P : Program} {base : Kp} {w0 : World} {kn : FuncId → List AV → Option AV} (hkn : KnOk P kn) {rc : List FuncId} (hrc : Rec P rc) {ec : Ecf} (H : EcOk P base w0 ec) : CfOk P base w0 (evEnter3 P kn rc ec) := by
  intro g args h kk ρ w xs R hk E hr K
  unfold evEnter3 at hk
  split at hk
  · rename_i v hv
    refine (hkn g args v hv ρ xs w hr).mono ?_
    rintro e w' ⟨x, rfl, hx, hb⟩
    exact ⟨x, rfl, K v h ρ x w' hk (Env.le_refl ρ) (E.later hb) hx⟩
  · exact evEnter2_ok hrc H g args h kk ρ w xs R hk E hr K
noncomputable def ecK (P : Program) (kn : FuncId → List AV → Option AV) (rc : List FuncId) (d : Nat) : Ecf := Nat.rec (fun _ _ _ _ _ => .no "depth") (fun _ ih ro c f h k => compC P c ⟨evEnter3 P kn rc ih, evRound P ih, ro, 100000⟩ (k .normal) (fun i => k (.exit i)) (k .ret) f h) d
theorem ecK_ok (P : Program) {kn : FuncId → List AV → Option AV} (hkn : KnOk P kn) {rc : List FuncId} (hrc : Rec P rc) (base : Kp) (w0 : World) : ∀ d, EcOk P base w0 (ecK P kn rc d)
  | 0 => fun _ _ _ _ _ _ _ _ _ _ _ hk => by cases hk
  | d + 1 => fun ro c f h k ρ a w Q rl nn hk hro E F hd K => by
    have ih := fun base w0 => ecK_ok P hkn hrc base w0 d
    refine compC_ok c ⟨evEnter3 P kn rc (ecK P kn rc d), evRound P (ecK P kn rc d), ro, 100000⟩ (fun b w => evEnter3_ok hkn hrc (ih b w)) (fun b w => evRound_ok (ih b w)) (k .normal) (fun i => k (.exit i)) (k .ret) f h ρ a w Q rl nn hk hro E F hd ?_
    intro e
    cases e <;> exact K _
theorem quick_calls_kn {P : Program} {kn : FuncId → List AV → Option AV} (hkn : KnOk P kn) {rc : List FuncId} (hrc : Rec P rc) {g : FuncId} {d : Nat} {p : AV → Ans} (xs : List Value) (h : evEnter3 P kn rc (ecK P kn rc d) g (xs.map .v) ⟨.nil, 0⟩ (fun v _ => p v) = .yes) (w : World) {R : Value → Prop} (hp : ∀ v ρ x, p v = .yes → v.real ρ = some x → R x) :
    Calls P g xs.toArray w fun e w' => (∃ x, e = .returned x ∧ R x) ∧ Below w.heap.size w w' := by
  have hno : ∀ id, (⟨.nil, 0⟩ : Hp).get id = .gone := fun id => by
    show ((Tr.nil : Tr Blk).get id).getD .gone = _
    rw [Tr.get_nil]
    rfl
  have E : Emb (fun _ => none) ⟨w.heap.size, fun _ => False⟩ w ⟨.nil, 0⟩ w := ⟨Below.refl _ _, Nat.le_refl _, (fun b hB => hB.elim), (fun id l hl => by cases hl), (fun id hl => absurd (hno id) hl), (fun id id' l l' hl => absurd (hno id) hl)⟩
  refine (evEnter3_ok hkn hrc (ecK_ok P hkn hrc ⟨w.heap.size, fun _ => False⟩ w d) g (xs.map .v) ⟨.nil, 0⟩ _ _ w xs.toArray (fun x w' => R x ∧ Below w.heap.size w w') h E (reals_v _ _) fun v h' ρ' x w' q1 q2 q3 q4 => ⟨hp v ρ' x q1 q4, q3.below⟩).mono ?_
  rintro e w' ⟨x, rfl, h1, h2⟩
  exact ⟨⟨x, rfl, h1⟩, h2⟩
end Go.Proofs.YtibolphdalhceaaGreat
