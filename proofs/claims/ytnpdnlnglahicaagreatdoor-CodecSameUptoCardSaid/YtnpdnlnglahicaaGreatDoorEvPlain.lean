/- A reckoner of closed runs, 6: what an operation comes to; operations whose operands name no block. Nothing of the program is used here. -/
import Derived.Test.YtnpdnlnglahicaaGreatDoorEvMake
namespace Go.Proofs.YtnpdnlnglahicaaGreatDoor
open Go.RowKit

inductive R where
  | bad
  | val (v : AV) (h : Hp)
  | skip (h : Hp)
  | enter (f : FuncId) (args : List AV)
  | round (id : Nat) (args : List AV)
  | alts (l : List (AV × Hp))
def OpR (P : Program) (ρ : Env) (base : Kp) (w0 : World) (s : Sem Next) (w : World) : R → Prop
  | .bad => True
  | .val v h' => ∃ ρ' w' x, s.run P w = .ok (.value x) w' ∧ v.real ρ' = some x ∧ Env.le ρ ρ' ∧ Emb ρ' base w0 h' w'
  | .skip h' => ∃ ρ' w', s.run P w = .ok .skip w' ∧ Env.le ρ ρ' ∧ Emb ρ' base w0 h' w'
  | .enter f args => ∃ xs : Array Value, s.run P w = .ok (.enter f xs) w ∧ AV.reals ρ args = some xs.toList
  | .round id args => ∃ (l : Loc) (xs : Array Value), ρ id = some l ∧ s.run P w = (Instr.yield l.blk xs).run P w ∧ AV.reals ρ args = some xs.toList
  | .alts l => ∃ p ∈ l, ∃ ρ' w' x, s.run P w = .ok (.value x) w' ∧ p.1.real ρ' = some x ∧ Env.le ρ ρ' ∧ Emb ρ' base w0 p.2 w'
theorem OpR.ofDoes {P : Program} {ρ : Env} {base : Kp} {w0 : World} {s : Sem Value} {w : World} {v : AV} {h' : Hp} (D : Does P ρ base w0 s w v h') : OpR P ρ base w0 (do pure (.value (← s))) w (.val v h') := by
  obtain ⟨ρ', w', x, h1, h2⟩ := D
  refine ⟨ρ', w', x, ?_, h2⟩
  rw [Sem.run_bind, h1]
  rfl
theorem plains_real (ρ : Env) : ∀ (cz : List AV) (xs : List Value), AV.plain.AV.plains cz = some xs → AV.reals ρ cz = some xs
  | [], xs, h => by cases h; rfl
  | a :: r, xs, h => by
    cases a with
    | v x =>
      simp only [AV.plain.AV.plains, Option.map_eq_some_iff] at h
      obtain ⟨l, hl, rfl⟩ := h
      simp [AV.reals, AV.real, plains_real ρ r l hl]
    | _ => cases h
theorem plain_real (ρ : Env) (a : AV) (x : Value) (h : a.plain = some x) : a.real ρ = some x := by
  cases a with
  | v y => exact h
  | agg cs =>
    simp only [AV.plain, Option.map_eq_some_iff] at h
    obtain ⟨l, hl, rfl⟩ := h
    simp [AV.real, plains_real ρ cs l hl]
  | flat n N => exact h
  | ifc t b =>
    cases b with
    | v y => simp only [AV.plain, Option.some.injEq] at h; subst h; rfl
    | _ => cases h
  | _ => cases h
def Oper.isSelect (o : Oper) : Bool := match o.op with
  | .select _ _ => true
  | .defer _ => true
  | _ => false
theorem not_defer {o : Oper} (h : Oper.isSelect o = false) (c : Call) : o.op ≠ .defer c := fun e => by
  unfold Oper.isSelect at h
  rw [e] at h
  cases h
theorem not_select {o : Oper} (h : Oper.isSelect o = false) (cs : Array SelectCase) (b : Bool) : o.op ≠ .select cs b := fun e => by
  unfold Oper.isSelect at h
  rw [e] at h
  cases h
noncomputable def plainIn (f : Fr) (x : Operand) : Value := ((evA f x).plain).getD undef
noncomputable def allPlain (f : Fr) : List Operand → Bool
  | [] => true
  | x :: r => match (evA f x).plain with
    | some _ => allPlain f r
    | none => false
theorem allPlain_spec {ρ : Env} {f : Fr} {a : Act} (hf : FrR ρ f a) : ∀ (xs : List Operand), allPlain f xs = true → ∀ x ∈ xs, a.eval x = plainIn f x
  | [], _, x, hx => by simp at hx
  | y :: r, h, x, hx => by
    simp only [allPlain] at h
    split at h
    · rename_i v hv
      rcases List.mem_cons.1 hx with rfl | hx
      · unfold plainIn
        rw [hv]
        have := plain_real ρ _ _ hv
        rw [evA_real hf x] at this
        exact Option.some.inj this
      · exact allPlain_spec hf r h x hx
    · cases h
noncomputable def evPlain (P : Program) (f : Fr) (h : Hp) (o : Oper) : R := match Oper.isSelect o with
  | true => .bad
  | false => match allPlain f o.op.operands.toList with
    | false => .bad
    | true => match runS P (execOp (plainIn f) o) with
      | some (.value v) => .val (.v v) h
      | some .skip => .skip h
      | some (.enter g xs) => .enter g (xs.toList.map .v)
      | _ => .bad
theorem evPlain_ok {P : Program} {ρ : Env} {base : Kp} {w0 : World} {h : Hp} {w : World} (E : Emb ρ base w0 h w) {f : Fr} {a : Act} (hf : FrR ρ f a) (o : Oper) : OpR P ρ base w0 (execOp a.eval o) w (evPlain P f h o) := by
  unfold evPlain
  split
  · trivial
  · rename_i hs
    split
    · trivial
    · rename_i hp
      have hc : execOp a.eval o = execOp (plainIn f) o := execOp_congr o (not_select hs) fun x hx => allPlain_spec hf _ hp x (by simpa using hx)
      rw [hc]
      split
      · rename_i v hr
        exact ⟨ρ, w, v, runS_run _ _ w hr, rfl, Env.le_refl ρ, E⟩
      · rename_i hr
        exact ⟨ρ, w, runS_run _ _ w hr, Env.le_refl ρ, E⟩
      · rename_i g xs hr
        exact ⟨xs, runS_run _ _ w hr, reals_v ρ _⟩
      · trivial
end Go.Proofs.YtnpdnlnglahicaaGreatDoor
