/- A reckoner of closed runs, 3: frames; operations that touch no memory. Nothing of the program is used here. -/
import Derived.Test.YtnpdnlnglahicaaGreatDoorEvHeap
namespace Go.Proofs.YtnpdnlnglahicaaGreatDoor
open Go.RowKit

/-- What a piece of work comes to that asks nothing of the world. -/
def runS {α : Type} (P : Program) : Sem α → Option α
  | .pure a => some a
  | .program k => runS P (k P)
  | .mark _ k => runS P k
  | _ => none
theorem runS_run {α : Type} {P : Program} : ∀ (s : Sem α) (a : α) (w : World), runS P s = some a → s.run P w = .ok a w
  | .pure a, b, w, h => by cases h; rfl
  | .program k, b, w, h => runS_run (k P) b w h
  | .mark _ k, b, w, h => runS_run k b w h
  | .load .., b, w, h => by cases h
  | .store .., b, w, h => by cases h
  | .new .., b, w, h => by cases h
  | .shape .., b, w, h => by cases h
  | .freeze .., b, w, h => by cases h
  | .frozen .., b, w, h => by cases h
  | .getObj .., b, w, h => by cases h
  | .setObj .., b, w, h => by cases h
  | .choose .., b, w, h => by cases h
  | .sys .., b, w, h => by cases h
  | .halt .., b, w, h => by cases h
/-- What a frame does when it is left: the mark of a range over a function, a deferred call. -/
inductive Df where
  | mark (d : Nat)
  | call (g : FuncId) (args : List AV)
/-- A frame: what its slots hold; how many there are; what is to be done when it is left. -/
structure Fr where
  tr : Tr AV
  n : Nat
  ds : List Df
noncomputable def Fr.get (f : Fr) (i : Nat) : AV := (f.tr.get i).getD (.tup [])
def FrR (ρ : Env) (f : Fr) (a : Act) : Prop := a.tmps.size = f.n ∧ ∀ i, (f.get i).real ρ = some (a.tmps.getD i undef)
theorem FrR.mono {ρ ρ' : Env} {f : Fr} {a : Act} (h : FrR ρ f a) (hle : Env.le ρ ρ') : FrR ρ' f a := ⟨h.1, fun i => AV.real_mono hle _ _ (h.2 i)⟩
noncomputable def Fr.put (f : Fr) (d : Option Tmp) (v : AV) : Option Fr := match d with
  | none => some f
  | some d => match Nat.blt d f.n with
    | true => some ⟨f.tr.set d v, f.n, f.ds⟩
    | false => none
theorem FrR.put {ρ : Env} {f f' : Fr} {a : Act} {d : Option Tmp} {v : AV} {x : Value} (h : FrR ρ f a) (hv : v.real ρ = some x) (hp : f.put d v = some f') : FrR ρ f' (a.put d x) := by
  unfold Fr.put at hp
  cases d with
  | none => obtain rfl := Option.some.inj hp; exact h
  | some d =>
    simp only [blt_eq] at hp
    cases hd : decide (d < f.n) with
    | false => rw [hd] at hp; cases hp
    | true =>
      rw [hd] at hp
      obtain rfl := Option.some.inj hp
      have hlt := of_decide_eq_true hd
      refine ⟨by simp [Act.put, h.1], fun i => ?_⟩
      have hi := h.2 i
      unfold Fr.get at hi ⊢
      simp only [Tr.get_set, Act.put]
      by_cases e : i = d
      · subst e
        rw [if_pos rfl]
        simp [h.1, hlt, hv]
      · rw [if_neg e, hi]
        simp [Array.getElem?_setIfInBounds_ne (Ne.symm e)]
noncomputable def evA (f : Fr) : Operand → AV
  | .tmp t => f.get t
  | .const v => .v v
  | .global g => .v (.pointer (some ⟨g, 0, none⟩))
  | .func g => .fn (.func g) [] []
theorem evA_real {ρ : Env} {f : Fr} {a : Act} (h : FrR ρ f a) (x : Operand) : (evA f x).real ρ = some (a.eval x) := by
  cases x with
  | tmp t => exact h.2 t
  | const v => rfl
  | global g => rfl
  | func g => rfl
noncomputable def evAs (f : Fr) : List Operand → List AV
  | [] => []
  | x :: r => evA f x :: evAs f r
theorem evAs_real {ρ : Env} {f : Fr} {a : Act} (h : FrR ρ f a) : ∀ xs, AV.reals ρ (evAs f xs) = some (xs.map a.eval)
  | [] => rfl
  | x :: r => by simp only [evAs, AV.reals, evA_real h x, evAs_real h r, Option.bind_some, Option.map_some, List.map_cons]
theorem Fr.put_ds {f f' : Fr} {d : Option Tmp} {v : AV} (h : f.put d v = some f') : f'.ds = f.ds := by
  unfold Fr.put at h
  cases d with
  | none => obtain rfl := Option.some.inj h; rfl
  | some d =>
    dsimp only at h
    split at h
    · obtain rfl := Option.some.inj h; rfl
    · cases h
/-- The marks of the ranges over functions that a frame has entered, and its deferred calls. -/
def DfR (ρ : Env) : List Df → List Deferred → Prop
  | [], D => D = []
  | .mark d :: r, D => ∃ (l : Loc) (D' : List Deferred), ρ d = some l ∧ D = { target := .collected l.blk, args := #[] } :: D' ∧ DfR ρ r D'
  | .call g args :: r, D => ∃ (xs cap : List Value) (D' : List Deferred), AV.reals ρ args = some (xs ++ cap) ∧ D = { target := .fn (.func g) cap.toArray, args := xs.toArray } :: D' ∧ DfR ρ r D'
theorem DfR.mono {ρ ρ' : Env} (hle : Env.le ρ ρ') : ∀ {ds : List Df} {D : List Deferred}, DfR ρ ds D → DfR ρ' ds D
  | [], _, h => h
  | .mark _ :: _, _, ⟨l, D', h1, h2, h3⟩ => ⟨l, D', hle _ _ h1, h2, DfR.mono hle h3⟩
  | .call _ _ :: _, _, ⟨xs, cap, D', h1, h2, h3⟩ => ⟨xs, cap, D', AV.reals_mono hle _ _ h1, h2, DfR.mono hle h3⟩
/-- The operation does its work: the value that it yields, and the blocks behind it. -/
def Does (P : Program) (ρ : Env) (base : Kp) (w0 : World) (s : Sem Value) (w : World) (v : AV) (h' : Hp) : Prop :=
  ∃ ρ' w' x, s.run P w = .ok x w' ∧ v.real ρ' = some x ∧ Env.le ρ ρ' ∧ Emb ρ' base w0 h' w'
theorem does_pure {P : Program} {ρ : Env} {base : Kp} {w0 : World} {h : Hp} {w : World} (E : Emb ρ base w0 h w) {s : Sem Value} {v : AV} {x : Value} (hs : s.run P w = .ok x w) (hv : v.real ρ = some x) : Does P ρ base w0 s w v h :=
  ⟨ρ, w, x, hs, hv, Env.le_refl ρ, E⟩
theorem does_runS {P : Program} {ρ : Env} {base : Kp} {w0 : World} {h : Hp} {w : World} (E : Emb ρ base w0 h w) {s : Sem Value} {x : Value} (hs : runS P s = some x) : Does P ρ base w0 s w (.v x) h :=
  does_pure E (runS_run s x w hs) rfl
/-- A value without names, in whatever form. -/
noncomputable def AV.plain : AV → Option Value
  | .v x => some x
  | .agg cs => (AV.plains cs).map fun l => .agg l.toArray
  | .flat n N => some (.agg (unpackL n N).toArray)
  | .ifc t (.v x) => some (.iface t x)
  | _ => none
where
  AV.plains : List AV → Option (List Value)
  | [] => some []
  | .v x :: r => (AV.plains r).map fun l => x :: l
  | _ :: _ => none
end Go.Proofs.YtnpdnlnglahicaaGreatDoor
