/- A reckoner of closed runs, 1: tries, values with names for blocks, what they stand for in a world. Nothing of the program is used here. -/
import Derived.Test.YtloppjfdflacaaaRow
import Derived.Test.YtloppjfdflacaaaRange
namespace Go.Proofs.Ytloppjfdflacaaa
open Go.RowKit

/-- A trie of things under numbers. -/
inductive Tr (α : Type) where
  | nil
  | node (l : Tr α) (o : Option α) (r : Tr α)
def Tr.get {α : Type} : Tr α → Nat → Option α
  | .nil, _ => none
  | .node l o r, n => match n with
    | 0 => o
    | m + 1 => match Nat.beq (m % 2) 0 with
      | true => l.get (m / 2)
      | false => r.get (m / 2)
def Tr.setF {α : Type} : Nat → Tr α → Nat → α → Tr α
  | 0, t, _, _ => t
  | k + 1, .nil, n, v => match n with
    | 0 => .node .nil (some v) .nil
    | m + 1 => match Nat.beq (m % 2) 0 with
      | true => .node (Tr.setF k .nil (m / 2) v) none .nil
      | false => .node .nil none (Tr.setF k .nil (m / 2) v)
  | k + 1, .node l o r, n, v => match n with
    | 0 => .node l (some v) r
    | m + 1 => match Nat.beq (m % 2) 0 with
      | true => .node (Tr.setF k l (m / 2) v) o r
      | false => .node l o (Tr.setF k r (m / 2) v)
def Tr.set {α : Type} (t : Tr α) (n : Nat) (v : α) : Tr α := Tr.setF (n + 1) t n v
theorem Tr.get_nil {α : Type} (n : Nat) : (Tr.nil : Tr α).get n = none := rfl
theorem beq_mod (m : Nat) : Nat.beq (m % 2) 0 = decide (m % 2 = 0) := by
  cases h : decide (m % 2 = 0) with
  | true => have := of_decide_eq_true h; rw [this]; rfl
  | false =>
    have := of_decide_eq_false h
    cases hb : Nat.beq (m % 2) 0 with
    | true => exact absurd (Nat.eq_of_beq_eq_true hb) this
    | false => rfl
theorem Tr.get_setF {α : Type} (k : Nat) : ∀ (t : Tr α) (n : Nat) (v : α) (j : Nat), n < k → (Tr.setF k t n v).get j = if j = n then some v else t.get j := by
  induction k with
  | zero => intro t n v j h; omega
  | succ k ih =>
    intro t n v j h
    cases t with
    | nil =>
      cases n with
      | zero =>
        cases j with
        | zero => simp [Tr.setF, Tr.get]
        | succ j =>
          simp only [Tr.setF, Tr.get]
          cases Nat.beq (j % 2) 0 <;> simp [Tr.get]
      | succ m =>
        simp only [Tr.setF, beq_mod]
        cases hd : decide (m % 2 = 0) with
        | true =>
          have hm := of_decide_eq_true hd
          cases j with
          | zero => simp [Tr.get]
          | succ j =>
            simp only [Tr.get, beq_mod]
            cases hj : decide (j % 2 = 0) with
            | true =>
              have hj' := of_decide_eq_true hj
              simp only [ih _ _ _ _ (by omega : m / 2 < k), Tr.get]
              by_cases e : j = m
              · subst e; simp
              · rw [if_neg (by omega), if_neg (by omega)]
            | false =>
              have hj' := of_decide_eq_false hj
              rw [if_neg (by omega)] <;> simp [Tr.get]
        | false =>
          have hm := of_decide_eq_false hd
          cases j with
          | zero => simp [Tr.get]
          | succ j =>
            simp only [Tr.get, beq_mod]
            cases hj : decide (j % 2 = 0) with
            | true =>
              have hj' := of_decide_eq_true hj
              rw [if_neg (by omega)] <;> simp [Tr.get]
            | false =>
              have hj' := of_decide_eq_false hj
              simp only [ih _ _ _ _ (by omega : m / 2 < k), Tr.get]
              by_cases e : j = m
              · subst e; simp
              · rw [if_neg (by omega), if_neg (by omega)]
    | node l o r =>
      cases n with
      | zero =>
        cases j with
        | zero => simp [Tr.setF, Tr.get]
        | succ j => simp [Tr.setF, Tr.get]
      | succ m =>
        simp only [Tr.setF, beq_mod]
        cases hd : decide (m % 2 = 0) with
        | true =>
          have hm := of_decide_eq_true hd
          cases j with
          | zero => simp [Tr.get]
          | succ j =>
            simp only [Tr.get, beq_mod]
            cases hj : decide (j % 2 = 0) with
            | true =>
              have hj' := of_decide_eq_true hj
              simp only [ih _ _ _ _ (by omega : m / 2 < k)]
              by_cases e : j = m
              · subst e; simp
              · rw [if_neg (by omega), if_neg (by omega)]
            | false =>
              have hj' := of_decide_eq_false hj
              rw [if_neg (by omega)]
        | false =>
          have hm := of_decide_eq_false hd
          cases j with
          | zero => simp [Tr.get]
          | succ j =>
            simp only [Tr.get, beq_mod]
            cases hj : decide (j % 2 = 0) with
            | true =>
              have hj' := of_decide_eq_true hj
              rw [if_neg (by omega)]
            | false =>
              have hj' := of_decide_eq_false hj
              simp only [ih _ _ _ _ (by omega : m / 2 < k)]
              by_cases e : j = m
              · subst e; simp
              · rw [if_neg (by omega), if_neg (by omega)]
theorem Tr.get_set {α : Type} (t : Tr α) (n : Nat) (v : α) (j : Nat) : (t.set n v).get j = if j = n then some v else t.get j := Tr.get_setF (n + 1) t n v j (Nat.lt_succ_self n)

/-- A value in which blocks go by names. -/
inductive AV where
  | v (x : Value)
  | ptr (id off : Nat)
  | slc (id off len cap : Nat) (ex : Bool)
  | mp (id : Nat)
  | yld (id : Nat)
  | fn (f : Fn) (first captured : List AV)
  | ifc (t : TypeId) (x : AV)
  | agg (cs : List AV)
  | tup (vs : List AV)
/-- Where a block lies, from which cell on it is ours, and how many elements there is more room for than is known. -/
structure Loc where
  blk : Nat
  off : Nat
  extra : Nat
abbrev Env := Nat → Option Loc
mutual
def AV.real (ρ : Env) : AV → Option Value
  | .v x => some x
  | .ptr id off => (ρ id).map fun l => .pointer (some ⟨l.blk, l.off + off, none⟩)
  | .slc id off len cap ex => (ρ id).map fun l => .slice (some ⟨l.blk, l.off + off, none⟩) len (if ex then cap else cap + l.extra)
  | .mp id => (ρ id).map fun l => .map (some l.blk)
  | .yld id => (ρ id).map fun l => .func (.yield l.blk) #[] #[]
  | .fn f a b => (AV.reals ρ a).bind fun x => (AV.reals ρ b).map fun y => .func f x.toArray y.toArray
  | .ifc t x => (AV.real ρ x).map fun y => .iface t y
  | .agg cs => (AV.reals ρ cs).map fun x => .agg x.toArray
  | .tup vs => (AV.reals ρ vs).map fun x => .tuple x.toArray
def AV.reals (ρ : Env) : List AV → Option (List Value)
  | [] => some []
  | a :: r => (AV.real ρ a).bind fun x => (AV.reals ρ r).map fun y => x :: y
end
/-- Later names are added, none is turned. -/
def Env.le (ρ ρ' : Env) : Prop := ∀ id l, ρ id = some l → ρ' id = some l
theorem Env.le_refl (ρ : Env) : Env.le ρ ρ := fun _ _ h => h
theorem Env.le_trans {a b c : Env} (h : Env.le a b) (k : Env.le b c) : Env.le a c := fun id l e => k id l (h id l e)
mutual
theorem AV.real_mono {ρ ρ' : Env} (h : Env.le ρ ρ') : ∀ (a : AV) (x : Value), a.real ρ = some x → a.real ρ' = some x
  | .v x, y, e => e
  | .ptr id off, y, e => by
    simp only [AV.real, Option.map_eq_some_iff] at e ⊢
    obtain ⟨l, hl, rfl⟩ := e
    exact ⟨l, h _ _ hl, rfl⟩
  | .slc id off len cap ex, y, e => by
    simp only [AV.real, Option.map_eq_some_iff] at e ⊢
    obtain ⟨l, hl, rfl⟩ := e
    exact ⟨l, h _ _ hl, rfl⟩
  | .mp id, y, e => by
    simp only [AV.real, Option.map_eq_some_iff] at e ⊢
    obtain ⟨l, hl, rfl⟩ := e
    exact ⟨l, h _ _ hl, rfl⟩
  | .yld id, y, e => by
    simp only [AV.real, Option.map_eq_some_iff] at e ⊢
    obtain ⟨l, hl, rfl⟩ := e
    exact ⟨l, h _ _ hl, rfl⟩
  | .fn f a b, y, e => by
    simp only [AV.real, Option.bind_eq_some_iff, Option.map_eq_some_iff] at e ⊢
    obtain ⟨x1, h1, x2, h2, rfl⟩ := e
    exact ⟨x1, AV.reals_mono h a x1 h1, x2, AV.reals_mono h b x2 h2, rfl⟩
  | .ifc t x, y, e => by
    simp only [AV.real, Option.map_eq_some_iff] at e ⊢
    obtain ⟨l, hl, rfl⟩ := e
    exact ⟨l, AV.real_mono h x l hl, rfl⟩
  | .agg cs, y, e => by
    simp only [AV.real, Option.map_eq_some_iff] at e ⊢
    obtain ⟨l, hl, rfl⟩ := e
    exact ⟨l, AV.reals_mono h cs l hl, rfl⟩
  | .tup cs, y, e => by
    simp only [AV.real, Option.map_eq_some_iff] at e ⊢
    obtain ⟨l, hl, rfl⟩ := e
    exact ⟨l, AV.reals_mono h cs l hl, rfl⟩
theorem AV.reals_mono {ρ ρ' : Env} (h : Env.le ρ ρ') : ∀ (a : List AV) (x : List Value), AV.reals ρ a = some x → AV.reals ρ' a = some x
  | [], y, e => e
  | a :: r, y, e => by
    simp only [AV.reals, Option.bind_eq_some_iff, Option.map_eq_some_iff] at e ⊢
    obtain ⟨x1, h1, x2, h2, rfl⟩ := e
    exact ⟨x1, AV.real_mono h a x1 h1, x2, AV.reals_mono h r x2 h2, rfl⟩
end
end Go.Proofs.Ytloppjfdflacaaa
