/- A reckoner of closed runs, 23: two ends of a drawn region that differ in the names of what was made there. Nothing of the program is used here. -/
import Derived.Test.YtcakdjnnfonijaaEvLo
namespace Go.Proofs.Ytcakdjnnfonijaa
open Go.RowKit

/-- Names below a number are themselves; the others go by pairs: name here, name there. -/
noncomputable def assocN : List (Nat × Nat) → Nat → Option Nat
  | [], _ => none
  | p :: r, j => match Nat.beq p.2 j with
    | true => some p.1
    | false => assocN r j
noncomputable def nmSim (N : Nat) (L : List (Nat × Nat)) (i j : Nat) : Bool := match Nat.blt j N with
  | true => Nat.beq i j
  | false => match assocN L j with
    | some i' => Nat.beq i i'
    | none => false
/-- The names there, by the names here. -/
noncomputable def reN (N : Nat) (L : List (Nat × Nat)) (ρ : Env) : Env := fun j => match Nat.blt j N with
  | true => ρ j
  | false => match assocN L j with
    | some i => ρ i
    | none => none
theorem nmSim_ok {N : Nat} {L : List (Nat × Nat)} {i j : Nat} (h : nmSim N L i j = true) (ρ : Env) : reN N L ρ j = ρ i := by
  unfold nmSim at h
  unfold reN
  cases hb : Nat.blt j N with
  | true =>
    rw [hb] at h
    exact congrArg ρ (Nat.eq_of_beq_eq_true h).symm
  | false =>
    rw [hb] at h
    cases ha : assocN L j with
    | some i' =>
      rw [ha] at h
      exact congrArg ρ (Nat.eq_of_beq_eq_true h).symm
    | none => rw [ha] at h; cases h
noncomputable def boolSim (a b : Bool) : Bool := match a with
  | true => b
  | false => !b
theorem boolSim_ok {a b : Bool} (h : boolSim a b = true) : a = b := by cases a <;> cases b <;> first | rfl | cases h
noncomputable def bytesSim : List UInt8 → List UInt8 → Bool
  | [], [] => true
  | a :: r, b :: s => match Nat.beq a.toNat b.toNat with
    | true => bytesSim r s
    | false => false
  | _, _ => false
theorem bytesSim_ok : ∀ {a b : List UInt8}, bytesSim a b = true → a = b
  | [], [], _ => rfl
  | a :: r, b :: s, h => by
    simp only [bytesSim] at h
    split at h
    · rename_i hb
      rw [UInt8.toNat_inj.1 (Nat.eq_of_beq_eq_true hb), bytesSim_ok h]
    · cases h
  | [], _ :: _, h => by cases h
  | _ :: _, [], h => by cases h
noncomputable def intSim (a b : Int) : Bool := match a with
  | .ofNat m => match b with
    | .ofNat n => Nat.beq m n
    | .negSucc _ => false
  | .negSucc m => match b with
    | .ofNat _ => false
    | .negSucc n => Nat.beq m n
theorem intSim_ok {a b : Int} (h : intSim a b = true) : a = b := by
  unfold intSim at h
  split at h <;> split at h <;> first | (rw [Nat.eq_of_beq_eq_true h]) | cases h
noncomputable def kindSim (a b : IntKind) : Bool := Nat.beq a.ctorIdx b.ctorIdx
theorem kindSim_ok {a b : IntKind} (h : kindSim a b = true) : a = b := by
  cases a <;> cases b <;> first | rfl | cases h
noncomputable def optNSim : Option Nat → Option Nat → Bool
  | none, none => true
  | some a, some b => Nat.beq a b
  | _, _ => false
theorem optNSim_ok : ∀ {a b : Option Nat}, optNSim a b = true → a = b
  | none, none, _ => rfl
  | some a, some b, h => congrArg some (Nat.eq_of_beq_eq_true h)
  | none, some _, h => by cases h
  | some _, none, h => by cases h
noncomputable def adSim : Option Addr → Option Addr → Bool
  | none, none => true
  | some ⟨a, i, none⟩, some ⟨b, j, none⟩ => match Nat.beq a b with
    | true => Nat.beq i j
    | false => false
  | _, _ => false
theorem adSim_ok {a b : Option Addr} (h : adSim a b = true) : a = b := by
  unfold adSim at h
  split at h
  · rfl
  · split at h
    · rename_i hb
      rw [Nat.eq_of_beq_eq_true hb, Nat.eq_of_beq_eq_true h]
    · cases h
  · cases h
mutual
noncomputable def vSim : Value → Value → Bool
  | .bool a, .bool b => boolSim a b
  | .int k a, .int k' b => match kindSim k k' with
    | true => intSim a b
    | false => false
  | .string a, .string b => bytesSim a.data.toList b.data.toList
  | .pointer a, .pointer b => adSim a b
  | .slice x a b, .slice y c d => match adSim x y with
    | true => match Nat.beq a c with
      | true => Nat.beq b d
      | false => false
    | false => false
  | .map a, .map b => optNSim a b
  | .nilFunc, .nilFunc => true
  | .nilIface, .nilIface => true
  | .iface t a, .iface u b => match Nat.beq t u with
    | true => vSim a b
    | false => false
  | .agg a, .agg b => vaSim a b
  | .tuple a, .tuple b => vaSim a b
  | _, _ => false
noncomputable def vaSim : Array Value → Array Value → Bool
  | ⟨a⟩, ⟨b⟩ => vsSim a b
noncomputable def vsSim : List Value → List Value → Bool
  | [], [] => true
  | a :: r, b :: s => match vSim a b with
    | true => vsSim r s
    | false => false
  | _, _ => false
end
mutual
theorem vSim_ok : ∀ (a b : Value), vSim a b = true → a = b
  | .bool a, b, h => by
    cases b <;> simp only [vSim, Bool.false_eq_true] at h
    rw [boolSim_ok h]
  | .int k a, b, h => by
    cases b <;> simp only [vSim, Bool.false_eq_true] at h
    split at h
    · rename_i hk
      rw [kindSim_ok hk, intSim_ok h]
    · cases h
  | .string ⟨⟨a⟩⟩, b, h => by
    cases b <;> simp only [vSim, Bool.false_eq_true] at h
    rename_i b
    obtain ⟨⟨b⟩⟩ := b
    have : a = b := bytesSim_ok h
    rw [this]
  | .pointer a, b, h => by
    cases b <;> simp only [vSim, Bool.false_eq_true] at h
    rw [adSim_ok h]
  | .slice a l c, b, h => by
    cases b <;> simp only [vSim, Bool.false_eq_true] at h
    split at h
    case h_2 => cases h
    rename_i h1
    split at h
    case h_2 => cases h
    rename_i h2
    rw [adSim_ok h1, Nat.eq_of_beq_eq_true h2, Nat.eq_of_beq_eq_true h]
  | .map a, b, h => by
    cases b <;> simp only [vSim, Bool.false_eq_true] at h
    rw [optNSim_ok h]
  | .nilFunc, b, h => by
    cases b <;> simp only [vSim, Bool.false_eq_true] at h
    rfl
  | .nilIface, b, h => by
    cases b <;> simp only [vSim, Bool.false_eq_true] at h
    rfl
  | .iface t a, b, h => by
    cases b <;> simp only [vSim, Bool.false_eq_true] at h
    split at h
    · rename_i hb
      rw [Nat.eq_of_beq_eq_true hb, vSim_ok _ _ h]
    · cases h
  | .agg a, b, h => by
    cases b <;> simp only [vSim, Bool.false_eq_true] at h
    rw [vaSim_ok _ _ h]
  | .tuple a, b, h => by
    cases b <;> simp only [vSim, Bool.false_eq_true] at h
    rw [vaSim_ok _ _ h]
  | .float .., b, h => by cases b <;> simp only [vSim, Bool.false_eq_true] at h
  | .complex .., b, h => by cases b <;> simp only [vSim, Bool.false_eq_true] at h
  | .chan .., b, h => by cases b <;> simp only [vSim, Bool.false_eq_true] at h
  | .func .., b, h => by cases b <;> simp only [vSim, Bool.false_eq_true] at h
theorem vaSim_ok : ∀ (a b : Array Value), vaSim a b = true → a = b
  | ⟨a⟩, ⟨b⟩, h => by
    simp only [vaSim] at h
    rw [vsSim_ok a b h]
theorem vsSim_ok : ∀ (a b : List Value), vsSim a b = true → a = b
  | [], b, h => by
    cases b <;> simp only [vsSim, Bool.false_eq_true] at h
    rfl
  | a :: r, b, h => by
    cases b <;> simp only [vsSim, Bool.false_eq_true] at h
    split at h
    · rename_i hb
      rw [vSim_ok _ _ hb, vsSim_ok _ _ h]
    · cases h
end
mutual
noncomputable def avSim (N : Nat) (L : List (Nat × Nat)) : AV → AV → Bool
  | .v x, .v y => vSim x y
  | .ptr i o, .ptr j p => match Nat.beq o p with
    | true => nmSim N L i j
    | false => false
  | .slc i o l c e, .slc j p m d g => match Nat.beq o p with
    | true => match Nat.beq l m with
      | true => match Nat.beq c d with
        | true => match boolSim e g with
          | true => nmSim N L i j
          | false => false
        | false => false
      | false => false
    | false => false
  | .mp i, .mp j => nmSim N L i j
  | .fn (.func f) a b, .fn (.func g) c d => match Nat.beq f g with
    | true => match avsSim N L a c with
      | true => avsSim N L b d
      | false => false
    | false => false
  | .ifc t x, .ifc u y => match Nat.beq t u with
    | true => avSim N L x y
    | false => false
  | .agg a, .agg b => avsSim N L a b
  | .flat n M, .flat m K => match Nat.beq n m with
    | true => Nat.beq M K
    | false => false
  | .tup a, .tup b => avsSim N L a b
  | _, _ => false
noncomputable def avsSim (N : Nat) (L : List (Nat × Nat)) : List AV → List AV → Bool
  | [], [] => true
  | a :: r, b :: s => match avSim N L a b with
    | true => avsSim N L r s
    | false => false
  | _, _ => false
end
mutual
theorem avSim_ok {N : Nat} {L : List (Nat × Nat)} {ρ : Env} : ∀ (a b : AV), avSim N L a b = true → ∀ x, a.real ρ = some x → b.real (reN N L ρ) = some x
  | .v x, b, h, y, e => by
    cases b <;> simp only [avSim, Bool.false_eq_true] at h
    rw [← vSim_ok _ _ h]; exact e
  | .ptr i o, b, h, y, e => by
    cases b <;> simp only [avSim, Bool.false_eq_true] at h
    split at h
    · rename_i hb
      simp only [AV.real, nmSim_ok h ρ, ← Nat.eq_of_beq_eq_true hb] at e ⊢
      exact e
    · cases h
  | .slc i o l c g, b, h, y, e => by
    cases b <;> simp only [avSim, Bool.false_eq_true] at h
    split at h
    case h_2 => cases h
    rename_i h1
    split at h
    case h_2 => cases h
    rename_i h2
    split at h
    case h_2 => cases h
    rename_i h3
    split at h
    case h_2 => cases h
    rename_i h4
    simp only [AV.real, nmSim_ok h ρ, ← Nat.eq_of_beq_eq_true h1, ← Nat.eq_of_beq_eq_true h2, ← Nat.eq_of_beq_eq_true h3, ← boolSim_ok h4] at e ⊢
    exact e
  | .mp i, b, h, y, e => by
    cases b <;> simp only [avSim, Bool.false_eq_true] at h
    simp only [AV.real, nmSim_ok h ρ] at e ⊢
    exact e
  | .yld i, b, h, y, e => by
    cases b <;> simp only [avSim, Bool.false_eq_true] at h
  | .fn f a c, b, h, y, e => by
    cases b with
    | fn f' a' c' =>
      cases f <;> cases f' <;> simp only [avSim, Bool.false_eq_true] at h
      split at h
      case h_2 => cases h
      rename_i h1
      split at h
      case h_2 => cases h
      rename_i h2
      simp only [AV.real, Option.bind_eq_some_iff, Option.map_eq_some_iff] at e ⊢
      obtain ⟨x1, e1, x2, e2, rfl⟩ := e
      exact ⟨x1, avsSim_ok _ _ h2 _ e1, x2, avsSim_ok _ _ h _ e2, by rw [Nat.eq_of_beq_eq_true h1]⟩
    | _ => cases f <;> simp only [avSim, Bool.false_eq_true] at h
  | .ifc t x, b, h, y, e => by
    cases b <;> simp only [avSim, Bool.false_eq_true] at h
    split at h
    case h_2 => cases h
    rename_i h1
    simp only [AV.real, Option.map_eq_some_iff] at e ⊢
    obtain ⟨x1, e1, rfl⟩ := e
    exact ⟨x1, avSim_ok _ _ h _ e1, by rw [Nat.eq_of_beq_eq_true h1]⟩
  | .agg a, b, h, y, e => by
    cases b <;> simp only [avSim, Bool.false_eq_true] at h
    simp only [AV.real, Option.map_eq_some_iff] at e ⊢
    obtain ⟨x1, e1, rfl⟩ := e
    exact ⟨x1, avsSim_ok _ _ h _ e1, rfl⟩
  | .flat n M, b, h, y, e => by
    cases b <;> simp only [avSim, Bool.false_eq_true] at h
    split at h
    case h_2 => cases h
    rename_i h1
    rw [← Nat.eq_of_beq_eq_true h1, ← Nat.eq_of_beq_eq_true h]
    exact e
  | .tup a, b, h, y, e => by
    cases b <;> simp only [avSim, Bool.false_eq_true] at h
    simp only [AV.real, Option.map_eq_some_iff] at e ⊢
    obtain ⟨x1, e1, rfl⟩ := e
    exact ⟨x1, avsSim_ok _ _ h _ e1, rfl⟩
theorem avsSim_ok {N : Nat} {L : List (Nat × Nat)} {ρ : Env} : ∀ (a b : List AV), avsSim N L a b = true → ∀ x, AV.reals ρ a = some x → AV.reals (reN N L ρ) b = some x
  | [], b, h, y, e => by
    cases b <;> simp only [avsSim, Bool.false_eq_true] at h
    exact e
  | a :: r, b, h, y, e => by
    cases b <;> simp only [avsSim, Bool.false_eq_true] at h
    split at h
    case h_2 => cases h
    rename_i h1
    simp only [AV.reals, Option.bind_eq_some_iff, Option.map_eq_some_iff] at e ⊢
    obtain ⟨x1, e1, x2, e2, rfl⟩ := e
    exact ⟨x1, avSim_ok _ _ h1 _ e1, x2, avsSim_ok _ _ h _ e2, rfl⟩
end
/-- Two tries, place by place. -/
noncomputable def trSim {α : Type} (R : Nat → Option α → Option α → Bool) : Nat → Nat → Tr α → Tr α → Bool
  | _, _, .nil, .nil => true
  | A, B, .node l o r, .node l' o' r' => match R B o o' with
    | true => match trSim R (Nat.mul 2 A) (Nat.add A B) l l' with
      | true => trSim R (Nat.mul 2 A) (Nat.add (Nat.mul 2 A) B) r r'
      | false => false
    | false => false
  | _, _, _, _ => false
theorem trSim_ok {α : Type} {R : Nat → Option α → Option α → Bool} : ∀ (t t' : Tr α) (A B : Nat), trSim R A B t t' = true → ∀ p : Pa, (getP p t = none ∧ getP p t' = none) ∨ R (A * unpa p + B) (getP p t) (getP p t') = true
  | .nil, .nil, A, B, _, p => .inl ⟨getP_nil p, getP_nil p⟩
  | .nil, .node _ _ _, A, B, h, p => by cases h
  | .node _ _ _, .nil, A, B, h, p => by cases h
  | .node l o r, .node l' o' r', A, B, h, p => by
    simp only [trSim] at h
    split at h
    case h_2 => cases h
    rename_i h1
    split at h
    case h_2 => cases h
    rename_i h2
    cases p with
    | z =>
      refine .inr ?_
      show R (A * 0 + B) o o' = true
      rw [Nat.mul_zero, Nat.zero_add]; exact h1
    | l p =>
      have e : A * unpa (.l p) + B = Nat.mul 2 A * unpa p + Nat.add A B := by
        show A * (2 * unpa p + 1) + B = 2 * A * unpa p + (A + B)
        rw [Nat.mul_add, Nat.mul_one, ← Nat.mul_assoc, Nat.mul_comm A 2]; omega
      rw [e]
      exact trSim_ok l l' _ _ h2 p
    | r p =>
      have e : A * unpa (.r p) + B = Nat.mul 2 A * unpa p + Nat.add (Nat.mul 2 A) B := by
        show A * (2 * unpa p + 2) + B = 2 * A * unpa p + (2 * A + B)
        rw [Nat.mul_add, ← Nat.mul_assoc, Nat.mul_comm A 2]; omega
      rw [e]
      exact trSim_ok r r' _ _ h p
theorem trSim_get {α : Type} {R : Nat → Option α → Option α → Bool} {t t' : Tr α} (h : trSim R 1 0 t t' = true) (n : Nat) : (t.get n = none ∧ t'.get n = none) ∨ R n (t.get n) (t'.get n) = true := by
  have := trSim_ok t t' 1 0 h (pa n)
  rw [unpa_pa, Nat.one_mul, Nat.add_zero] at this
  exact this
theorem tr_all {α : Type} {S : Option α → Option α → Bool} {t t' : Tr α} (h : trSim (fun _ => S) 1 0 t t' = true) (hn : S none none = true) (n : Nat) : S (t.get n) (t'.get n) = true := by
  rcases trSim_get h n with ⟨h1, h2⟩ | h1
  · rw [h1, h2]; exact hn
  · exact h1
noncomputable def oavSim (N : Nat) (L : List (Nat × Nat)) : Option AV → Option AV → Bool
  | none, none => true
  | some a, some b => avSim N L a b
  | _, _ => false
noncomputable def natsSim : List Nat → List Nat → Bool
  | [], [] => true
  | a :: r, b :: s => match Nat.beq a b with
    | true => natsSim r s
    | false => false
  | _, _ => false
theorem natsSim_ok : ∀ {a b : List Nat}, natsSim a b = true → a = b
  | [], [], _ => rfl
  | a :: r, b :: s, h => by
    simp only [natsSim] at h
    split at h
    · rename_i hb
      rw [Nat.eq_of_beq_eq_true hb, natsSim_ok h]
    · cases h
  | [], _ :: _, h => by cases h
  | _ :: _, [], h => by cases h
noncomputable def entsSim (N : Nat) (L : List (Nat × Nat)) : List (AV × AV × Nat) → List (AV × AV × Nat) → Bool
  | [], [] => true
  | a :: r, b :: s => match avSim N L a.1 b.1 with
    | true => match avSim N L a.2.1 b.2.1 with
      | true => match Nat.beq a.2.2 b.2.2 with
        | true => entsSim N L r s
        | false => false
      | false => false
    | false => false
  | _, _ => false
theorem entsSim_ok {N : Nat} {L : List (Nat × Nat)} {ρ : Env} : ∀ (a b : List (AV × AV × Nat)), entsSim N L a b = true → ∀ ms, All2 (entR ρ) a ms → All2 (entR (reN N L ρ)) b ms
  | [], b, h, ms, e => by
    cases b <;> simp only [entsSim, Bool.false_eq_true] at h
    cases e
    exact .nil
  | a :: r, b, h, ms, e => by
    cases b <;> simp only [entsSim, Bool.false_eq_true] at h
    split at h
    case h_2 => cases h
    rename_i h1
    split at h
    case h_2 => cases h
    rename_i h2
    split at h
    case h_2 => cases h
    rename_i h3
    cases e with
    | cons e1 e2 => exact .cons ⟨avSim_ok _ _ h1 _ e1.1, avSim_ok _ _ h2 _ e1.2.1, (Nat.eq_of_beq_eq_true h3).symm.trans e1.2.2⟩ (entsSim_ok _ _ h _ e2)
/-- Two blocks alike. -/
noncomputable def blkSim (N : Nat) (L : List (Nat × Nat)) : Blk → Blk → Bool
  | .cells ⟨t, M⟩ n e opn, .cells ⟨t', M'⟩ n' e' opn' => match Nat.beq M M' with
    | true => match Nat.beq n n' with
      | true => match Nat.beq e e' with
        | true => match optNSim opn opn' with
          | true => trSim (fun _ => oavSim N L) 1 0 t t'
          | false => false
        | false => false
      | false => false
    | false => false
  | .map es c, .map es' c' => match Nat.beq c c' with
    | true => entsSim N L es es'
    | false => false
  | .dfr, .dfr => true
  | .sit s p, .sit s' p' => match Nat.beq p p' with
    | true => bytesSim s.data.toList s'.data.toList
    | false => false
  | .mit (some m) a s c, .mit (some m') a' s' c' => match nmSim N L m m' with
    | true => match Nat.beq a a' with
      | true => match Nat.beq c c' with
        | true => natsSim s s'
        | false => false
      | false => false
    | false => false
  | .gone, .gone => true
  | _, _ => false
theorem blkSim_ok {N : Nat} {L : List (Nat × Nat)} {ρ : Env} {l : Loc} {o : Option Obj} {a b : Blk} (h : blkSim N L a b = true) (hr : BlkR ρ l a o) : BlkR (reN N L ρ) l b o := by
  unfold blkSim at h
  split at h
  · rename_i t M n e opn t' M' n' e' opn'
    split at h
    case h_2 => cases h
    rename_i h1
    split at h
    case h_2 => cases h
    rename_i h2
    split at h
    case h_2 => cases h
    rename_i h3
    split at h
    case h_2 => cases h
    rename_i h4
    obtain rfl := Nat.eq_of_beq_eq_true h1
    obtain rfl := Nat.eq_of_beq_eq_true h2
    obtain rfl := Nat.eq_of_beq_eq_true h3
    obtain rfl := optNSim_ok h4
    obtain ⟨C, fz, k1, k2, k3, k4, k5, k6⟩ := hr
    refine ⟨C, fz, k1, k2, k3, k4, k5, fun i x hi => ?_⟩
    obtain ⟨hlt, rfl⟩ := cellAt_some hi
    obtain ⟨y, hy, hc⟩ := k6 i _ (cellAt_lt hlt)
    refine ⟨y, ?_, hc⟩
    rw [Cl.at_eq] at hy ⊢
    have := tr_all h rfl i
    revert this hy
    generalize t.get i = u
    generalize t'.get i = u'
    intro hy this
    cases u <;> cases u' <;> simp only [oavSim, Bool.false_eq_true] at this
    · exact hy
    · exact avSim_ok _ _ this _ hy
  · split at h
    case h_2 => cases h
    rename_i h1
    obtain ⟨es', k1, k2⟩ := hr
    refine ⟨es', ?_, entsSim_ok _ _ h _ k2⟩
    rw [← Nat.eq_of_beq_eq_true h1]
    exact k1
  · exact hr
  · rename_i s p s' p'
    split at h
    case h_2 => cases h
    rename_i h1
    obtain ⟨⟨s⟩⟩ := s
    obtain ⟨⟨s'⟩⟩ := s'
    obtain rfl : s = s' := bytesSim_ok h
    obtain rfl := Nat.eq_of_beq_eq_true h1
    exact hr
  · rename_i m a s c m' a' s' c'
    split at h
    case h_2 => cases h
    rename_i h1
    split at h
    case h_2 => cases h
    rename_i h2
    split at h
    case h_2 => cases h
    rename_i h3
    obtain rfl := Nat.eq_of_beq_eq_true h2
    obtain rfl := Nat.eq_of_beq_eq_true h3
    obtain rfl := natsSim_ok h
    obtain ⟨k0, m2, k1, k2, k3⟩ := hr
    refine ⟨k0, m2, k1, (fun e => by cases e), fun id hid => ?_⟩
    obtain rfl := Option.some.inj hid
    obtain ⟨l2, e1, e2⟩ := k3 m rfl
    exact ⟨l2, (nmSim_ok h1 ρ).trans e1, e2⟩
  · trivial
  · cases h
theorem blkSim_gone {N : Nat} {L : List (Nat × Nat)} {a b : Blk} (h : blkSim N L a b = true) (hb : b ≠ .gone) : a ≠ .gone := by
  rintro rfl
  cases b <;> first | exact hb rfl | cases h
noncomputable def isGone : Blk → Bool
  | .gone => true
  | _ => false
theorem isGone_ok {b : Blk} (h : isGone b = true) : b = .gone := by cases b <;> first | rfl | cases h
/-- Two leaves of heaps: below the number alike; from there on the second has a mate. -/
noncomputable def leafSim (N : Nat) (L : List (Nat × Nat)) (i : Nat) (o o' : Option Blk) : Bool := match Nat.blt i N with
  | true => blkSim N L (o.getD .gone) (o'.getD .gone)
  | false => match assocN L i with
    | some _ => true
    | none => isGone (o'.getD .gone)
noncomputable def notIn (i : Nat) : List (Nat × Nat) → Bool
  | [] => true
  | p :: r => match Nat.beq p.1 i with
    | true => false
    | false => notIn i r
noncomputable def pairsSim (N : Nat) (L : List (Nat × Nat)) (h h' : Hp) : List (Nat × Nat) → Bool
  | [] => true
  | p :: r => match Nat.ble N p.1 with
    | true => match Nat.blt p.2 h'.nx with
      | true => match notIn p.1 r with
        | true => match blkSim N L (h.get p.1) (h'.get p.2) with
          | true => pairsSim N L h h' r
          | false => false
        | false => false
      | false => false
    | false => false
theorem notIn_ok {i : Nat} : ∀ {l : List (Nat × Nat)}, notIn i l = true → ∀ p ∈ l, p.1 ≠ i
  | [], _, p, hp, _ => by cases hp
  | q :: r, h, p, hp, e => by
    simp only [notIn] at h
    split at h
    · cases h
    · rename_i hb
      rcases List.mem_cons.1 hp with rfl | hp
      · subst e
        rw [Nat.beq_refl] at hb
        cases hb
      · exact notIn_ok h p hp e
theorem pairsSim_ok {N : Nat} {L : List (Nat × Nat)} {h h' : Hp} : ∀ {l : List (Nat × Nat)}, pairsSim N L h h' l = true → (∀ p ∈ l, N ≤ p.1 ∧ p.2 < h'.nx ∧ blkSim N L (h.get p.1) (h'.get p.2) = true) ∧ ∀ p ∈ l, ∀ q ∈ l, p.1 = q.1 → p = q
  | [], _ => ⟨(fun p hp => by cases hp), (fun p hp => by cases hp)⟩
  | a :: r, hs => by
    simp only [pairsSim] at hs
    split at hs
    case h_2 => cases hs
    rename_i h1
    split at hs
    case h_2 => cases hs
    rename_i h2
    split at hs
    case h_2 => cases hs
    rename_i h3
    split at hs
    case h_2 => cases hs
    rename_i h4
    obtain ⟨k1, k2⟩ := pairsSim_ok hs
    refine ⟨fun p hp => ?_, fun p hp q hq e => ?_⟩
    · rcases List.mem_cons.1 hp with rfl | hp
      · exact ⟨Nat.le_of_ble_eq_true h1, Nat.le_of_ble_eq_true h2, h4⟩
      · exact k1 p hp
    · rcases List.mem_cons.1 hp with e1 | e1 <;> rcases List.mem_cons.1 hq with e2 | e2
      · rw [e1, e2]
      · rw [← e1] at h3
        exact absurd e.symm (notIn_ok h3 q e2)
      · rw [← e2] at h3
        exact absurd e (notIn_ok h3 p e1)
      · exact k2 p e1 q e2 e
theorem assocN_mem {j i : Nat} : ∀ {L : List (Nat × Nat)}, assocN L j = some i → (i, j) ∈ L
  | [], h => by cases h
  | p :: r, h => by
    simp only [assocN] at h
    split at h
    · rename_i hb
      obtain rfl := Option.some.inj h
      rw [← Nat.eq_of_beq_eq_true hb]
      exact List.mem_cons_self ..
    · exact List.mem_cons_of_mem _ (assocN_mem h)
noncomputable def hpSim (N : Nat) (L : List (Nat × Nat)) (h h' : Hp) : Bool := match Nat.beq h.nx h'.nx with
  | true => match pairsSim N L h h' L with
    | true => trSim (leafSim N L) 1 0 h.tr h'.tr
    | false => false
  | false => false
theorem hpSim_live {N : Nat} {L : List (Nat × Nat)} {h h' : Hp} (hs : hpSim N L h h' = true) {j : Nat} (hj : h'.get j ≠ .gone) : ∃ i, blkSim N L (h.get i) (h'.get j) = true ∧ (j < N → i = j) ∧ (¬ j < N → assocN L j = some i ∧ (i, j) ∈ L) ∧ ∀ ρ : Env, reN N L ρ j = ρ i := by
  unfold hpSim at hs
  split at hs
  case h_2 => cases hs
  split at hs
  case h_2 => cases hs
  rename_i hp
  have hl := trSim_get hs j
  by_cases hlt : j < N
  · have hb : Nat.blt j N = true := by rw [blt_eq, decide_eq_true hlt]
    refine ⟨j, ?_, fun _ => rfl, fun e => absurd hlt e, fun ρ => by unfold reN; rw [hb]⟩
    rcases hl with ⟨_, h2⟩ | h1
    · exact absurd (by show (h'.tr.get j).getD .gone = _; rw [h2]; rfl) hj
    · unfold leafSim at h1
      rw [hb] at h1
      exact h1
  · have hb : Nat.blt j N = false := by rw [blt_eq, decide_eq_false hlt]
    cases ha : assocN L j with
    | some i => exact ⟨i, ((pairsSim_ok hp).1 _ (assocN_mem ha)).2.2, fun e => absurd e hlt, fun _ => ⟨rfl, assocN_mem ha⟩, fun ρ => by unfold reN; rw [hb, ha]⟩
    | none =>
      exfalso
      rcases hl with ⟨_, h2⟩ | h1
      · exact absurd (by show (h'.tr.get j).getD .gone = _; rw [h2]; rfl) hj
      · unfold leafSim at h1
        rw [hb, ha] at h1
        exact hj (isGone_ok h1)
/-- A heap lies in the world as its mate does. -/
theorem Emb.join {N : Nat} {L : List (Nat × Nat)} {h h' : Hp} (hs : hpSim N L h h' = true) {ρ : Env} {base : Kp} {w0 w : World} (E : Emb ρ base w0 h w) : Emb (reN N L ρ) base w0 h' w := by
  have hnx : h.nx = h'.nx := by
    unfold hpSim at hs
    split at hs
    · rename_i e; exact Nat.eq_of_beq_eq_true e
    · cases hs
  have hp : pairsSim N L h h' L = true := by
    unfold hpSim at hs
    split at hs
    · split at hs
      · assumption
      · cases hs
    · cases hs
  refine ⟨E.below, E.bw, E.kept, fun j l hj => ?_, fun j hj => ?_, fun j j' l l' hj hj' h1 h2 e => ?_⟩
  · unfold reN at hj
    split at hj
    · exact ⟨by rw [← hnx]; exact (E.fresh j l hj).1, (E.fresh j l hj).2⟩
    · split at hj
      · rename_i i ha
        exact ⟨((pairsSim_ok hp).1 _ (assocN_mem ha)).2.1, (E.fresh i l hj).2⟩
      · cases hj
  · obtain ⟨i, k1, _, _, k4⟩ := hpSim_live hs hj
    obtain ⟨l, e1, e2, e3⟩ := E.live i (blkSim_gone k1 hj)
    exact ⟨l, (k4 ρ).trans e1, e2, blkSim_ok k1 e3⟩
  · obtain ⟨i, k1, k2, k3, k4⟩ := hpSim_live hs hj
    obtain ⟨i', k1', k2', k3', k4'⟩ := hpSim_live hs hj'
    have hii := E.apart i i' l l' (blkSim_gone k1 hj) (blkSim_gone k1' hj') ((k4 ρ).symm.trans h1) ((k4' ρ).symm.trans h2) e
    by_cases c : j < N
    · by_cases c' : j' < N
      · rw [← k2 c, ← k2' c', hii]
      · have := ((pairsSim_ok hp).1 _ (k3' c').2).1
        have := k2 c
        dsimp only at *
        omega
    · by_cases c' : j' < N
      · have := ((pairsSim_ok hp).1 _ (k3 c).2).1
        have := k2' c'
        dsimp only at *
        omega
      · exact congrArg Prod.snd ((pairsSim_ok hp).2 _ (k3 c).2 _ (k3' c').2 hii)
/-- Two frames alike. -/
noncomputable def dfsSim (N : Nat) (L : List (Nat × Nat)) : List Df → List Df → Bool
  | [], [] => true
  | .mark d :: r, .mark d' :: r' => match nmSim N L d d' with
    | true => dfsSim N L r r'
    | false => false
  | .call g a :: r, .call g' a' :: r' => match Nat.beq g g' with
    | true => match avsSim N L a a' with
      | true => dfsSim N L r r'
      | false => false
    | false => false
  | _, _ => false
theorem dfsSim_ok {N : Nat} {L : List (Nat × Nat)} {ρ : Env} : ∀ (a b : List Df), dfsSim N L a b = true → ∀ D, DfR ρ a D → DfR (reN N L ρ) b D
  | [], b, h, D, e => by
    cases b <;> simp only [dfsSim, Bool.false_eq_true] at h
    exact e
  | .mark d :: r, b, h, D, e => by
    match b, h with
    | .mark d' :: r', h =>
      simp only [dfsSim] at h
      split at h
      case h_2 => cases h
      rename_i h1
      obtain ⟨l, D', e1, e2, e3⟩ := e
      exact ⟨l, D', (nmSim_ok h1 ρ).trans e1, e2, dfsSim_ok r r' h D' e3⟩
    | .call _ _ :: _, h => simp only [dfsSim, Bool.false_eq_true] at h
    | [], h => simp only [dfsSim, Bool.false_eq_true] at h
  | .call g a :: r, b, h, D, e => by
    match b, h with
    | .call g' a' :: r', h =>
      simp only [dfsSim] at h
      split at h
      case h_2 => cases h
      rename_i h1
      split at h
      case h_2 => cases h
      rename_i h2
      obtain rfl := Nat.eq_of_beq_eq_true h1
      obtain ⟨xs, cap, D', e1, e2, e3⟩ := e
      exact ⟨xs, cap, D', avsSim_ok _ _ h2 _ e1, e2, dfsSim_ok r r' h D' e3⟩
    | .mark _ :: _, h => simp only [dfsSim, Bool.false_eq_true] at h
    | [], h => simp only [dfsSim, Bool.false_eq_true] at h
noncomputable def frSim (N : Nat) (L : List (Nat × Nat)) (f f' : Fr) : Bool := match Nat.beq f.n f'.n with
  | true => match dfsSim N L f.ds f'.ds with
    | true => trSim (fun _ => oavSim N L) 1 0 f.tr f'.tr
    | false => false
  | false => false
theorem frSim_ok {N : Nat} {L : List (Nat × Nat)} {ρ : Env} {f f' : Fr} (h : frSim N L f f' = true) {a : Act} (F : FrR ρ f a) (D : DfR ρ f.ds a.defers) : FrR (reN N L ρ) f' a ∧ DfR (reN N L ρ) f'.ds a.defers := by
  unfold frSim at h
  split at h
  case h_2 => cases h
  rename_i h1
  split at h
  case h_2 => cases h
  rename_i h2
  refine ⟨⟨F.1.trans (Nat.eq_of_beq_eq_true h1), fun i => ?_⟩, dfsSim_ok _ _ h2 _ D⟩
  have hx := F.2 i
  have := tr_all h rfl i
  unfold Fr.get at hx ⊢
  revert this hx
  generalize f.tr.get i = u
  generalize f'.tr.get i = u'
  intro hx this
  cases u <;> cases u' <;> simp only [oavSim, Bool.false_eq_true] at this
  · rw [← hx]; rfl
  · exact avSim_ok _ _ this _ hx
/-- Names that were there stay. -/
theorem reN_le {N : Nat} {L : List (Nat × Nat)} {ρ0 ρ : Env} (h0 : ∀ id l, ρ0 id = some l → id < N) (hle : Env.le ρ0 ρ) : Env.le ρ0 (reN N L ρ) := fun id l h => by
  have hb : Nat.blt id N = true := by rw [blt_eq, decide_eq_true (h0 id l h)]
  unfold reN
  rw [hb]
  exact hle id l h
end Go.Proofs.Ytcakdjnnfonijaa
