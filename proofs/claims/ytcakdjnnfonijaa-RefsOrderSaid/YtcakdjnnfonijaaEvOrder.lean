/- A reckoner of closed runs, 17: every order of a region comes to one end. Nothing of the program is used here. -/
import Derived.Test.YtcakdjnnfonijaaEvDraw
namespace Go.Proofs.Ytcakdjnnfonijaa
open Go.RowKit

noncomputable def kEq (a b : IntKind) : Bool := decide (a = b)
noncomputable def listEq {α : Type} (e : α → α → Bool) : List α → List α → Bool
  | [], [] => true
  | a :: r, b :: s => match e a b with
    | true => listEq e r s
    | false => false
  | _, _ => false
theorem listEq_eq {α : Type} {e : α → α → Bool} (he : ∀ a b, e a b = true → a = b) : ∀ (x y : List α), listEq e x y = true → x = y
  | [], [], _ => rfl
  | [], _ :: _, h => by cases h
  | _ :: _, [], h => by cases h
  | a :: r, b :: s, h => by
    simp only [listEq] at h
    cases hab : e a b with
    | false => rw [hab] at h; cases h
    | true =>
      rw [hab] at h
      rw [he a b hab, listEq_eq he r s h]
noncomputable def vEq : Nat → Value → Value → Bool
  | 0, _, _ => false
  | _ + 1, .int k a, .int k' b => decide (k = k') && decide (a = b)
  | _ + 1, .bool a, .bool b => decide (a = b)
  | _ + 1, .string a, .string b => decide (a = b)
  | _ + 1, .pointer none, .pointer none => true
  | _ + 1, .nilIface, .nilIface => true
  | _ + 1, .nilFunc, .nilFunc => true
  | _ + 1, .map none, .map none => true
  | _ + 1, .slice none a b, .slice none c d => decide (a = c) && decide (b = d)
  | n + 1, .iface t x, .iface u y => decide (t = u) && vEq n x y
  | n + 1, .tuple a, .tuple b => listEq (vEq n) a.toList b.toList
  | n + 1, .agg a, .agg b => listEq (vEq n) a.toList b.toList
  | _, _, _ => false
theorem vEq_eq : ∀ (n : Nat) (x y : Value), vEq n x y = true → x = y
  | 0, x, y, h => by cases h
  | n + 1, x, y, h => by
    unfold vEq at h
    split at h
    all_goals first
      | (cases h; done)
      | rfl
      | (simp only [Bool.and_eq_true, decide_eq_true_eq] at h; obtain ⟨rfl, rfl⟩ := h; rfl)
      | (simp only [decide_eq_true_eq] at h; subst h; rfl)
      | (simp only [Bool.and_eq_true, decide_eq_true_eq] at h; obtain ⟨rfl, h⟩ := h; rw [vEq_eq _ _ _ h])
      | (rw [Array.toList_inj.1 (listEq_eq (vEq_eq _) _ _ h)])
theorem nbeq {a b : Nat} : (Nat.beq a b = true) = (a = b) := propext ⟨Nat.eq_of_beq_eq_true, fun h => by rw [h]; simp⟩
noncomputable def avEq : Nat → AV → AV → Bool
  | 0, _, _ => false
  | n + 1, .v x, .v y => vEq n x y
  | _ + 1, .ptr a b, .ptr c d => Nat.beq a c && Nat.beq b d
  | _ + 1, .slc a b c d e, .slc a' b' c' d' e' => Nat.beq a a' && (Nat.beq b b' && (Nat.beq c c' && (Nat.beq d d' && decide (e = e'))))
  | _ + 1, .mp a, .mp b => Nat.beq a b
  | _ + 1, .yld a, .yld b => Nat.beq a b
  | n + 1, .fn (.func g) x y, .fn (.func g') x' y' => Nat.beq g g' && (listEq (avEq n) x x' && listEq (avEq n) y y')
  | n + 1, .ifc t x, .ifc u y => Nat.beq t u && avEq n x y
  | n + 1, .agg x, .agg y => listEq (avEq n) x y
  | _ + 1, .flat a b, .flat c d => Nat.beq a c && Nat.beq b d
  | n + 1, .tup x, .tup y => listEq (avEq n) x y
  | _, _, _ => false
theorem avEq_eq : ∀ (n : Nat) (x y : AV), avEq n x y = true → x = y
  | 0, x, y, h => by simp [avEq] at h
  | n + 1, x, y, h => by
    unfold avEq at h
    split at h
    all_goals first
      | (cases h; done)
      | (rw [vEq_eq _ _ _ h])
      | (simp only [Bool.and_eq_true, decide_eq_true_eq, nbeq] at h; obtain ⟨rfl, rfl, rfl, rfl, rfl⟩ := h; rfl)
      | (simp only [Bool.and_eq_true, nbeq] at h; obtain ⟨rfl, rfl⟩ := h; rfl)
      | (simp only [nbeq] at h; subst h; rfl)
      | (simp only [Bool.and_eq_true, nbeq] at h; obtain ⟨rfl, h1, h2⟩ := h; rw [listEq_eq (avEq_eq _) _ _ h1, listEq_eq (avEq_eq _) _ _ h2])
      | (simp only [Bool.and_eq_true, nbeq] at h; obtain ⟨rfl, h1⟩ := h; rw [avEq_eq _ _ _ h1])
      | (rw [listEq_eq (avEq_eq _) _ _ h])
noncomputable def isStill (o : Oper) : Bool := match o.op with
  | .alloc _ | .box _ _ | .buildSlice _ _ _ | .store _ _ _ | .insert _ _ _ _ | .mapUpdate _ _ _ _ | .makeMap _ _ | .makeSlice _ _ _ | .mapEntry _ _ _ | .entryStore _ _ _ _ | .range _ _ | .next _ _ => false
  | .convert s d _ => match Nat.beq s d with
    | true => false
    | false => true
  | .call c => match c.callee with
    | .builtin b => match b with
      | .len | .cap | .min | .max => true
      | _ => false
    | _ => false
  | _ => true
noncomputable def evStillG (P : Program) (ops : Array Oper) (f : Fr) (h : Hp) (o : Oper) : Option AV := match evWanted ops f o with
  | none => none
  | some false => some (.v undef)
  | some true => evStill P f h o
abbrev Pend := Nat × Oper × Fr × AV
noncomputable def checkPend (P : Program) (ops : Array Oper) (A : Nat) (h : Hp) : List Pend → Option (List Pend)
  | [] => some []
  | (j, o, f, v) :: r => match A.testBit j with
    | true => checkPend P ops A h r
    | false => match isPure o with
     | true => (checkPend P ops A h r).map fun l => (j, o, f, v) :: l
     | false => match evStillG P ops f h o with
      | some v' => match avEq 30 v' v with
        | true => (checkPend P ops A h r).map fun l => (j, o, f, v) :: l
        | false => none
      | none => none
theorem checkPend_ok {P : Program} {ops : Array Oper} {A : Nat} {h : Hp} : ∀ (l l' : List Pend), checkPend P ops A h l = some l' →
    (∀ p ∈ l', p ∈ l ∧ (evStillG P ops p.2.2.1 h p.2.1 = some p.2.2.2 ∨ isPure p.2.1 = true)) ∧ ∀ p ∈ l, A.testBit p.1 = false → p ∈ l'
  | [], l', h => by
    obtain rfl := Option.some.inj h
    exact ⟨fun p hp => (by cases hp), fun p hp => by cases hp⟩
  | (j, o, f, v) :: r, l', h => by
    simp only [checkPend] at h
    cases hA : A.testBit j with
    | true =>
      rw [hA] at h
      obtain ⟨h1, h2⟩ := checkPend_ok r l' h
      refine ⟨fun p hp => ⟨List.mem_cons_of_mem _ (h1 p hp).1, (h1 p hp).2⟩, fun p hp hn => ?_⟩
      rcases List.mem_cons.1 hp with rfl | hp
      · rw [hA] at hn; cases hn
      · exact h2 p hp hn
    | false =>
      rw [hA] at h
      dsimp only at h
      split at h
      · rename_i hp0
        obtain ⟨l2, hl2, rfl⟩ := Option.map_eq_some_iff.1 h
        obtain ⟨h1, h2⟩ := checkPend_ok r l2 hl2
        refine ⟨fun p hp => ?_, fun p hp hn => ?_⟩
        · rcases List.mem_cons.1 hp with rfl | hp
          · exact ⟨List.mem_cons_self, .inr hp0⟩
          · exact ⟨List.mem_cons_of_mem _ (h1 p hp).1, (h1 p hp).2⟩
        · rcases List.mem_cons.1 hp with rfl | hp
          · exact List.mem_cons_self
          · exact List.mem_cons_of_mem _ (h2 p hp hn)
      split at h
      case h_2 => cases h
      rename_i v' hv
      split at h
      case h_2 => cases h
      rename_i he
      obtain rfl := avEq_eq _ _ _ he
      obtain ⟨l2, hl2, rfl⟩ := Option.map_eq_some_iff.1 h
      obtain ⟨h1, h2⟩ := checkPend_ok r l2 hl2
      refine ⟨fun p hp => ?_, fun p hp hn => ?_⟩
      · rcases List.mem_cons.1 hp with rfl | hp
        · exact ⟨List.mem_cons_self, .inl hv⟩
        · exact ⟨List.mem_cons_of_mem _ (h1 p hp).1, (h1 p hp).2⟩
      · rcases List.mem_cons.1 hp with rfl | hp
        · exact List.mem_cons_self
        · exact List.mem_cons_of_mem _ (h2 p hp hn)
theorem evStillG_pure (P : Program) (ops : Array Oper) (f : Fr) (h h' : Hp) (o : Oper) (hp : isPure o = true) : evStillG P ops f h o = evStillG P ops f h' o := by
  unfold evStillG
  rw [evStill_pure P f h h' o hp]
noncomputable def nextStill (done : Nat) : List Row → Nat → Option (Nat × Oper)
  | [], _ => none
  | (o, m, _) :: r, i => match isStill o with
    | true => match isReady done i m with
      | true => some (i, o)
      | false => nextStill done r (i + 1)
    | false => nextStill done r (i + 1)
theorem nextStill_some {done : Nat} : ∀ (l : List Row) (i j : Nat) (o : Oper), nextStill done l i = some (j, o) → ∃ p m A, j = i + p ∧ l[p]? = some (o, m, A) ∧ isStill o = true ∧ isReady done j m = true
  | [], i, j, o, h => by cases h
  | (o', m, A) :: r, i, j, o, h => by
    simp only [nextStill] at h
    have rec1 : nextStill done r (i + 1) = some (j, o) → ∃ p m' A', j = i + p ∧ ((o', m, A) :: r)[p]? = some (o, m', A') ∧ isStill o = true ∧ isReady done j m' = true := fun h => by
      obtain ⟨p, m', A', h1, h2, h3, h4⟩ := nextStill_some r (i + 1) j o h
      exact ⟨p + 1, m', A', by omega, by simpa using h2, h3, h4⟩
    split at h
    · rename_i hs
      split at h
      · rename_i hr
        obtain ⟨rfl, rfl⟩ := Prod.mk.inj (Option.some.inj h)
        exact ⟨0, m, A, rfl, rfl, hs, hr⟩
      · exact rec1 h
    · exact rec1 h
theorem nextStill_none {done : Nat} : ∀ (l : List Row) (i : Nat), nextStill done l i = none → ∀ p o m A, l[p]? = some (o, m, A) → isStill o = true → isReady done (i + p) m = false
  | [], i, h, p, o, m, A, hp, _ => by simp at hp
  | (o', m', A') :: r, i, h, p, o, m, A, hp, hs => by
    simp only [nextStill] at h
    cases p with
    | zero =>
      simp only [List.getElem?_cons_zero, Option.some.injEq, Prod.mk.injEq] at hp
      obtain ⟨rfl, rfl, rfl⟩ := hp
      rw [hs] at h
      dsimp only at h
      cases hr : isReady done i m' with
      | true => rw [hr] at h; cases h
      | false => rfl
    | succ p =>
      have h' : nextStill done r (i + 1) = none := by
        split at h
        · split at h
          · cases h
          · exact h
        · exact h
      rw [show i + (p + 1) = i + 1 + p by omega]
      exact nextStill_none r (i + 1) h' p o m A (by simpa using hp) hs
noncomputable def readyMs (done : Nat) : List Row → Nat → List (Nat × Oper × Nat)
  | [], _ => []
  | (o, m, A) :: r, i => match isReady done i m with
    | true => (i, o, A) :: readyMs done r (i + 1)
    | false => readyMs done r (i + 1)
theorem readyMs_mem {done : Nat} : ∀ (l : List Row) (i p : Nat) (o : Oper) (m : Masks) (A : Nat), l[p]? = some (o, m, A) → isReady done (i + p) m = true → (i + p, o, A) ∈ readyMs done l i
  | [], i, p, o, m, A, hp, _ => by simp at hp
  | (o', m', A') :: r, i, p, o, m, A, hp, hr => by
    simp only [readyMs]
    cases p with
    | zero =>
      simp only [List.getElem?_cons_zero, Option.some.injEq, Prod.mk.injEq] at hp
      obtain ⟨rfl, rfl, rfl⟩ := hp
      rw [Nat.add_zero] at hr ⊢
      rw [hr]
      exact List.mem_cons_self
    | succ p =>
      have h1 := readyMs_mem r (i + 1) p o m A (by simpa using hp) (by rw [show i + 1 + p = i + (p + 1) by omega]; exact hr)
      rw [show i + 1 + p = i + (p + 1) by omega] at h1
      split
      · exact List.mem_cons_of_mem _ h1
      · exact h1
noncomputable def evDraw (P : Program) (cf : Cf) (rf : RfF) (ops : Array Oper) (tab : List Row) : Nat → Nat → Fr → Hp → List Pend → (Fr → Hp → Ans) → Ans
  | 0, _, _, _, _, _ => .no "fuel of a drawn region"
  | n + 1, done, f, h, pend, k => match nextStill done tab 0 with
    | some (i, o) => match evStillG P ops f h o with
      | some v => match f.put o.dst v with
        | some f' => evDraw P cf rf ops tab n (done ||| 2 ^ i) f' h ((i, o, f, v) :: pend) k
        | none => .at o
      | none => .at o
    | none => match Nat.beq (done + 1) (2 ^ ops.size) with
      | true => k f h
      | false => allA (readyMs done tab 0) fun (i, o, A) => match evWanted ops f o with
        | none => .at o
        | some false => match f.put o.dst (.v undef) with
          | some f' => match checkPend P ops A h pend with
            | some pend' => evDraw P cf rf ops tab n (done ||| 2 ^ i) f' h pend' k
            | none => .at o
          | none => .at o
        | some true => match evOp P f h o with
          | .bad => .at o
          | .val v h' => match f.put o.dst v with
            | some f' => match checkPend P ops A h' pend with
              | some pend' => evDraw P cf rf ops tab n (done ||| 2 ^ i) f' h' pend' k
              | none => .at o
            | none => .at o
          | .skip h' => match f.put o.dst (.v undef) with
            | some f' => match checkPend P ops A h' pend with
              | some pend' => evDraw P cf rf ops tab n (done ||| 2 ^ i) f' h' pend' k
              | none => .at o
            | none => .at o
          | .enter g args => cf g args h fun v h' => match f.put o.dst v with
            | some f' => match checkPend P ops A h' pend with
              | some pend' => evDraw P cf rf ops tab n (done ||| 2 ^ i) f' h' pend' k
              | none => .at o
            | none => .at o
          | .round id args => rf id args h fun v h' => match f.put o.dst v with
            | some f' => match checkPend P ops A h' pend with
              | some pend' => evDraw P cf rf ops tab n (done ||| 2 ^ i) f' h' pend' k
              | none => .at o
            | none => .at o
          | .alts l => allA l fun p => match f.put o.dst p.1 with
            | some f' => match checkPend P ops A p.2 pend with
              | some pend' => evDraw P cf rf ops tab n (done ||| 2 ^ i) f' p.2 pend' k
              | none => .at o
            | none => .at o
end Go.Proofs.Ytcakdjnnfonijaa
