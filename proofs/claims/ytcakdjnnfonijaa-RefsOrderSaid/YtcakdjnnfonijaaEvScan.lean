/- A reckoner of closed runs, 18h: which operations of a region are reckoned beside. Nothing of the program is used here. -/
import Derived.Test.YtcakdjnnfonijaaEvLateOk
namespace Go.Proofs.Ytcakdjnnfonijaa
open Go.RowKit

/-- Who waits for one of two waits for both. -/
noncomputable def outA (i gm : Nat) : List Row → Nat → Bool
  | [], _ => true
  | (_, m, _) :: r, j => match Nat.beq j (i + 1) with
    | true => outA i gm r (j + 1)
    | false => match Nat.beq (m.2.2 &&& gm) 0 with
      | true => outA i gm r (j + 1)
      | false => match Nat.beq (m.2.2 &&& gm) gm with
        | true => outA i gm r (j + 1)
        | false => false
theorem outA_spec {i gm : Nat} : ∀ (l : List Row) (j : Nat), outA i gm l j = true → ∀ (p : Nat) (o : Oper) (m : Masks) (A : Nat), l[p]? = some (o, m, A) → j + p = i + 1 ∨ m.2.2 &&& gm = 0 ∨ m.2.2 &&& gm = gm
  | [], j, _, p, o, m, A, hp => by simp at hp
  | (o', m', A') :: r, j, h, p, o, m, A, hp => by
    simp only [outA] at h
    cases p with
    | zero =>
      simp only [List.getElem?_cons_zero, Option.some.injEq, Prod.mk.injEq] at hp
      obtain ⟨rfl, rfl, rfl⟩ := hp
      split at h
      · rename_i e; exact .inl (Nat.eq_of_beq_eq_true e)
      · split at h
        · rename_i e; exact .inr (.inl (Nat.eq_of_beq_eq_true e))
        · split at h
          · rename_i e; exact .inr (.inr (Nat.eq_of_beq_eq_true e))
          · cases h
    | succ p =>
      have h' : outA i gm r (j + 1) = true := by
        split at h
        · exact h
        · split at h
          · exact h
          · split at h
            · exact h
            · cases h
      have := outA_spec r (j + 1) h' p o m A (by simpa using hp)
      rcases this with e | e
      · exact .inl (by omega)
      · exact .inr e
noncomputable def isNil {α : Type} : List α → Bool
  | [] => true
  | _ :: _ => false
noncomputable def allT (d : Option Tmp) (l : List Tmp) : Bool := match d with
  | some t => l.all fun x => Nat.beq x t
  | none => false
noncomputable def isSomeB {α : Type} : Option α → Bool
  | some _ => true
  | none => false
noncomputable def secondOk (P : Program) (ops : Array Oper) (tab : List Row) (i : Nat) (o : Oper) (o2 : Oper) (m2 : Masks) : Bool := match Nat.beq m2.2.2 (2 ^ i) with
  | true => match isStill o2 with
    | false => match allT o.dst (o2.looksAt ops) with
      | true => match outA i (2 ^ i ||| 2 ^ (i + 1)) tab 0 with
        | true => isSomeB (gRun P [(i, o), (i + 1, o2)] gStart)
        | false => false
      | false => false
    | true => false
  | false => false
noncomputable def grpAt (P : Program) (ops : Array Oper) (tab : List Row) (i : Nat) : Grp := match tab[i]? with
  | some (o, m, _) => match Nat.beq m.2.2 0 with
    | true => match isStill o with
      | false => match isNil (o.looksAt ops) with
        | true => match isSomeB (gRun P [(i, o)] gStart) with
          | true => match tab[i + 1]? with
            | some (o2, m2, _) => match secondOk P ops tab i o o2 m2 with
              | true => [(i, o), (i + 1, o2)]
              | false => [(i, o)]
            | none => [(i, o)]
          | false => []
        | false => []
      | true => []
    | false => []
  | none => []
noncomputable def disjB : List Grp → Bool
  | [] => true
  | g :: r => match Nat.beq (doneAdd g 0 &&& lateMask r) 0 with
    | true => disjB r
    | false => false
noncomputable def lates (P : Program) (ops : Array Oper) : List Grp := match disjB (((List.range ops.size).map (grpAt P ops (tabOf ops))).filter fun g => !isNil g) with
  | true => ((List.range ops.size).map (grpAt P ops (tabOf ops))).filter fun g => !isNil g
  | false => []
theorem gRun_some {P : Program} {p : Nat × Oper} {r : Grp} (h : isSomeB (gRun P (p :: r) gStart) = true) : ∃ fe be, gRun P (p :: r) gStart = some (fe, some be) := by
  have key : ∀ (l : Grp) (s e : Fr × Option Blk), gRun P l s = some e → (l = [] ∧ e = s) ∨ ∃ b, e.2 = some b := fun l => by
    induction l with
    | nil => exact fun s e h => .inl ⟨rfl, (Option.some.inj h).symm⟩
    | cons q l ih =>
      intro s e h
      simp only [gRun] at h
      split at h
      · rename_i f' b' _
        rcases ih _ _ h with ⟨_, rfl⟩ | h
        · exact .inr ⟨b', rfl⟩
        · exact .inr h
      · cases h
  cases hr : gRun P (p :: r) gStart with
  | none => rw [hr] at h; cases h
  | some e =>
    obtain ⟨fe, be⟩ := e
    rcases key _ _ _ hr with ⟨e, _⟩ | ⟨b, hb⟩
    · cases e
    · dsimp only at hb
      subst hb
      exact ⟨fe, b, rfl⟩
theorem looks_nil {l : List Tmp} (h : isNil l = true) : l = [] := by
  cases l with
  | nil => rfl
  | cons _ _ => cases h
theorem allT_spec {d : Option Tmp} {l : List Tmp} (h : allT d l = true) : ∀ t ∈ l, d = some t := by
  unfold allT at h
  split at h
  · rename_i x
    intro t ht
    rw [Nat.eq_of_beq_eq_true (List.all_eq_true.1 h t ht)]
  · cases h
/-- What a group is. -/
structure G1 (P : Program) (ops : Array Oper) (i : Nat) (o : Oper) : Prop where
  op : ops[i]? = some o
  wait : ∀ k, ¬ Waits ops i k
  look : o.looksAt ops = []
  still : isStill o = false
structure G2 (P : Program) (ops : Array Oper) (i : Nat) (o o2 : Oper) : Prop where
  op : ops[i + 1]? = some o2
  wait : ∀ k, Waits ops (i + 1) k ↔ k = i
  look : ∀ t ∈ o2.looksAt ops, o.dst = some t
  still : isStill o2 = false
  outer : ∀ j, j ≠ i + 1 → (Waits ops j i ↔ Waits ops j (i + 1))
theorem grpAt_spec {P : Program} {ops : Array Oper} {i : Nat} (h : isNil (grpAt P ops (tabOf ops) i) = false) :
    (∃ o, grpAt P ops (tabOf ops) i = [(i, o)] ∧ G1 P ops i o ∨ ∃ o2, grpAt P ops (tabOf ops) i = [(i, o), (i + 1, o2)] ∧ G1 P ops i o ∧ G2 P ops i o o2) ∧ ∃ fe be, gRun P (grpAt P ops (tabOf ops) i) gStart = some (fe, some be) := by
  unfold grpAt at h ⊢
  split
  case h_2 => rename_i e; rw [e] at h; cases h
  rename_i o m A hget
  rw [hget] at h
  dsimp only at h
  obtain ⟨ho, rfl, _⟩ := tab_get hget
  split
  case h_2 => rename_i e; rw [e] at h; cases h
  rename_i hw
  rw [hw] at h
  dsimp only at h
  split
  case h_2 => rename_i e; rw [e] at h; cases h
  rename_i hst
  rw [hst] at h
  dsimp only at h
  split
  case h_2 => rename_i e; rw [e] at h; cases h
  rename_i hlk
  rw [hlk] at h
  dsimp only at h
  split
  case h_2 => rename_i e; rw [e] at h; cases h
  rename_i hrun
  have hw0 := Nat.eq_of_beq_eq_true hw
  have g1 : G1 P ops i o := ⟨ho, fun k hk => by have := (waits_bit ho).2 hk; rw [hw0] at this; simp at this, looks_nil hlk, hst⟩
  split
  · rename_i o2 m2 A2 hget2
    obtain ⟨ho2, rfl, _⟩ := tab_get hget2
    split
    · rename_i hs
      unfold secondOk at hs
      split at hs
      case h_2 => cases hs
      rename_i hw2
      split at hs
      case h_2 => cases hs
      rename_i hst2
      split at hs
      case h_2 => cases hs
      rename_i hlk2
      split at hs
      case h_2 => cases hs
      rename_i hout
      have hw2 := Nat.eq_of_beq_eq_true hw2
      refine ⟨⟨o, .inr ⟨o2, rfl, g1, ho2, fun k => ?_, allT_spec hlk2, hst2, fun j hj => ?_⟩⟩, gRun_some hs⟩
      · rw [← waits_bit ho2, hw2, Nat.testBit_two_pow, decide_eq_true_eq]
        exact eq_comm
      · cases hoj : ops[j]? with
        | none => exact ⟨fun ⟨_, e, _⟩ => (by rw [hoj] at e; cases e), fun ⟨_, e, _⟩ => (by rw [hoj] at e; cases e)⟩
        | some oj =>
          obtain ⟨mj, Aj, hgj⟩ := tab_some hoj
          obtain ⟨_, rfl, _⟩ := tab_get hgj
          have hb : ∀ b, ((maskOf ops oj).2.2 &&& (2 ^ i ||| 2 ^ (i + 1))).testBit b = ((maskOf ops oj).2.2.testBit b && (decide (i = b) || decide (i + 1 = b))) := fun b => by
            rw [Nat.testBit_and, Nat.testBit_or, Nat.testBit_two_pow, Nat.testBit_two_pow]
          rw [← waits_bit hoj, ← waits_bit hoj]
          rcases outA_spec _ 0 hout j oj _ Aj hgj with e | e | e
          · exact absurd (by omega) hj
          · have e1 := hb i
            have e2 := hb (i + 1)
            rw [e] at e1 e2
            simp at e1 e2
            rw [e1, e2]
          · have e1 := hb i
            have e2 := hb (i + 1)
            rw [e] at e1 e2
            simp only [Nat.testBit_or, Nat.testBit_two_pow] at e1 e2
            simp at e1 e2
            rw [e1, e2]
    · exact ⟨⟨o, .inl ⟨rfl, g1⟩⟩, gRun_some hrun⟩
  · exact ⟨⟨o, .inl ⟨rfl, g1⟩⟩, gRun_some hrun⟩
theorem disjB_spec : ∀ (gs : List Grp), disjB gs = true → ∀ (q q' : Nat) (g g' : Grp), gs[q]? = some g → gs[q']? = some g' → q ≠ q' → ∀ (p p' i : Nat) (o o' : Oper), g[p]? = some (i, o) → g'[p']? = some (i, o') → False
  | [], _, q, q', g, g', h, _, _, _, _, _, _, _, _, _ => by simp at h
  | g0 :: r, hd, q, q', g, g', hq, hq', hne, p, p', i, o, o', hp, hp' => by
    simp only [disjB] at hd
    split at hd
    case h_2 => cases hd
    rename_i h0
    have h0 := Nat.eq_of_beq_eq_true h0
    have key : ∀ (q : Nat) (g : Grp) (p p' : Nat) (o o' : Oper), r[q]? = some g → g0[p]? = some (i, o) → g[p']? = some (i, o') → False := fun q g p p' o o' hq hp hp' => by
      have h1 : (doneAdd g0 0).testBit i = true := (doneAdd_bit g0 0 i).2 (.inl ⟨p, o, hp⟩)
      have h2 : (lateMask r).testBit i = true := (lateMask_bit r i).2 ⟨g, List.mem_of_getElem? hq, p', o', hp'⟩
      have := congrArg (fun x => x.testBit i) h0
      simp [Nat.testBit_and, h1, h2] at this
    cases q with
    | zero =>
      cases q' with
      | zero => exact hne rfl
      | succ q' =>
        simp only [List.getElem?_cons_zero, Option.some.injEq] at hq
        subst hq
        exact key q' g' p p' o o' (by simpa using hq') hp hp'
    | succ q =>
      cases q' with
      | zero =>
        simp only [List.getElem?_cons_zero, Option.some.injEq] at hq'
        subst hq'
        exact key q g p' p o' o (by simpa using hq) hp' hp
      | succ q' => exact disjB_spec r hd q q' g g' (by simpa using hq) (by simpa using hq') (by omega) p p' i o o' hp hp'
theorem lates_ok (P : Program) (ops : Array Oper) : LateOk P ops (lates P ops) := by
  unfold lates
  split
  case h_2 => exact ⟨fun g hg => by simp at hg, fun g hg => by simp at hg, fun g hg => by simp at hg, fun g hg => by simp at hg, fun g hg => by simp at hg, fun g hg => by simp at hg, fun g hg => by simp at hg, fun q q' g g' hq => by simp at hq, fun g hg => by simp at hg⟩
  rename_i hd
  have hsp : ∀ g ∈ ((List.range ops.size).map (grpAt P ops (tabOf ops))).filter (fun g => !isNil g), ∃ i, (∃ o, g = [(i, o)] ∧ G1 P ops i o ∨ ∃ o2, g = [(i, o), (i + 1, o2)] ∧ G1 P ops i o ∧ G2 P ops i o o2) ∧ ∃ fe be, gRun P g gStart = some (fe, some be) := fun g hg => by
    obtain ⟨h1, h2⟩ := List.mem_filter.1 hg
    obtain ⟨i, _, rfl⟩ := List.mem_map.1 h1
    exact ⟨i, grpAt_spec (by simpa using h2)⟩
  have two : ∀ {i : Nat} {o o2 : Oper} {p j : Nat} {x : Oper}, [(i, o), (i + 1, o2)][p]? = some (j, x) → (p = 0 ∧ j = i ∧ x = o) ∨ (p = 1 ∧ j = i + 1 ∧ x = o2) := fun {i o o2 p j x} h => by
    match p, h with
    | 0, h =>
      simp only [List.getElem?_cons_zero, Option.some.injEq, Prod.mk.injEq] at h
      exact .inl ⟨rfl, h.1.symm, h.2.symm⟩
    | 1, h =>
      simp only [List.getElem?_cons_succ, List.getElem?_cons_zero, Option.some.injEq, Prod.mk.injEq] at h
      exact .inr ⟨rfl, h.1.symm, h.2.symm⟩
    | p + 2, h => simp at h
  have uno : ∀ {i : Nat} {o : Oper} {p j : Nat} {x : Oper}, [(i, o)][p]? = some (j, x) → p = 0 ∧ j = i ∧ x = o := fun {i o p j x} h => by
    match p, h with
    | 0, h =>
      simp only [List.getElem?_cons_zero, Option.some.injEq, Prod.mk.injEq] at h
      exact ⟨rfl, h.1.symm, h.2.symm⟩
    | p + 1, h => simp at h
  refine ⟨fun g hg p i o hp => ?_, fun g hg p i o hp => ?_, fun g hg p i o hp t ht => ?_, fun g hg p i o hp k hk => ?_, fun g hg p i o i' o' hp hp' => ?_, fun g hg p i o hp j hj => ?_, fun g hg p q i o o' hp hq => ?_, disjB_spec _ hd, fun g hg => let ⟨_, _, h⟩ := hsp g hg; h⟩
  · obtain ⟨i0, ⟨o0, ⟨rfl, g1⟩ | ⟨o2, rfl, g1, g2⟩⟩, _⟩ := hsp g hg
    · obtain ⟨rfl, rfl, rfl⟩ := uno hp; exact g1.op
    · rcases two hp with ⟨rfl, rfl, rfl⟩ | ⟨rfl, rfl, rfl⟩
      · exact g1.op
      · exact g2.op
  · obtain ⟨i0, ⟨o0, ⟨rfl, g1⟩ | ⟨o2, rfl, g1, g2⟩⟩, _⟩ := hsp g hg
    · obtain ⟨rfl, rfl, rfl⟩ := uno hp; exact g1.still
    · rcases two hp with ⟨rfl, rfl, rfl⟩ | ⟨rfl, rfl, rfl⟩
      · exact g1.still
      · exact g2.still
  · obtain ⟨i0, ⟨o0, ⟨rfl, g1⟩ | ⟨o2, rfl, g1, g2⟩⟩, _⟩ := hsp g hg
    · obtain ⟨rfl, rfl, rfl⟩ := uno hp; rw [g1.look] at ht; cases ht
    · rcases two hp with ⟨rfl, rfl, rfl⟩ | ⟨rfl, rfl, rfl⟩
      · rw [g1.look] at ht; cases ht
      · exact ⟨0, i0, o0, Nat.zero_lt_one, rfl, g2.look t ht⟩
  · obtain ⟨i0, ⟨o0, ⟨rfl, g1⟩ | ⟨o2, rfl, g1, g2⟩⟩, _⟩ := hsp g hg
    · obtain ⟨rfl, rfl, rfl⟩ := uno hp; exact (g1.wait k hk).elim
    · rcases two hp with ⟨rfl, rfl, rfl⟩ | ⟨rfl, rfl, rfl⟩
      · exact (g1.wait k hk).elim
      · have := (g2.wait k).1 hk
        exact ⟨0, o0, Nat.zero_lt_one, by rw [this]; rfl⟩
  · obtain ⟨i0, ⟨o0, ⟨rfl, g1⟩ | ⟨o2, rfl, g1, g2⟩⟩, _⟩ := hsp g hg
    · obtain ⟨rfl, _, _⟩ := uno hp
      have := (uno hp').1
      omega
    · rcases two hp with ⟨rfl, rfl, rfl⟩ | ⟨rfl, rfl, rfl⟩
      · rcases two hp' with ⟨h, _, _⟩ | ⟨_, rfl, rfl⟩
        · omega
        · exact (g2.wait _).2 rfl
      · rcases two hp' with ⟨h, _, _⟩ | ⟨h, _, _⟩ <;> omega
  · obtain ⟨i0, ⟨o0, ⟨rfl, g1⟩ | ⟨o2, rfl, g1, g2⟩⟩, _⟩ := hsp g hg
    · obtain ⟨rfl, rfl, rfl⟩ := uno hp
      refine .inr fun q i' o' hq => ?_
      obtain ⟨_, rfl, _⟩ := uno hq
      exact hj
    · by_cases hjj : j = i0 + 1
      · exact .inl ⟨1, o2, by rw [hjj]; rfl⟩
      · have hiff := g2.outer j hjj
        have hboth : Waits ops j i0 ∧ Waits ops j (i0 + 1) := by
          rcases two hp with ⟨rfl, rfl, rfl⟩ | ⟨rfl, rfl, rfl⟩
          · exact ⟨hj, hiff.1 hj⟩
          · exact ⟨hiff.2 hj, hj⟩
        refine .inr fun q i' o' hq => ?_
        rcases two hq with ⟨rfl, rfl, rfl⟩ | ⟨rfl, rfl, rfl⟩
        · exact hboth.1
        · exact hboth.2
  · obtain ⟨i0, ⟨o0, ⟨rfl, g1⟩ | ⟨o2, rfl, g1, g2⟩⟩, _⟩ := hsp g hg
    · exact (uno hp).1.trans (uno hq).1.symm
    · rcases two hp with ⟨rfl, rfl, rfl⟩ | ⟨rfl, rfl, rfl⟩
      · rcases two hq with ⟨rfl, _, _⟩ | ⟨_, h, _⟩
        · rfl
        · omega
      · rcases two hq with ⟨_, h, _⟩ | ⟨rfl, _, _⟩
        · omega
        · rfl
/-- The slots that groups write. -/
noncomputable def topSlot : List Grp → Nat
  | [] => 0
  | g :: r => Nat.max (g.foldr (fun p n => match p.2.dst with
    | some t => Nat.max (t + 1) n
    | none => n) 0) (topSlot r)
theorem topSlot_spec {n : Nat} : ∀ (gs : List Grp), topSlot gs ≤ n → ∀ g ∈ gs, ∀ (p i : Nat) (o : Oper) (t : Tmp), g[p]? = some (i, o) → o.dst = some t → t < n
  | [], _, g, hg, _, _, _, _, _, _ => by simp at hg
  | g0 :: r, h, g, hg, p, i, o, t, hp, ht => by
    simp only [topSlot] at h
    have h1 : g0.foldr (fun p n => match p.2.dst with | some t => Nat.max (t + 1) n | none => n) 0 ≤ n := Nat.le_trans (Nat.le_max_left _ _) h
    have h2 : topSlot r ≤ n := Nat.le_trans (Nat.le_max_right _ _) h
    rcases List.mem_cons.1 hg with rfl | hg
    · clear h h2 hg
      induction g generalizing p with
      | nil => simp at hp
      | cons x g ih =>
        simp only [List.foldr_cons] at h1
        cases p with
        | zero =>
          simp only [List.getElem?_cons_zero, Option.some.injEq] at hp
          subst hp
          dsimp only at h1
          rw [ht] at h1
          exact Nat.le_trans (Nat.le_max_left _ _) h1
        | succ p =>
          refine ih p (by simpa using hp) ?_
          split at h1
          · exact Nat.le_trans (Nat.le_max_right _ _) h1
          · exact h1
    · exact topSlot_spec r h2 g hg p i o t hp ht
end Go.Proofs.Ytcakdjnnfonijaa
