/- A reckoner of closed runs, 24: functions whose answers are known ahead, with what they make: the blocks made are laid beside the heap. Nothing of the program is used here. -/
import Derived.Test.YtibolphdalhceaaGreatEvKnown
namespace Go.Proofs.YtibolphdalhceaaGreat
open Go.RowKit

/-- Two tries in one; the second goes before. -/
noncomputable def unT {α : Type} (t : Tr α) : Tr α → Tr α :=
  Tr.rec (fun t' => t') (fun l o r ihl ihr t' => Tr.rec (.node l o r) (fun l' o' r' _ _ => .node (ihl l') (Option.rec o some o') (ihr r')) t') t
def orO {α : Type} : Option α → Option α → Option α
  | some b, _ => some b
  | none, o => o
theorem getP_unT {α : Type} : ∀ (p : Pa) (t t' : Tr α), getP p (unT t t') = orO (getP p t') (getP p t)
  | p, .nil, t' => by
    show getP p t' = _
    rw [getP_nil]
    cases getP p t' <;> rfl
  | p, .node l o r, .nil => by
    show getP p (.node l o r) = _
    rw [getP_nil]
    rfl
  | .z, .node l o r, .node l' o' r' => by cases o' <;> rfl
  | .l p, .node l o r, .node l' o' r' => getP_unT p l l'
  | .r p, .node l o r, .node l' o' r' => getP_unT p r r'
noncomputable def unH (h E : Hp) : Hp := ⟨unT h.tr E.tr, E.nx⟩
theorem unH_get (h E : Hp) (j : Nat) : (E.get j ≠ .gone ∧ (unH h E).get j = E.get j) ∨ ((unH h E).get j = .gone) ∨ (unH h E).get j = h.get j := by
  have e : (unT h.tr E.tr).get j = orO (E.tr.get j) (h.tr.get j) := getP_unT (pa j) h.tr E.tr
  unfold unH Hp.get
  dsimp only
  rw [e]
  cases hE : E.tr.get j with
  | none => exact .inr (.inr rfl)
  | some b =>
    by_cases hb : b = .gone
    · exact .inr (.inl hb)
    · exact .inl ⟨hb, rfl⟩
theorem Emb.both {ρ ρ2 : Env} {base : Kp} {w0 w w' : World} {h E : Hp} (E1 : Emb ρ base w0 h w) (E2 : Emb ρ2 ⟨w.heap.size, fun _ => False⟩ w E w') (hge : ∀ id l, ρ2 id = some l → h.nx ≤ id) (hle : h.nx ≤ E.nx) :
    ∃ ρ', Env.le ρ ρ' ∧ Env.le ρ2 ρ' ∧ Emb ρ' base w0 (unH h E) w' := by
  have E3 := E1.later E2.below
  have hd : ∀ id l l', ρ id = some l → ρ2 id = some l' → False := fun id l l' h1 h2 => by
    have := (E1.fresh id l h1).1
    have := hge id l' h2
    omega
  let ρ' : Env := fun id => match ρ id with | some l => some l | none => ρ2 id
  have l1 : Env.le ρ ρ' := fun id l hl => by show (match ρ id with | some l => some l | none => ρ2 id) = _; rw [hl]
  have l2 : Env.le ρ2 ρ' := fun id l hl => by
    show (match ρ id with | some l => some l | none => ρ2 id) = _
    cases hr : ρ id with
    | none => exact hl
    | some l' => exact (hd id l' l hr hl).elim
  have hor : ∀ id l, ρ' id = some l → ρ id = some l ∨ ρ2 id = some l := fun id l hl => by
    have hl : (match ρ id with | some l => some l | none => ρ2 id) = some l := hl
    cases hr : ρ id with
    | none => rw [hr] at hl; exact .inr hl
    | some l' => rw [hr] at hl; exact .inl hl
  -- a live name lives in one of the two
  have hw : ∀ id, (unH h E).get id ≠ .gone → (∃ l, ρ2 id = some l ∧ E.get id ≠ .gone ∧ w.heap.size ≤ l.blk ∧ BlkR ρ2 l (E.get id) w'.heap[l.blk]? ∧ (unH h E).get id = E.get id) ∨ (∃ l, ρ id = some l ∧ h.get id ≠ .gone ∧ l.blk < w.heap.size ∧ base.ok l.blk ∧ BlkR ρ l (h.get id) w'.heap[l.blk]? ∧ (unH h E).get id = h.get id) := fun id hid => by
    rcases unH_get h E id with ⟨g1, g2⟩ | g | g
    · obtain ⟨l, k1, k2, k3⟩ := E2.live id g1
      exact .inl ⟨l, k1, g1, k2.1, k3, g2⟩
    · exact absurd g hid
    · rw [g] at hid
      obtain ⟨l, k1, k2, k3⟩ := E3.live id hid
      exact .inr ⟨l, k1, hid, (E1.fresh id l k1).2, k2, k3, g⟩
  refine ⟨ρ', l1, l2, E3.below, E3.bw, E3.kept, fun id l hl => ?_, fun id hid => ?_, fun id id' l l' hid hid' hl hl' e => ?_⟩
  · rcases hor id l hl with hl | hl
    · exact ⟨Nat.lt_of_lt_of_le (E3.fresh id l hl).1 hle, (E3.fresh id l hl).2⟩
    · exact E2.fresh id l hl
  · rcases hw id hid with ⟨l, k1, _, k3, k4, k5⟩ | ⟨l, k1, _, _, k4, k5, k6⟩
    · refine ⟨l, l2 id l k1, ⟨Nat.le_trans E1.bw k3, fun hB => ?_⟩, ?_⟩
      · have := (E1.kept l.blk hB).1
        omega
      · rw [k5]; exact k4.mono l2
    · refine ⟨l, l1 id l k1, k4, ?_⟩
      rw [k6]; exact k5.mono l1
  · rcases hw id hid with ⟨m, k1, k2, k3, _, _⟩ | ⟨m, k1, k2, k3, _, _, _⟩ <;> rcases hw id' hid' with ⟨m', k1', k2', k3', _, _⟩ | ⟨m', k1', k2', k3', _, _, _⟩
    · obtain rfl := Option.some.inj ((l2 id m k1).symm.trans hl)
      obtain rfl := Option.some.inj ((l2 id' m' k1').symm.trans hl')
      exact E2.apart id id' m m' k2 k2' k1 k1' e
    · obtain rfl := Option.some.inj ((l2 id m k1).symm.trans hl)
      obtain rfl := Option.some.inj ((l1 id' m' k1').symm.trans hl')
      omega
    · obtain rfl := Option.some.inj ((l1 id m k1).symm.trans hl)
      obtain rfl := Option.some.inj ((l2 id' m' k1').symm.trans hl')
      omega
    · obtain rfl := Option.some.inj ((l1 id m k1).symm.trans hl)
      obtain rfl := Option.some.inj ((l1 id' m' k1').symm.trans hl')
      exact E3.apart id id' m m' k2 k2' k1 k1' e
/-- An end laid down ahead, under names of its own: name there, name here. -/
noncomputable def endSim (L : List (Nat × Nat)) (V : AV) (E : Hp) (v : AV) (h : Hp) : Ans := match pairsSim 0 L h E L with
  | true => match trSim (leafSim 0 L) 1 0 E.tr E.tr with
    | true => match avSim 0 L v V with
      | true => .yes
      | false => .no "end: values differ"
    | false => .no "end: a name without a mate"
  | false => .no "end: blocks differ"
noncomputable def allGe (N : Nat) : List (Nat × Nat) → Bool
  | [] => true
  | p :: r => match Nat.ble N p.2 with
    | true => allGe N r
    | false => false
theorem allGe_ok {N : Nat} : ∀ {L : List (Nat × Nat)}, allGe N L = true → ∀ p ∈ L, N ≤ p.2
  | [], _, p, hp => by cases hp
  | a :: r, h, p, hp => by
    simp only [allGe] at h
    split at h
    case h_2 => cases h
    rename_i h1
    rcases List.mem_cons.1 hp with rfl | hp
    · exact Nat.le_of_ble_eq_true h1
    · exact allGe_ok h p hp
theorem Emb.mate {L : List (Nat × Nat)} {h E : Hp} (hp : pairsSim 0 L h E L = true) (ht : trSim (leafSim 0 L) 1 0 E.tr E.tr = true) {ρ : Env} {base : Kp} {w0 w : World} (M : Emb ρ base w0 h w) : Emb (reN 0 L ρ) base w0 E w := by
  have hre : ∀ j, reN 0 L ρ j = match assocN L j with | some i => ρ i | none => none := fun j => by unfold reN; rfl
  have hl : ∀ j, E.get j ≠ .gone → ∃ i, assocN L j = some i ∧ (i, j) ∈ L ∧ blkSim 0 L (h.get i) (E.get j) = true ∧ reN 0 L ρ j = ρ i := fun j hj => by
    cases ha : assocN L j with
    | some i =>
      refine ⟨i, rfl, assocN_mem ha, ((pairsSim_ok hp).1 _ (assocN_mem ha)).2.2, ?_⟩
      rw [hre, ha]
    | none =>
      exfalso
      rcases trSim_get ht j with ⟨_, h2⟩ | h1
      · exact hj (by show (E.tr.get j).getD .gone = _; rw [h2]; rfl)
      · unfold leafSim at h1
        rw [show Nat.blt j 0 = false from rfl, ha] at h1
        exact hj (isGone_ok h1)
  refine ⟨M.below, M.bw, M.kept, fun j l hj => ?_, fun j hj => ?_, fun j j' l l' hj hj' h1 h2 e => ?_⟩
  · rw [hre] at hj
    cases ha : assocN L j with
    | none => rw [ha] at hj; cases hj
    | some i =>
      rw [ha] at hj
      exact ⟨((pairsSim_ok hp).1 _ (assocN_mem ha)).2.1, (M.fresh i l hj).2⟩
  · obtain ⟨i, _, _, k1, k4⟩ := hl j hj
    obtain ⟨l, e1, e2, e3⟩ := M.live i (blkSim_gone k1 hj)
    exact ⟨l, k4.trans e1, e2, blkSim_ok k1 e3⟩
  · obtain ⟨i, _, m1, k1, k4⟩ := hl j hj
    obtain ⟨i', _, m1', k1', k4'⟩ := hl j' hj'
    have hii := M.apart i i' l l' (blkSim_gone k1 hj) (blkSim_gone k1' hj') (k4.symm.trans h1) (k4'.symm.trans h2) e
    exact congrArg Prod.snd ((pairsSim_ok hp).2 _ m1 _ m1' hii)
/-- Functions whose answers are known, with what they make: value and blocks, the names from a number on. -/
def KhOk (P : Program) (kh : FuncId → List AV → Nat → Option (AV × Hp)) : Prop :=
  ∀ g args N V E, kh g args N = some (V, E) → ∀ (ρ : Env) (xs : Array Value) (w : World), AV.reals ρ args = some xs.toList → Calls P g xs w fun e w' => ∃ x, e = .returned x ∧ ∃ ρ2, V.real ρ2 = some x ∧ Emb ρ2 ⟨w.heap.size, fun _ => False⟩ w E w' ∧ ∀ id l, ρ2 id = some l → N ≤ id
noncomputable def evEnter4 (P : Program) (kh : FuncId → List AV → Nat → Option (AV × Hp)) (kn : FuncId → List AV → Option AV) (rc : List FuncId) (ec : Ecf) : Cf := fun g args h kk => match kh g args h.nx with
  | some VE => match Nat.ble h.nx VE.2.nx with
    | true => heapK (unH h VE.2) fun h' => kk VE.1 h'
    | false => .no "names of a known end"
  | none => evEnter3 P kn rc ec g args h kk
theorem evEnter4_ok {P : Program} {base : Kp} {w0 : World} {kh : FuncId → List AV → Nat → Option (AV × Hp)} (hkh : KhOk P kh) {kn : FuncId → List AV → Option AV} (hkn : KnOk P kn) {rc : List FuncId} (hrc : Rec P rc) {ec : Ecf} (H : EcOk P base w0 ec) : CfOk P base w0 (evEnter4 P kh kn rc ec) := by
  intro g args h kk ρ w xs R hk E hr K
  unfold evEnter4 at hk
  split at hk
  · rename_i v hv
    obtain ⟨V, E'⟩ := v
    dsimp only at hk
    split at hk
    case h_2 => cases hk
    rename_i hle
    rw [heapK_eq] at hk
    refine (hkh g args h.nx V E' hv ρ xs w hr).mono ?_
    rintro e w' ⟨x, rfl, ρ2, hx, M, hge⟩
    obtain ⟨ρ', l1, l2, M'⟩ := E.both M hge (Nat.le_of_ble_eq_true hle)
    exact ⟨x, rfl, K V _ ρ' x w' hk l1 M' (AV.real_mono l2 _ _ hx)⟩
  · exact evEnter3_ok hkn hrc H g args h kk ρ w xs R hk E hr K
noncomputable def ecH (P : Program) (kh : FuncId → List AV → Nat → Option (AV × Hp)) (kn : FuncId → List AV → Option AV) (rc : List FuncId) (d : Nat) : Ecf := Nat.rec (fun _ _ _ _ _ => .no "depth") (fun _ ih ro c f h k => compC P c ⟨evEnter4 P kh kn rc ih, evRound P ih, ro, 100000⟩ (k .normal) (fun i => k (.exit i)) (k .ret) f h) d
theorem ecH_ok (P : Program) {kh : FuncId → List AV → Nat → Option (AV × Hp)} (hkh : KhOk P kh) {kn : FuncId → List AV → Option AV} (hkn : KnOk P kn) {rc : List FuncId} (hrc : Rec P rc) (base : Kp) (w0 : World) : ∀ d, EcOk P base w0 (ecH P kh kn rc d)
  | 0 => fun _ _ _ _ _ _ _ _ _ _ _ hk => by cases hk
  | d + 1 => fun ro c f h k ρ a w Q rl nn hk hro E F hd K => by
    have ih := fun base w0 => ecH_ok P hkh hkn hrc base w0 d
    refine compC_ok c ⟨evEnter4 P kh kn rc (ecH P kh kn rc d), evRound P (ecH P kh kn rc d), ro, 100000⟩ (fun b w => evEnter4_ok hkh hkn hrc (ih b w)) (fun b w => evRound_ok (ih b w)) (k .normal) (fun i => k (.exit i)) (k .ret) f h ρ a w Q rl nn hk hro E F hd ?_
    intro e
    cases e <;> exact K _
theorem emb_start (w : World) : Emb (fun _ => none) ⟨w.heap.size, fun _ => False⟩ w ⟨.nil, 0⟩ w := by
  have hno : ∀ id, (⟨.nil, 0⟩ : Hp).get id = .gone := fun id => by
    show ((Tr.nil : Tr Blk).get id).getD .gone = _
    rw [Tr.get_nil]
    rfl
  exact ⟨Below.refl _ _, Nat.le_refl _, (fun b hB => hB.elim), (fun id l hl => by cases hl), (fun id hl => absurd (hno id) hl), (fun id id' l l' hl => absurd (hno id) hl)⟩
theorem quick_calls_kh {P : Program} {kh : FuncId → List AV → Nat → Option (AV × Hp)} (hkh : KhOk P kh) {kn : FuncId → List AV → Option AV} (hkn : KnOk P kn) {rc : List FuncId} (hrc : Rec P rc) {g : FuncId} {d : Nat} {p : AV → Ans} (xs : List Value) (h : evEnter4 P kh kn rc (ecH P kh kn rc d) g (xs.map .v) ⟨.nil, 0⟩ (fun v _ => p v) = .yes) (w : World) {R : Value → Prop} (hp : ∀ v ρ x, p v = .yes → v.real ρ = some x → R x) :
    Calls P g xs.toArray w fun e w' => (∃ x, e = .returned x ∧ R x) ∧ Below w.heap.size w w' := by
  refine (evEnter4_ok hkh hkn hrc (ecH_ok P hkh hkn hrc ⟨w.heap.size, fun _ => False⟩ w d) g (xs.map .v) ⟨.nil, 0⟩ _ _ w xs.toArray (fun x w' => R x ∧ Below w.heap.size w w') h (emb_start w) (reals_v _ _) fun v h' ρ' x w' q1 q2 q3 q4 => ⟨hp v ρ' x q1 q4, q3.below⟩).mono ?_
  rintro e w' ⟨x, rfl, h1, h2⟩
  exact ⟨⟨x, rfl, h1⟩, h2⟩
/-- A run to an end laid down ahead. -/
theorem quick_hand {P : Program} {kh : FuncId → List AV → Nat → Option (AV × Hp)} (hkh : KhOk P kh) {kn : FuncId → List AV → Option AV} (hkn : KnOk P kn) {rc : List FuncId} (hrc : Rec P rc) {g : FuncId} {d : Nat} {L : List (Nat × Nat)} {V : AV} {E : Hp} {N : Nat} (xs : List Value) (h : evEnter4 P kh kn rc (ecH P kh kn rc d) g (xs.map .v) ⟨.nil, 0⟩ (endSim L V E) = .yes) (hN : allGe N L = true) (w : World) :
    Calls P g xs.toArray w fun e w' => ∃ x, e = .returned x ∧ ∃ ρ2, V.real ρ2 = some x ∧ Emb ρ2 ⟨w.heap.size, fun _ => False⟩ w E w' ∧ ∀ id l, ρ2 id = some l → N ≤ id := by
  refine evEnter4_ok hkh hkn hrc (ecH_ok P hkh hkn hrc ⟨w.heap.size, fun _ => False⟩ w d) g (xs.map .v) ⟨.nil, 0⟩ _ _ w xs.toArray (fun x w' => ∃ ρ2, V.real ρ2 = some x ∧ Emb ρ2 ⟨w.heap.size, fun _ => False⟩ w E w' ∧ ∀ id l, ρ2 id = some l → N ≤ id) h (emb_start w) (reals_v _ _) fun v h' ρ' x w' q1 q2 q3 q4 => ?_
  unfold endSim at q1
  split at q1
  case h_2 => cases q1
  rename_i s1
  split at q1
  case h_2 => cases q1
  rename_i s2
  split at q1
  case h_2 => cases q1
  rename_i s3
  refine ⟨reN 0 L ρ', avSim_ok _ _ s3 x q4, q3.mate s1 s2, fun id l hl => ?_⟩
  have hl : (match assocN L id with | some i => ρ' i | none => none) = some l := hl
  cases ha : assocN L id with
  | none => rw [ha] at hl; cases hl
  | some i => exact allGe_ok hN _ (assocN_mem ha)
noncomputable def khNone : FuncId → List AV → Nat → Option (AV × Hp) := fun _ _ _ => none
theorem khNone_ok (P : Program) : KhOk P khNone := fun _ _ _ _ _ h => by cases h
/-- One function, on arguments that name no block. -/
noncomputable def khAdd (g0 : FuncId) (args0 : List AV) (N0 : Nat) (V : AV) (E : Hp) (kh : FuncId → List AV → Nat → Option (AV × Hp)) : FuncId → List AV → Nat → Option (AV × Hp) := fun g args N => match Nat.beq g g0 with
  | true => match Nat.beq N N0 with
    | true => match avsSim 0 [] args args0 with
      | true => some (V, E)
      | false => kh g args N
    | false => kh g args N
  | false => kh g args N
theorem khAdd_ok {P : Program} {g0 : FuncId} {args0 : List AV} {xs0 : List Value} {N0 : Nat} {V : AV} {E : Hp} {kh : FuncId → List AV → Nat → Option (AV × Hp)} (hkh : KhOk P kh)
    (h0 : ∀ w : World, Calls P g0 xs0.toArray w fun e w' => ∃ x, e = .returned x ∧ ∃ ρ2, V.real ρ2 = some x ∧ Emb ρ2 ⟨w.heap.size, fun _ => False⟩ w E w' ∧ ∀ id l, ρ2 id = some l → N0 ≤ id) (hr0 : ∀ ρ, AV.reals ρ args0 = some xs0) : KhOk P (khAdd g0 args0 N0 V E kh) := by
  intro g args N V' E' h ρ xs w hr
  unfold khAdd at h
  split at h
  case h_2 => exact hkh g args N V' E' h ρ xs w hr
  rename_i hg
  split at h
  case h_2 => exact hkh g args N V' E' h ρ xs w hr
  rename_i hN
  split at h
  case h_2 => exact hkh g args N V' E' h ρ xs w hr
  rename_i ha
  obtain rfl := Nat.eq_of_beq_eq_true hg
  obtain rfl := Nat.eq_of_beq_eq_true hN
  simp only [Option.some.injEq, Prod.mk.injEq] at h
  obtain ⟨rfl, rfl⟩ := h
  have := avsSim_ok args _ ha _ hr
  rw [hr0] at this
  have hx : xs = xs0.toArray := by
    apply Array.ext'
    exact (Option.some.inj this).symm
  rw [hx]
  exact h0 w
end Go.Proofs.YtibolphdalhceaaGreat
