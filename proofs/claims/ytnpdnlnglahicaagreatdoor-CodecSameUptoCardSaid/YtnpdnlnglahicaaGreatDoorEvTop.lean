/- A reckoner of closed runs, 22: functions whose answers are known ahead. Nothing of the program is used here. / A reckoner of closed runs, 24: functions whose answers are known ahead, with what they make: the blocks made are laid beside the heap. Nothing of the program is used here. / A reckoner of closed runs, 25: code that must panic, and functions that recover from it. Nothing of the program is used here. -/
import Derived.Test.YtnpdnlnglahicaaGreatDoorEvComp
import Derived.RecoverIn
namespace Go.Proofs.YtnpdnlnglahicaaGreatDoor
open Go.RowKit

/-- Functions whose answers are known: each hands back that value, and leaves all that was. -/
def KnOk (P : Program) (kn : FuncId → List AV → Option AV) : Prop :=
  ∀ g args v, kn g args = some v → ∀ (ρ : Env) (xs : Array Value) (w : World), AV.reals ρ args = some xs.toList → Calls P g xs w fun e w' => ∃ x, e = .returned x ∧ v.real ρ = some x ∧ Below w.heap.size w w'
noncomputable def evEnter3 (P : Program) (kn : FuncId → List AV → Option AV) (rc : List FuncId) (ec : Ecf) : Cf := fun g args h kk => match kn g args with
  | some v => kk v h
  | none => evEnter2 P rc ec g args h kk
theorem evEnter3_ok {P : Program} {base : Kp} {w0 : World} {kn : FuncId → List AV → Option AV} (hkn : KnOk P kn) {rc : List FuncId} (hrc : Rec P rc) {ec : Ecf} (H : EcOk P base w0 ec) : CfOk P base w0 (evEnter3 P kn rc ec) := by
  intro g args h kk ρ w xs R hk E hr K
  unfold evEnter3 at hk
  split at hk
  · rename_i v hv
    refine (hkn g args v hv ρ xs w hr).mono ?_
    rintro e w' ⟨x, rfl, hx, hb⟩
    exact ⟨x, rfl, K v h ρ x w' hk (Env.le_refl ρ) (E.later hb) hx⟩
  · exact evEnter2_ok hrc H g args h kk ρ w xs R hk E hr K
noncomputable def ecK (P : Program) (kn : FuncId → List AV → Option AV) (rc : List FuncId) (d : Nat) : Ecf := Nat.rec (fun _ _ _ _ _ => .no "depth") (fun _ ih ro c f h k => compC P c ⟨evEnter3 P kn rc ih, evRound P ih, ro, 100000⟩ (k .normal) (fun i => k (.exit i)) (k .ret) f h) d
theorem ecK_ok (P : Program) {kn : FuncId → List AV → Option AV} (hkn : KnOk P kn) {rc : List FuncId} (hrc : Rec P rc) (base : Kp) (w0 : World) : ∀ d, EcOk P base w0 (ecK P kn rc d)
  | 0 => fun _ _ _ _ _ _ _ _ _ _ _ hk => by cases hk
  | d + 1 => fun ro c f h k ρ a w Q rl nn hk hro E F hd K => by
    have ih := fun base w0 => ecK_ok P hkn hrc base w0 d
    refine compC_ok c ⟨evEnter3 P kn rc (ecK P kn rc d), evRound P (ecK P kn rc d), ro, 100000⟩ (fun b w => evEnter3_ok hkn hrc (ih b w)) (fun b w => evRound_ok (ih b w)) (k .normal) (fun i => k (.exit i)) (k .ret) f h ρ a w Q rl nn hk hro E F hd ?_
    intro e
    cases e <;> exact K _
theorem quick_calls_kn {P : Program} {kn : FuncId → List AV → Option AV} (hkn : KnOk P kn) {rc : List FuncId} (hrc : Rec P rc) {g : FuncId} {d : Nat} {p : AV → Ans} (xs : List Value) (h : evEnter3 P kn rc (ecK P kn rc d) g (xs.map .v) ⟨.nil, 0⟩ (fun v _ => p v) = .yes) (w : World) {R : Value → Prop} (hp : ∀ v ρ x, p v = .yes → v.real ρ = some x → R x) :
    Calls P g xs.toArray w fun e w' => (∃ x, e = .returned x ∧ R x) ∧ Below w.heap.size w w' := by
  have hno : ∀ id, (⟨.nil, 0⟩ : Hp).get id = .gone := fun id => by
    show ((Tr.nil : Tr Blk).get id).getD .gone = _
    rw [Tr.get_nil]
    rfl
  have E : Emb (fun _ => none) ⟨w.heap.size, fun _ => False⟩ w ⟨.nil, 0⟩ w := ⟨Below.refl _ _, Nat.le_refl _, (fun b hB => hB.elim), (fun id l hl => by cases hl), (fun id hl => absurd (hno id) hl), (fun id id' l l' hl => absurd (hno id) hl)⟩
  refine (evEnter3_ok hkn hrc (ecK_ok P hkn hrc ⟨w.heap.size, fun _ => False⟩ w d) g (xs.map .v) ⟨.nil, 0⟩ _ _ w xs.toArray (fun x w' => R x ∧ Below w.heap.size w w') h E (reals_v _ _) fun v h' ρ' x w' q1 q2 q3 q4 => ⟨hp v ρ' x q1 q4, q3.below⟩).mono ?_
  rintro e w' ⟨x, rfl, h1, h2⟩
  exact ⟨⟨x, rfl, h1⟩, h2⟩
end Go.Proofs.YtnpdnlnglahicaaGreatDoor
namespace Go.Proofs.YtnpdnlnglahicaaGreatDoor
open Go.RowKit

/-- Two tries in one; the second goes before. -/
noncomputable def unT {α : Type} (t : Tr α) : Tr α → Tr α :=
  Tr.rec (fun t' => t') (fun l o r ihl ihr t' => Tr.rec (.node l o r) (fun l' o' r' _ _ => .node (ihl l') (Option.rec o some o') (ihr r')) t') t
def orO {α : Type} : Option α → Option α → Option α
  | some b, _ => some b
  | none, o => o
theorem getP_unT {α : Type} : ∀ (p : Pa) (t t' : Tr α), getP p (unT t t') = orO (getP p t') (getP p t)
  | p, .nil, t' => by
    show getP p t' = _
    rw [getP_nil]
    cases getP p t' <;> rfl
  | p, .node l o r, .nil => by
    show getP p (.node l o r) = _
    rw [getP_nil]
    rfl
  | .z, .node l o r, .node l' o' r' => by cases o' <;> rfl
  | .l p, .node l o r, .node l' o' r' => getP_unT p l l'
  | .r p, .node l o r, .node l' o' r' => getP_unT p r r'
noncomputable def unH (h E : Hp) : Hp := ⟨unT h.tr E.tr, E.nx⟩
theorem unH_get (h E : Hp) (j : Nat) : (E.get j ≠ .gone ∧ (unH h E).get j = E.get j) ∨ ((unH h E).get j = .gone) ∨ (unH h E).get j = h.get j := by
  have e : (unT h.tr E.tr).get j = orO (E.tr.get j) (h.tr.get j) := getP_unT (pa j) h.tr E.tr
  unfold unH Hp.get
  dsimp only
  rw [e]
  cases hE : E.tr.get j with
  | none => exact .inr (.inr rfl)
  | some b =>
    by_cases hb : b = .gone
    · exact .inr (.inl hb)
    · exact .inl ⟨hb, rfl⟩
theorem Emb.both {ρ ρ2 : Env} {base : Kp} {w0 w w' : World} {h E : Hp} (E1 : Emb ρ base w0 h w) (E2 : Emb ρ2 ⟨w.heap.size, fun _ => False⟩ w E w') (hge : ∀ id l, ρ2 id = some l → h.nx ≤ id) (hle : h.nx ≤ E.nx) :
    ∃ ρ', Env.le ρ ρ' ∧ Env.le ρ2 ρ' ∧ Emb ρ' base w0 (unH h E) w' := by
  have E3 := E1.later E2.below
  have hd : ∀ id l l', ρ id = some l → ρ2 id = some l' → False := fun id l l' h1 h2 => by
    have := (E1.fresh id l h1).1
    have := hge id l' h2
    omega
  let ρ' : Env := fun id => match ρ id with | some l => some l | none => ρ2 id
  have l1 : Env.le ρ ρ' := fun id l hl => by show (match ρ id with | some l => some l | none => ρ2 id) = _; rw [hl]
  have l2 : Env.le ρ2 ρ' := fun id l hl => by
    show (match ρ id with | some l => some l | none => ρ2 id) = _
    cases hr : ρ id with
    | none => exact hl
    | some l' => exact (hd id l' l hr hl).elim
  have hor : ∀ id l, ρ' id = some l → ρ id = some l ∨ ρ2 id = some l := fun id l hl => by
    have hl : (match ρ id with | some l => some l | none => ρ2 id) = some l := hl
    cases hr : ρ id with
    | none => rw [hr] at hl; exact .inr hl
    | some l' => rw [hr] at hl; exact .inl hl
  -- a live name lives in one of the two
  have hw : ∀ id, (unH h E).get id ≠ .gone → (∃ l, ρ2 id = some l ∧ E.get id ≠ .gone ∧ w.heap.size ≤ l.blk ∧ BlkR ρ2 l (E.get id) w'.heap[l.blk]? ∧ (unH h E).get id = E.get id) ∨ (∃ l, ρ id = some l ∧ h.get id ≠ .gone ∧ l.blk < w.heap.size ∧ base.ok l.blk ∧ BlkR ρ l (h.get id) w'.heap[l.blk]? ∧ (unH h E).get id = h.get id) := fun id hid => by
    rcases unH_get h E id with ⟨g1, g2⟩ | g | g
    · obtain ⟨l, k1, k2, k3⟩ := E2.live id g1
      exact .inl ⟨l, k1, g1, k2.1, k3, g2⟩
    · exact absurd g hid
    · rw [g] at hid
      obtain ⟨l, k1, k2, k3⟩ := E3.live id hid
      exact .inr ⟨l, k1, hid, (E1.fresh id l k1).2, k2, k3, g⟩
  refine ⟨ρ', l1, l2, E3.below, E3.bw, E3.kept, fun id l hl => ?_, fun id hid => ?_, fun id id' l l' hid hid' hl hl' e => ?_⟩
  · rcases hor id l hl with hl | hl
    · exact ⟨Nat.lt_of_lt_of_le (E3.fresh id l hl).1 hle, (E3.fresh id l hl).2⟩
    · exact E2.fresh id l hl
  · rcases hw id hid with ⟨l, k1, _, k3, k4, k5⟩ | ⟨l, k1, _, _, k4, k5, k6⟩
    · refine ⟨l, l2 id l k1, ⟨Nat.le_trans E1.bw k3, fun hB => ?_⟩, ?_⟩
      · have := (E1.kept l.blk hB).1
        omega
      · rw [k5]; exact k4.mono l2
    · refine ⟨l, l1 id l k1, k4, ?_⟩
      rw [k6]; exact k5.mono l1
  · rcases hw id hid with ⟨m, k1, k2, k3, _, _⟩ | ⟨m, k1, k2, k3, _, _, _⟩ <;> rcases hw id' hid' with ⟨m', k1', k2', k3', _, _⟩ | ⟨m', k1', k2', k3', _, _, _⟩
    · obtain rfl := Option.some.inj ((l2 id m k1).symm.trans hl)
      obtain rfl := Option.some.inj ((l2 id' m' k1').symm.trans hl')
      exact E2.apart id id' m m' k2 k2' k1 k1' e
    · obtain rfl := Option.some.inj ((l2 id m k1).symm.trans hl)
      obtain rfl := Option.some.inj ((l1 id' m' k1').symm.trans hl')
      omega
    · obtain rfl := Option.some.inj ((l1 id m k1).symm.trans hl)
      obtain rfl := Option.some.inj ((l2 id' m' k1').symm.trans hl')
      omega
    · obtain rfl := Option.some.inj ((l1 id m k1).symm.trans hl)
      obtain rfl := Option.some.inj ((l1 id' m' k1').symm.trans hl')
      exact E3.apart id id' m m' k2 k2' k1 k1' e
/-- An end laid down ahead, under names of its own: name there, name here. -/
noncomputable def endSim (L : List (Nat × Nat)) (V : AV) (E : Hp) (v : AV) (h : Hp) : Ans := match pairsSim 0 L h E L with
  | true => match trSim (leafSim 0 L) 1 0 E.tr E.tr with
    | true => match avSim 0 L v V with
      | true => .yes
      | false => .no "end: values differ"
    | false => .no "end: a name without a mate"
  | false => .no "end: blocks differ"
noncomputable def allGe (N : Nat) : List (Nat × Nat) → Bool
  | [] => true
  | p :: r => match Nat.ble N p.2 with
    | true => allGe N r
    | false => false
theorem allGe_ok {N : Nat} : ∀ {L : List (Nat × Nat)}, allGe N L = true → ∀ p ∈ L, N ≤ p.2
  | [], _, p, hp => by cases hp
  | a :: r, h, p, hp => by
    simp only [allGe] at h
    split at h
    case h_2 => cases h
    rename_i h1
    rcases List.mem_cons.1 hp with rfl | hp
    · exact Nat.le_of_ble_eq_true h1
    · exact allGe_ok h p hp
theorem Emb.mate {L : List (Nat × Nat)} {h E : Hp} (hp : pairsSim 0 L h E L = true) (ht : trSim (leafSim 0 L) 1 0 E.tr E.tr = true) {ρ : Env} {base : Kp} {w0 w : World} (M : Emb ρ base w0 h w) : Emb (reN 0 L ρ) base w0 E w := by
  have hre : ∀ j, reN 0 L ρ j = match assocN L j with | some i => ρ i | none => none := fun j => by unfold reN; rfl
  have hl : ∀ j, E.get j ≠ .gone → ∃ i, assocN L j = some i ∧ (i, j) ∈ L ∧ blkSim 0 L (h.get i) (E.get j) = true ∧ reN 0 L ρ j = ρ i := fun j hj => by
    cases ha : assocN L j with
    | some i =>
      refine ⟨i, rfl, assocN_mem ha, ((pairsSim_ok hp).1 _ (assocN_mem ha)).2.2, ?_⟩
      rw [hre, ha]
    | none =>
      exfalso
      rcases trSim_get ht j with ⟨_, h2⟩ | h1
      · exact hj (by show (E.tr.get j).getD .gone = _; rw [h2]; rfl)
      · unfold leafSim at h1
        rw [show Nat.blt j 0 = false from rfl, ha] at h1
        exact hj (isGone_ok h1)
  refine ⟨M.below, M.bw, M.kept, fun j l hj => ?_, fun j hj => ?_, fun j j' l l' hj hj' h1 h2 e => ?_⟩
  · rw [hre] at hj
    cases ha : assocN L j with
    | none => rw [ha] at hj; cases hj
    | some i =>
      rw [ha] at hj
      exact ⟨((pairsSim_ok hp).1 _ (assocN_mem ha)).2.1, (M.fresh i l hj).2⟩
  · obtain ⟨i, _, _, k1, k4⟩ := hl j hj
    obtain ⟨l, e1, e2, e3⟩ := M.live i (blkSim_gone k1 hj)
    exact ⟨l, k4.trans e1, e2, blkSim_ok k1 e3⟩
  · obtain ⟨i, _, m1, k1, k4⟩ := hl j hj
    obtain ⟨i', _, m1', k1', k4'⟩ := hl j' hj'
    have hii := M.apart i i' l l' (blkSim_gone k1 hj) (blkSim_gone k1' hj') (k4.symm.trans h1) (k4'.symm.trans h2) e
    exact congrArg Prod.snd ((pairsSim_ok hp).2 _ m1 _ m1' hii)
/-- Functions whose answers are known, with what they make: value and blocks, the names from a number on. -/
def KhOk (P : Program) (kh : FuncId → List AV → Nat → Option (AV × Hp)) : Prop :=
  ∀ g args N V E, kh g args N = some (V, E) → ∀ (ρ : Env) (xs : Array Value) (w : World), AV.reals ρ args = some xs.toList → Calls P g xs w fun e w' => ∃ x, e = .returned x ∧ ∃ ρ2, V.real ρ2 = some x ∧ Emb ρ2 ⟨w.heap.size, fun _ => False⟩ w E w' ∧ ∀ id l, ρ2 id = some l → N ≤ id
noncomputable def evEnter4 (P : Program) (kh : FuncId → List AV → Nat → Option (AV × Hp)) (kn : FuncId → List AV → Option AV) (rc : List FuncId) (ec : Ecf) : Cf := fun g args h kk => match kh g args h.nx with
  | some VE => match Nat.ble h.nx VE.2.nx with
    | true => heapK (unH h VE.2) fun h' => kk VE.1 h'
    | false => .no "names of a known end"
  | none => evEnter3 P kn rc ec g args h kk
theorem evEnter4_ok {P : Program} {base : Kp} {w0 : World} {kh : FuncId → List AV → Nat → Option (AV × Hp)} (hkh : KhOk P kh) {kn : FuncId → List AV → Option AV} (hkn : KnOk P kn) {rc : List FuncId} (hrc : Rec P rc) {ec : Ecf} (H : EcOk P base w0 ec) : CfOk P base w0 (evEnter4 P kh kn rc ec) := by
  intro g args h kk ρ w xs R hk E hr K
  unfold evEnter4 at hk
  split at hk
  · rename_i v hv
    obtain ⟨V, E'⟩ := v
    dsimp only at hk
    split at hk
    case h_2 => cases hk
    rename_i hle
    rw [heapK_eq] at hk
    refine (hkh g args h.nx V E' hv ρ xs w hr).mono ?_
    rintro e w' ⟨x, rfl, ρ2, hx, M, hge⟩
    obtain ⟨ρ', l1, l2, M'⟩ := E.both M hge (Nat.le_of_ble_eq_true hle)
    exact ⟨x, rfl, K V _ ρ' x w' hk l1 M' (AV.real_mono l2 _ _ hx)⟩
  · exact evEnter3_ok hkn hrc H g args h kk ρ w xs R hk E hr K
noncomputable def ecH (P : Program) (kh : FuncId → List AV → Nat → Option (AV × Hp)) (kn : FuncId → List AV → Option AV) (rc : List FuncId) (d : Nat) : Ecf := Nat.rec (fun _ _ _ _ _ => .no "depth") (fun _ ih ro c f h k => compC P c ⟨evEnter4 P kh kn rc ih, evRound P ih, ro, 100000⟩ (k .normal) (fun i => k (.exit i)) (k .ret) f h) d
theorem ecH_ok (P : Program) {kh : FuncId → List AV → Nat → Option (AV × Hp)} (hkh : KhOk P kh) {kn : FuncId → List AV → Option AV} (hkn : KnOk P kn) {rc : List FuncId} (hrc : Rec P rc) (base : Kp) (w0 : World) : ∀ d, EcOk P base w0 (ecH P kh kn rc d)
  | 0 => fun _ _ _ _ _ _ _ _ _ _ _ hk => by cases hk
  | d + 1 => fun ro c f h k ρ a w Q rl nn hk hro E F hd K => by
    have ih := fun base w0 => ecH_ok P hkh hkn hrc base w0 d
    refine compC_ok c ⟨evEnter4 P kh kn rc (ecH P kh kn rc d), evRound P (ecH P kh kn rc d), ro, 100000⟩ (fun b w => evEnter4_ok hkh hkn hrc (ih b w)) (fun b w => evRound_ok (ih b w)) (k .normal) (fun i => k (.exit i)) (k .ret) f h ρ a w Q rl nn hk hro E F hd ?_
    intro e
    cases e <;> exact K _
theorem emb_start (w : World) : Emb (fun _ => none) ⟨w.heap.size, fun _ => False⟩ w ⟨.nil, 0⟩ w := by
  have hno : ∀ id, (⟨.nil, 0⟩ : Hp).get id = .gone := fun id => by
    show ((Tr.nil : Tr Blk).get id).getD .gone = _
    rw [Tr.get_nil]
    rfl
  exact ⟨Below.refl _ _, Nat.le_refl _, (fun b hB => hB.elim), (fun id l hl => by cases hl), (fun id hl => absurd (hno id) hl), (fun id id' l l' hl => absurd (hno id) hl)⟩
theorem quick_calls_kh {P : Program} {kh : FuncId → List AV → Nat → Option (AV × Hp)} (hkh : KhOk P kh) {kn : FuncId → List AV → Option AV} (hkn : KnOk P kn) {rc : List FuncId} (hrc : Rec P rc) {g : FuncId} {d : Nat} {p : AV → Ans} (xs : List Value) (h : evEnter4 P kh kn rc (ecH P kh kn rc d) g (xs.map .v) ⟨.nil, 0⟩ (fun v _ => p v) = .yes) (w : World) {R : Value → Prop} (hp : ∀ v ρ x, p v = .yes → v.real ρ = some x → R x) :
    Calls P g xs.toArray w fun e w' => (∃ x, e = .returned x ∧ R x) ∧ Below w.heap.size w w' := by
  refine (evEnter4_ok hkh hkn hrc (ecH_ok P hkh hkn hrc ⟨w.heap.size, fun _ => False⟩ w d) g (xs.map .v) ⟨.nil, 0⟩ _ _ w xs.toArray (fun x w' => R x ∧ Below w.heap.size w w') h (emb_start w) (reals_v _ _) fun v h' ρ' x w' q1 q2 q3 q4 => ⟨hp v ρ' x q1 q4, q3.below⟩).mono ?_
  rintro e w' ⟨x, rfl, h1, h2⟩
  exact ⟨⟨x, rfl, h1⟩, h2⟩
/-- A run to an end laid down ahead. -/
theorem quick_hand {P : Program} {kh : FuncId → List AV → Nat → Option (AV × Hp)} (hkh : KhOk P kh) {kn : FuncId → List AV → Option AV} (hkn : KnOk P kn) {rc : List FuncId} (hrc : Rec P rc) {g : FuncId} {d : Nat} {L : List (Nat × Nat)} {V : AV} {E : Hp} {N : Nat} (xs : List Value) (h : evEnter4 P kh kn rc (ecH P kh kn rc d) g (xs.map .v) ⟨.nil, 0⟩ (endSim L V E) = .yes) (hN : allGe N L = true) (w : World) :
    Calls P g xs.toArray w fun e w' => ∃ x, e = .returned x ∧ ∃ ρ2, V.real ρ2 = some x ∧ Emb ρ2 ⟨w.heap.size, fun _ => False⟩ w E w' ∧ ∀ id l, ρ2 id = some l → N ≤ id := by
  refine evEnter4_ok hkh hkn hrc (ecH_ok P hkh hkn hrc ⟨w.heap.size, fun _ => False⟩ w d) g (xs.map .v) ⟨.nil, 0⟩ _ _ w xs.toArray (fun x w' => ∃ ρ2, V.real ρ2 = some x ∧ Emb ρ2 ⟨w.heap.size, fun _ => False⟩ w E w' ∧ ∀ id l, ρ2 id = some l → N ≤ id) h (emb_start w) (reals_v _ _) fun v h' ρ' x w' q1 q2 q3 q4 => ?_
  unfold endSim at q1
  split at q1
  case h_2 => cases q1
  rename_i s1
  split at q1
  case h_2 => cases q1
  rename_i s2
  split at q1
  case h_2 => cases q1
  rename_i s3
  refine ⟨reN 0 L ρ', avSim_ok _ _ s3 x q4, q3.mate s1 s2, fun id l hl => ?_⟩
  have hl : (match assocN L id with | some i => ρ' i | none => none) = some l := hl
  cases ha : assocN L id with
  | none => rw [ha] at hl; cases hl
  | some i => exact allGe_ok hN _ (assocN_mem ha)
noncomputable def khNone : FuncId → List AV → Nat → Option (AV × Hp) := fun _ _ _ => none
theorem khNone_ok (P : Program) : KhOk P khNone := fun _ _ _ _ _ h => by cases h
/-- One function, on arguments that name no block. -/
noncomputable def khAdd (g0 : FuncId) (args0 : List AV) (N0 : Nat) (V : AV) (E : Hp) (kh : FuncId → List AV → Nat → Option (AV × Hp)) : FuncId → List AV → Nat → Option (AV × Hp) := fun g args N => match Nat.beq g g0 with
  | true => match Nat.beq N N0 with
    | true => match avsSim 0 [] args args0 with
      | true => some (V, E)
      | false => kh g args N
    | false => kh g args N
  | false => kh g args N
theorem khAdd_ok {P : Program} {g0 : FuncId} {args0 : List AV} {xs0 : List Value} {N0 : Nat} {V : AV} {E : Hp} {kh : FuncId → List AV → Nat → Option (AV × Hp)} (hkh : KhOk P kh)
    (h0 : ∀ w : World, Calls P g0 xs0.toArray w fun e w' => ∃ x, e = .returned x ∧ ∃ ρ2, V.real ρ2 = some x ∧ Emb ρ2 ⟨w.heap.size, fun _ => False⟩ w E w' ∧ ∀ id l, ρ2 id = some l → N0 ≤ id) (hr0 : ∀ ρ, AV.reals ρ args0 = some xs0) : KhOk P (khAdd g0 args0 N0 V E kh) := by
  intro g args N V' E' h ρ xs w hr
  unfold khAdd at h
  split at h
  case h_2 => exact hkh g args N V' E' h ρ xs w hr
  rename_i hg
  split at h
  case h_2 => exact hkh g args N V' E' h ρ xs w hr
  rename_i hN
  split at h
  case h_2 => exact hkh g args N V' E' h ρ xs w hr
  rename_i ha
  obtain rfl := Nat.eq_of_beq_eq_true hg
  obtain rfl := Nat.eq_of_beq_eq_true hN
  simp only [Option.some.injEq, Prod.mk.injEq] at h
  obtain ⟨rfl, rfl⟩ := h
  have := avsSim_ok args _ ha _ hr
  rw [hr0] at this
  have hx : xs = xs0.toArray := by
    apply Array.ext'
    exact (Option.some.inj this).symm
  rw [hx]
  exact h0 w
end Go.Proofs.YtnpdnlnglahicaaGreatDoor
namespace Go.Proofs.YtnpdnlnglahicaaGreatDoor
open Go.RowKit

/-- A panic's entry. -/
def pan (x : Value) : List PanicEntry := [{ v := x, recovered := false }]
abbrev Kpf := AV → Fr → Hp → Ans
abbrev Pf := FuncId → List AV → Hp → (AV → Hp → Ans) → Ans
/-- Calls that must panic. -/
noncomputable def PfOk (P : Program) (base : Kp) (w0 : World) (pf : Pf) : Prop :=
  ∀ g args h kp ρ w (xs : Array Value) (R : Value → World → Prop), pf g args h kp = .yes → Emb ρ base w0 h w → AV.reals ρ args = some xs.toList →
    (∀ v h' ρ' x w', kp v h' = .yes → Env.le ρ ρ' → Emb ρ' base w0 h' w' → v.real ρ' = some x → R x w') →
    Calls P g xs w fun e w' => ∃ x, e = .panicked (pan x) ∧ R x w'
noncomputable def lastOp : List Oper → Option (List Oper × Oper)
  | [] => none
  | o :: r => match r with
    | [] => some ([], o)
    | _ :: _ => match lastOp r with
      | some (l, o') => some (o :: l, o')
      | none => none
theorem lastOp_some : ∀ {l l' : List Oper} {o : Oper}, lastOp l = some (l', o) → l = l' ++ [o]
  | [], _, _, h => by cases h
  | [x], l', o, h => by
    simp only [lastOp, Option.some.injEq, Prod.mk.injEq] at h
    obtain ⟨rfl, rfl⟩ := h
    rfl
  | x :: y :: r, l', o, h => by
    rw [lastOp] at h
    split at h
    · rename_i l o' hl
      simp only [Option.some.injEq, Prod.mk.injEq] at h
      obtain ⟨rfl, rfl⟩ := h
      rw [lastOp_some hl]
      rfl
    · cases h
/-- The last operation of a region: it may panic, or call a function that must. -/
noncomputable def panOp (P : Program) (pn : List FuncId) (pf : Pf) (ops : Array Oper) (rt : Rt) (o : Oper) (k : Fr → Hp → Ans) (kp : Kpf) (f : Fr) (h : Hp) : Ans := match o.guard with
  | some _ => opsC P ops [o] rt k f h
  | none => match o.op with
    | .panic x => match evA f x with
      | .ifc t v => kp (.ifc t v) f h
      | .v (.iface t y) => kp (.v (.iface t y)) f h
      | _ => .no "what is panicked"
    | .call _ => match evOp P f h o with
      | .enter g args => match inF g pn with
        | true => pf g args h fun v h' => kp v f h'
        | false => opsC P ops [o] rt k f h
      | _ => opsC P ops [o] rt k f h
    | _ => opsC P ops [o] rt k f h
section
variable {P : Program} {base : Kp} {w0 : World}
theorem one_panic {rl : Option Nat} {n : Nat} {ops : Array Oper} {o : Oper} {x : Operand} {Q : Exit → Act → World → Prop} {a : Act} {w : World} {t : TypeId} {y : Value} (ho : o.op = .panic x) (hg : o.guard = none) (hx : a.eval x = .iface t y) (h : Q (.panic (pan (.iface t y))) a w) : wpListIn (fen rl) n P ops Q [o] a w := by
  have hw : Region.wanted o (yielded ops a.tmps) = true := by unfold Region.wanted; rw [hg]
  unfold wpListIn
  rw [if_pos hw]
  refine ⟨fun _ _ => trivial, ?_⟩
  rw [Oper.semAt_eq _ _ _ (fun c hh => by rw [ho] at hh; cases hh)]
  have : (execOp a.eval o).run P w = .halt (.panic (.iface t y)) w := by
    unfold execOp
    simp only [ho, hx]
    rfl
  rw [this]
  exact h
theorem panOp_ok {cf : Cf} {rf : Rf} (C : CfOk P base w0 cf) (D : RfOk P base w0 rf) {pn : List FuncId} {pf : Pf} (PF : PfOk P base w0 pf) {ops : Array Oper} {ro : Option Nat} {fuel : Nat} {o : Oper} {k : Fr → Hp → Ans} {kp : Kpf} {f : Fr} {h : Hp} {ρ : Env} {a : Act} {w : World} {Q : Exit → Act → World → Prop} {rl : Option Nat} {n : Nat}
    (hk : panOp P pn pf ops ⟨cf, rf, ro, fuel⟩ o k kp f h = .yes) (E : Emb ρ base w0 h w) (F : FrR ρ f a) (hd : DfR ρ f.ds a.defers)
    (K : ∀ f h ρ' a w, k f h = .yes → Env.le ρ ρ' → Emb ρ' base w0 h w → FrR ρ' f a → DfR ρ' f.ds a.defers → Q .normal a w)
    (KP : ∀ v f h ρ' x a w, kp v f h = .yes → Env.le ρ ρ' → Emb ρ' base w0 h w → FrR ρ' f a → DfR ρ' f.ds a.defers → v.real ρ' = some x → Q (.panic (pan x)) a w) :
    wpListIn (fen rl) n P ops Q [o] a w := by
  have plain : opsC P ops [o] ⟨cf, rf, ro, fuel⟩ k f h = .yes → wpListIn (fen rl) n P ops Q [o] a w := fun hk => by
    rw [opsC_eq] at hk
    exact evOps_ok C D [o] f h ρ a w hk E F hd K
  unfold panOp at hk
  split at hk
  · exact plain hk
  · rename_i hg
    split at hk
    · rename_i x ho
      have hx := evA_real F x
      split at hk
      · rename_i t v he
        rw [he] at hx
        obtain ⟨y, hy, hxy⟩ := Option.map_eq_some_iff.1 hx
        exact one_panic ho hg hxy.symm (KP _ f h ρ _ a w hk (Env.le_refl ρ) E F hd (by rw [hxy]; exact hx))
      · rename_i t y he
        rw [he] at hx
        have hx : some (Value.iface t y) = some (a.eval x) := hx
        exact one_panic ho hg (Option.some.inj hx).symm (KP _ f h ρ _ a w hk (Env.le_refl ρ) E F hd rfl)
      · cases hk
    · rename_i c ho
      split at hk
      · rename_i g args he
        split at hk
        · have hop := evOp_ok (P := P) E F o
          rw [he] at hop
          obtain ⟨xs, h1, h2⟩ := hop
          have hw : Region.wanted o (yielded ops a.tmps) = true := by unfold Region.wanted; rw [hg]
          unfold wpListIn
          rw [if_pos hw]
          refine ⟨fun _ _ => trivial, ?_⟩
          rw [Oper.semAt_eq _ _ _ (evOp_good (P := P) (f := f) (h := h) (by rw [he]; exact fun hh => by cases hh)), h1]
          refine ⟨fun hh => (by cases hh), fen_calls ((PF g args h _ ρ w xs (fun x w' => Q (.panic (pan x)) a w') hk E h2 fun v h' ρ' x w' q1 q2 q3 q4 => KP v f h' ρ' x a w' q1 q2 q3 (F.mono q2) (hd.mono q2) q4).mono ?_)⟩
          rintro e w' ⟨x, rfl, hx⟩
          exact hx
        · exact plain hk
      · exact plain hk
    · exact plain hk
/-- A region, in code that must panic. -/
noncomputable def regP (P : Program) (pn : List FuncId) (pf : Pf) (ops : Array Oper) (draw : Bool) (rt : Rt) (k : Fr → Hp → Ans) (kp : Kpf) : Fr → Hp → Ans := fun f h => match draw with
  | true => regC P ops true rt k f h
  | false => match lastDefer ops.toList with
    | some _ => regC P ops false rt k f h
    | none => match lastOp ops.toList with
      | some lo => opsC P ops lo.1 rt (panOp P pn pf ops rt lo.2 k kp) f h
      | none => regC P ops false rt k f h
theorem regP_ok {id : Nat} {ops : Array Oper} {draw : Bool} {rt : Rt} (C : ∀ base w0, CfOk P base w0 rt.cf) (D : ∀ base w0, RfOk P base w0 rt.rf) {pn : List FuncId} {pf : Pf} (PF : PfOk P base w0 pf) {k : Fr → Hp → Ans} {kp : Kpf} {f : Fr} {h : Hp} {ρ : Env} {a : Act} {w : World} {Q : Exit → Act → World → Prop} {rl : Option Nat} {nn : Nat}
    (hk : regP P pn pf ops draw rt k kp f h = .yes) (hro : RoR ρ rt.ro rl) (E : Emb ρ base w0 h w) (F : FrR ρ f a) (hd : DfR ρ f.ds a.defers)
    (K : ∀ f h ρ' a w, k f h = .yes → Env.le ρ ρ' → Emb ρ' base w0 h w → FrR ρ' f a → DfR ρ' f.ds a.defers → Q .normal a w)
    (KP : ∀ v f h ρ' x a w, kp v f h = .yes → Env.le ρ ρ' → Emb ρ' base w0 h w → FrR ρ' f a → DfR ρ' f.ds a.defers → v.real ρ' = some x → Q (.panic (pan x)) a w) :
    (Code.region id ops draw).wpIn (fen rl) nn P Q a w := by
  unfold regP at hk
  split at hk
  · exact regC_ok C D hk hro E F hd K
  · split at hk
    · exact regC_ok C D hk hro E F hd K
    · split at hk
      · rename_i lo hlo
        obtain ⟨l, o⟩ := lo
        have hl := lastOp_some hlo
        dsimp only at hk
        rw [opsC_eq] at hk
        refine wpIn_region_list ?_
        rw [hl]
        refine evOps_app (C _ _) (D _ _) l f h ρ a w hk E F hd fun f1 h1 ρ1 a1 w1 q1 q2 q3 q4 q5 => ?_
        obtain ⟨cf, rf, ro, fuel⟩ := rt
        exact panOp_ok (C _ _) (D _ _) PF q1 q3 q4 q5 (fun f2 h2 ρ2 a2 w2 r1 r2 r3 r4 r5 => K f2 h2 ρ2 a2 w2 r1 (Env.le_trans q2 r2) r3 r4 r5) (fun v f2 h2 ρ2 x a2 w2 r1 r2 r3 r4 r5 r6 => KP v f2 h2 ρ2 x a2 w2 r1 (Env.le_trans q2 r2) r3 r4 r5 r6)
      · exact regC_ok C D hk hro E F hd K
abbrev PSt := Rt → (Fr → Hp → Ans) → (Nat → Fr → Hp → Ans) → (Fr → Hp → Ans) → Kpf → Fr → Hp → Ans
/-- Code that may panic. -/
noncomputable def pcR (P : Program) (pn : List FuncId) (pf : Pf) (c : Code) : PSt :=
  Code.rec (motive := fun _ => PSt)
    (fun _ kn _ _ _ => kn)
    (fun _ ops draw rt kn _ _ kp => regP P pn pf ops draw rt kn kp)
    (fun _ _ iha ihb rt kn kx kr kp => iha rt (ihb rt kn kx kr kp) kx kr kp)
    (fun x _ _ iha ihb rt kn kx kr kp f h => opK x f fun v => boolC v (iha rt kn kx kr kp f h) (ihb rt kn kx kr kp f h) (.no "condition"))
    (fun id _ ih rt kn kx kr kp => ih rt kn (blockK id kn kx) kr kp)
    (fun _ ih rt _ kx kr kp => loopC (fun again => ih rt again kx kr kp) rt.fuel)
    (fun _ _ _ _ _ _ _ _ _ _ _ _ _ => .no "a range over a function, in code that must panic")
    (fun id _ _ kx _ _ => kx id)
    (fun _ ih rt kn kx kr kp f h => roC rt.ro (ih rt kn kx kr kp f h))
    (fun _ _ kn _ _ _ => kn)
    (fun _ _ _ _ _ _ _ _ => .no "goto")
    (fun _ _ _ kr _ => kr)
    (fun _ _ _ _ _ _ _ _ => .no "refused") c
theorem pcR_ok {pn : List FuncId} {pf : Pf} (PF : PfOk P base w0 pf) : ∀ (c : Code) (rt : Rt), (∀ base w0, CfOk P base w0 rt.cf) → (∀ base w0, RfOk P base w0 rt.rf) → ∀ (kn : Fr → Hp → Ans) (kx : Nat → Fr → Hp → Ans) (kr : Fr → Hp → Ans) (kp : Kpf) (f : Fr) (h : Hp) (ρ : Env) (a : Act) (w : World) (Q : Exit → Act → World → Prop) (rl : Option Nat) (nn : Nat),
    pcR P pn pf c rt kn kx kr kp f h = .yes → RoR ρ rt.ro rl → Emb ρ base w0 h w → FrR ρ f a → DfR ρ f.ds a.defers → Post base w0 ρ (k3 kn kx kr) Q →
    (∀ v f h ρ' x a w, kp v f h = .yes → Env.le ρ ρ' → Emb ρ' base w0 h w → FrR ρ' f a → DfR ρ' f.ds a.defers → v.real ρ' = some x → Q (.panic (pan x)) a w) → c.wpIn (fen rl) nn P Q a w := by
  intro c
  induction c with
  | skip => exact fun rt C D kn kx kr kp f h ρ a w Q rl nn hk hro E F hd K KP => wpIn_skip (K .normal f h ρ a w hk (Env.le_refl ρ) E F hd)
  | label l => exact fun rt C D kn kx kr kp f h ρ a w Q rl nn hk hro E F hd K KP => wpIn_label (K .normal f h ρ a w hk (Env.le_refl ρ) E F hd)
  | exit id => exact fun rt C D kn kx kr kp f h ρ a w Q rl nn hk hro E F hd K KP => wpIn_exit (K (.exit id) f h ρ a w hk (Env.le_refl ρ) E F hd)
  | ret => exact fun rt C D kn kx kr kp f h ρ a w Q rl nn hk hro E F hd K KP => wpIn_ret (K .ret f h ρ a w hk (Env.le_refl ρ) E F hd)
  | goto l => exact fun rt C D kn kx kr kp f h ρ a w Q rl nn hk hro E F hd K KP => by cases hk
  | refuse s => exact fun rt C D kn kx kr kp f h ρ a w Q rl nn hk hro E F hd K KP => by cases hk
  | rangeFunc g ps cz bd _ _ => exact fun rt C D kn kx kr kp f h ρ a w Q rl nn hk hro E F hd K KP => by cases hk
  | region id ops draw => exact fun rt C D kn kx kr kp f h ρ a w Q rl nn hk hro E F hd K KP => regP_ok C D PF hk hro E F hd (fun f h ρ' a w q1 q2 q3 q4 q5 => K .normal f h ρ' a w q1 q2 q3 q4 q5) KP
  | seq x y ihx ihy =>
    intro rt C D kn kx kr kp f h ρ a w Q rl nn hk hro E F hd K KP
    refine wpIn_seq (ihx rt C D _ kx kr kp f h ρ a w _ rl nn hk hro E F hd ?_ KP)
    intro e f' h' ρ' a' w' he hle E' F' hd'
    cases e with
    | normal => exact ihy rt C D kn kx kr kp f' h' ρ' a' w' Q rl nn he (hro.mono hle) E' F' hd' (K.mono hle) (fun v f2 h2 ρ2 x a2 w2 r1 r2 r3 r4 r5 r6 => KP v f2 h2 ρ2 x a2 w2 r1 (Env.le_trans hle r2) r3 r4 r5 r6)
    | exit j => exact K (.exit j) f' h' ρ' a' w' he hle E' F' hd'
    | ret => exact K .ret f' h' ρ' a' w' he hle E' F' hd'
  | cond x y z ihy ihz =>
    intro rt C D kn kx kr kp f h ρ a w Q rl nn hk hro E F hd K KP
    have hx := evA_real F x
    have hk : opK x f (fun v => boolC v (pcR P pn pf y rt kn kx kr kp f h) (pcR P pn pf z rt kn kx kr kp f h) (.no "condition")) = .yes := hk
    rw [opK_eq, boolC_eq] at hk
    split at hk
    · rename_i he
      rw [he] at hx
      exact wpIn_cond_true (Option.some.inj hx).symm (ihy rt C D kn kx kr kp f h ρ a w Q rl nn hk hro E F hd K KP)
    · rename_i he
      rw [he] at hx
      exact wpIn_cond_false (Option.some.inj hx).symm (ihz rt C D kn kx kr kp f h ρ a w Q rl nn hk hro E F hd K KP)
    · cases hk
  | block id b ih =>
    intro rt C D kn kx kr kp f h ρ a w Q rl nn hk hro E F hd K KP
    refine wpIn_block (ih rt C D kn (blockK id kn kx) kr kp f h ρ a w _ rl nn hk hro E F hd ?_ KP)
    intro e f' h' ρ' a' w' he hle E' F' hd'
    cases e with
    | normal => exact K .normal f' h' ρ' a' w' he hle E' F' hd'
    | ret => exact K .ret f' h' ρ' a' w' he hle E' F' hd'
    | exit j =>
      have he : (Bool.rec (kx j f' h') (kn f' h') (Nat.beq j id) : Ans) = .yes := he
      show if j = id then _ else _
      cases hj : Nat.beq j id with
      | true =>
        rw [hj] at he
        rw [if_pos (Nat.eq_of_beq_eq_true hj)]
        exact K .normal f' h' ρ' a' w' he hle E' F' hd'
      | false =>
        rw [hj] at he
        rw [if_neg (fun e => by rw [e] at hj; simp at hj)]
        exact K (.exit j) f' h' ρ' a' w' he hle E' F' hd'
  | scope b ih =>
    intro rt C D kn kx kr kp f h ρ a w Q rl nn hk hro E F hd K KP
    have hk : roC rt.ro (pcR P pn pf b rt kn kx kr kp f h) = .yes := hk
    unfold roC at hk
    split at hk
    case h_2 => cases hk
    rename_i hro0
    rw [hro0] at hro
    have hro : rl = none := hro
    subst hro
    have hb := ih rt C D kn kx kr kp f h ρ a w (Exit.noGoto Q) none nn hk (by rw [hro0]; rfl) E F hd (fun e f h ρ' a w q1 q2 q3 q4 q5 => by
      have := K e f h ρ' a w q1 q2 q3 q4 q5
      cases e <;> exact this) KP
    exact wpIn_wide.2 (wp_scope_straight (wpIn_wide.1 hb))
  | loop b ih =>
    intro rt C D kn kx kr kp f h ρ a w Q rl nn hk hro E F hd K KP
    have hk : loopC (fun again => pcR P pn pf b rt again kx kr kp) rt.fuel f h = .yes := hk
    have J0 : ∃ m, ∃ f h ρ', loopC (fun again => pcR P pn pf b rt again kx kr kp) m f h = .yes ∧ Env.le ρ ρ' ∧ Emb ρ' base w0 h w ∧ FrR ρ' f a ∧ DfR ρ' f.ds a.defers := ⟨rt.fuel, f, h, ρ, hk, Env.le_refl ρ, E, F, hd⟩
    classical
    let J : Nat → Act → World → Prop := fun m a w => ∃ f h ρ', loopC (fun again => pcR P pn pf b rt again kx kr kp) m f h = .yes ∧ Env.le ρ ρ' ∧ Emb ρ' base w0 h w ∧ FrR ρ' f a ∧ DfR ρ' f.ds a.defers
    let μ : Act → World → Nat := fun a w => if hh : ∃ m, J m a w then Classical.choose (least hh) else 0
    have hμ : ∀ a w (hh : ∃ m, J m a w), J (μ a w) a w ∧ ∀ m, J m a w → μ a w ≤ m := fun a w hh => by
      have : μ a w = Classical.choose (least hh) := dif_pos hh
      rw [this]
      exact Classical.choose_spec (least hh)
    refine wpIn_loop (fun a w => ∃ m, J m a w) μ J0 fun a w hJ => ?_
    obtain ⟨hj, _⟩ := hμ a w hJ
    generalize hm : μ a w = m at hj
    obtain ⟨f, h, ρ', hk', hle', E', F', hd'⟩ := hj
    cases m with
    | zero => cases hk'
    | succ m =>
      refine ih rt C D (loopC (fun again => pcR P pn pf b rt again kx kr kp) m) kx kr kp f h ρ' a w _ rl nn hk' (hro.mono hle') E' F' hd' ?_ (fun v f2 h2 ρ2 x a2 w2 r1 r2 r3 r4 r5 r6 => KP v f2 h2 ρ2 x a2 w2 r1 (Env.le_trans hle' r2) r3 r4 r5 r6)
      intro e f'' h'' ρ'' a'' w'' he hle'' E'' F'' hd''
      cases e with
      | normal =>
        have hJ'' : J m a'' w'' := ⟨f'', h'', ρ'', he, Env.le_trans hle' hle'', E'', F'', hd''⟩
        have := (hμ a'' w'' ⟨m, hJ''⟩).2 m hJ''
        exact ⟨⟨m, hJ''⟩, by omega⟩
      | exit j => exact K (.exit j) f'' h'' ρ'' a'' w'' he (Env.le_trans hle' hle'') E'' F'' hd''
      | ret => exact K .ret f'' h'' ρ'' a'' w'' he (Env.le_trans hle' hle'') E'' F'' hd''
abbrev Pcf := Code → Fr → Hp → Kpf → Ans
/-- Bodies that must panic. -/
noncomputable def PcOk (P : Program) (base : Kp) (w0 : World) (pc : Pcf) : Prop :=
  ∀ c f h kp ρ a w Q n, pc c f h kp = .yes → Emb ρ base w0 h w → FrR ρ f a → DfR ρ f.ds a.defers →
    (∀ v f h ρ' x a w, kp v f h = .yes → Env.le ρ ρ' → Emb ρ' base w0 h w → FrR ρ' f a → DfR ρ' f.ds a.defers → v.real ρ' = some x → Q (.panic (pan x)) a w) → c.wpIn (fen none) n P Q a w
noncomputable def pfOf (P : Program) (pc : Pcf) : Pf := fun g args h kp => match P.funcs[g]? with
  | some fn => match fn.body with
    | some c => match Nat.ble args.length fn.ntmps with
      | true => pc c ⟨frOf args 0 .nil, fn.ntmps, []⟩ h fun v f' h' => match f'.ds with
        | [] => kp v h'
        | _ => .no "deferred calls where it panics"
      | false => .no "slots"
    | none => .no "results or body"
  | none => .no "results or body"
theorem pfOf_ok {pc : Pcf} (H : PcOk P base w0 pc) : PfOk P base w0 (pfOf P pc) := by
  intro g args h kp ρ w xs R hk E hr K
  unfold pfOf at hk
  split at hk
  case h_2 => cases hk
  rename_i fn hfn
  split at hk
  case h_2 => cases hk
  rename_i c hb
  split at hk
  case h_2 => cases hk
  rename_i hle
  have hle := Nat.le_of_ble_eq_true hle
  have hl := reals_len hr
  rw [Array.length_toList] at hl
  refine calls_of_wp_marks hfn hb ((wpIn_wide (n := 0)).1 (H c _ h _ ρ _ w _ 0 hk E (frOf_ok hr (by omega)) rfl ?_))
  intro v f' h' ρ' x a' w' he hle' E' F' hd' hx
  split at he
  case h_2 => cases he
  rename_i hds
  rw [hds] at hd'
  have hd0 : a'.defers = [] := hd'
  show LeavesInM Fence.wide 0 P fn a'.tmps _ a'.defers (.panicking (pan x)) w'
  rw [hd0]
  exact ⟨x, rfl, K v h' ρ' x w' he hle' E' hx⟩
noncomputable def pcF (P : Program) (cf : Cf) (rf : Rf) (pn : List FuncId) (d : Nat) : Pcf := Nat.rec (fun _ _ _ _ => .no "depth") (fun _ ih c f h kp => pcR P pn (pfOf P ih) c ⟨cf, rf, none, 100000⟩ (fun _ _ => .no "no panic") (fun _ _ _ => .no "no panic") (fun _ _ => .no "no panic") kp f h) d
theorem pcF_ok {cf : Cf} {rf : Rf} (C : ∀ base w0, CfOk P base w0 cf) (D : ∀ base w0, RfOk P base w0 rf) (pn : List FuncId) : ∀ d, PcOk P base w0 (pcF P cf rf pn d)
  | 0 => fun _ _ _ _ _ _ _ _ _ hk => by cases hk
  | d + 1 => fun c f h kp ρ a w Q n hk E F hd KP => by
    refine pcR_ok (pfOf_ok (pcF_ok C D pn d)) c ⟨cf, rf, none, 100000⟩ C D _ _ _ kp f h ρ a w Q none n hk rfl E F hd ?_ KP
    intro e f h ρ' a w q1
    cases e <;> cases q1
noncomputable def isRec (o : Oper) : Bool := match o.guard with
  | some _ => false
  | none => match o.op with
    | .call ⟨.builtin .recover, ⟨[]⟩, ⟨[]⟩⟩ => true
    | _ => false
theorem isRec_ok {o : Oper} (h : isRec o = true) : o.guard = none ∧ o.op = Op.call { callee := Callee.builtin Builtin.recover, args := #[], argTypes := #[] } := by
  unfold isRec at h
  split at h
  · cases h
  · rename_i hg
    split at h
    · rename_i ho
      exact ⟨hg, ho⟩
    · cases h
theorem recovers {F : Fence} {n : Nat} {id : Nat} {o : Oper} {Q : Exit → Act → List Frame → World → Prop} {a : Act} {cs cs' : List Frame} {w : World} {v : Value} (ho : o.op = Op.call { callee := Callee.builtin Builtin.recover, args := #[], argTypes := #[] }) (hg : o.guard = none)
    (hF : ∀ f, F.fn f) (hr : recoverD cs = some (v, cs')) {ops : Array Oper} (hops : ops.toList = [o]) (h : Q .normal (a.put o.dst v) cs' w) : (Code.region id ops false).wpSIn F n P Q a cs w := by
  obtain rfl : ops = #[o] := by apply Array.ext'; exact hops
  refine wpSIn_region ?_
  show wpOpsSIn _ _ _ _ _ [0] _ _ _
  have h0 : (#[o] : Array Oper)[0]? = some o := rfl
  have hrun : (execOp a.eval o).run P w = .ok .recover w := by
    unfold execOp
    simp only [ho]
    rfl
  have hw : Region.wanted o (yielded #[o] a.tmps) = true := by unfold Region.wanted; rw [hg]
  simp only [wpOpsSIn, h0]
  refine ⟨fun f _ => hF f, ?_⟩
  rw [if_pos hw, hrun, hr]
  exact h
/-- A deferred function recovers at its beginning. -/
noncomputable def evRecover (P : Program) (ec : Ecf) : FuncId → List AV → AV → Hp → (Hp → Ans) → Ans := fun g args v h kk => match P.funcs[g]? with
  | some fn => match fn.body with
    | some (.seq (.region _ ops false) c) => match ops.toList with
      | [o] => match isRec o with
        | true => match Nat.ble args.length fn.ntmps with
          | true => match (⟨frOf args 0 .nil, fn.ntmps, []⟩ : Fr).put o.dst v with
            | some f0 => ec none c f0 h fun e f' h' => match e with
              | .exit _ => .no "exit"
              | _ => match f'.ds with
                | [] => match evResults P fn f' h' with
                  | some _ => kk h'
                  | none => .no "results or body"
                | _ => .no "deferred calls in a deferred call"
            | none => .no "slots"
          | false => .no "slots"
        | false => .no "it does not recover"
      | _ => .no "it does not recover"
    | _ => .no "it does not recover"
  | none => .no "results or body"
theorem evRecover_ok {ec : Ecf} (H : EcOk P base w0 ec) {g : FuncId} {args : List AV} {v : AV} {h : Hp} {kk : Hp → Ans} {ρ : Env} {w : World} {xs : Array Value} {x : Value} {R : World → Prop} (hk : evRecover P ec g args v h kk = .yes) (E : Emb ρ base w0 h w) (hr : AV.reals ρ args = some xs.toList) (hv : v.real ρ = some x)
    (K : ∀ h' ρ' w', kk h' = .yes → Env.le ρ ρ' → Emb ρ' base w0 h' w' → R w') :
    CallsDIn Fence.wide 0 P g xs (.panicking (pan x)) w fun e u' w' => (∃ r, e = .returned r) ∧ u' = .panicking [{ v := x, recovered := true }] ∧ R w' := by
  unfold evRecover at hk
  split at hk
  case h_2 => cases hk
  rename_i fn hfn
  split at hk
  case h_2 => cases hk
  rename_i id ops c hb
  split at hk
  case h_2 => cases hk
  rename_i o hops
  split at hk
  case h_2 => cases hk
  rename_i hrec
  obtain ⟨hg, ho⟩ := isRec_ok hrec
  split at hk
  case h_2 => cases hk
  rename_i hle
  have hle := Nat.le_of_ble_eq_true hle
  have hl := reals_len hr
  rw [Array.length_toList] at hl
  split at hk
  case h_2 => cases hk
  rename_i f0 hf0
  refine callsDIn_of_wpSIn (F := Fence.wide) hfn hb trivial fun c₀ cs hc => ?_
  have hrd : recoverD (c₀ :: cs) = some (x, { c₀ with mode := .panicking [{ v := x, recovered := true }] } :: cs) := by
    simp [recoverD, hc, pan]
  refine wpSIn_seq (recovers ho hg (fun _ => trivial) hrd hops ?_)
  have F0 := frOf_ok (n := fn.ntmps) hr (by omega)
  have hds : f0.ds = [] := Fr.put_ds hf0
  refine wpSIn_of_wpIn rfl (H none c f0 h _ ρ _ w _ none 0 hk rfl E (F0.put hv hf0) (by rw [hds, put_defers]; exact rfl) ?_)
  intro e f' h' ρ' a' w' he hle' E' F' hd'
  have key : (match f'.ds with
      | [] => match evResults P fn f' h' with
        | some _ => kk h'
        | none => .no "results or body"
      | _ => .no "deferred calls in a deferred call") = .yes → a'.defers = [] ∧ ∃ u', ({ c₀ with mode := .panicking [{ v := x, recovered := true }] } :: cs : List Frame) = { c₀ with mode := u' } :: cs ∧ ∃ r, (results fn a'.tmps).run P w' = .ok r w' ∧ (∃ r', Ending.returned r = .returned r') ∧ u' = .panicking [{ v := x, recovered := true }] ∧ R w' := fun he => by
    split at he
    case h_2 => cases he
    rename_i hds'
    split at he
    case h_2 => cases he
    rename_i y hy
    rw [hds'] at hd'
    obtain ⟨r, hr1, _⟩ := evResults_ok E' F' hy
    exact ⟨hd', _, rfl, r, hr1, ⟨r, rfl⟩, rfl, K h' ρ' w' he hle' E'⟩
  cases e with
  | normal => exact key he
  | ret => exact key he
  | exit id => cases he
/-- A function whose body must panic, and whose deferred call recovers. -/
noncomputable def evEnterP (P : Program) (rc : List FuncId) (ec : Ecf) (pc : Pcf) : Cf := fun g args h kk => match P.funcs[g]? with
  | some fn => match fn.body with
    | some c => match Nat.ble args.length fn.ntmps with
      | true => pc c ⟨frOf args 0 .nil, fn.ntmps, []⟩ h fun v f' h' => match f'.ds with
        | .call g args :: r => match evCallFn P h' g args with
          | .enter g' args' => evRecover P ec g' args' v h' fun h2 => evExit P rc ec r h2 fun h3 => match evResults P fn f' h3 with
            | some y => kk y h3
            | none => .no "results or body"
          | _ => .no "a deferred call"
        | _ => .no "nothing recovers"
      | false => .no "slots"
    | none => .no "results or body"
  | none => .no "results or body"
theorem evEnterP_ok {rc : List FuncId} (hrc : Rec P rc) {ec : Ecf} (H : EcOk P base w0 ec) {pc : Pcf} (HP : PcOk P base w0 pc) : CfOk P base w0 (evEnterP P rc ec pc) := by
  intro g args h kk ρ w xs R hk E hr K
  unfold evEnterP at hk
  split at hk
  case h_2 => cases hk
  rename_i fn hfn
  split at hk
  case h_2 => cases hk
  rename_i c hb
  split at hk
  case h_2 => cases hk
  rename_i hle
  have hle := Nat.le_of_ble_eq_true hle
  have hl := reals_len hr
  rw [Array.length_toList] at hl
  refine calls_of_wp_marks hfn hb ((wpIn_wide (n := 0)).1 (HP c _ h _ ρ _ w _ 0 hk E (frOf_ok hr (by omega)) rfl ?_))
  intro v f' h' ρ' x a' w' he hle' E' F' hd' hx
  show LeavesInM Fence.wide 0 P fn a'.tmps _ a'.defers (.panicking (pan x)) w'
  split at he
  case h_2 => cases he
  rename_i g1 args1 r hds
  split at he
  case h_2 => cases he
  rename_i g' args' hcf
  rw [hds] at hd'
  obtain ⟨ys, cap, D', h1, h2, h3⟩ := hd'
  rw [h2]
  have hop := evCallFn_ok (P := P) E' (g := g1) (args := args1) (xs := ys.toArray ++ cap.toArray) (by rw [h1]; simp)
  rw [hcf] at hop
  obtain ⟨zs, hrun, hzs⟩ := hop
  have hin : (invoke (.fn (.func g1) cap.toArray) ys.toArray).run P w' = .ok (.enter g' zs) w' := by simpa [invoke] using hrun
  refine ⟨by simp, .inr ⟨fun hh => (by cases hh), .func g1, cap.toArray, g', zs, rfl, hin, fun _ _ => trivial, ?_⟩⟩
  refine (evRecover_ok H (R := fun w' => LeavesInM Fence.wide 0 P fn a'.tmps (fun e w' => ∃ x, e = .returned x ∧ R x w') D' .returning w') he E' hzs hx ?_).mono ?_
  · intro h2 ρ2 w2 q1 q2 q3
    refine leaves_exit hrc H r D' h2 ρ2 w2 (h3.mono q2) q3 q1 fun h3 ρ3 w3 r1 r2 r3 => ?_
    split at r1
    case h_2 => cases r1
    rename_i y hy
    obtain ⟨z, hz, hzr⟩ := evResults_ok r3 (F'.mono (Env.le_trans q2 r2)) hy
    exact ⟨z, hz, z, rfl, K y h3 ρ3 z w3 r1 (Env.le_trans hle' (Env.le_trans q2 r2)) r3 hzr⟩
  · rintro e u' w'' ⟨⟨y, rfl⟩, rfl, hR⟩
    exact hR
noncomputable def orA (a b : Ans) : Ans := match a with
  | .yes => .yes
  | .no _ => b
  | .at _ => b
  | .got _ _ => b
theorem orA_yes {a b : Ans} (h : orA a b = .yes) : a = .yes ∨ b = .yes := by
  cases a with
  | yes => exact .inl rfl
  | _ => exact .inr h
/-- Some functions are tried a second time, as such that must recover. -/
noncomputable def evEnter5 (P : Program) (kh : FuncId → List AV → Nat → Option (AV × Hp)) (kn : FuncId → List AV → Option AV) (rc fc : List FuncId) (ec : Ecf) (pc : Pcf) : Cf := fun g args h kk => match inF g fc with
  | true => orA (evEnter4 P kh kn rc ec g args h kk) (evEnterP P rc ec pc g args h kk)
  | false => evEnter4 P kh kn rc ec g args h kk
theorem evEnter5_ok {kh : FuncId → List AV → Nat → Option (AV × Hp)} (hkh : KhOk P kh) {kn : FuncId → List AV → Option AV} (hkn : KnOk P kn) {rc : List FuncId} (hrc : Rec P rc) (fc : List FuncId) {ec : Ecf} (H : EcOk P base w0 ec) {pc : Pcf} (HP : PcOk P base w0 pc) : CfOk P base w0 (evEnter5 P kh kn rc fc ec pc) := by
  intro g args h kk ρ w xs R hk E hr K
  unfold evEnter5 at hk
  split at hk
  · rcases orA_yes hk with hk | hk
    · exact evEnter4_ok hkh hkn hrc H g args h kk ρ w xs R hk E hr K
    · exact evEnterP_ok hrc H HP g args h kk ρ w xs R hk E hr K
  · exact evEnter4_ok hkh hkn hrc H g args h kk ρ w xs R hk E hr K
noncomputable def pcH (P : Program) (kh : FuncId → List AV → Nat → Option (AV × Hp)) (kn : FuncId → List AV → Option AV) (rc pn : List FuncId) : Pcf := pcF P (evEnter4 P kh kn rc (ecH P kh kn rc 100)) (evRound P (ecH P kh kn rc 100)) pn 100
noncomputable def ecP (P : Program) (kh : FuncId → List AV → Nat → Option (AV × Hp)) (kn : FuncId → List AV → Option AV) (rc fc pn : List FuncId) (d : Nat) : Ecf := Nat.rec (fun _ _ _ _ _ => .no "depth") (fun _ ih ro c f h k => compC P c ⟨evEnter5 P kh kn rc fc ih (pcH P kh kn rc pn), evRound P ih, ro, 100000⟩ (k .normal) (fun i => k (.exit i)) (k .ret) f h) d
theorem pcH_ok {kh : FuncId → List AV → Nat → Option (AV × Hp)} (hkh : KhOk P kh) {kn : FuncId → List AV → Option AV} (hkn : KnOk P kn) {rc : List FuncId} (hrc : Rec P rc) (pn : List FuncId) : PcOk P base w0 (pcH P kh kn rc pn) :=
  pcF_ok (fun b w => evEnter4_ok hkh hkn hrc (ecH_ok P hkh hkn hrc b w 100)) (fun b w => evRound_ok (ecH_ok P hkh hkn hrc b w 100)) pn 100
theorem ecP_ok {kh : FuncId → List AV → Nat → Option (AV × Hp)} (hkh : KhOk P kh) {kn : FuncId → List AV → Option AV} (hkn : KnOk P kn) {rc : List FuncId} (hrc : Rec P rc) (fc pn : List FuncId) (base : Kp) (w0 : World) : ∀ d, EcOk P base w0 (ecP P kh kn rc fc pn d)
  | 0 => fun _ _ _ _ _ _ _ _ _ _ _ hk => by cases hk
  | d + 1 => fun ro c f h k ρ a w Q rl nn hk hro E F hd K => by
    have ih := fun base w0 => ecP_ok hkh hkn hrc fc pn base w0 d
    refine compC_ok c ⟨evEnter5 P kh kn rc fc (ecP P kh kn rc fc pn d) (pcH P kh kn rc pn), evRound P (ecP P kh kn rc fc pn d), ro, 100000⟩ (fun b w => evEnter5_ok hkh hkn hrc fc (ih b w) (pcH_ok hkh hkn hrc pn)) (fun b w => evRound_ok (ih b w)) (k .normal) (fun i => k (.exit i)) (k .ret) f h ρ a w Q rl nn hk hro E F hd ?_
    intro e
    cases e <;> exact K _
theorem quick_calls_p {kh : FuncId → List AV → Nat → Option (AV × Hp)} (hkh : KhOk P kh) {kn : FuncId → List AV → Option AV} (hkn : KnOk P kn) {rc : List FuncId} (hrc : Rec P rc) (fc pn : List FuncId) {g : FuncId} {d : Nat} {p : AV → Ans} (xs : List Value) (h : evEnter4 P kh kn rc (ecP P kh kn rc fc pn d) g (xs.map .v) ⟨.nil, 0⟩ (fun v _ => p v) = .yes) (w : World) {R : Value → Prop} (hp : ∀ v ρ x, p v = .yes → v.real ρ = some x → R x) :
    Calls P g xs.toArray w fun e w' => (∃ x, e = .returned x ∧ R x) ∧ Below w.heap.size w w' := by
  refine (evEnter4_ok hkh hkn hrc (ecP_ok hkh hkn hrc fc pn ⟨w.heap.size, fun _ => False⟩ w d) g (xs.map .v) ⟨.nil, 0⟩ _ _ w xs.toArray (fun x w' => R x ∧ Below w.heap.size w w') h (emb_start w) (reals_v _ _) fun v h' ρ' x w' q1 q2 q3 q4 => ⟨hp v ρ' x q1 q4, q3.below⟩).mono ?_
  rintro e w' ⟨x, rfl, h1, h2⟩
  exact ⟨⟨x, rfl, h1⟩, h2⟩
end
end Go.Proofs.YtnpdnlnglahicaaGreatDoor
