/- A reckoner of closed runs, 18b: operations of a drawn region that make rows of their own, whenever they are carried out: heaps beside the heap. Nothing of the program is used here. -/
import Derived.Test.YtcakdjnnfonijaaEvEnd
namespace Go.Proofs.Ytcakdjnnfonijaa
open Go.RowKit

section
variable {ρ ρ' : Env} {base : Kp} {w0 w w' : World} {h h' : Hp}
/-- Some blocks are kept from here on, too. -/
theorem Emb.rebase (E : Emb ρ base w0 h w) (X : Nat → Prop) (hX : ∀ b, X b → b < w.heap.size) (hl : ∀ id l, h.get id ≠ .gone → ρ id = some l → ¬ X l.blk) : Emb ρ ⟨base.n, fun b => base.B b ∨ X b⟩ w h w :=
  ⟨Below.refl _ _, E.bw, fun b hb => ⟨hb.elim (fun h => (E.kept b h).1) (hX b), rfl⟩, E.fresh,
    fun id hid => let ⟨l, h1, h2, h3⟩ := E.live id hid; ⟨l, h1, ⟨h2.1, fun hb => hb.elim h2.2 (hl id l hid h1)⟩, h3⟩, E.apart⟩
theorem Emb.unbase {X : Nat → Prop} (E : Emb ρ base w0 h w) (E' : Emb ρ' ⟨base.n, fun b => base.B b ∨ X b⟩ w h' w') : Emb ρ' base w0 h' w' :=
  ⟨E.below.trans E'.below, E'.bw, fun b hb => ⟨(E'.kept b (.inl hb)).1, (E'.kept b (.inl hb)).2.trans (E.kept b hb).2⟩, E'.fresh,
    fun id hid => let ⟨l, h1, h2, h3⟩ := E'.live id hid; ⟨l, h1, ⟨h2.1, fun hb => h2.2 (.inl hb)⟩, h3⟩, E'.apart⟩
/-- What is beside the heap is changed. -/
theorem Emb.stay {X : Nat → Prop} (E : Emb ρ base w0 h w) (hk : KeepA X w w') (hB : ∀ b, X b → base.ok b) (hl : ∀ id l, h.get id ≠ .gone → ρ id = some l → ¬ X l.blk) : Emb ρ base w0 h w' :=
  ⟨E.below.trans (hk.below E.bw fun b hb => (hB b hb).1), Nat.le_trans E.bw hk.size,
    fun b hb => ⟨Nat.lt_of_lt_of_le (E.kept b hb).1 hk.size, (hk.same b (E.kept b hb).1 fun hx => (hB b hx).2 hb).trans (E.kept b hb).2⟩,
    fun id l hl' => ⟨(E.fresh id l hl').1, Nat.lt_of_lt_of_le (E.fresh id l hl').2 hk.size⟩,
    fun id hid => let ⟨l, h1, h2, h3⟩ := E.live id hid; ⟨l, h1, h2, by rw [hk.same l.blk (E.fresh id l h1).2 (hl id l hid h1)]; exact h3⟩, E.apart⟩
/-- A block beside the heap is taken in. -/
theorem Emb.adopt (E : Emb ρ base w0 h w) (l : Loc) (hlt : l.blk < w.heap.size) (hok : base.ok l.blk) (hl : ∀ id l', h.get id ≠ .gone → ρ id = some l' → l'.blk ≠ l.blk) (b : Blk) (hr : BlkR (ρ.add h.nx l) l b w.heap[l.blk]?) :
    Emb (ρ.add h.nx l) base w0 (h.new b) w := by
  have hn := E.fresh0
  have hgo : ∀ j, j ≠ h.nx → (h.new b).get j = h.get j := fun j e => by rw [Hp.get_new, if_neg e]
  have hadd : ∀ j, j ≠ h.nx → ρ.add h.nx l j = ρ j := fun j e => by unfold Env.add; rw [if_neg e]
  refine ⟨E.below, E.bw, E.kept, fun j l0 hj => ?_, fun j hj => ?_, fun j j' l0 l0' hj hj' h0 h0' e => ?_⟩
  · by_cases e : j = h.nx
    · subst e
      rw [add_self] at hj
      obtain rfl := Option.some.inj hj
      exact ⟨Nat.lt_succ_self _, hlt⟩
    · rw [hadd j e] at hj
      have := E.fresh j l0 hj
      exact ⟨Nat.lt_succ_of_lt this.1, this.2⟩
  · by_cases e : j = h.nx
    · subst e
      rw [Hp.get_new, if_pos rfl]
      exact ⟨l, add_self _ _ _, hok, hr⟩
    · rw [hgo j e] at hj ⊢
      obtain ⟨l0, hl0, hb0, hr0⟩ := E.live j hj
      exact ⟨l0, by rw [hadd j e]; exact hl0, hb0, hr0.mono (Env.le_add hn)⟩
  · by_cases e1 : j = h.nx
    · by_cases e2 : j' = h.nx
      · rw [e1, e2]
      · rw [e1, add_self] at h0
        obtain rfl := Option.some.inj h0
        rw [hadd j' e2] at h0'
        rw [hgo j' e2] at hj'
        exact absurd e.symm (hl j' l0' hj' h0')
    · by_cases e2 : j' = h.nx
      · rw [e2, add_self] at h0'
        obtain rfl := Option.some.inj h0'
        rw [hadd j e1] at h0
        rw [hgo j e1] at hj
        exact absurd e (hl j l0 hj h0)
      · rw [hadd j e1] at h0
        rw [hadd j' e2] at h0'
        rw [hgo j e1] at hj
        rw [hgo j' e2] at hj'
        exact E.apart j j' l0 l0' hj hj' h0 h0' e
end
/-- The one name of a heap beside. -/
def one (l : Option Loc) : Env := fun id => if id = 0 then l else none
noncomputable def hpOf : Option Blk → Hp
  | none => ⟨.nil, 0⟩
  | some b => ⟨Tr.nil.set 0 b, 1⟩
theorem hpOf_none (id : Nat) : (hpOf none).get id = .gone := by
  show ((Tr.nil : Tr Blk).get id).getD .gone = _
  rw [Tr.get_nil]
  rfl
theorem hpOf_some (b : Blk) (id : Nat) : (hpOf (some b)).get id = if id = 0 then b else .gone := by
  show (((Tr.nil : Tr Blk).set 0 b).get id).getD .gone = _
  rw [Tr.get_set, Tr.get_nil]
  split <;> rfl
noncomputable def flatBlk : Blk → Bool
  | .cells ⟨.nil, _⟩ _ _ _ => true
  | _ => false
theorem flat_real {b : Blk} (hf : flatBlk b = true) {ρ ρ' : Env} {l : Loc} {o : Option Obj} (h : BlkR ρ l b o) : BlkR ρ' l b o := by
  unfold flatBlk at hf
  split at hf
  · rename_i N n e opn
    obtain ⟨C, fz, h1, h2, h3, h4, h5, h6⟩ := h
    refine ⟨C, fz, h1, h2, h3, h4, h5, fun i a hi => ?_⟩
    obtain ⟨x, hx, hc⟩ := h6 i a hi
    refine ⟨x, ?_, hc⟩
    obtain ⟨_, rfl⟩ := cellAt_some hi
    rw [Cl.at_nil] at hx ⊢
    exact hx
  · cases hf
theorem flat_live {b : Blk} (hf : flatBlk b = true) : b ≠ .gone := fun e => by rw [e] at hf; cases hf
/-- A heap beside lies in a world. -/
def PB (l : Option Loc) (b : Option Blk) (w : World) : Prop := (l = none ∧ b = none) ∨ ∃ l0 b0, l = some l0 ∧ b = some b0 ∧ flatBlk b0 = true ∧ l0.blk < w.heap.size ∧ ∀ ρ, BlkR ρ l0 b0 w.heap[l0.blk]?
def besB (l : Option Loc) (w : World) : Kp := ⟨0, fun k => k < w.heap.size ∧ ∀ l0, l = some l0 → k ≠ l0.blk⟩
theorem PB.emb {l : Option Loc} {b : Option Blk} {w : World} (h : PB l b w) : Emb (one l) (besB l w) w (hpOf b) w := by
  rcases h with ⟨rfl, rfl⟩ | ⟨l0, b0, rfl, rfl, hf, hlt, hr⟩
  · refine ⟨Below.refl _ _, Nat.zero_le _, fun b hb => ⟨hb.1, rfl⟩, fun id l hl => ?_, fun id hid => absurd (hpOf_none id) hid, fun id id' l l' hid => absurd (hpOf_none id) hid⟩
    unfold one at hl
    split at hl <;> cases hl
  · have h1 : ∀ id, (hpOf (some b0)).get id ≠ .gone → id = 0 := fun id hid => by
      rw [hpOf_some] at hid
      by_cases e : id = 0
      · exact e
      · rw [if_neg e] at hid; exact absurd rfl hid
    refine ⟨Below.refl _ _, Nat.zero_le _, fun b hb => ⟨hb.1, rfl⟩, fun id l hl => ?_, fun id hid => ?_, fun id id' l l' hid hid' _ _ _ => by rw [h1 id hid, h1 id' hid']⟩
    · unfold one at hl
      split at hl
      · rename_i e
        subst e
        obtain rfl := Option.some.inj hl
        exact ⟨Nat.zero_lt_one, hlt⟩
      · cases hl
    · obtain rfl := h1 id hid
      refine ⟨l0, rfl, ⟨Nat.zero_le _, fun hb => hb.2 l0 rfl rfl⟩, ?_⟩
      rw [hpOf_some, if_pos rfl]
      exact hr _
noncomputable def isSlc0 : AV → Bool
  | .slc id _ _ _ _ => Nat.beq id 0
  | _ => false
/-- One operation, beside. -/
noncomputable def pStep (P : Program) (f : Fr) (b : Option Blk) (o : Oper) : Option (Fr × Blk) := match o.guard with
  | some _ => none
  | none => match evOp P f (hpOf b) o with
    | .val v h' => match flatBlk (h'.get 0) with
      | true => match isSlc0 v with
        | true => match f.put o.dst v with
          | some f' => some (f', h'.get 0)
          | none => none
        | false => none
      | false => none
    | _ => none
theorem slc0_real {v : AV} (h : isSlc0 v = true) {ρ ρ' : Env} {x : Value} (hx : v.real ρ = some x) (he : ρ 0 = ρ' 0) : v.real ρ' = some x := by
  unfold isSlc0 at h
  split at h
  · have := Nat.eq_of_beq_eq_true h
    subst this
    simp only [AV.real] at hx ⊢
    rw [← he]
    exact hx
  · cases h
theorem pStep_ok {P : Program} {f f' : Fr} {b : Option Blk} {b' : Blk} {o : Oper} (hs : pStep P f b o = some (f', b')) {l : Option Loc} {w : World} (hp : PB l b w) {ag a : Act} (F : FrR (one l) f ag) (hea : execOp ag.eval o = execOp a.eval o)
    {rl : Option Nat} {n : Nat} {Q : Exit → Act → World → Prop} {next : Act → World → Prop}
    (H : ∀ w' x l', KeepA (fun k => ∃ l0, l = some l0 ∧ k = l0.blk) w w' → (∀ l0, l = some l0 → l' = l0) → (l = none → w.heap.size ≤ l'.blk) → PB (some l') (some b') w' → FrR (one (some l')) f' (ag.put o.dst x) → next (a.put o.dst x) w') :
    o.guard = none ∧ o.wpIn (fen rl) n P a w next Q := by
  unfold pStep at hs
  split at hs
  · cases hs
  rename_i hgd
  refine ⟨hgd, ?_⟩
  split at hs
  case h_2 => cases hs
  rename_i v h' hev
  split at hs
  case h_2 => cases hs
  rename_i hfl
  split at hs
  case h_2 => cases hs
  rename_i hsl
  split at hs
  case h_2 => cases hs
  rename_i f'' hput
  obtain ⟨rfl, rfl⟩ := Prod.mk.inj (Option.some.inj hs)
  have hC : CfOk P (besB l w) w (fun _ _ _ _ => .no "") := fun _ _ _ _ _ _ _ _ hk => by cases hk
  have hD : RfOk P (besB l w) w (fun _ _ _ _ => .no "") := fun _ _ _ _ _ _ _ _ _ _ hk => by cases hk
  refine evOp_step hC hD hp.emb F hea (fun e => by rw [e] at hev; cases hev) (fun v2 h2 ρ' w' x hr hx hle E' => ?_) (fun h2 ρ' w' hr => by rw [hr] at hev; cases hev) (fun _ _ => .no "") (fun g args hr => by rw [hr] at hev; cases hev) (fun id args hr => by rw [hr] at hev; cases hev) (fun _ _ _ _ _ hk => by cases hk) (fun l p ρ' w' x hr => by rw [hr] at hev; cases hev)
  rw [hr] at hev
  obtain ⟨rfl, rfl⟩ : v2 = v ∧ h2 = h' := by cases hev; exact ⟨rfl, rfl⟩
  obtain ⟨l', hl', hok, hb'⟩ := E'.live 0 (flat_live hfl)
  have h1 : ∀ l0, l = some l0 → l' = l0 := fun l0 e => by
    have := hle 0 l0 (by rw [e]; rfl)
    exact Option.some.inj (hl'.symm.trans this)
  have hvr : v2.real (one (some l')) = some x := slc0_real hsl hx (by rw [hl']; rfl)
  have hle1 : Env.le (one l) (one (some l')) := fun id l0 e => by
    unfold one at e ⊢
    split at e
    · rename_i hid
      rw [if_pos hid, h1 l0 e]
    · cases e
  refine H w' x l' ⟨E'.below.os, E'.below.tape, E'.below.output, E'.below.size, fun k hk hx => (E'.kept k ⟨hk, fun l0 e e2 => hx ⟨l0, e, e2⟩⟩).2⟩ h1 (fun e => ?_) (.inr ⟨l', _, rfl, rfl, hfl, (E'.fresh 0 l' hl').2, fun ρ => flat_real hfl hb'⟩) ((F.mono hle1).put hvr hput)
  refine Nat.le_of_not_lt fun hlt => hok.2 ⟨hlt, fun l0 e2 => ?_⟩
  rw [e] at e2
  cases e2
/-- A heap beside stays. -/
theorem PB.stay {l : Option Loc} {b : Option Blk} {w w' : World} (h : PB l b w) (hs : w.heap.size ≤ w'.heap.size) (hk : ∀ l0, l = some l0 → w'.heap[l0.blk]? = w.heap[l0.blk]?) : PB l b w' := by
  rcases h with ⟨rfl, rfl⟩ | ⟨l0, b0, rfl, rfl, hf, hlt, hr⟩
  · exact .inl ⟨rfl, rfl⟩
  · exact .inr ⟨l0, b0, rfl, rfl, hf, Nat.lt_of_lt_of_le hlt hs, fun ρ => by rw [hk l0 rfl]; exact hr ρ⟩
end Go.Proofs.Ytcakdjnnfonijaa
