/- A reckoner of closed runs, 18b: operations of a drawn region that make rows of their own, whenever they are carried out: heaps beside the heap. Nothing of the program is used here. / A reckoner of closed runs, 18c: groups of operations that are reckoned beside. Nothing of the program is used here. / A reckoner of closed runs, 18d: a group is taken in. Nothing of the program is used here. / A reckoner of closed runs, 18e: drawn regions in which groups are reckoned beside. Nothing of the program is used here. / A reckoner of closed runs, 18f: every order of a region with groups comes to one end. Nothing of the program is used here. / A reckoner of closed runs, 18g: every order of a region with groups comes to one end, proved. Nothing of the program is used here. / A reckoner of closed runs, 18h: which operations of a region are reckoned beside. Nothing of the program is used here. -/
import Derived.Test.YtcakdjnnfonijaaEvHi
namespace Go.Proofs.Ytcakdjnnfonijaa
open Go.RowKit

section
variable {ρ ρ' : Env} {base : Kp} {w0 w w' : World} {h h' : Hp}
/-- Some blocks are kept from here on, too. -/
theorem Emb.rebase (E : Emb ρ base w0 h w) (X : Nat → Prop) (hX : ∀ b, X b → b < w.heap.size) (hl : ∀ id l, h.get id ≠ .gone → ρ id = some l → ¬ X l.blk) : Emb ρ ⟨base.n, fun b => base.B b ∨ X b⟩ w h w :=
  ⟨Below.refl _ _, E.bw, fun b hb => ⟨hb.elim (fun h => (E.kept b h).1) (hX b), rfl⟩, E.fresh,
    fun id hid => let ⟨l, h1, h2, h3⟩ := E.live id hid; ⟨l, h1, ⟨h2.1, fun hb => hb.elim h2.2 (hl id l hid h1)⟩, h3⟩, E.apart⟩
theorem Emb.unbase {X : Nat → Prop} (E : Emb ρ base w0 h w) (E' : Emb ρ' ⟨base.n, fun b => base.B b ∨ X b⟩ w h' w') : Emb ρ' base w0 h' w' :=
  ⟨E.below.trans E'.below, E'.bw, fun b hb => ⟨(E'.kept b (.inl hb)).1, (E'.kept b (.inl hb)).2.trans (E.kept b hb).2⟩, E'.fresh,
    fun id hid => let ⟨l, h1, h2, h3⟩ := E'.live id hid; ⟨l, h1, ⟨h2.1, fun hb => h2.2 (.inl hb)⟩, h3⟩, E'.apart⟩
/-- What is beside the heap is changed. -/
theorem Emb.stay {X : Nat → Prop} (E : Emb ρ base w0 h w) (hk : KeepA X w w') (hB : ∀ b, X b → base.ok b) (hl : ∀ id l, h.get id ≠ .gone → ρ id = some l → ¬ X l.blk) : Emb ρ base w0 h w' :=
  ⟨E.below.trans (hk.below E.bw fun b hb => (hB b hb).1), Nat.le_trans E.bw hk.size,
    fun b hb => ⟨Nat.lt_of_lt_of_le (E.kept b hb).1 hk.size, (hk.same b (E.kept b hb).1 fun hx => (hB b hx).2 hb).trans (E.kept b hb).2⟩,
    fun id l hl' => ⟨(E.fresh id l hl').1, Nat.lt_of_lt_of_le (E.fresh id l hl').2 hk.size⟩,
    fun id hid => let ⟨l, h1, h2, h3⟩ := E.live id hid; ⟨l, h1, h2, by rw [hk.same l.blk (E.fresh id l h1).2 (hl id l hid h1)]; exact h3⟩, E.apart⟩
/-- A block beside the heap is taken in. -/
theorem Emb.adopt (E : Emb ρ base w0 h w) (l : Loc) (hlt : l.blk < w.heap.size) (hok : base.ok l.blk) (hl : ∀ id l', h.get id ≠ .gone → ρ id = some l' → l'.blk ≠ l.blk) (b : Blk) (hr : BlkR (ρ.add h.nx l) l b w.heap[l.blk]?) :
    Emb (ρ.add h.nx l) base w0 (h.new b) w := by
  have hn := E.fresh0
  have hgo : ∀ j, j ≠ h.nx → (h.new b).get j = h.get j := fun j e => by rw [Hp.get_new, if_neg e]
  have hadd : ∀ j, j ≠ h.nx → ρ.add h.nx l j = ρ j := fun j e => by unfold Env.add; rw [if_neg e]
  refine ⟨E.below, E.bw, E.kept, fun j l0 hj => ?_, fun j hj => ?_, fun j j' l0 l0' hj hj' h0 h0' e => ?_⟩
  · by_cases e : j = h.nx
    · subst e
      rw [add_self] at hj
      obtain rfl := Option.some.inj hj
      exact ⟨Nat.lt_succ_self _, hlt⟩
    · rw [hadd j e] at hj
      have := E.fresh j l0 hj
      exact ⟨Nat.lt_succ_of_lt this.1, this.2⟩
  · by_cases e : j = h.nx
    · subst e
      rw [Hp.get_new, if_pos rfl]
      exact ⟨l, add_self _ _ _, hok, hr⟩
    · rw [hgo j e] at hj ⊢
      obtain ⟨l0, hl0, hb0, hr0⟩ := E.live j hj
      exact ⟨l0, by rw [hadd j e]; exact hl0, hb0, hr0.mono (Env.le_add hn)⟩
  · by_cases e1 : j = h.nx
    · by_cases e2 : j' = h.nx
      · rw [e1, e2]
      · rw [e1, add_self] at h0
        obtain rfl := Option.some.inj h0
        rw [hadd j' e2] at h0'
        rw [hgo j' e2] at hj'
        exact absurd e.symm (hl j' l0' hj' h0')
    · by_cases e2 : j' = h.nx
      · rw [e2, add_self] at h0'
        obtain rfl := Option.some.inj h0'
        rw [hadd j e1] at h0
        rw [hgo j e1] at hj
        exact absurd e (hl j l0 hj h0)
      · rw [hadd j e1] at h0
        rw [hadd j' e2] at h0'
        rw [hgo j e1] at hj
        rw [hgo j' e2] at hj'
        exact E.apart j j' l0 l0' hj hj' h0 h0' e
end
/-- The one name of a heap beside. -/
def one (l : Option Loc) : Env := fun id => if id = 0 then l else none
noncomputable def hpOf : Option Blk → Hp
  | none => ⟨.nil, 0⟩
  | some b => ⟨Tr.nil.set 0 b, 1⟩
theorem hpOf_none (id : Nat) : (hpOf none).get id = .gone := by
  show ((Tr.nil : Tr Blk).get id).getD .gone = _
  rw [Tr.get_nil]
  rfl
theorem hpOf_some (b : Blk) (id : Nat) : (hpOf (some b)).get id = if id = 0 then b else .gone := by
  show (((Tr.nil : Tr Blk).set 0 b).get id).getD .gone = _
  rw [Tr.get_set, Tr.get_nil]
  split <;> rfl
noncomputable def flatBlk : Blk → Bool
  | .cells ⟨.nil, _⟩ _ _ _ => true
  | _ => false
theorem flat_real {b : Blk} (hf : flatBlk b = true) {ρ ρ' : Env} {l : Loc} {o : Option Obj} (h : BlkR ρ l b o) : BlkR ρ' l b o := by
  unfold flatBlk at hf
  split at hf
  · rename_i N n e opn
    obtain ⟨C, fz, h1, h2, h3, h4, h5, h6⟩ := h
    refine ⟨C, fz, h1, h2, h3, h4, h5, fun i a hi => ?_⟩
    obtain ⟨x, hx, hc⟩ := h6 i a hi
    refine ⟨x, ?_, hc⟩
    obtain ⟨_, rfl⟩ := cellAt_some hi
    rw [Cl.at_nil] at hx ⊢
    exact hx
  · cases hf
theorem flat_live {b : Blk} (hf : flatBlk b = true) : b ≠ .gone := fun e => by rw [e] at hf; cases hf
/-- A heap beside lies in a world. -/
def PB (l : Option Loc) (b : Option Blk) (w : World) : Prop := (l = none ∧ b = none) ∨ ∃ l0 b0, l = some l0 ∧ b = some b0 ∧ flatBlk b0 = true ∧ l0.blk < w.heap.size ∧ ∀ ρ, BlkR ρ l0 b0 w.heap[l0.blk]?
def besB (l : Option Loc) (w : World) : Kp := ⟨0, fun k => k < w.heap.size ∧ ∀ l0, l = some l0 → k ≠ l0.blk⟩
theorem PB.emb {l : Option Loc} {b : Option Blk} {w : World} (h : PB l b w) : Emb (one l) (besB l w) w (hpOf b) w := by
  rcases h with ⟨rfl, rfl⟩ | ⟨l0, b0, rfl, rfl, hf, hlt, hr⟩
  · refine ⟨Below.refl _ _, Nat.zero_le _, fun b hb => ⟨hb.1, rfl⟩, fun id l hl => ?_, fun id hid => absurd (hpOf_none id) hid, fun id id' l l' hid => absurd (hpOf_none id) hid⟩
    unfold one at hl
    split at hl <;> cases hl
  · have h1 : ∀ id, (hpOf (some b0)).get id ≠ .gone → id = 0 := fun id hid => by
      rw [hpOf_some] at hid
      by_cases e : id = 0
      · exact e
      · rw [if_neg e] at hid; exact absurd rfl hid
    refine ⟨Below.refl _ _, Nat.zero_le _, fun b hb => ⟨hb.1, rfl⟩, fun id l hl => ?_, fun id hid => ?_, fun id id' l l' hid hid' _ _ _ => by rw [h1 id hid, h1 id' hid']⟩
    · unfold one at hl
      split at hl
      · rename_i e
        subst e
        obtain rfl := Option.some.inj hl
        exact ⟨Nat.zero_lt_one, hlt⟩
      · cases hl
    · obtain rfl := h1 id hid
      refine ⟨l0, rfl, ⟨Nat.zero_le _, fun hb => hb.2 l0 rfl rfl⟩, ?_⟩
      rw [hpOf_some, if_pos rfl]
      exact hr _
noncomputable def isSlc0 : AV → Bool
  | .slc id _ _ _ _ => Nat.beq id 0
  | _ => false
/-- One operation, beside. -/
noncomputable def pStep (P : Program) (f : Fr) (b : Option Blk) (o : Oper) : Option (Fr × Blk) := match o.guard with
  | some _ => none
  | none => match evOp P f (hpOf b) o with
    | .val v h' => match flatBlk (h'.get 0) with
      | true => match isSlc0 v with
        | true => match f.put o.dst v with
          | some f' => some (f', h'.get 0)
          | none => none
        | false => none
      | false => none
    | _ => none
theorem slc0_real {v : AV} (h : isSlc0 v = true) {ρ ρ' : Env} {x : Value} (hx : v.real ρ = some x) (he : ρ 0 = ρ' 0) : v.real ρ' = some x := by
  unfold isSlc0 at h
  split at h
  · have := Nat.eq_of_beq_eq_true h
    subst this
    simp only [AV.real] at hx ⊢
    rw [← he]
    exact hx
  · cases h
theorem pStep_ok {P : Program} {f f' : Fr} {b : Option Blk} {b' : Blk} {o : Oper} (hs : pStep P f b o = some (f', b')) {l : Option Loc} {w : World} (hp : PB l b w) {ag a : Act} (F : FrR (one l) f ag) (hea : execOp ag.eval o = execOp a.eval o)
    {rl : Option Nat} {n : Nat} {Q : Exit → Act → World → Prop} {next : Act → World → Prop}
    (H : ∀ w' x l', KeepA (fun k => ∃ l0, l = some l0 ∧ k = l0.blk) w w' → (∀ l0, l = some l0 → l' = l0) → (l = none → w.heap.size ≤ l'.blk) → PB (some l') (some b') w' → FrR (one (some l')) f' (ag.put o.dst x) → next (a.put o.dst x) w') :
    o.guard = none ∧ o.wpIn (fen rl) n P a w next Q := by
  unfold pStep at hs
  split at hs
  · cases hs
  rename_i hgd
  refine ⟨hgd, ?_⟩
  split at hs
  case h_2 => cases hs
  rename_i v h' hev
  split at hs
  case h_2 => cases hs
  rename_i hfl
  split at hs
  case h_2 => cases hs
  rename_i hsl
  split at hs
  case h_2 => cases hs
  rename_i f'' hput
  obtain ⟨rfl, rfl⟩ := Prod.mk.inj (Option.some.inj hs)
  have hC : CfOk P (besB l w) w (fun _ _ _ _ => .no "") := fun _ _ _ _ _ _ _ _ hk => by cases hk
  have hD : RfOk P (besB l w) w (fun _ _ _ _ => .no "") := fun _ _ _ _ _ _ _ _ _ _ hk => by cases hk
  refine evOp_step hC hD hp.emb F hea (fun e => by rw [e] at hev; cases hev) (fun v2 h2 ρ' w' x hr hx hle E' => ?_) (fun h2 ρ' w' hr => by rw [hr] at hev; cases hev) (fun _ _ => .no "") (fun g args hr => by rw [hr] at hev; cases hev) (fun id args hr => by rw [hr] at hev; cases hev) (fun _ _ _ _ _ hk => by cases hk) (fun l p ρ' w' x hr => by rw [hr] at hev; cases hev)
  rw [hr] at hev
  obtain ⟨rfl, rfl⟩ : v2 = v ∧ h2 = h' := by cases hev; exact ⟨rfl, rfl⟩
  obtain ⟨l', hl', hok, hb'⟩ := E'.live 0 (flat_live hfl)
  have h1 : ∀ l0, l = some l0 → l' = l0 := fun l0 e => by
    have := hle 0 l0 (by rw [e]; rfl)
    exact Option.some.inj (hl'.symm.trans this)
  have hvr : v2.real (one (some l')) = some x := slc0_real hsl hx (by rw [hl']; rfl)
  have hle1 : Env.le (one l) (one (some l')) := fun id l0 e => by
    unfold one at e ⊢
    split at e
    · rename_i hid
      rw [if_pos hid, h1 l0 e]
    · cases e
  refine H w' x l' ⟨E'.below.os, E'.below.tape, E'.below.output, E'.below.size, fun k hk hx => (E'.kept k ⟨hk, fun l0 e e2 => hx ⟨l0, e, e2⟩⟩).2⟩ h1 (fun e => ?_) (.inr ⟨l', _, rfl, rfl, hfl, (E'.fresh 0 l' hl').2, fun ρ => flat_real hfl hb'⟩) ((F.mono hle1).put hvr hput)
  refine Nat.le_of_not_lt fun hlt => hok.2 ⟨hlt, fun l0 e2 => ?_⟩
  rw [e] at e2
  cases e2
/-- A heap beside stays. -/
theorem PB.stay {l : Option Loc} {b : Option Blk} {w w' : World} (h : PB l b w) (hs : w.heap.size ≤ w'.heap.size) (hk : ∀ l0, l = some l0 → w'.heap[l0.blk]? = w.heap[l0.blk]?) : PB l b w' := by
  rcases h with ⟨rfl, rfl⟩ | ⟨l0, b0, rfl, rfl, hf, hlt, hr⟩
  · exact .inl ⟨rfl, rfl⟩
  · exact .inr ⟨l0, b0, rfl, rfl, hf, Nat.lt_of_lt_of_le hlt hs, fun ρ => by rw [hk l0 rfl]; exact hr ρ⟩
end Go.Proofs.Ytcakdjnnfonijaa
namespace Go.Proofs.Ytcakdjnnfonijaa
open Go.RowKit

abbrev Grp := List (Nat × Oper)
noncomputable def gStart : Fr × Option Blk := (⟨.nil, 1000000, []⟩, none)
noncomputable def gRun (P : Program) : Grp → Fr × Option Blk → Option (Fr × Option Blk)
  | [], s => some s
  | p :: r, s => match pStep P s.1 s.2 p.2 with
    | some (f', b') => gRun P r (f', some b')
    | none => none
theorem gRun_append (P : Program) : ∀ (x y : Grp) (s : Fr × Option Blk), gRun P (x ++ y) s = (gRun P x s).bind (gRun P y)
  | [], y, s => rfl
  | p :: r, y, s => by
    simp only [List.cons_append, gRun]
    cases pStep P s.1 s.2 p.2 with
    | none => rfl
    | some fb => exact gRun_append P r y _
theorem gRun_at {P : Program} {g : Grp} {s e : Fr × Option Blk} (h : gRun P g s = some e) {m i : Nat} {o : Oper} (hm : g[m]? = some (i, o)) {f : Fr} {b : Option Blk} (ht : gRun P (g.take m) s = some (f, b)) :
    ∃ f' b', pStep P f b o = some (f', b') ∧ gRun P (g.take (m + 1)) s = some (f', some b') := by
  have hlt := (List.getElem?_eq_some_iff.1 hm).1
  have hg : g[m] = (i, o) := (List.getElem?_eq_some_iff.1 hm).2
  have h1 : g = g.take m ++ (i, o) :: g.drop (m + 1) := by
    rw [← hg, List.getElem_cons_drop, List.take_append_drop]
  rw [h1, gRun_append, ht] at h
  simp only [Option.bind_some, gRun] at h
  cases hp : pStep P f b o with
  | none => rw [hp] at h; cases h
  | some fb =>
    obtain ⟨f', b'⟩ := fb
    refine ⟨f', b', rfl, ?_⟩
    rw [List.take_succ_eq_append_getElem hlt, hg, gRun_append, ht]
    simp only [Option.bind_some, gRun, hp]
/-- What is asked of groups. -/
structure LateOk (P : Program) (ops : Array Oper) (gs : List Grp) : Prop where
  mem : ∀ g ∈ gs, ∀ (p i : Nat) (o : Oper), g[p]? = some (i, o) → ops[i]? = some o
  still : ∀ g ∈ gs, ∀ (p i : Nat) (o : Oper), g[p]? = some (i, o) → isStill o = false
  look : ∀ g ∈ gs, ∀ (p i : Nat) (o : Oper), g[p]? = some (i, o) → ∀ t ∈ o.looksAt ops, ∃ (q i' : Nat) (o' : Oper), q < p ∧ g[q]? = some (i', o') ∧ o'.dst = some t
  wait : ∀ g ∈ gs, ∀ (p i : Nat) (o : Oper), g[p]? = some (i, o) → ∀ k, Waits ops i k → ∃ (q : Nat) (o' : Oper), q < p ∧ g[q]? = some (k, o')
  chain : ∀ g ∈ gs, ∀ (p i : Nat) (o : Oper) (i' : Nat) (o' : Oper), g[p]? = some (i, o) → g[p + 1]? = some (i', o') → Waits ops i' i
  outer : ∀ g ∈ gs, ∀ (p i : Nat) (o : Oper), g[p]? = some (i, o) → ∀ j, Waits ops j i → (∃ (q : Nat) (o' : Oper), g[q]? = some (j, o')) ∨ ∀ (q i' : Nat) (o' : Oper), g[q]? = some (i', o') → Waits ops j i'
  nodup : ∀ g ∈ gs, ∀ (p q i : Nat) (o o' : Oper), g[p]? = some (i, o) → g[q]? = some (i, o') → p = q
  disj : ∀ (q q' : Nat) (g g' : Grp), gs[q]? = some g → gs[q']? = some g' → q ≠ q' → ∀ (p p' i : Nat) (o o' : Oper), g[p]? = some (i, o) → g'[p']? = some (i, o') → False
  run : ∀ g ∈ gs, ∃ fe be, gRun P g gStart = some (fe, some be)
/-- How far a group has come, in a world. -/
structure GI (P : Program) (g : Grp) (m : Nat) (l : Option Loc) (listed : Array Bool) (a : Act) (w : World) : Prop where
  cnt : ∀ (p i : Nat) (o : Oper), g[p]? = some (i, o) → (Lst listed i ↔ p < m)
  le : m ≤ g.length
  run : ∃ f b ag, gRun P (g.take m) gStart = some (f, b) ∧ PB l b w ∧ FrR (one l) f ag ∧ ∀ (p i : Nat) (o : Oper) (t : Tmp), p < m → g[p]? = some (i, o) → o.dst = some t → ag.tmps.getD t undef = a.tmps.getD t undef
theorem GI.stay {P : Program} {g : Grp} {m : Nat} {l : Option Loc} {listed listed' : Array Bool} {a a' : Act} {w w' : World} (G : GI P g m l listed a w) (hc : ∀ (p i : Nat) (o : Oper), g[p]? = some (i, o) → (Lst listed' i ↔ Lst listed i))
    (ha : ∀ (p i : Nat) (o : Oper) (t : Tmp), g[p]? = some (i, o) → o.dst = some t → a'.tmps.getD t undef = a.tmps.getD t undef) (hs : w.heap.size ≤ w'.heap.size) (hk : ∀ l0, l = some l0 → w'.heap[l0.blk]? = w.heap[l0.blk]?) : GI P g m l listed' a' w' := by
  obtain ⟨f, b, ag, h1, h2, h3, h4⟩ := G.run
  exact ⟨fun p i o hp => (hc p i o hp).trans (G.cnt p i o hp), G.le, f, b, ag, h1, h2.stay hs hk, h3, fun p i o t hp hg ht => (h4 p i o t hp hg ht).trans (ha p i o t hg ht).symm⟩
/-- A group's next operation is carried out. -/
theorem GI.step {P : Program} {ops : Array Oper} {gs : List Grp} (S : Sound ops) (LO : LateOk P ops gs) {g : Grp} (hg : g ∈ gs) {m : Nat} {l : Option Loc} {listed : Array Bool} {a : Act} {w : World} (G : GI P g m l listed a w) (hsz : listed.size = ops.size)
    {i : Nat} {o : Oper} (hm : g[m]? = some (i, o)) (hd : ∀ t, o.dst = some t → t < a.tmps.size) {rl : Option Nat} {n : Nat} {Q : Exit → Act → World → Prop} {next : Act → World → Prop}
    (H : ∀ w' x l', KeepA (fun k => ∃ l0, l = some l0 ∧ k = l0.blk) w w' → (∀ l0, l = some l0 → l' = l0) → (l = none → w.heap.size ≤ l'.blk) → GI P g (m + 1) (some l') (listed.setIfInBounds i true) (a.put o.dst x) w' → next (a.put o.dst x) w') :
    o.guard = none ∧ o.wpIn (fen rl) n P a w next Q := by
  obtain ⟨f, b, ag, h1, h2, h3, h4⟩ := G.run
  obtain ⟨fe, be, hrun⟩ := LO.run g hg
  obtain ⟨f', b', hs, hr'⟩ := gRun_at hrun hm h1
  have hops := LO.mem g hg m i o hm
  have his := (Array.getElem?_eq_some_iff.1 hops).1
  have hag : ∀ t ∈ o.looksAt ops, ag.tmps.getD t undef = a.tmps.getD t undef := fun t ht => by
    obtain ⟨q, i', o', hq, hgq, ht'⟩ := LO.look g hg m i o hm t ht
    exact h4 q i' o' t hq hgq ht'
  refine pStep_ok hs h2 h3 (exec_agree (S.sel i o hops) hag) fun w' x l' k1 k2 k3 k4 k5 => H w' x l' k1 k2 k3 ⟨fun p i' o' hp => ?_, by have := (List.getElem?_eq_some_iff.1 hm).1; omega, f', some b', _, hr', k4, k5, fun p i' o' t hp hgp ht => ?_⟩
  · rw [lst_set hsz his, G.cnt p i' o' hp]
    constructor
    · rintro (e | e)
      · subst e
        have := LO.nodup g hg p m i' o' o hp hm
        omega
      · omega
    · intro e
      by_cases e2 : p = m
      · subst e2
        rw [hm] at hp
        exact .inl (Prod.mk.inj (Option.some.inj hp)).1.symm
      · exact .inr (by omega)
  · by_cases e2 : p = m
    · subst e2
      rw [hm] at hgp
      obtain ⟨rfl, rfl⟩ := Prod.mk.inj (Option.some.inj hgp)
      have hlt : t < ag.tmps.size := by
        unfold pStep at hs
        split at hs
        · cases hs
        split at hs
        case h_2 => cases hs
        split at hs
        case h_2 => cases hs
        split at hs
        case h_2 => cases hs
        split at hs
        case h_2 => cases hs
        rename_i f'' hput
        rw [h3.1]
        exact ((frput hput).2.1 t ht).2
      rw [ht, put_eq hlt, put_eq (hd t ht)]
    · have hne : o.dst ≠ some t := fun e => by
        have := S.dst i' i o' o t (LO.mem g hg p i' o' hgp) hops ht e
        subst this
        exact e2 (LO.nodup g hg p m i' o' o hgp hm)
      rw [put_ne hne, put_ne hne]
      exact h4 p i' o' t (by omega) hgp ht
end Go.Proofs.Ytcakdjnnfonijaa
namespace Go.Proofs.Ytcakdjnnfonijaa
open Go.RowKit

noncomputable def slcTo (nx : Nat) : AV → Option AV
  | .slc id off len cap ex => match Nat.beq id 0 with
    | true => some (.slc nx off len cap ex)
    | false => none
  | _ => none
theorem slcTo_real {nx : Nat} {v v' : AV} (h : slcTo nx v = some v') {ρ ρ' : Env} {x : Value} (hx : v.real ρ = some x) (he : ρ 0 = ρ' nx) : v'.real ρ' = some x := by
  unfold slcTo at h
  split at h
  · split at h
    · rename_i hb
      have := Nat.eq_of_beq_eq_true hb
      subst this
      obtain rfl := Option.some.inj h
      simp only [AV.real] at hx ⊢
      rw [← he]
      exact hx
    · cases h
  · cases h
noncomputable def adSlots (fe : Fr) (nx : Nat) : Grp → Fr → Option Fr
  | [], f => some f
  | p :: r, f => match p.2.dst with
    | some t => match slcTo nx (fe.get t) with
      | some v => match f.put (some t) v with
        | some f' => adSlots fe nx r f'
        | none => none
      | none => none
    | none => none
def doneAdd : Grp → Nat → Nat
  | [], d => d
  | p :: r, d => doneAdd r (d ||| 2 ^ p.1)
theorem doneAdd_bit : ∀ (r : Grp) (d j : Nat), (doneAdd r d).testBit j = true ↔ (∃ (p : Nat) (o : Oper), r[p]? = some (j, o)) ∨ d.testBit j = true
  | [], d, j => by simp [doneAdd]
  | (i, o) :: r, d, j => by
    simp only [doneAdd]
    rw [doneAdd_bit r, bit_set]
    constructor
    · rintro (⟨p, o', h⟩ | rfl | h)
      · exact .inl ⟨p + 1, o', by simpa using h⟩
      · exact .inl ⟨0, o, rfl⟩
      · exact .inr h
    · rintro (⟨p, o', h⟩ | h)
      · cases p with
        | zero =>
          simp only [List.getElem?_cons_zero, Option.some.injEq, Prod.mk.injEq] at h
          exact .inr (.inl h.1.symm)
        | succ p => exact .inl ⟨p, o', by simpa using h⟩
      · exact .inr (.inr h)
def lstAdd : Grp → Array Bool → Array Bool
  | [], l => l
  | p :: r, l => lstAdd r (l.setIfInBounds p.1 true)
def actAdd (ag : Act) : Grp → Act → Act
  | [], a => a
  | p :: r, a => actAdd ag r (a.put p.2.dst (ag.tmps.getD (p.2.dst.getD 0) undef))
theorem lstAdd_lst {n : Nat} : ∀ (r : Grp) (l : Array Bool) (j : Nat), l.size = n → (∀ (p i : Nat) (o : Oper), r[p]? = some (i, o) → i < n) → (Lst (lstAdd r l) j ↔ (∃ (p : Nat) (o : Oper), r[p]? = some (j, o)) ∨ Lst l j)
  | [], l, j, hs, hi => by simp [lstAdd]
  | (i, o) :: r, l, j, hs, hi => by
    simp only [lstAdd]
    rw [lstAdd_lst r _ j (by simpa using hs) fun p i' o' hp => hi (p + 1) i' o' (by simpa using hp)]
    have hset : Lst (l.setIfInBounds i true) j ↔ j = i ∨ Lst l j := by
      have h0 := hi 0 i o rfl
      unfold Lst
      by_cases e : j = i
      · subst e
        simp [hs, h0]
      · rw [getD_set_ne false (Ne.symm e)]
        simp [e]
    rw [hset]
    constructor
    · rintro (⟨p, o', h⟩ | rfl | h)
      · exact .inl ⟨p + 1, o', by simpa using h⟩
      · exact .inl ⟨0, o, rfl⟩
      · exact .inr h
    · rintro (⟨p, o', h⟩ | h)
      · cases p with
        | zero =>
          simp only [List.getElem?_cons_zero, Option.some.injEq, Prod.mk.injEq] at h
          exact .inr (.inl h.1.symm)
        | succ p => exact .inl ⟨p, o', by simpa using h⟩
      · exact .inr (.inr h)
theorem actAdd_size (ag : Act) : ∀ (r : Grp) (a : Act), (actAdd ag r a).tmps.size = a.tmps.size ∧ (actAdd ag r a).defers = a.defers
  | [], a => ⟨rfl, rfl⟩
  | p :: r, a => by
    simp only [actAdd]
    obtain ⟨h1, h2⟩ := actAdd_size ag r (a.put p.2.dst (ag.tmps.getD (p.2.dst.getD 0) undef))
    exact ⟨h1.trans put_size, h2.trans (put_defers _ _ _)⟩
theorem actAdd_at (ag : Act) : ∀ (r : Grp) (a : Act) (t : Tmp), ((∀ (p i : Nat) (o : Oper), r[p]? = some (i, o) → o.dst ≠ some t) → (actAdd ag r a).tmps.getD t undef = a.tmps.getD t undef) ∧
    (t < a.tmps.size → (∃ (p i : Nat) (o : Oper), r[p]? = some (i, o) ∧ o.dst = some t) ∨ a.tmps.getD t undef = ag.tmps.getD t undef → (actAdd ag r a).tmps.getD t undef = ag.tmps.getD t undef)
  | [], a, t => ⟨fun _ => rfl, fun _ h => by
    rcases h with ⟨p, i, o, h, _⟩ | h
    · simp at h
    · exact h⟩
  | (i, o) :: r, a, t => by
    obtain ⟨h1, h2⟩ := actAdd_at ag r (a.put o.dst (ag.tmps.getD (o.dst.getD 0) undef)) t
    refine ⟨fun hn => ?_, fun hlt h => ?_⟩
    · simp only [actAdd]
      rw [h1 fun p i' o' hp => hn (p + 1) i' o' (by simpa using hp), put_ne (hn 0 i o rfl)]
    · simp only [actAdd]
      refine h2 (by rw [put_size]; exact hlt) ?_
      by_cases e : o.dst = some t
      · refine .inr ?_
        rw [e, Option.getD_some, put_eq hlt]
      · rcases h with ⟨p, i', o', hp, ht⟩ | h
        · cases p with
          | zero =>
            simp only [List.getElem?_cons_zero, Option.some.injEq, Prod.mk.injEq] at hp
            obtain ⟨rfl, rfl⟩ := hp
            exact absurd ht e
          | succ p => exact .inl ⟨p, i', o', by simpa using hp, ht⟩
        · exact .inr (by rw [put_ne e]; exact h)
section
variable {P : Program} {ops : Array Oper} {base : Kp} {w0 : World} {f0 : Fr} {vv : Nat → AV} {done : Nat} {f : Fr} {h : Hp} {pend : List Pend} {listed : Array Bool} {a : Act} {w : World} {ρ : Env}
theorem Inv.world (I : Inv P ops base w0 f0 vv done f h pend listed a w ρ) {w' : World} (E : Emb ρ base w0 h w') : Inv P ops base w0 f0 vv done f h pend listed a w' ρ :=
  ⟨I.size, I.sub, I.dcl, I.lcl, I.dlt, I.pen, I.ent, I.fn, I.fis, I.gho, I.an, I.ad, I.act, E⟩
theorem Inv.heap (I : Inv P ops base w0 f0 vv done f h pend listed a w ρ) {h' : Hp} {ρ' : Env} {pend' : List Pend} (hle : Env.le ρ ρ') (E' : Emb ρ' base w0 h' w)
    (hc1 : ∀ p ∈ pend', p ∈ pend ∧ (evStillG P ops p.2.2.1 h' p.2.1 = some p.2.2.2 ∨ isPure p.2.1 = true)) (hc2 : ∀ p ∈ pend, p ∈ pend') : Inv P ops base w0 f0 vv done f h' pend' listed a w ρ' := by
  obtain ⟨ag, hag⟩ := I.gho
  refine ⟨I.size, I.sub, I.dcl, I.lcl, I.dlt, fun i hi hn => ?_, fun i o fi vi hm => ?_, I.fn, I.fis, ⟨ag, hag.mono hle⟩, I.an, I.ad.mono hle, fun t => ⟨fun i o hi h1 h2 => AV.real_mono hle _ _ ((I.act t).1 i o hi h1 h2), fun hno => AV.real_mono hle _ _ ((I.act t).2 hno)⟩, E'⟩
  · obtain ⟨o, fi, hm⟩ := I.pen i hi hn
    exact ⟨o, fi, hc2 _ hm⟩
  · obtain ⟨hm', hev⟩ := hc1 _ hm
    obtain ⟨h1, h2⟩ := I.ent i o fi vi hm'
    refine ⟨h1, fun hn => ?_⟩
    obtain ⟨h3, h4, h5, ⟨ai, h6⟩, h7⟩ := h2 hn
    exact ⟨h3, h4, hev.elim id (fun hpu => by rw [← h5]; exact evStillG_pure P ops fi h' h o hpu), ⟨ai, h6.mono hle⟩, h7⟩
theorem adSlots_ok (S : Sound ops) {fe : Fr} {nx : Nat} {l : Loc} {ag : Act} (hF : FrR (one (some l)) fe ag) (hnx : ρ nx = some l) (HC : ∀ p ∈ pend, evStillG P ops p.2.2.1 h p.2.1 = some p.2.2.2 ∨ isPure p.2.1 = true) :
    ∀ (r : Grp) (done : Nat) (f f' : Fr) (vv : Nat → AV) (listed : Array Bool) (a : Act), adSlots fe nx r f = some f' → Inv P ops base w0 f0 vv done f h pend listed a w ρ → (∀ (p i : Nat) (o : Oper), r[p]? = some (i, o) → ops[i]? = some o ∧ done.testBit i = false) →
      (∀ (p i : Nat) (o : Oper), r[p]? = some (i, o) → ∀ k, Waits ops i k → Lst listed k ∨ ∃ (q : Nat) (o' : Oper), q < p ∧ r[q]? = some (k, o')) → (∀ (p q i : Nat) (o o' : Oper), r[p]? = some (i, o) → r[q]? = some (i, o') → p = q) →
      ∃ vv', Inv P ops base w0 f0 vv' (doneAdd r done) f' h pend (lstAdd r listed) (actAdd ag r a) w ρ
  | [], done, f, f', vv, listed, a, hs, I, _, _, _ => by
    obtain rfl := Option.some.inj hs
    exact ⟨vv, I⟩
  | (i, o) :: r, done, f, f', vv, listed, a, hs, I, hm, hw, hn => by
    simp only [adSlots] at hs
    split at hs
    case h_2 => cases hs
    rename_i t ht
    split at hs
    case h_2 => cases hs
    rename_i v hv
    split at hs
    case h_2 => cases hs
    rename_i f1 hf1
    obtain ⟨ho, hi⟩ := hm 0 i o rfl
    have hr : ∀ k, Waits ops i k → Lst listed k := fun k hk => (hw 0 i o rfl k hk).elim id fun ⟨q, o', hq, _⟩ => by omega
    have hx : v.real ρ = some (ag.tmps.getD t undef) := slcTo_real hv (hF.2 t) (by rw [hnx]; rfl)
    have I1 := I.now (v := v) (f' := f1) (pend' := pend) S ho hi hr (A := 0) (fun j hj => by simp at hj) (by rw [ht]; exact hf1) hx (Env.le_refl ρ) I.emb (fun p hp => ⟨hp, HC p hp⟩) (fun p hp _ => hp)
    have his := (Array.getElem?_eq_some_iff.1 ho).1
    have e1 : ag.tmps.getD (o.dst.getD 0) undef = ag.tmps.getD t undef := by rw [ht]; rfl
    simp only [doneAdd, lstAdd, actAdd]
    rw [e1]
    refine adSlots_ok S hF hnx HC r _ f1 f' _ _ _ hs I1 (fun p i' o' hp => ?_) (fun p i' o' hp k hk => ?_) fun p q i' o1 o2 h1 h2 => ?_
    · obtain ⟨h1, h2⟩ := hm (p + 1) i' o' (by simpa using hp)
      refine ⟨h1, ?_⟩
      cases hb : (done ||| 2 ^ i).testBit i' with
      | false => rfl
      | true =>
        rcases (bit_set _ _ _).1 hb with e | e
        · subst e
          have := hn 0 (p + 1) i' o o' rfl (by simpa using hp)
          omega
        · rw [h2] at e; cases e
    · rcases hw (p + 1) i' o' (by simpa using hp) k hk with h1 | ⟨q, o'', hq, h1⟩
      · exact .inl ((lst_set I.size his).2 (.inr h1))
      · cases q with
        | zero =>
          simp only [List.getElem?_cons_zero, Option.some.injEq, Prod.mk.injEq] at h1
          exact .inl ((lst_set I.size his).2 (.inl h1.1.symm))
        | succ q => exact .inr ⟨q, o'', by omega, by simpa using h1⟩
    · have := hn (p + 1) (q + 1) i' o1 o2 (by simpa using h1) (by simpa using h2)
      omega
end
end Go.Proofs.Ytcakdjnnfonijaa
namespace Go.Proofs.Ytcakdjnnfonijaa
open Go.RowKit

noncomputable def adoptG (P : Program) (ops : Array Oper) (g : Grp) (done : Nat) (f : Fr) (h : Hp) (pend : List Pend) : Option (Nat × Fr × Hp × List Pend) := match gRun P g gStart with
  | some (fe, some b) => match adSlots fe h.nx g f with
    | some f' => match checkPend P ops 0 (h.new b) pend with
      | some pend' => some (doneAdd g done, f', h.new b, pend')
      | none => none
    | none => none
  | _ => none
noncomputable def adoptSel (P : Program) (ops : Array Oper) (sel : Grp → Bool) : List Grp → Nat → Fr → Hp → List Pend → Option (Nat × Fr × Hp × List Pend)
  | [], d, f, h, pend => some (d, f, h, pend)
  | g :: r, d, f, h, pend => match sel g with
    | true => match adoptG P ops g d f h pend with
      | some (d', f', h', pend') => adoptSel P ops sel r d' f' h' pend'
      | none => none
    | false => adoptSel P ops sel r d f h pend
noncomputable def undone (d : Nat) : Grp → Bool
  | [] => false
  | p :: _ => match d.testBit p.1 with
    | true => false
    | false => true
noncomputable def needs (d m : Nat) : Grp → Bool
  | [] => false
  | p :: _ => match d.testBit p.1 with
    | true => false
    | false => m.testBit p.1
def lateMask : List Grp → Nat
  | [] => 0
  | g :: r => doneAdd g (lateMask r)
theorem lateMask_bit : ∀ (gs : List Grp) (j : Nat), (lateMask gs).testBit j = true ↔ ∃ g ∈ gs, ∃ (p : Nat) (o : Oper), g[p]? = some (j, o)
  | [], j => by simp [lateMask]
  | g :: r, j => by
    simp only [lateMask]
    rw [doneAdd_bit, lateMask_bit r]
    constructor
    · rintro (⟨p, o, h⟩ | ⟨g', hg, h⟩)
      · exact ⟨g, List.mem_cons_self, p, o, h⟩
      · exact ⟨g', List.mem_cons_of_mem _ hg, h⟩
    · rintro ⟨g', hg, p, o, h⟩
      rcases List.mem_cons.1 hg with rfl | hg
      · exact .inl ⟨p, o, h⟩
      · exact .inr ⟨g', hg, p, o, h⟩
structure OI (P : Program) (ops : Array Oper) (gs : List Grp) (base : Kp) (done : Nat) (h : Hp) (ρ : Env) (listed listedV : Array Bool) (a aV : Act) (w : World) (T : Nat → Prop) (M : Nat → Nat) (L : Nat → Option Loc) : Prop where
  sz : listed.size = ops.size
  lv : ∀ i, Lst listedV i → Lst listed i
  vl : ∀ i, Lst listed i → Lst listedV i ∨ ∃ (q : Nat) (g : Grp) (p : Nat) (o : Oper), gs[q]? = some g ∧ ¬ T q ∧ g[p]? = some (i, o)
  lcl : ∀ i k, Lst listed i → Waits ops i k → Lst listed k
  asz : a.tmps.size = aV.tmps.size
  ad : a.defers = aV.defers
  «at» : ∀ t, (∀ (i : Nat) (o : Oper), Lst listed i → ¬ Lst listedV i → ops[i]? = some o → o.dst ≠ some t) → a.tmps.getD t undef = aV.tmps.getD t undef
  gi : ∀ (q : Nat) (g : Grp), gs[q]? = some g → ¬ T q → GI P g (M q) (L q) listed a w
  dj : ∀ (q : Nat) (g : Grp) (l : Loc), gs[q]? = some g → ¬ T q → L q = some l → base.ok l.blk ∧ l.blk < w.heap.size ∧ ∀ id l', h.get id ≠ .gone → ρ id = some l' → l'.blk ≠ l.blk
  pw : ∀ (q q' : Nat) (g g' : Grp) (l l' : Loc), gs[q]? = some g → gs[q']? = some g' → ¬ T q → ¬ T q' → q ≠ q' → L q = some l → L q' = some l' → l.blk ≠ l'.blk
  ud : ∀ (q : Nat) (g : Grp), gs[q]? = some g → (¬ T q → ∀ (p i : Nat) (o : Oper), g[p]? = some (i, o) → done.testBit i = false) ∧ (T q → ∀ (p i : Nat) (o : Oper), g[p]? = some (i, o) → done.testBit i = true ∧ Lst listedV i)
section
variable {P : Program} {ops : Array Oper} {gs : List Grp} {base : Kp} {w0 : World} {f0 : Fr} {vv : Nat → AV} {done done' : Nat} {f f' : Fr} {h h' : Hp} {pend pend' : List Pend} {listed listedV : Array Bool} {a aV : Act} {w : World} {ρ : Env} {T : Nat → Prop} {M : Nat → Nat} {L : Nat → Option Loc}
theorem OI.adopt (S : Sound ops) (LO : LateOk P ops gs) (I : Inv P ops base w0 f0 vv done f h pend listedV aV w ρ) (O : OI P ops gs base done h ρ listed listedV a aV w T M L) {q : Nat} {g : Grp} (hq : gs[q]? = some g) (hT : ¬ T q)
    (hall : ∀ (p i : Nat) (o : Oper), g[p]? = some (i, o) → Lst listed i) (HF : ∀ (p i : Nat) (o : Oper) (t : Tmp), g[p]? = some (i, o) → o.dst = some t → t < f0.n) (ha : adoptG P ops g done f h pend = some (done', f', h', pend')) :
    ∃ vv' listedV' aV' ρ', Inv P ops base w0 f0 vv' done' f' h' pend' listedV' aV' w ρ' ∧ OI P ops gs base done' h' ρ' listed listedV' a aV' w (fun q' => q' = q ∨ T q') M L ∧ Env.le ρ ρ' ∧
      ∀ j, done'.testBit j = true ↔ (∃ (p : Nat) (o : Oper), g[p]? = some (j, o)) ∨ done.testBit j = true := by
  have hg : g ∈ gs := List.mem_of_getElem? hq
  unfold adoptG at ha
  split at ha
  case h_2 => cases ha
  rename_i fe b hrun
  split at ha
  case h_2 => cases ha
  rename_i f1 hslots
  split at ha
  case h_2 => cases ha
  rename_i pend1 hchk
  obtain ⟨rfl, rfl, rfl, rfl⟩ : doneAdd g done = done' ∧ f1 = f' ∧ h.new b = h' ∧ pend1 = pend' := by simpa using ha
  have G := O.gi q g hq hT
  have hM : M q = g.length := by
    refine Nat.le_antisymm G.le (Nat.le_of_not_lt fun hlt => ?_)
    obtain ⟨io, hio⟩ : ∃ io, g[M q]? = some io := ⟨_, List.getElem?_eq_getElem hlt⟩
    have := (G.cnt (M q) io.1 io.2 hio).1 (hall (M q) io.1 io.2 hio)
    omega
  obtain ⟨f2, b2, ag, h1, h2, h3, h4⟩ := G.run
  rw [hM, List.take_length, hrun] at h1
  obtain ⟨rfl, rfl⟩ := Prod.mk.inj (Option.some.inj h1)
  rcases h2 with ⟨_, hb⟩ | ⟨l, b0, hl, hb, hfl, hlt, hr⟩
  · cases hb
  obtain rfl := Option.some.inj hb
  obtain ⟨hok, _, hlive⟩ := O.dj q g l hq hT hl
  rw [hl] at h3
  have hn := I.emb.fresh0
  have E1 := I.emb.adopt l hlt hok hlive b (hr _)
  obtain ⟨c1, c2⟩ := checkPend_ok _ _ hchk
  have I1 := I.heap (Env.le_add hn) E1 c1 (fun p hp => c2 p hp (Nat.zero_testBit _))
  obtain ⟨vv', I2⟩ := adSlots_ok S h3 (add_self _ _ _) (fun p hp => (c1 p hp).2) g done f f1 vv listedV aV hslots I1 (fun p i o hp => ⟨LO.mem g hg p i o hp, (O.ud q g hq).1 hT p i o hp⟩)
    (fun p i o hp k hk => .inr (LO.wait g hg p i o hp k hk)) (fun p q' i o o' h1 h2 => LO.nodup g hg p q' i o o' h1 h2)
  have hlst : ∀ j, Lst (lstAdd g listedV) j ↔ (∃ (p : Nat) (o : Oper), g[p]? = some (j, o)) ∨ Lst listedV j := fun j => lstAdd_lst (n := ops.size) g listedV j I.size fun p i o hp => (Array.getElem?_eq_some_iff.1 (LO.mem g hg p i o hp)).1
  refine ⟨vv', lstAdd g listedV, actAdd ag g aV, _, I2, ⟨O.sz, fun i hi => ?_, fun i hi => ?_, O.lcl, by rw [(actAdd_size ag g aV).1]; exact O.asz, by rw [(actAdd_size ag g aV).2]; exact O.ad, fun t ht => ?_, fun q' g' hq' hT' => O.gi q' g' hq' fun e => hT' (.inr e), fun q' g' l' hq' hT' hl' => ?_,
    fun q1 q2 g1 g2 l1 l2 e1 e2 t1 t2 => O.pw q1 q2 g1 g2 l1 l2 e1 e2 (fun e => t1 (.inr e)) (fun e => t2 (.inr e)), fun q' g' hq' => ⟨fun hT' p i o hp => ?_, fun hT' p i o hp => ?_⟩⟩, Env.le_add hn, fun j => doneAdd_bit g done j⟩
  · rcases (hlst i).1 hi with ⟨p, o, hp⟩ | hi
    · exact hall p i o hp
    · exact O.lv i hi
  · rcases O.vl i hi with h5 | ⟨q', g', p, o, h5, h6, h7⟩
    · exact .inl ((hlst i).2 (.inr h5))
    · by_cases e : q' = q
      · subst e
        obtain rfl := Option.some.inj (hq.symm.trans h5)
        exact .inl ((hlst i).2 (.inl ⟨p, o, h7⟩))
      · exact .inr ⟨q', g', p, o, h5, fun e' => e'.elim e h6, h7⟩
  · obtain ⟨k1, k2⟩ := actAdd_at ag g aV t
    by_cases hd : ∃ (p i : Nat) (o : Oper), g[p]? = some (i, o) ∧ o.dst = some t
    · obtain ⟨p, i, o, hp, ho⟩ := hd
      rw [k2 (by rw [I.an]; exact HF p i o t hp ho) (.inl ⟨p, i, o, hp, ho⟩)]
      exact (h4 p i o t (by rw [hM]; exact (List.getElem?_eq_some_iff.1 hp).1) hp ho).symm
    · rw [k1 fun p i o hp ho => hd ⟨p, i, o, hp, ho⟩]
      refine O.at t fun i o hi hni ho hot => ?_
      by_cases hin : ∃ (p : Nat) (o' : Oper), g[p]? = some (i, o')
      · obtain ⟨p, o', hp⟩ := hin
        have := LO.mem g hg p i o' hp
        obtain rfl := Option.some.inj (ho.symm.trans this)
        exact hd ⟨p, i, o, hp, hot⟩
      · exact ht i o hi (fun hh => ((hlst i).1 hh).elim hin hni) ho hot
  · have hne : q ≠ q' := fun e => hT' (.inl e.symm)
    obtain ⟨d1, d2, d3⟩ := O.dj q' g' l' hq' (fun e => hT' (.inr e)) hl'
    refine ⟨d1, d2, fun id l2 hid hl2 => ?_⟩
    by_cases e : id = h.nx
    · subst e
      rw [add_self] at hl2
      obtain rfl := Option.some.inj hl2
      exact O.pw q q' g g' l l' hq hq' hT (fun e => hT' (.inr e)) hne hl hl'
    · rw [Hp.get_new, if_neg e] at hid
      unfold Env.add at hl2
      rw [if_neg e] at hl2
      exact d3 id l2 hid hl2
  · cases hb : (doneAdd g done).testBit i with
    | false => rfl
    | true =>
      rcases (doneAdd_bit g done i).1 hb with ⟨p', o', hp'⟩ | hb
      · exact (LO.disj q q' g g' hq hq' (fun e => hT' (.inl e.symm)) p' p i o' o hp' hp).elim
      · rw [(O.ud q' g' hq').1 (fun e => hT' (.inr e)) p i o hp] at hb
        cases hb
  · rcases hT' with rfl | hT'
    · obtain rfl := Option.some.inj (hq.symm.trans hq')
      exact ⟨(doneAdd_bit g done i).2 (.inl ⟨p, o, hp⟩), (hlst i).2 (.inl ⟨p, o, hp⟩)⟩
    · obtain ⟨e1, e2⟩ := (O.ud q' g' hq').2 hT' p i o hp
      exact ⟨(doneAdd_bit g done i).2 (.inr e1), (hlst i).2 (.inr e2)⟩
theorem OI.adoptSel (S : Sound ops) (LO : LateOk P ops gs) (HF : ∀ g ∈ gs, ∀ (p i : Nat) (o : Oper) (t : Tmp), g[p]? = some (i, o) → o.dst = some t → t < f0.n) (sel : Grp → Bool) :
    ∀ (gs2 : List Grp) (off done : Nat) (f : Fr) (h : Hp) (pend : List Pend) (vv : Nat → AV) (listedV : Array Bool) (aV : Act) (ρ : Env) (T : Nat → Prop), (∀ (q : Nat) (g : Grp), gs2[q]? = some g → gs[off + q]? = some g) → Go.Proofs.Ytcakdjnnfonijaa.adoptSel P ops sel gs2 done f h pend = some (done', f', h', pend') →
      Inv P ops base w0 f0 vv done f h pend listedV aV w ρ → OI P ops gs base done h ρ listed listedV a aV w T M L → (∀ (q : Nat) (g : Grp), gs2[q]? = some g → sel g = true → ¬ T (off + q) ∧ ∀ (p i : Nat) (o : Oper), g[p]? = some (i, o) → Lst listed i) →
      ∃ vv' listedV' aV' ρ' T', Inv P ops base w0 f0 vv' done' f' h' pend' listedV' aV' w ρ' ∧ OI P ops gs base done' h' ρ' listed listedV' a aV' w T' M L ∧ Env.le ρ ρ' ∧ (∀ (q : Nat) (g : Grp), gs2[q]? = some g → sel g = true → T' (off + q)) ∧ (∀ q, T q → T' q) ∧
        (∀ j, done.testBit j = true → done'.testBit j = true) ∧ ∀ j, done'.testBit j = true → done.testBit j = true ∨ ∃ g ∈ gs, ∃ (p : Nat) (o : Oper), g[p]? = some (j, o)
  | [], off, done, f, h, pend, vv, listedV, aV, ρ, T, _, hs, I, O, _ => by
    obtain ⟨rfl, rfl, rfl, rfl⟩ : done = done' ∧ f = f' ∧ h = h' ∧ pend = pend' := by simpa [Go.Proofs.Ytcakdjnnfonijaa.adoptSel] using hs
    exact ⟨vv, listedV, aV, ρ, T, I, O, Env.le_refl ρ, fun q g hq => by simp at hq, fun _ e => e, fun _ e => e, fun _ e => .inl e⟩
  | g :: r, off, done, f, h, pend, vv, listedV, aV, ρ, T, hgs, hs, I, O, hsel => by
    have hgs' : ∀ (q : Nat) (g : Grp), r[q]? = some g → gs[off + 1 + q]? = some g := fun q g hq => by rw [show off + 1 + q = off + (q + 1) by omega]; exact hgs (q + 1) g (by simpa using hq)
    simp only [Go.Proofs.Ytcakdjnnfonijaa.adoptSel] at hs
    cases hb : sel g with
    | false =>
      rw [hb] at hs
      obtain ⟨vv', lV', aV', ρ', T', k1, k2, k3, k4, k5, k6, k7⟩ := OI.adoptSel S LO HF sel r (off + 1) done f h pend vv listedV aV ρ T hgs' hs I O fun q g' hq hs' => by
        have := hsel (q + 1) g' (by simpa using hq) hs'
        rwa [show off + 1 + q = off + (q + 1) by omega]
      refine ⟨vv', lV', aV', ρ', T', k1, k2, k3, fun q g' hq hs' => ?_, k5, k6, k7⟩
      cases q with
      | zero =>
        simp only [List.getElem?_cons_zero, Option.some.injEq] at hq
        rw [← hq, hb] at hs'
        cases hs'
      | succ q =>
        have := k4 q g' (by simpa using hq) hs'
        rwa [show off + 1 + q = off + (q + 1) by omega] at this
    | true =>
      rw [hb] at hs
      dsimp only at hs
      split at hs
      case h_2 => cases hs
      rename_i d1 f1 h1 pend1 had
      have hq0 : gs[off]? = some g := by have := hgs 0 g rfl; simpa using this
      obtain ⟨hT, hall⟩ := hsel 0 g rfl hb
      obtain ⟨vv1, lV1, aV1, ρ1, I1, O1, le1, bits⟩ := O.adopt S LO I hq0 (by simpa using hT) hall (HF g (List.mem_of_getElem? hq0)) had
      obtain ⟨vv', lV', aV', ρ', T', k1, k2, k3, k4, k5, k6, k7⟩ := OI.adoptSel S LO HF sel r (off + 1) d1 f1 h1 pend1 vv1 lV1 aV1 ρ1 _ hgs' hs I1 O1 fun q g' hq hs' => by
        have := hsel (q + 1) g' (by simpa using hq) hs'
        rw [show off + 1 + q = off + (q + 1) by omega]
        exact ⟨fun e => e.elim (fun e => by omega) this.1, this.2⟩
      refine ⟨vv', lV', aV', ρ', T', k1, k2, Env.le_trans le1 k3, fun q g' hq hs' => ?_, fun q e => k5 q (.inr e), fun j e => k6 j ((bits j).2 (.inr e)), fun j e => ?_⟩
      · cases q with
        | zero => exact k5 _ (.inl (Nat.add_zero _))
        | succ q =>
          have := k4 q g' (by simpa using hq) hs'
          rwa [show off + 1 + q = off + (q + 1) by omega] at this
      · rcases k7 j e with e | e
        · rcases (bits j).1 e with ⟨p, o, hp⟩ | e
          · exact .inr ⟨g, List.mem_of_getElem? hq0, p, o, hp⟩
          · exact .inl e
        · exact .inr e
end
end Go.Proofs.Ytcakdjnnfonijaa
namespace Go.Proofs.Ytcakdjnnfonijaa
open Go.RowKit

noncomputable def evDrawL (P : Program) (cf : Cf) (rf : RfF) (ops : Array Oper) (tab : List Row) (gs : List Grp) : Nat → Nat → Fr → Hp → List Pend → (Fr → Hp → Ans) → Ans
  | 0, _, _, _, _, _ => .no "fuel of a drawn region"
  | n + 1, done, f, h, pend, k => match nextStill done tab 0 with
    | some (i, o) => match evStillG P ops f h o with
      | some v => match f.put o.dst v with
        | some f' => evDrawL P cf rf ops tab gs n (done ||| 2 ^ i) f' h ((i, o, f, v) :: pend) k
        | none => .at o
      | none => .at o
    | none => match Nat.beq ((done ||| lateMask gs) + 1) (2 ^ ops.size) with
      | true => match adoptSel P ops (undone done) gs done f h pend with
        | some (_, f1, h1, _) => k f1 h1
        | none => .no "groups at the end"
      | false => allA (readyMs (done ||| lateMask gs) tab 0) fun (i, o, A) => match adoptSel P ops (needs done (maskOf ops o).2.2) gs done f h pend with
        | none => .at o
        | some (d1, f1, h1, p1) => match evWanted ops f1 o with
          | none => .at o
          | some false => match f1.put o.dst (.v undef) with
            | some f' => match checkPend P ops A h1 p1 with
              | some pend' => evDrawL P cf rf ops tab gs n (d1 ||| 2 ^ i) f' h1 pend' k
              | none => .at o
            | none => .at o
          | some true => match evOp P f1 h1 o with
            | .bad => .at o
            | .val v h' => match f1.put o.dst v with
              | some f' => match checkPend P ops A h' p1 with
                | some pend' => evDrawL P cf rf ops tab gs n (d1 ||| 2 ^ i) f' h' pend' k
                | none => .at o
              | none => .at o
            | .skip h' => match f1.put o.dst (.v undef) with
              | some f' => match checkPend P ops A h' p1 with
                | some pend' => evDrawL P cf rf ops tab gs n (d1 ||| 2 ^ i) f' h' pend' k
                | none => .at o
              | none => .at o
            | .enter g args => cf g args h1 fun v h' => match f1.put o.dst v with
              | some f' => match checkPend P ops A h' p1 with
                | some pend' => evDrawL P cf rf ops tab gs n (d1 ||| 2 ^ i) f' h' pend' k
                | none => .at o
              | none => .at o
            | .round id args => rf id args h1 fun v h' => match f1.put o.dst v with
              | some f' => match checkPend P ops A h' p1 with
                | some pend' => evDrawL P cf rf ops tab gs n (d1 ||| 2 ^ i) f' h' pend' k
                | none => .at o
              | none => .at o
            | .alts l => allA l fun p => match f1.put o.dst p.1 with
              | some f' => match checkPend P ops A p.2 p1 with
                | some pend' => evDrawL P cf rf ops tab gs n (d1 ||| 2 ^ i) f' p.2 pend' k
                | none => .at o
              | none => .at o
section
variable {P : Program} {ops : Array Oper} {gs : List Grp} {base : Kp} {w0 : World} {f0 : Fr} {vv : Nat → AV} {done done' : Nat} {f f' : Fr} {h h' : Hp} {pend pend' : List Pend} {listed listedV : Array Bool} {a aV : Act} {w w' : World} {ρ ρ' : Env} {T : Nat → Prop} {M : Nat → Nat} {L : Nat → Option Loc}
/-- An operation of no group is carried out. -/
theorem OI.exec (S : Sound ops) (LO : LateOk P ops gs) (O : OI P ops gs base done h ρ listed listedV a aV w T M L) {i : Nat} {o : Oper} (ho : ops[i]? = some o) (hn : ¬ Lst listed i) (hr : ∀ k, Waits ops i k → Lst listed k)
    (hng : ∀ (q : Nat) (g : Grp), gs[q]? = some g → ¬ T q → ∀ (p : Nat) (o' : Oper), g[p]? ≠ some (i, o')) (hsV : listedV.size = ops.size) (x : Value) (hdt : ∀ t, o.dst = some t → t < a.tmps.size)
    (hdn : ∀ j, done'.testBit j = true ↔ j = i ∨ done.testBit j = true) (hs : w.heap.size ≤ w'.heap.size) (hk : ∀ (q : Nat) (g : Grp) (l : Loc), gs[q]? = some g → ¬ T q → L q = some l → w'.heap[l.blk]? = w.heap[l.blk]?)
    (hlv : ∀ (q : Nat) (g : Grp) (l : Loc), gs[q]? = some g → ¬ T q → L q = some l → ∀ id l', h'.get id ≠ .gone → ρ' id = some l' → l'.blk ≠ l.blk) :
    OI P ops gs base done' h' ρ' (listed.setIfInBounds i true) (listedV.setIfInBounds i true) (a.put o.dst x) (aV.put o.dst x) w' T M L := by
  have his := (Array.getElem?_eq_some_iff.1 ho).1
  have h1 := fun j => lst_set (ops := ops) O.sz (i := i) (j := j) his
  have h2 := fun j => lst_set (ops := ops) hsV (i := i) (j := j) his
  refine ⟨by simp [O.sz], fun j hj => ?_, fun j hj => ?_, fun j k hj hw => ?_, by rw [put_size, put_size]; exact O.asz, by rw [put_defers, put_defers]; exact O.ad, fun t ht => ?_, fun q g hq hT => ?_, fun q g l hq hT hl => ?_, O.pw, fun q g hq => ⟨fun hT p j oj hp => ?_, fun hT p j oj hp => ?_⟩⟩
  · rcases (h2 j).1 hj with e | e
    · exact (h1 j).2 (.inl e)
    · exact (h1 j).2 (.inr (O.lv j e))
  · rcases (h1 j).1 hj with e | e
    · exact .inl ((h2 j).2 (.inl e))
    · exact (O.vl j e).imp (fun e => (h2 j).2 (.inr e)) id
  · rcases (h1 j).1 hj with e | e
    · subst e; exact (h1 k).2 (.inr (hr k hw))
    · exact (h1 k).2 (.inr (O.lcl j k e hw))
  · by_cases e : o.dst = some t
    · rw [e, put_eq (hdt t e), put_eq (by rw [← O.asz]; exact hdt t e)]
    · rw [put_ne e, put_ne e]
      refine O.at t fun j oj hj hnj hoj => ht j oj ((h1 j).2 (.inr hj)) (fun e2 => ?_) hoj
      rcases (h2 j).1 e2 with rfl | e2
      · exact hn hj
      · exact hnj e2
  · refine (O.gi q g hq hT).stay (fun p j oj hp => ?_) (fun p j oj t hp ht => ?_) hs (fun l hl => hk q g l hq hT hl)
    · rw [h1 j]
      exact ⟨fun e => e.elim (fun e => absurd (by rw [← e]; exact hp) (hng q g hq hT p oj)) id, .inr⟩
    · refine put_ne fun e => hng q g hq hT p oj ?_
      rw [S.dst i j o oj t ho (LO.mem g (List.mem_of_getElem? hq) p j oj hp) e ht]
      exact hp
  · obtain ⟨d1, d2, _⟩ := O.dj q g l hq hT hl
    exact ⟨d1, Nat.lt_of_lt_of_le d2 hs, hlv q g l hq hT hl⟩
  · cases hb : done'.testBit j with
    | false => rfl
    | true =>
      rcases (hdn j).1 hb with e | e
      · exact absurd (by rw [← e]; exact hp) (hng q g hq hT p oj)
      · rw [(O.ud q g hq).1 hT p j oj hp] at e; cases e
  · obtain ⟨e1, e2⟩ := (O.ud q g hq).2 hT p j oj hp
    exact ⟨(hdn j).2 (.inr e1), (h2 j).2 (.inr e2)⟩
/-- A group's operation is carried out ahead of its taking in. -/
theorem OI.early (S : Sound ops) (LO : LateOk P ops gs) (E : Emb ρ base w0 h w) (O : OI P ops gs base done h ρ listed listedV a aV w T M L) {q : Nat} {g : Grp} (hq : gs[q]? = some g) (hT : ¬ T q) {p i : Nat} {o : Oper} (hp : g[p]? = some (i, o)) (hn : ¬ Lst listed i) (hnV : ¬ Lst listedV i) (hr : ∀ k, Waits ops i k → Lst listed k)
    {x : Value} {l' : Loc} (k1 : KeepA (fun k => ∃ l0, L q = some l0 ∧ k = l0.blk) w w') (k2 : ∀ l0, L q = some l0 → l' = l0) (k3 : L q = none → w.heap.size ≤ l'.blk) (k4 : GI P g (p + 1) (some l') (listed.setIfInBounds i true) (a.put o.dst x) w') :
    Emb ρ base w0 h w' ∧ OI P ops gs base done h ρ (listed.setIfInBounds i true) listedV (a.put o.dst x) aV w' T (fun q' => if q' = q then p + 1 else M q') (fun q' => if q' = q then some l' else L q') := by
  have hg : g ∈ gs := List.mem_of_getElem? hq
  have ho := LO.mem g hg p i o hp
  have his := (Array.getElem?_eq_some_iff.1 ho).1
  have h1 := fun j => lst_set (ops := ops) O.sz (i := i) (j := j) his
  have hlt' : l'.blk < w'.heap.size := by
    obtain ⟨f2, b2, ag, _, e2, _⟩ := k4.run
    rcases e2 with ⟨e, _⟩ | ⟨l0, b0, e, _, _, e3, _⟩
    · cases e
    · obtain rfl := Option.some.inj e; exact e3
  have hnew : base.ok l'.blk ∧ ∀ id l0, h.get id ≠ .gone → ρ id = some l0 → l0.blk ≠ l'.blk := by
    cases hL : L q with
    | some l0 =>
      obtain rfl := k2 l0 hL
      obtain ⟨d1, _, d3⟩ := O.dj q g l' hq hT hL
      exact ⟨d1, d3⟩
    | none =>
      have hge := k3 hL
      exact ⟨⟨Nat.le_trans E.bw hge, fun hB => by have := (E.kept _ hB).1; omega⟩, fun id l0 _ hl0 e => by have := (E.fresh id l0 hl0).2; omega⟩
  refine ⟨E.stay k1 (fun b ⟨l0, hl0, e⟩ => by rw [e]; exact (O.dj q g l0 hq hT hl0).1) (fun id l0 hid hl0 ⟨l1, hl1, e⟩ => (O.dj q g l1 hq hT hl1).2.2 id l0 hid hl0 e), ?_⟩
  refine ⟨by simp [O.sz], fun j hj => (h1 j).2 (.inr (O.lv j hj)), fun j hj => ?_, fun j k hj hw => ?_, by rw [put_size]; exact O.asz, by rw [put_defers]; exact O.ad, fun t ht => ?_, fun q' g' hq' hT' => ?_, fun q' g' l hq' hT' hl => ?_, fun q1 q2 g1 g2 l1 l2 e1 e2 t1 t2 hne hl1 hl2 => ?_, O.ud⟩
  · rcases (h1 j).1 hj with rfl | e
    · exact .inr ⟨q, g, p, o, hq, hT, hp⟩
    · exact O.vl j e
  · rcases (h1 j).1 hj with e | e
    · subst e; exact (h1 k).2 (.inr (hr k hw))
    · exact (h1 k).2 (.inr (O.lcl j k e hw))
  · rw [put_ne (ht i o ((h1 i).2 (.inl rfl)) hnV ho)]
    exact O.at t fun j oj hj hnj hoj => ht j oj ((h1 j).2 (.inr hj)) hnj hoj
  · by_cases e : q' = q
    · subst e
      obtain rfl := Option.some.inj (hq.symm.trans hq')
      rw [if_pos rfl, if_pos rfl]
      exact k4
    · rw [if_neg e, if_neg e]
      refine (O.gi q' g' hq' hT').stay (fun p' j oj hp' => ?_) (fun p' j oj t hp' ht => ?_) k1.size (fun l hl => ?_)
      · rw [h1 j]
        exact ⟨fun e2 => e2.elim (fun e2 => (LO.disj q' q g' g hq' hq e p' p j oj o hp' (by rw [e2]; exact hp)).elim) id, .inr⟩
      · refine put_ne fun e2 => LO.disj q' q g' g hq' hq e p' p j oj o hp' ?_
        rw [← S.dst i j o oj t ho (LO.mem g' (List.mem_of_getElem? hq') p' j oj hp') e2 ht]
        exact hp
      · refine k1.same l.blk (O.dj q' g' l hq' hT' hl).2.1 fun ⟨l0, hl0, e2⟩ => ?_
        exact O.pw q' q g' g l l0 hq' hq hT' hT e hl hl0 e2
  · by_cases e : q' = q
    · subst e
      rw [if_pos rfl] at hl
      obtain rfl := Option.some.inj hl
      exact ⟨hnew.1, hlt', hnew.2⟩
    · rw [if_neg e] at hl
      obtain ⟨d1, d2, d3⟩ := O.dj q' g' l hq' hT' hl
      exact ⟨d1, Nat.lt_of_lt_of_le d2 k1.size, d3⟩
  · have key : ∀ (q' : Nat) (g' : Grp) (l : Loc), gs[q']? = some g' → ¬ T q' → q' ≠ q → L q' = some l → l'.blk ≠ l.blk := fun q' g' l hq' hT' hne' hl => by
      cases hL : L q with
      | some l0 =>
        rw [k2 l0 hL]
        exact O.pw q q' g g' l0 l hq hq' hT hT' (Ne.symm hne') hL hl
      | none =>
        have := k3 hL
        have := (O.dj q' g' l hq' hT' hl).2.1
        omega
    by_cases c1 : q1 = q
    · have c2 : q2 ≠ q := fun e => hne (c1.trans e.symm)
      rw [if_pos c1] at hl1
      rw [if_neg c2] at hl2
      obtain rfl := Option.some.inj hl1
      exact key q2 g2 l2 e2 t2 c2 hl2
    · rw [if_neg c1] at hl1
      by_cases c2 : q2 = q
      · rw [if_pos c2] at hl2
        obtain rfl := Option.some.inj hl2
        exact (key q1 g1 l1 e1 t1 c1 hl1).symm
      · rw [if_neg c2] at hl2
        exact O.pw q1 q2 g1 g2 l1 l2 e1 e2 t1 t2 hne hl1 hl2
theorem undone_spec {d : Nat} {g : Grp} (h : undone d g = true) : ∃ (p : Nat × Oper) (r : Grp), g = p :: r ∧ d.testBit p.1 = false := by
  cases g with
  | nil => cases h
  | cons p r =>
    simp only [undone] at h
    cases hb : d.testBit p.1 with
    | false => exact ⟨p, r, rfl, hb⟩
    | true => rw [hb] at h; cases h
theorem needs_spec {d m : Nat} {g : Grp} (h : needs d m g = true) : ∃ (p : Nat × Oper) (r : Grp), g = p :: r ∧ d.testBit p.1 = false ∧ m.testBit p.1 = true := by
  cases g with
  | nil => cases h
  | cons p r =>
    simp only [needs] at h
    cases hb : d.testBit p.1 with
    | false => rw [hb] at h; exact ⟨p, r, rfl, hb, h⟩
    | true => rw [hb] at h; cases h
end
end Go.Proofs.Ytcakdjnnfonijaa
namespace Go.Proofs.Ytcakdjnnfonijaa
open Go.RowKit

section
variable {P : Program} {ops : Array Oper} {gs : List Grp} {base : Kp} {w0 : World} {f0 : Fr}
/-- Every order comes to one end. -/
theorem evDrawL_ok {cf : Cf} {rf : RfF} (C : ∀ base w0, CfOk P base w0 cf) (D : ∀ base w0, RfOk P base w0 rf) {rl : Option Nat} {nn : Nat} (S : Sound ops) (LO : LateOk P ops gs) (HF : ∀ g ∈ gs, ∀ (p i : Nat) (o : Oper) (t : Tmp), g[p]? = some (i, o) → o.dst = some t → t < f0.n) {k : Fr → Hp → Ans} {Q : Exit → Act → World → Prop} {ρ0 : Env}
    (K : ∀ f h ρ' a w, k f h = .yes → Env.le ρ0 ρ' → Emb ρ' base w0 h w → FrR ρ' f a → DfR ρ' f.ds a.defers → Q .normal a w) :
    ∀ (n done : Nat) (f : Fr) (h : Hp) (pend : List Pend) (vv : Nat → AV) (listed listedV : Array Bool) (a aV : Act) (w : World) (ρ : Env) (T : Nat → Prop) (M : Nat → Nat) (L : Nat → Option Loc) (F : Nat), evDrawL P cf rf ops (tabOf ops) gs n done f h pend k = .yes →
      Inv P ops base w0 f0 vv done f h pend listedV aV w ρ → OI P ops gs base done h ρ listed listedV a aV w T M L → Env.le ρ0 ρ → (∀ i o, ops[i]? = some o → ∀ t, o.dst = some t → done.testBit i = true → t < f0.n) → Room ops listed F → wpAnyIn (fen rl) nn P .any ops Q F listed a w
  | 0, done, f, h, pend, vv, listed, listedV, a, aV, w, ρ, T, M, L, F, hk, _, _, _, _, _ => by cases hk
  | n + 1, done, f, h, pend, vv, listed, listedV, a, aV, w, ρ, T, M, L, F, hk, I, O, hle, hdst, hroom => by
    have hlate : ∀ j, (lateMask gs).testBit j = true ↔ ∃ g ∈ gs, ∃ (p : Nat) (o : Oper), g[p]? = some (j, o) := lateMask_bit gs
    simp only [evDrawL] at hk
    split at hk
    · rename_i i o hns
      obtain ⟨p, m, A, hp0, hget, hst, hrd⟩ := nextStill_some _ _ _ _ hns
      rw [Nat.zero_add] at hp0
      subst hp0
      obtain ⟨ho, rfl, _⟩ := tab_get hget
      obtain ⟨hi, hr⟩ := (isReady_iff ho).1 hrd
      split at hk
      case h_2 => cases hk
      rename_i v hv
      split at hk
      case h_2 => cases hk
      rename_i f' hf'
      have hng : ∀ g ∈ gs, ∀ (p : Nat) (o' : Oper), g[p]? ≠ some (i, o') := fun g hg p o' hp => by
        have h1 := LO.still g hg p i o' hp
        have h2 := LO.mem g hg p i o' hp
        obtain rfl := Option.some.inj (ho.symm.trans h2)
        rw [hst] at h1
        cases h1
      have O' : OI P ops gs base (done ||| 2 ^ i) h ρ listed listedV a aV w T M L := ⟨O.sz, O.lv, O.vl, O.lcl, O.asz, O.ad, O.at, O.gi, O.dj, O.pw, fun q g hq => ⟨fun hT p j oj hp => (by
        cases hb : (done ||| 2 ^ i).testBit j with
        | false => rfl
        | true =>
          rcases (bit_set _ _ _).1 hb with rfl | e
          · exact absurd hp (hng g (List.mem_of_getElem? hq) p oj)
          · rw [(O.ud q g hq).1 hT p j oj hp] at e; cases e), fun hT p j oj hp => ⟨(bit_set _ _ _).2 (.inr ((O.ud q g hq).2 hT p j oj hp).1), ((O.ud q g hq).2 hT p j oj hp).2⟩⟩⟩
      refine evDrawL_ok C D S LO HF K n _ f' h _ _ listed listedV a aV w ρ T M L F hk (I.ahead S ho hi hr hv hf') O' hle (fun j oj hj t ht hb => ?_) hroom
      rcases (bit_set _ _ _).1 hb with rfl | hb
      · obtain rfl := Option.some.inj (ho.symm.trans hj)
        rw [← I.fn]; exact ((frput hf').2.1 t ht).2
      · exact hdst j oj hj t ht hb
    · rename_i hns
      have hend : ∀ (listed listedV : Array Bool) (a aV : Act) (w : World) (M : Nat → Nat) (L : Nat → Option Loc), Inv P ops base w0 f0 vv done f h pend listedV aV w ρ → OI P ops gs base done h ρ listed listedV a aV w T M L → (∀ i, i < ops.size → Lst listed i) → Q .normal a w := fun listed listedV a aV w M L I O hall => by
        split at hk
        · split at hk
          case h_2 => cases hk
          rename_i d1 f1 h1 p1 had
          obtain ⟨vv', lV', aV', ρ', T', I', O', le', k4, k5, k6, k7⟩ := OI.adoptSel S LO HF (undone done) gs 0 done f h pend vv listedV aV ρ T (fun q g hq => by rw [Nat.zero_add]; exact hq) had I O fun q g hq hs => by
            rw [Nat.zero_add]
            obtain ⟨p, r, rfl, hb⟩ := undone_spec hs
            refine ⟨fun hT => ?_, fun p' i o hp => hall i (Array.getElem?_eq_some_iff.1 (LO.mem _ (List.mem_of_getElem? hq) p' i o hp)).1⟩
            have := ((O.ud q _ hq).2 hT 0 p.1 p.2 rfl).1
            rw [hb] at this; cases this
          have hallV : ∀ i, i < ops.size → Lst lV' i := fun i hi => by
            rcases O'.vl i (hall i hi) with e | ⟨q, g, p, o, hq, hT', hp⟩
            · exact e
            · exfalso
              cases g with
              | nil => simp at hp
              | cons p0 r =>
                have hu : done.testBit p0.1 = true := by
                  cases hb : done.testBit p0.1 with
                  | true => rfl
                  | false =>
                    have := k4 q (p0 :: r) hq (by simp only [undone, hb])
                    rw [Nat.zero_add] at this
                    exact absurd this hT'
                by_cases hT : T q
                · exact hT' (k5 q hT)
                · have := (O.ud q _ hq).1 hT 0 p0.1 p0.2 rfl
                  rw [hu] at this; cases this
          obtain ⟨hfr, _⟩ := I'.ended hallV
          have hat : ∀ t, a.tmps.getD t undef = aV'.tmps.getD t undef := fun t => O'.at t fun i o _ hni ho => absurd (hallV i (Array.getElem?_eq_some_iff.1 ho).1) hni
          exact K f1 h1 ρ' a w hk (Env.le_trans hle le') I'.emb ⟨by rw [O'.asz]; exact hfr.1, fun t => by rw [hat t]; exact hfr.2 t⟩ (by rw [O'.ad]; exact I'.ad)
        · rename_i hne
          exfalso
          have : done ||| lateMask gs = 2 ^ ops.size - 1 := by
            apply Nat.eq_of_testBit_eq
            intro i
            rw [Nat.testBit_two_pow_sub_one]
            by_cases hi : i < ops.size
            · rw [decide_eq_true hi, Nat.testBit_or, Bool.or_eq_true]
              rcases O.vl i (hall i hi) with e | ⟨q, g, p, o, hq, _, hp⟩
              · exact .inl (I.sub i e)
              · exact .inr ((hlate i).2 ⟨g, List.mem_of_getElem? hq, p, o, hp⟩)
            · rw [decide_eq_false hi, Nat.testBit_or, Bool.or_eq_false_iff]
              constructor
              · cases hb : done.testBit i with
                | false => rfl
                | true => exact absurd (I.dlt i hb) hi
              · cases hb : (lateMask gs).testBit i with
                | false => rfl
                | true =>
                  obtain ⟨g, hg, p, o, hp⟩ := (hlate i).1 hb
                  exact absurd (Array.getElem?_eq_some_iff.1 (LO.mem g hg p i o hp)).1 hi
          have h2 : (done ||| lateMask gs) + 1 = 2 ^ ops.size := by have := Nat.two_pow_pos ops.size; omega
          rw [h2] at hne
          simp at hne
      induction F generalizing listed listedV a aV w M L with
      | zero =>
        have hall := hroom.zero
        refine ⟨?_, hend listed listedV a aV w M L I O hall⟩
        cases hr : Region.ready .any ops listed with
        | nil => rfl
        | cons x xs =>
          have hm : x ∈ Region.ready .any ops listed := by rw [hr]; exact List.mem_cons_self
          obtain ⟨h1, o, ho, _⟩ := mem_ready.1 hm
          have h2 := hall x (Array.getElem?_eq_some_iff.1 ho).1
          rw [Lst, getD_both h1] at h2
          cases h2
      | succ F ih =>
        refine ⟨fun hnil => hend listed listedV a aV w M L I O (ready_all S O.sz hnil), fun i hi => ?_⟩
        obtain ⟨h1, o, ho, hall⟩ := mem_ready.1 hi
        have his := (Array.getElem?_eq_some_iff.1 ho).1
        have hn : ¬ Lst listed i := fun hh => by rw [Lst, getD_both h1] at hh; cases hh
        have hr : ∀ j, Waits ops i j → Lst listed j := fun j ⟨o', ho', e, he, hb, hj⟩ => by
          obtain rfl := Option.some.inj (ho.symm.trans ho')
          rw [← hj]; exact hall e he hb
        have hroom' := hroom.set O.sz his hn
        have hnV : ¬ Lst listedV i := fun e => hn (O.lv i e)
        unfold wpOpIn
        rw [ho]
        dsimp only
        cases hd : done.testBit i with
        | true =>
          have hrV : ∀ j, Waits ops i j → Lst listedV j := fun j hj => (O.vl j (hr j hj)).elim id fun ⟨q, g, p, o', e1, e2, e3⟩ => by
            have := (O.ud q g e1).1 e2 p j o' e3
            rw [I.dcl i j hd hj] at this; cases this
          have hng : ∀ (q : Nat) (g : Grp), gs[q]? = some g → ¬ T q → ∀ (p : Nat) (o' : Oper), g[p]? ≠ some (i, o') := fun q g hq hT p o' hp => by
            have := (O.ud q g hq).1 hT p i o' hp
            rw [hd] at this; cases this
          have hlook : ∀ t ∈ o.looksAt ops, a.tmps.getD t undef = aV.tmps.getD t undef := fun t ht => O.at t fun i' o' hi' hni' ho' hot => by
            obtain ⟨q, g, p, o'', e1, e2, e3⟩ := (O.vl i' hi').resolve_left hni'
            rcases S.pair i' i o' o (fun e => hn (by rw [← e]; exact hi')) ho' ho with e4 | e4 | e4
            · exact hni' (hrV i' e4)
            · obtain ⟨q2, o2, _, e5⟩ := LO.wait g (List.mem_of_getElem? e1) p i' o'' e3 i e4
              exact hng q g e1 e2 q2 o2 e5
            · exact e4 t hot ht
          obtain ⟨o', fi, hm⟩ := I.pen i hd hnV
          obtain ⟨_, he⟩ := I.ent _ _ _ _ hm
          obtain ⟨ho', _, hev, ⟨ai, hai⟩, hlk⟩ := he hnV
          obtain rfl := Option.some.inj (ho.symm.trans ho')
          obtain ⟨hsz0, hag0⟩ := agree I hnV hrV hlk hai
          have hsz : ai.tmps.size = a.tmps.size := hsz0.trans O.asz.symm
          have hag : ∀ t ∈ o.looksAt ops, ai.tmps.getD t undef = a.tmps.getD t undef := fun t ht => (hag0 t ht).trans (hlook t ht).symm
          have hwa := wanted_agree hsz hag
          have hea := exec_agree (S.sel i o ho) hag
          have step : ∀ x, (vv i).real ρ = some x → wpAnyIn (fen rl) nn P .any ops Q F (listed.setIfInBounds i true) (a.put o.dst x) w := fun x hx => by
            have I' := I.later S ho hd hnV hrV hx (fun t ht => hdst i o ho t ht hd)
            have O' := O.exec S LO ho hn hr hng I.size x (fun t ht => by rw [O.asz, I.an]; exact hdst i o ho t ht hd) (done' := done) (h' := h) (ρ' := ρ) (w' := w) (fun j => ⟨.inr, fun e => e.elim (fun e => by rw [e]; exact hd) id⟩) (Nat.le_refl _) (fun _ _ _ _ _ _ => rfl) (fun q g l e1 e2 e3 => (O.dj q g l e1 e2 e3).2.2)
            exact ih (listed.setIfInBounds i true) (listedV.setIfInBounds i true) (a.put o.dst x) (aV.put o.dst x) w M L I' O' hroom'
          rcases evStillG_real I.emb hai hev with ⟨hw, hv⟩ | ⟨hw, x, hx1, hx2⟩
          · rw [if_neg (by rw [← hwa, hw]; exact Bool.false_ne_true)]
            exact ⟨fun _ _ => trivial, step undef (by rw [hv]; rfl)⟩
          · rw [if_pos (by rw [← hwa, hw])]
            refine ⟨fun _ _ => trivial, ?_⟩
            rw [Oper.semAt_eq _ _ _ (not_defer (S.sel i o ho)), ← hea, hx1]
            exact step x hx2
        | false =>
          cases hl : (lateMask gs).testBit i with
          | true =>
            obtain ⟨g, hg, p, o', hp⟩ := (hlate i).1 hl
            obtain rfl := Option.some.inj (ho.symm.trans (LO.mem g hg p i o' hp))
            obtain ⟨q, hq⟩ := List.mem_iff_getElem?.1 hg
            have hT : ¬ T q := fun hT => by
              have := ((O.ud q g hq).2 hT p i o hp).1
              rw [hd] at this; cases this
            have G := O.gi q g hq hT
            have hM : M q = p := by
              have h1 : ¬ p < M q := fun e => hn ((G.cnt p i o hp).2 e)
              refine Nat.le_antisymm (by omega) (Nat.le_of_not_lt fun hlt => ?_)
              obtain ⟨p', rfl⟩ : ∃ p', p = p' + 1 := ⟨p - 1, by omega⟩
              obtain ⟨io, hio⟩ : ∃ io, g[p']? = some io := ⟨_, List.getElem?_eq_getElem (by have := (List.getElem?_eq_some_iff.1 hp).1; omega)⟩
              have := (G.cnt p' io.1 io.2 hio).1 (hr _ (LO.chain g hg p' io.1 io.2 i o hio hp))
              omega
            rw [hM] at G
            obtain ⟨hgd, hst⟩ := G.step S LO hg O.sz hp (fun t ht => by rw [O.asz, I.an]; exact HF g hg p i o t hp ht) (rl := rl) (n := nn) (Q := Q) (next := fun a' w' => wpAnyIn (fen rl) nn P .any ops Q F (listed.setIfInBounds i true) a' w') fun w' x l' k1 k2 k3 k4 => by
              obtain ⟨E', O'⟩ := O.early S LO I.emb hq hT hp hn hnV hr k1 k2 k3 k4
              exact ih (listed.setIfInBounds i true) listedV (a.put o.dst x) aV w' _ _ (I.world E') O' hroom'
            rw [if_pos (by unfold Region.wanted; rw [hgd])]
            exact hst
          | false =>
            have hngA : ∀ g ∈ gs, ∀ (p : Nat) (o' : Oper), g[p]? ≠ some (i, o') := fun g hg p o' hp => by
              rw [(hlate i).2 ⟨g, hg, p, o', hp⟩] at hl; cases hl
            have hrD : ∀ j, Waits ops i j → (done ||| lateMask gs).testBit j = true := fun j hj => by
              rw [Nat.testBit_or, Bool.or_eq_true]
              rcases O.vl j (hr j hj) with e | ⟨q, g, p, o', e1, _, e3⟩
              · exact .inl (I.sub j e)
              · exact .inr ((hlate j).2 ⟨g, List.mem_of_getElem? e1, p, o', e3⟩)
            obtain ⟨m, A, hget⟩ := tab_some ho
            obtain ⟨_, rfl, hA⟩ := tab_get hget
            have hdl : (done ||| lateMask gs).testBit i = false := by rw [Nat.testBit_or, hd, hl]; rfl
            have hrd := (isReady_iff ho).2 ⟨hdl, hrD⟩
            split at hk
            · rename_i hfull
              exfalso
              have h2 := Nat.eq_of_beq_eq_true hfull
              have : done ||| lateMask gs = 2 ^ ops.size - 1 := by omega
              rw [this, Nat.testBit_two_pow_sub_one, decide_eq_true his] at hdl
              cases hdl
            · have hone := allA_spec _ _ hk (i, o, A) (by have := readyMs_mem (tabOf ops) 0 i o _ A hget (by rw [Nat.zero_add]; exact hrd); rwa [Nat.zero_add] at this)
              dsimp only at hone
              split at hone
              · cases hone
              rename_i d1 f1 h1' p1 had
              obtain ⟨vv1, lV1, aV1, ρ1, T1, I1, O1, le1, k4, k5, k6, k7⟩ := OI.adoptSel S LO HF (needs done (maskOf ops o).2.2) gs 0 done f h pend vv listedV aV ρ T (fun q g hq => by rw [Nat.zero_add]; exact hq) had I O fun q g hq hs => by
                rw [Nat.zero_add]
                obtain ⟨p, r, rfl, hb, hm⟩ := needs_spec hs
                have hwt := (waits_bit ho).1 hm
                refine ⟨fun hT => ?_, fun p' i' o' hp => ?_⟩
                · have := ((O.ud q _ hq).2 hT 0 p.1 p.2 rfl).1
                  rw [hb] at this; cases this
                · rcases LO.outer _ (List.mem_of_getElem? hq) 0 p.1 p.2 rfl i hwt with ⟨q2, o2, e⟩ | e
                  · exact absurd e (hngA _ (List.mem_of_getElem? hq) q2 o2)
                  · exact hr i' (e p' i' o' hp)
              have hd1 : d1.testBit i = false := by
                cases hb : d1.testBit i with
                | false => rfl
                | true =>
                  rcases k7 i hb with e | ⟨g, hg, p, o', hp⟩
                  · rw [hd] at e; cases e
                  · exact absurd hp (hngA g hg p o')
              have hnV1 : ¬ Lst lV1 i := fun e => hn (O1.lv i e)
              have hrV : ∀ j, Waits ops i j → Lst lV1 j := fun j hj => (O1.vl j (hr j hj)).elim id fun ⟨q, g, p, o', e1, e2, e3⟩ => by
                exfalso
                cases g with
                | nil => simp at e3
                | cons p0 r =>
                  have hw0 : Waits ops i p0.1 := by
                    rcases LO.outer _ (List.mem_of_getElem? e1) p j o' e3 i hj with ⟨q2, o2, e⟩ | e
                    · exact absurd e (hngA _ (List.mem_of_getElem? e1) q2 o2)
                    · exact e 0 p0.1 p0.2 rfl
                  have hu : done.testBit p0.1 = true := by
                    cases hb : done.testBit p0.1 with
                    | true => rfl
                    | false =>
                      have := k4 q (p0 :: r) e1 (by simp only [needs, hb]; exact (waits_bit ho).2 hw0)
                      rw [Nat.zero_add] at this
                      exact absurd this e2
                  by_cases hT : T q
                  · exact e2 (k5 q hT)
                  · have := (O.ud q _ e1).1 hT 0 p0.1 p0.2 rfl
                    rw [hu] at this; cases this
              have hrD1 : ∀ j, Waits ops i j → d1.testBit j = true := fun j hj => I1.sub j (hrV j hj)
              have hng : ∀ (q : Nat) (g : Grp), gs[q]? = some g → ¬ T1 q → ∀ (p : Nat) (o' : Oper), g[p]? ≠ some (i, o') := fun q g hq _ => hngA g (List.mem_of_getElem? hq)
              have hlook : ∀ t ∈ o.looksAt ops, a.tmps.getD t undef = aV1.tmps.getD t undef := fun t ht => O1.at t fun i' o' hi' hni' ho' hot => by
                obtain ⟨q, g, p, o'', e1, e2, e3⟩ := (O1.vl i' hi').resolve_left hni'
                rcases S.pair i' i o' o (fun e => hn (by rw [← e]; exact hi')) ho' ho with e4 | e4 | e4
                · exact hni' (hrV i' e4)
                · obtain ⟨q2, o2, _, e5⟩ := LO.wait g (List.mem_of_getElem? e1) p i' o'' e3 i e4
                  exact hng q g e1 e2 q2 o2 e5
                · exact e4 t hot ht
              obtain ⟨ag, hag⟩ := I1.gho
              have hlk := lookOk_now S I1 ho hd1 hrD1
              obtain ⟨hsz0, hagr0⟩ := agree I1 hnV1 hrV hlk hag
              have hsz : ag.tmps.size = a.tmps.size := hsz0.trans O1.asz.symm
              have hagr : ∀ t ∈ o.looksAt ops, ag.tmps.getD t undef = a.tmps.getD t undef := fun t ht => (hagr0 t ht).trans (hlook t ht).symm
              have hwa := wanted_agree hsz hagr
              have hea := exec_agree (S.sel i o ho) hagr
              have hdst1 : ∀ t, o.dst = some t → ∀ (f' : Fr) (v : AV), f1.put o.dst v = some f' → t < a.tmps.size := fun t ht f' v hf' => by
                rw [O1.asz, I1.an, ← I1.fn]; exact ((frput hf').2.1 t ht).2
              let X : Nat → Prop := fun b => ∃ (q : Nat) (g : Grp) (l : Loc), gs[q]? = some g ∧ ¬ T1 q ∧ L q = some l ∧ b = l.blk
              have E1 := I1.emb.rebase X (fun b ⟨q, g, l, e1, e2, e3, e4⟩ => by rw [e4]; exact (O1.dj q g l e1 e2 e3).2.1) (fun id l0 hid hl0 ⟨q, g, l, e1, e2, e3, e4⟩ => (O1.dj q g l e1 e2 e3).2.2 id l0 hid hl0 e4)
              have go : ∀ (v : AV) (h' : Hp) (ρ' : Env) (w' : World) (x : Value) (pend' : List Pend) (f' : Fr), f1.put o.dst v = some f' → checkPend P ops A h' p1 = some pend' → evDrawL P cf rf ops (tabOf ops) gs n (d1 ||| 2 ^ i) f' h' pend' k = .yes →
                  v.real ρ' = some x → Env.le ρ1 ρ' → Emb ρ' ⟨base.n, fun b => base.B b ∨ X b⟩ w h' w' → wpAnyIn (fen rl) nn P .any ops Q F (listed.setIfInBounds i true) (a.put o.dst x) w' := fun v h' ρ' w' x pend' f' hf' hc hk' hx hle' E' => by
                obtain ⟨c1, c2⟩ := checkPend_ok _ _ hc
                have I2 := I1.now S ho hd1 hrV hA hf' hx hle' (I1.emb.unbase E') c1 c2
                have O2 := O1.exec S LO ho hn hr hng I1.size x (fun t ht => hdst1 t ht f' v hf') (done' := d1 ||| 2 ^ i) (h' := h') (ρ' := ρ') (w' := w') (fun j => bit_set _ _ _) E'.below.size (fun q g l e1 e2 e3 => (E'.kept l.blk (.inr ⟨q, g, l, e1, e2, e3, rfl⟩)).2)
                  (fun q g l e1 e2 e3 id l' hid hl' e => by
                    obtain ⟨l2, hl2, hok, _⟩ := E'.live id hid
                    obtain rfl := Option.some.inj (hl'.symm.trans hl2)
                    exact hok.2 (.inr ⟨q, g, l, e1, e2, e3, e⟩))
                refine evDrawL_ok C D S LO HF K n _ f' h' pend' _ _ _ _ _ w' ρ' T1 M L F hk' I2 O2 (Env.le_trans hle (Env.le_trans le1 hle')) (fun j oj hj t ht hb => ?_) hroom'
                rcases (bit_set _ _ _).1 hb with rfl | hb
                · obtain rfl := Option.some.inj (ho.symm.trans hj)
                  rw [← I1.fn]; exact ((frput hf').2.1 t ht).2
                · rcases k7 j hb with e | ⟨g, hg, p, o', hp⟩
                  · exact hdst j oj hj t ht e
                  · obtain rfl := Option.some.inj (hj.symm.trans (LO.mem g hg p j o' hp))
                    exact HF g hg p j oj t hp ht
              have go2 : ∀ (v : AV) (h' : Hp) (ρ' : Env) (w' : World) (x : Value), (match f1.put o.dst v with
                  | some f' => match checkPend P ops A h' p1 with
                    | some pend' => evDrawL P cf rf ops (tabOf ops) gs n (d1 ||| 2 ^ i) f' h' pend' k
                    | none => .at o
                  | none => .at o) = .yes → v.real ρ' = some x → Env.le ρ1 ρ' → Emb ρ' ⟨base.n, fun b => base.B b ∨ X b⟩ w h' w' → wpAnyIn (fen rl) nn P .any ops Q F (listed.setIfInBounds i true) (a.put o.dst x) w' := fun v h' ρ' w' x q1 q2 q3 q4 => by
                split at q1
                case h_2 => cases q1
                rename_i f' hf'
                split at q1
                case h_2 => cases q1
                rename_i pend' hc
                exact go v h' ρ' w' x pend' f' hf' hc q1 q2 q3 q4
              split at hone
              · cases hone
              · rename_i hw
                have hw := evWanted_ok hag hw
                rw [if_neg (by rw [← hwa, hw]; exact Bool.false_ne_true)]
                exact ⟨fun _ _ => trivial, go2 (.v undef) h1' ρ1 w undef hone rfl (Env.le_refl ρ1) E1⟩
              · rename_i hw
                have hw := evWanted_ok hag hw
                rw [if_pos (by rw [← hwa, hw])]
                exact evOp_step (C _ _) (D _ _) E1 hag hea (fun hb => by rw [hb] at hone; cases hone) (fun v h' ρ' w' x hr q2 q3 q4 => go2 v h' ρ' w' x (by rw [hr] at hone; exact hone) q2 q3 q4) (fun h' ρ' w' hr q3 q4 => go2 (.v undef) h' ρ' w' undef (by rw [hr] at hone; exact hone) rfl q3 q4)
                  (fun v h' => match f1.put o.dst v with
                    | some f' => match checkPend P ops A h' p1 with
                      | some pend' => evDrawL P cf rf ops (tabOf ops) gs n (d1 ||| 2 ^ i) f' h' pend' k
                      | none => .at o
                    | none => .at o) (fun g args hr => by rw [hr] at hone; exact hone) (fun id args hr => by rw [hr] at hone; exact hone) (fun v h' ρ' x w' q1 q2 q3 q4 => go2 v h' ρ' w' x q1 q4 q2 q3)
                  (fun l p ρ' w' x hr hp q2 q3 q4 => go2 p.1 p.2 ρ' w' x (by rw [hr] at hone; exact allA_spec l _ hone p hp) q2 q3 q4)
end
end Go.Proofs.Ytcakdjnnfonijaa
namespace Go.Proofs.Ytcakdjnnfonijaa
open Go.RowKit

/-- Who waits for one of two waits for both. -/
noncomputable def outA (i gm : Nat) : List Row → Nat → Bool
  | [], _ => true
  | (_, m, _) :: r, j => match Nat.beq j (i + 1) with
    | true => outA i gm r (j + 1)
    | false => match Nat.beq (m.2.2 &&& gm) 0 with
      | true => outA i gm r (j + 1)
      | false => match Nat.beq (m.2.2 &&& gm) gm with
        | true => outA i gm r (j + 1)
        | false => false
theorem outA_spec {i gm : Nat} : ∀ (l : List Row) (j : Nat), outA i gm l j = true → ∀ (p : Nat) (o : Oper) (m : Masks) (A : Nat), l[p]? = some (o, m, A) → j + p = i + 1 ∨ m.2.2 &&& gm = 0 ∨ m.2.2 &&& gm = gm
  | [], j, _, p, o, m, A, hp => by simp at hp
  | (o', m', A') :: r, j, h, p, o, m, A, hp => by
    simp only [outA] at h
    cases p with
    | zero =>
      simp only [List.getElem?_cons_zero, Option.some.injEq, Prod.mk.injEq] at hp
      obtain ⟨rfl, rfl, rfl⟩ := hp
      split at h
      · rename_i e; exact .inl (Nat.eq_of_beq_eq_true e)
      · split at h
        · rename_i e; exact .inr (.inl (Nat.eq_of_beq_eq_true e))
        · split at h
          · rename_i e; exact .inr (.inr (Nat.eq_of_beq_eq_true e))
          · cases h
    | succ p =>
      have h' : outA i gm r (j + 1) = true := by
        split at h
        · exact h
        · split at h
          · exact h
          · split at h
            · exact h
            · cases h
      have := outA_spec r (j + 1) h' p o m A (by simpa using hp)
      rcases this with e | e
      · exact .inl (by omega)
      · exact .inr e
noncomputable def isNil {α : Type} : List α → Bool
  | [] => true
  | _ :: _ => false
noncomputable def allT (d : Option Tmp) (l : List Tmp) : Bool := match d with
  | some t => l.all fun x => Nat.beq x t
  | none => false
noncomputable def isSomeB {α : Type} : Option α → Bool
  | some _ => true
  | none => false
noncomputable def secondOk (P : Program) (ops : Array Oper) (tab : List Row) (i : Nat) (o : Oper) (o2 : Oper) (m2 : Masks) : Bool := match Nat.beq m2.2.2 (2 ^ i) with
  | true => match isStill o2 with
    | false => match allT o.dst (o2.looksAt ops) with
      | true => match outA i (2 ^ i ||| 2 ^ (i + 1)) tab 0 with
        | true => isSomeB (gRun P [(i, o), (i + 1, o2)] gStart)
        | false => false
      | false => false
    | true => false
  | false => false
noncomputable def grpAt (P : Program) (ops : Array Oper) (tab : List Row) (i : Nat) : Grp := match tab[i]? with
  | some (o, m, _) => match Nat.beq m.2.2 0 with
    | true => match isStill o with
      | false => match isNil (o.looksAt ops) with
        | true => match isSomeB (gRun P [(i, o)] gStart) with
          | true => match tab[i + 1]? with
            | some (o2, m2, _) => match secondOk P ops tab i o o2 m2 with
              | true => [(i, o), (i + 1, o2)]
              | false => [(i, o)]
            | none => [(i, o)]
          | false => []
        | false => []
      | true => []
    | false => []
  | none => []
noncomputable def disjB : List Grp → Bool
  | [] => true
  | g :: r => match Nat.beq (doneAdd g 0 &&& lateMask r) 0 with
    | true => disjB r
    | false => false
noncomputable def lates (P : Program) (ops : Array Oper) : List Grp := match disjB (((List.range ops.size).map (grpAt P ops (tabOf ops))).filter fun g => !isNil g) with
  | true => ((List.range ops.size).map (grpAt P ops (tabOf ops))).filter fun g => !isNil g
  | false => []
theorem gRun_some {P : Program} {p : Nat × Oper} {r : Grp} (h : isSomeB (gRun P (p :: r) gStart) = true) : ∃ fe be, gRun P (p :: r) gStart = some (fe, some be) := by
  have key : ∀ (l : Grp) (s e : Fr × Option Blk), gRun P l s = some e → (l = [] ∧ e = s) ∨ ∃ b, e.2 = some b := fun l => by
    induction l with
    | nil => exact fun s e h => .inl ⟨rfl, (Option.some.inj h).symm⟩
    | cons q l ih =>
      intro s e h
      simp only [gRun] at h
      split at h
      · rename_i f' b' _
        rcases ih _ _ h with ⟨_, rfl⟩ | h
        · exact .inr ⟨b', rfl⟩
        · exact .inr h
      · cases h
  cases hr : gRun P (p :: r) gStart with
  | none => rw [hr] at h; cases h
  | some e =>
    obtain ⟨fe, be⟩ := e
    rcases key _ _ _ hr with ⟨e, _⟩ | ⟨b, hb⟩
    · cases e
    · dsimp only at hb
      subst hb
      exact ⟨fe, b, rfl⟩
theorem looks_nil {l : List Tmp} (h : isNil l = true) : l = [] := by
  cases l with
  | nil => rfl
  | cons _ _ => cases h
theorem allT_spec {d : Option Tmp} {l : List Tmp} (h : allT d l = true) : ∀ t ∈ l, d = some t := by
  unfold allT at h
  split at h
  · rename_i x
    intro t ht
    rw [Nat.eq_of_beq_eq_true (List.all_eq_true.1 h t ht)]
  · cases h
/-- What a group is. -/
structure G1 (P : Program) (ops : Array Oper) (i : Nat) (o : Oper) : Prop where
  op : ops[i]? = some o
  wait : ∀ k, ¬ Waits ops i k
  look : o.looksAt ops = []
  still : isStill o = false
structure G2 (P : Program) (ops : Array Oper) (i : Nat) (o o2 : Oper) : Prop where
  op : ops[i + 1]? = some o2
  wait : ∀ k, Waits ops (i + 1) k ↔ k = i
  look : ∀ t ∈ o2.looksAt ops, o.dst = some t
  still : isStill o2 = false
  outer : ∀ j, j ≠ i + 1 → (Waits ops j i ↔ Waits ops j (i + 1))
theorem grpAt_spec {P : Program} {ops : Array Oper} {i : Nat} (h : isNil (grpAt P ops (tabOf ops) i) = false) :
    (∃ o, grpAt P ops (tabOf ops) i = [(i, o)] ∧ G1 P ops i o ∨ ∃ o2, grpAt P ops (tabOf ops) i = [(i, o), (i + 1, o2)] ∧ G1 P ops i o ∧ G2 P ops i o o2) ∧ ∃ fe be, gRun P (grpAt P ops (tabOf ops) i) gStart = some (fe, some be) := by
  unfold grpAt at h ⊢
  split
  case h_2 => rename_i e; rw [e] at h; cases h
  rename_i o m A hget
  rw [hget] at h
  dsimp only at h
  obtain ⟨ho, rfl, _⟩ := tab_get hget
  split
  case h_2 => rename_i e; rw [e] at h; cases h
  rename_i hw
  rw [hw] at h
  dsimp only at h
  split
  case h_2 => rename_i e; rw [e] at h; cases h
  rename_i hst
  rw [hst] at h
  dsimp only at h
  split
  case h_2 => rename_i e; rw [e] at h; cases h
  rename_i hlk
  rw [hlk] at h
  dsimp only at h
  split
  case h_2 => rename_i e; rw [e] at h; cases h
  rename_i hrun
  have hw0 := Nat.eq_of_beq_eq_true hw
  have g1 : G1 P ops i o := ⟨ho, fun k hk => by have := (waits_bit ho).2 hk; rw [hw0] at this; simp at this, looks_nil hlk, hst⟩
  split
  · rename_i o2 m2 A2 hget2
    obtain ⟨ho2, rfl, _⟩ := tab_get hget2
    split
    · rename_i hs
      unfold secondOk at hs
      split at hs
      case h_2 => cases hs
      rename_i hw2
      split at hs
      case h_2 => cases hs
      rename_i hst2
      split at hs
      case h_2 => cases hs
      rename_i hlk2
      split at hs
      case h_2 => cases hs
      rename_i hout
      have hw2 := Nat.eq_of_beq_eq_true hw2
      refine ⟨⟨o, .inr ⟨o2, rfl, g1, ho2, fun k => ?_, allT_spec hlk2, hst2, fun j hj => ?_⟩⟩, gRun_some hs⟩
      · rw [← waits_bit ho2, hw2, Nat.testBit_two_pow, decide_eq_true_eq]
        exact eq_comm
      · cases hoj : ops[j]? with
        | none => exact ⟨fun ⟨_, e, _⟩ => (by rw [hoj] at e; cases e), fun ⟨_, e, _⟩ => (by rw [hoj] at e; cases e)⟩
        | some oj =>
          obtain ⟨mj, Aj, hgj⟩ := tab_some hoj
          obtain ⟨_, rfl, _⟩ := tab_get hgj
          have hb : ∀ b, ((maskOf ops oj).2.2 &&& (2 ^ i ||| 2 ^ (i + 1))).testBit b = ((maskOf ops oj).2.2.testBit b && (decide (i = b) || decide (i + 1 = b))) := fun b => by
            rw [Nat.testBit_and, Nat.testBit_or, Nat.testBit_two_pow, Nat.testBit_two_pow]
          rw [← waits_bit hoj, ← waits_bit hoj]
          rcases outA_spec _ 0 hout j oj _ Aj hgj with e | e | e
          · exact absurd (by omega) hj
          · have e1 := hb i
            have e2 := hb (i + 1)
            rw [e] at e1 e2
            simp at e1 e2
            rw [e1, e2]
          · have e1 := hb i
            have e2 := hb (i + 1)
            rw [e] at e1 e2
            simp only [Nat.testBit_or, Nat.testBit_two_pow] at e1 e2
            simp at e1 e2
            rw [e1, e2]
    · exact ⟨⟨o, .inl ⟨rfl, g1⟩⟩, gRun_some hrun⟩
  · exact ⟨⟨o, .inl ⟨rfl, g1⟩⟩, gRun_some hrun⟩
theorem disjB_spec : ∀ (gs : List Grp), disjB gs = true → ∀ (q q' : Nat) (g g' : Grp), gs[q]? = some g → gs[q']? = some g' → q ≠ q' → ∀ (p p' i : Nat) (o o' : Oper), g[p]? = some (i, o) → g'[p']? = some (i, o') → False
  | [], _, q, q', g, g', h, _, _, _, _, _, _, _, _, _ => by simp at h
  | g0 :: r, hd, q, q', g, g', hq, hq', hne, p, p', i, o, o', hp, hp' => by
    simp only [disjB] at hd
    split at hd
    case h_2 => cases hd
    rename_i h0
    have h0 := Nat.eq_of_beq_eq_true h0
    have key : ∀ (q : Nat) (g : Grp) (p p' : Nat) (o o' : Oper), r[q]? = some g → g0[p]? = some (i, o) → g[p']? = some (i, o') → False := fun q g p p' o o' hq hp hp' => by
      have h1 : (doneAdd g0 0).testBit i = true := (doneAdd_bit g0 0 i).2 (.inl ⟨p, o, hp⟩)
      have h2 : (lateMask r).testBit i = true := (lateMask_bit r i).2 ⟨g, List.mem_of_getElem? hq, p', o', hp'⟩
      have := congrArg (fun x => x.testBit i) h0
      simp [Nat.testBit_and, h1, h2] at this
    cases q with
    | zero =>
      cases q' with
      | zero => exact hne rfl
      | succ q' =>
        simp only [List.getElem?_cons_zero, Option.some.injEq] at hq
        subst hq
        exact key q' g' p p' o o' (by simpa using hq') hp hp'
    | succ q =>
      cases q' with
      | zero =>
        simp only [List.getElem?_cons_zero, Option.some.injEq] at hq'
        subst hq'
        exact key q g p' p o' o (by simpa using hq) hp' hp
      | succ q' => exact disjB_spec r hd q q' g g' (by simpa using hq) (by simpa using hq') (by omega) p p' i o o' hp hp'
theorem lates_ok (P : Program) (ops : Array Oper) : LateOk P ops (lates P ops) := by
  unfold lates
  split
  case h_2 => exact ⟨fun g hg => by simp at hg, fun g hg => by simp at hg, fun g hg => by simp at hg, fun g hg => by simp at hg, fun g hg => by simp at hg, fun g hg => by simp at hg, fun g hg => by simp at hg, fun q q' g g' hq => by simp at hq, fun g hg => by simp at hg⟩
  rename_i hd
  have hsp : ∀ g ∈ ((List.range ops.size).map (grpAt P ops (tabOf ops))).filter (fun g => !isNil g), ∃ i, (∃ o, g = [(i, o)] ∧ G1 P ops i o ∨ ∃ o2, g = [(i, o), (i + 1, o2)] ∧ G1 P ops i o ∧ G2 P ops i o o2) ∧ ∃ fe be, gRun P g gStart = some (fe, some be) := fun g hg => by
    obtain ⟨h1, h2⟩ := List.mem_filter.1 hg
    obtain ⟨i, _, rfl⟩ := List.mem_map.1 h1
    exact ⟨i, grpAt_spec (by simpa using h2)⟩
  have two : ∀ {i : Nat} {o o2 : Oper} {p j : Nat} {x : Oper}, [(i, o), (i + 1, o2)][p]? = some (j, x) → (p = 0 ∧ j = i ∧ x = o) ∨ (p = 1 ∧ j = i + 1 ∧ x = o2) := fun {i o o2 p j x} h => by
    match p, h with
    | 0, h =>
      simp only [List.getElem?_cons_zero, Option.some.injEq, Prod.mk.injEq] at h
      exact .inl ⟨rfl, h.1.symm, h.2.symm⟩
    | 1, h =>
      simp only [List.getElem?_cons_succ, List.getElem?_cons_zero, Option.some.injEq, Prod.mk.injEq] at h
      exact .inr ⟨rfl, h.1.symm, h.2.symm⟩
    | p + 2, h => simp at h
  have uno : ∀ {i : Nat} {o : Oper} {p j : Nat} {x : Oper}, [(i, o)][p]? = some (j, x) → p = 0 ∧ j = i ∧ x = o := fun {i o p j x} h => by
    match p, h with
    | 0, h =>
      simp only [List.getElem?_cons_zero, Option.some.injEq, Prod.mk.injEq] at h
      exact ⟨rfl, h.1.symm, h.2.symm⟩
    | p + 1, h => simp at h
  refine ⟨fun g hg p i o hp => ?_, fun g hg p i o hp => ?_, fun g hg p i o hp t ht => ?_, fun g hg p i o hp k hk => ?_, fun g hg p i o i' o' hp hp' => ?_, fun g hg p i o hp j hj => ?_, fun g hg p q i o o' hp hq => ?_, disjB_spec _ hd, fun g hg => let ⟨_, _, h⟩ := hsp g hg; h⟩
  · obtain ⟨i0, ⟨o0, ⟨rfl, g1⟩ | ⟨o2, rfl, g1, g2⟩⟩, _⟩ := hsp g hg
    · obtain ⟨rfl, rfl, rfl⟩ := uno hp; exact g1.op
    · rcases two hp with ⟨rfl, rfl, rfl⟩ | ⟨rfl, rfl, rfl⟩
      · exact g1.op
      · exact g2.op
  · obtain ⟨i0, ⟨o0, ⟨rfl, g1⟩ | ⟨o2, rfl, g1, g2⟩⟩, _⟩ := hsp g hg
    · obtain ⟨rfl, rfl, rfl⟩ := uno hp; exact g1.still
    · rcases two hp with ⟨rfl, rfl, rfl⟩ | ⟨rfl, rfl, rfl⟩
      · exact g1.still
      · exact g2.still
  · obtain ⟨i0, ⟨o0, ⟨rfl, g1⟩ | ⟨o2, rfl, g1, g2⟩⟩, _⟩ := hsp g hg
    · obtain ⟨rfl, rfl, rfl⟩ := uno hp; rw [g1.look] at ht; cases ht
    · rcases two hp with ⟨rfl, rfl, rfl⟩ | ⟨rfl, rfl, rfl⟩
      · rw [g1.look] at ht; cases ht
      · exact ⟨0, i0, o0, Nat.zero_lt_one, rfl, g2.look t ht⟩
  · obtain ⟨i0, ⟨o0, ⟨rfl, g1⟩ | ⟨o2, rfl, g1, g2⟩⟩, _⟩ := hsp g hg
    · obtain ⟨rfl, rfl, rfl⟩ := uno hp; exact (g1.wait k hk).elim
    · rcases two hp with ⟨rfl, rfl, rfl⟩ | ⟨rfl, rfl, rfl⟩
      · exact (g1.wait k hk).elim
      · have := (g2.wait k).1 hk
        exact ⟨0, o0, Nat.zero_lt_one, by rw [this]; rfl⟩
  · obtain ⟨i0, ⟨o0, ⟨rfl, g1⟩ | ⟨o2, rfl, g1, g2⟩⟩, _⟩ := hsp g hg
    · obtain ⟨rfl, _, _⟩ := uno hp
      have := (uno hp').1
      omega
    · rcases two hp with ⟨rfl, rfl, rfl⟩ | ⟨rfl, rfl, rfl⟩
      · rcases two hp' with ⟨h, _, _⟩ | ⟨_, rfl, rfl⟩
        · omega
        · exact (g2.wait _).2 rfl
      · rcases two hp' with ⟨h, _, _⟩ | ⟨h, _, _⟩ <;> omega
  · obtain ⟨i0, ⟨o0, ⟨rfl, g1⟩ | ⟨o2, rfl, g1, g2⟩⟩, _⟩ := hsp g hg
    · obtain ⟨rfl, rfl, rfl⟩ := uno hp
      refine .inr fun q i' o' hq => ?_
      obtain ⟨_, rfl, _⟩ := uno hq
      exact hj
    · by_cases hjj : j = i0 + 1
      · exact .inl ⟨1, o2, by rw [hjj]; rfl⟩
      · have hiff := g2.outer j hjj
        have hboth : Waits ops j i0 ∧ Waits ops j (i0 + 1) := by
          rcases two hp with ⟨rfl, rfl, rfl⟩ | ⟨rfl, rfl, rfl⟩
          · exact ⟨hj, hiff.1 hj⟩
          · exact ⟨hiff.2 hj, hj⟩
        refine .inr fun q i' o' hq => ?_
        rcases two hq with ⟨rfl, rfl, rfl⟩ | ⟨rfl, rfl, rfl⟩
        · exact hboth.1
        · exact hboth.2
  · obtain ⟨i0, ⟨o0, ⟨rfl, g1⟩ | ⟨o2, rfl, g1, g2⟩⟩, _⟩ := hsp g hg
    · exact (uno hp).1.trans (uno hq).1.symm
    · rcases two hp with ⟨rfl, rfl, rfl⟩ | ⟨rfl, rfl, rfl⟩
      · rcases two hq with ⟨rfl, _, _⟩ | ⟨_, h, _⟩
        · rfl
        · omega
      · rcases two hq with ⟨_, h, _⟩ | ⟨rfl, _, _⟩
        · omega
        · rfl
/-- The slots that groups write. -/
noncomputable def topSlot : List Grp → Nat
  | [] => 0
  | g :: r => Nat.max (g.foldr (fun p n => match p.2.dst with
    | some t => Nat.max (t + 1) n
    | none => n) 0) (topSlot r)
theorem topSlot_spec {n : Nat} : ∀ (gs : List Grp), topSlot gs ≤ n → ∀ g ∈ gs, ∀ (p i : Nat) (o : Oper) (t : Tmp), g[p]? = some (i, o) → o.dst = some t → t < n
  | [], _, g, hg, _, _, _, _, _, _ => by simp at hg
  | g0 :: r, h, g, hg, p, i, o, t, hp, ht => by
    simp only [topSlot] at h
    have h1 : g0.foldr (fun p n => match p.2.dst with | some t => Nat.max (t + 1) n | none => n) 0 ≤ n := Nat.le_trans (Nat.le_max_left _ _) h
    have h2 : topSlot r ≤ n := Nat.le_trans (Nat.le_max_right _ _) h
    rcases List.mem_cons.1 hg with rfl | hg
    · clear h h2 hg
      induction g generalizing p with
      | nil => simp at hp
      | cons x g ih =>
        simp only [List.foldr_cons] at h1
        cases p with
        | zero =>
          simp only [List.getElem?_cons_zero, Option.some.injEq] at hp
          subst hp
          dsimp only at h1
          rw [ht] at h1
          exact Nat.le_trans (Nat.le_max_left _ _) h1
        | succ p =>
          refine ih p (by simpa using hp) ?_
          split at h1
          · exact Nat.le_trans (Nat.le_max_right _ _) h1
          · exact h1
    · exact topSlot_spec r h2 g hg p i o t hp ht
end Go.Proofs.Ytcakdjnnfonijaa
