/- A reckoner of closed runs, 2: blocks under names, and a world in which they lie. Nothing of the program is used here. -/
import Derived.Test.YtnpdnlnglahicaaGreatDoorEvBase
namespace Go.Proofs.YtnpdnlnglahicaaGreatDoor
open Go.RowKit

/-- A row of cells: packed ones, and over them what was put in. -/
structure Cl where
  t : Tr AV
  N : Nat
noncomputable def Cl.at (c : Cl) (i : Nat) : AV :=
  Cl.rec (fun t N => Tr.rec (unpackA (cellN N i)) (fun l o r _ _ => Option.rec (unpackA (cellN N i)) (fun a => a) (getP (pa i) (.node l o r))) t) c
theorem Cl.at_eq (c : Cl) (i : Nat) : c.at i = (c.t.get i).getD (.v (unpackV (cellN c.N i))) := by
  obtain ⟨t, N⟩ := c
  rw [← unpackA_eq]
  cases t with
  | nil => show _ = ((Tr.nil : Tr AV).get i).getD _; rw [Tr.get_nil]; rfl
  | node l o r =>
    show (Option.rec _ _ (getP (pa i) (.node l o r)) : AV) = (getP (pa i) (.node l o r)).getD _
    cases getP (pa i) (.node l o r) <;> rfl
theorem Cl.at_nil (N i : Nat) : (⟨.nil, N⟩ : Cl).at i = .v (unpackV (cellN N i)) := unpackA_eq _
/-- A block: cells (opn: so many cells an element of a row whose room is not known), or a map. -/
inductive Blk where
  | cells (c : Cl) (n : Nat) (elem : TypeId) (opn : Option Nat)
  | map (es : List (AV × AV × Nat)) (clock : Nat)
  | loop (t : Tr AV) (n : Nat) (ps : Array Tmp) (assign body : Code) (st : LoopState) (pend : Option Code) (dfr : Nat)
  | dfr
  | sit (s : ByteArray) (pos : Nat)
  | mit (m : Option Nat) (since : Nat) (seen : List Nat) (stepped : Nat)
  | gone
structure Hp where
  tr : Tr Blk
  nx : Nat
noncomputable def Hp.get (h : Hp) (id : Nat) : Blk := (h.tr.get id).getD .gone
noncomputable def Hp.put (h : Hp) (id : Nat) (b : Blk) : Hp := ⟨h.tr.set id b, h.nx⟩
noncomputable def Hp.new (h : Hp) (b : Blk) : Hp := ⟨h.tr.set h.nx b, h.nx + 1⟩
theorem Hp.get_put (h : Hp) (id : Nat) (b : Blk) (j : Nat) : (h.put id b).get j = if j = id then b else h.get j := by
  unfold Hp.get Hp.put
  simp only [Tr.get_set]
  split <;> rfl
theorem Hp.get_new (h : Hp) (b : Blk) (j : Nat) : (h.new b).get j = if j = h.nx then b else h.get j := by
  unfold Hp.get Hp.new
  simp only [Tr.get_set]
  split <;> rfl
noncomputable def cellAt (c : Cl) (n : Nat) (i : Nat) : Option AV := match Nat.blt i n with
  | true => some (c.at i)
  | false => none
theorem blt_eq (i n : Nat) : Nat.blt i n = decide (i < n) := by
  cases h : decide (i < n) with
  | true => exact Nat.ble_eq_true_of_le (of_decide_eq_true h)
  | false =>
    have := of_decide_eq_false h
    cases hb : Nat.blt i n with
    | true => exact absurd (Nat.le_of_ble_eq_true hb) this
    | false => rfl
theorem cellAt_some {c : Cl} {n : Nat} {i : Nat} {a : AV} (h : cellAt c n i = some a) : i < n ∧ a = c.at i := by
  unfold cellAt at h
  rw [blt_eq] at h
  cases hd : decide (i < n) with
  | true => rw [hd] at h; exact ⟨of_decide_eq_true hd, (Option.some.inj h).symm⟩
  | false => rw [hd] at h; cases h
theorem cellAt_lt {c : Cl} {n : Nat} {i : Nat} (h : i < n) : cellAt c n i = some (c.at i) := by
  unfold cellAt
  rw [blt_eq, decide_eq_true h]
inductive All2 {α β : Type} (R : α → β → Prop) : List α → List β → Prop where
  | nil : All2 R [] []
  | cons {a : α} {b : β} {x : List α} {y : List β} (h : R a b) (k : All2 R x y) : All2 R (a :: x) (b :: y)
def entR (ρ : Env) (e : AV × AV × Nat) (m : MapEntry) : Prop := e.1.real ρ = some m.key ∧ e.2.1.real ρ = some m.val ∧ e.2.2 = m.born
/-- None of a row's cells is frozen (the mark that a string's bytes leave lies behind them). -/
def FzOk (opn : Option Nat) (size : Nat) (fz : Nat × Nat) : Prop := fz = (0, 0) ∨ (opn ≠ none ∧ size ≤ fz.1)
theorem FzOk.free {opn : Option Nat} {size : Nat} {fz : Nat × Nat} (h : FzOk opn size fz) (j : Nat) (hj : j < size) : ¬ (fz.1 ≤ j ∧ j < fz.2) := by
  rcases h with rfl | ⟨_, h⟩
  · simp
  · omega
/-- How a block lies in a world. -/
def BlkR (ρ : Env) (l : Loc) : Blk → Option Obj → Prop
  | .cells c n elem opn, o => ∃ (C : Array Value) (fz : Nat × Nat), o = some (.cells C elem fz) ∧ FzOk opn C.size fz ∧ l.off + n ≤ C.size ∧ (opn = none → l.off = 0 ∧ C.size = n) ∧ (∀ sz, opn = some sz → l.off + n + l.extra * sz ≤ C.size) ∧
      ∀ i a, cellAt c n i = some a → ∃ x, a.real ρ = some x ∧ C[l.off + i]? = some x
  | .map es clock, o => ∃ es' : Array MapEntry, o = some (.map es' clock) ∧ All2 (entR ρ) es es'.toList
  | .loop t n ps cz bd st pe d, o => ∃ (fn : FuncId) (tmps : Array Value) (ld : Loc), o = some (.loop { state := st, pending := pe, fn, tmps, params := ps, assign := cz, body := bd, defers := ld.blk }) ∧ ρ d = some ld ∧ tmps.size = n ∧ ∀ i, ((t.get i).getD (.tup [])).real ρ = some (tmps.getD i undef)
  | .dfr, o => o = some (.deferred (some []))
  | .sit s pos, o => l.off = 0 ∧ o = some (.stringIter s pos)
  | .mit m since seen stp, o => l.off = 0 ∧ ∃ m' : Option Nat, o = some (.mapIter m' since seen.toArray stp) ∧ (m = none → m' = none) ∧ ∀ id, m = some id → ∃ l, ρ id = some l ∧ m' = some l.blk
  | .gone, _ => True
theorem BlkR.mono {ρ ρ' : Env} {l : Loc} {b : Blk} {o : Option Obj} (h : BlkR ρ l b o) (hle : Env.le ρ ρ') : BlkR ρ' l b o := by
  cases b with
  | cells c n elem opn =>
    obtain ⟨C, fz, h1, hf, h2, h3, h4, h5⟩ := h
    exact ⟨C, fz, h1, hf, h2, h3, h4, fun i a hi => let ⟨x, hx, hc⟩ := h5 i a hi; ⟨x, AV.real_mono hle a x hx, hc⟩⟩
  | map es clock =>
    obtain ⟨es', h1, h2⟩ := h
    refine ⟨es', h1, ?_⟩
    revert h2
    generalize es'.toList = ms
    clear h1
    intro h2
    induction h2 with
    | nil => exact .nil
    | cons h _ ih => exact .cons ⟨AV.real_mono hle _ _ h.1, AV.real_mono hle _ _ h.2.1, h.2.2⟩ ih
  | loop t n ps cz bd st pe d =>
    obtain ⟨fn, tmps, ld, h1, h2, h3, h4⟩ := h
    exact ⟨fn, tmps, ld, h1, hle _ _ h2, h3, fun i => AV.real_mono hle _ _ (h4 i)⟩
  | dfr => exact h
  | sit s pos => exact h
  | mit m since seen stp =>
    obtain ⟨h0, m', h1, h2, h3⟩ := h
    exact ⟨h0, m', h1, h2, fun id hid => let ⟨l, hl, e⟩ := h3 id hid; ⟨l, hle _ _ hl, e⟩⟩
  | gone => trivial
/-- What is kept: all below a number, and some blocks besides. -/
structure Kp where
  n : Nat
  B : Nat → Prop
def Kp.ok (k : Kp) (b : Nat) : Prop := k.n ≤ b ∧ ¬ k.B b
structure Emb (ρ : Env) (base : Kp) (w0 : World) (h : Hp) (w : World) : Prop where
  below : Below base.n w0 w
  bw : base.n ≤ w.heap.size
  kept : ∀ b, base.B b → b < w.heap.size ∧ w.heap[b]? = w0.heap[b]?
  fresh : ∀ id l, ρ id = some l → id < h.nx ∧ l.blk < w.heap.size
  live : ∀ id, h.get id ≠ .gone → ∃ l, ρ id = some l ∧ base.ok l.blk ∧ BlkR ρ l (h.get id) w.heap[l.blk]?
  apart : ∀ id id' l l', h.get id ≠ .gone → h.get id' ≠ .gone → ρ id = some l → ρ id' = some l' → l.blk = l'.blk → id = id'
/-- The block of a name. -/
theorem Emb.cells {ρ : Env} {base : Kp} {w0 : World} {h : Hp} {w : World} (E : Emb ρ base w0 h w) {id : Nat} {c : Cl} {n : Nat} {elem : TypeId} {opn : Option Nat} (hg : h.get id = .cells c n elem opn) :
    ∃ l C fz, ρ id = some l ∧ base.ok l.blk ∧ w.heap[l.blk]? = some (.cells C elem fz) ∧ FzOk opn C.size fz ∧ l.off + n ≤ C.size ∧ (opn = none → l.off = 0 ∧ C.size = n) ∧ (∀ sz, opn = some sz → l.off + n + l.extra * sz ≤ C.size) ∧
      ∀ i a, cellAt c n i = some a → ∃ x, a.real ρ = some x ∧ C[l.off + i]? = some x := by
  obtain ⟨l, hl, hb, hr⟩ := E.live id (by rw [hg]; exact fun e => by cases e)
  rw [hg] at hr
  obtain ⟨C, fz, h1, hf, h2, h3, h4, h5⟩ := hr
  exact ⟨l, C, fz, hl, hb, h1, hf, h2, h3, h4, h5⟩
theorem frozen_free {w : World} {b k : Nat} {C : Array Value} {elem : TypeId} {fz : Nat × Nat} {opn : Option Nat} (h : w.heap[b]? = some (.cells C elem fz)) (hf : FzOk opn C.size fz) (hk : k < C.size) : w.frozen? ⟨b, k, none⟩ = false := by
  have := hf.free k hk
  obtain ⟨lo, hi⟩ := fz
  simp only [World.frozen?, h, Bool.and_eq_false_iff, decide_eq_false_iff_not]
  simp only at this
  omega
/-- A cell is read. -/
theorem Emb.load {ρ : Env} {base : Kp} {w0 : World} {h : Hp} {w : World} (E : Emb ρ base w0 h w) {id : Nat} {c : Cl} {n : Nat} {elem : TypeId} {opn : Option Nat} (hg : h.get id = .cells c n elem opn) {l : Loc} (hl : ρ id = some l)
    {i : Nat} {a : AV} (hi : cellAt c n i = some a) : ∃ x, a.real ρ = some x ∧ w.cell? ⟨l.blk, l.off + i, none⟩ = some x ∧ w.frozen? ⟨l.blk, l.off + i, none⟩ = false := by
  obtain ⟨l', C, fz, hl', _, h1, hf, h2, _, _, h5⟩ := E.cells hg
  obtain rfl := Option.some.inj (hl.symm.trans hl')
  obtain ⟨x, hx, hc⟩ := h5 i a hi
  have hlt := (cellAt_some hi).1
  exact ⟨x, hx, by rw [cell_of_row w _ _ C elem fz h1]; exact hc, frozen_free h1 hf (by omega)⟩
theorem Emb.drew {ρ : Env} {base : Kp} {w0 : World} {h : Hp} {w : World} (E : Emb ρ base w0 h w) (w' : World) (hh : w'.heap = w.heap) (ho : w'.os = w.os) (ht : w'.tape = w.tape) (hp : w'.output = w.output) : Emb ρ base w0 h w' :=
  ⟨⟨ho.trans E.below.os, ht.trans E.below.tape, hp.trans E.below.output, by rw [hh]; exact E.below.size, fun k hk => by rw [hh]; exact E.below.block k hk⟩, by rw [hh]; exact E.bw, by rw [hh]; exact E.kept, by rw [hh]; exact E.fresh, by rw [hh]; exact E.live, E.apart⟩
/-- A row is changed. -/
theorem Emb.setRow {ρ : Env} {base : Kp} {w0 : World} {h : Hp} {w : World} (E : Emb ρ base w0 h w) {id : Nat} {c : Cl} {n : Nat} {elem : TypeId} {opn : Option Nat} (hg : h.get id = .cells c n elem opn) {l : Loc} (hl : ρ id = some l)
    {C C' : Array Value} {fz : Nat × Nat} (hC : w.heap[l.blk]? = some (.cells C elem fz)) (hs : C'.size = C.size) {c' : Cl} (hc : ∀ i a, cellAt c' n i = some a → ∃ x, a.real ρ = some x ∧ C'[l.off + i]? = some x) :
    Emb ρ base w0 (h.put id (.cells c' n elem opn)) (w.setRow l.blk C') := by
  obtain ⟨l', C0, fz0, hl', hb, h1, hf, h2, h3, h4, _⟩ := E.cells hg
  obtain rfl := Option.some.inj (hl.symm.trans hl')
  rw [hC] at h1
  obtain ⟨rfl, rfl⟩ : C = C0 ∧ fz = fz0 := by cases h1; exact ⟨rfl, rfl⟩
  have hlive : h.get id ≠ .gone := by rw [hg]; exact fun e => by cases e
  have hsz : (w.setRow l.blk C').heap.size = w.heap.size := by simp [World.setRow]
  have hgone : ∀ j, (h.put id (.cells c' n elem opn)).get j ≠ .gone → h.get j ≠ .gone := fun j hj => by
    rw [Hp.get_put] at hj
    by_cases e : j = id
    · subst e; exact hlive
    · rw [if_neg e] at hj; exact hj
  refine ⟨E.below.grown (grown_setRow w l.blk C') E.bw (fun k hk => by obtain rfl := Option.some.inj hk; exact hb.1), by rw [hsz]; exact E.bw, fun b hB => ⟨by rw [hsz]; exact (E.kept b hB).1, by rw [setRow_other w l.blk b C' (fun e => hb.2 (e ▸ hB))]; exact (E.kept b hB).2⟩, fun j l0 hj => by rw [hsz]; exact E.fresh j l0 hj, fun j hj => ?_, fun j j' l0 l0' hj hj' h0 h0' e => E.apart j j' l0 l0' (hgone j hj) (hgone j' hj') h0 h0' e⟩
  rw [Hp.get_put]
  by_cases e : j = id
  · subst e
    rw [if_pos rfl]
    exact ⟨l, hl, hb, C', fz, setRow_heap w l.blk C C' elem _ hC, by rw [hs]; exact hf, by rw [hs]; exact h2, fun ho => ⟨(h3 ho).1, by rw [hs]; exact (h3 ho).2⟩, fun sz ho => by rw [hs]; exact h4 sz ho, hc⟩
  · rw [if_neg e]
    obtain ⟨l0, hl0, hb0, hr0⟩ := E.live j (hgone j hj)
    have hne : l0.blk ≠ l.blk := fun e' => e (E.apart j id l0 l (hgone j hj) hlive hl0 hl e')
    refine ⟨l0, hl0, hb0, ?_⟩
    rw [setRow_other w l.blk l0.blk C' hne]
    exact hr0
/-- A block is laid anew. -/
theorem Emb.setObj {ρ : Env} {base : Kp} {w0 : World} {h : Hp} {w : World} (E : Emb ρ base w0 h w) {id : Nat} (hlive : h.get id ≠ .gone) {l : Loc} (hl : ρ id = some l) (o : Obj) (b : Blk) (hr : BlkR ρ l b (some o)) :
    Emb ρ base w0 (h.put id b) (w.putObj l.blk o) := by
  obtain ⟨l', hl', hb, _⟩ := E.live id hlive
  obtain rfl := Option.some.inj (hl.symm.trans hl')
  have hsz : (w.putObj l.blk o).heap.size = w.heap.size := World.putObj_size
  have hlt := (E.fresh id l hl).2
  have hgone : ∀ j, (h.put id b).get j ≠ .gone → h.get j ≠ .gone := fun j hj => by
    rw [Hp.get_put] at hj
    by_cases e : j = id
    · subst e; exact hlive
    · rw [if_neg e] at hj; exact hj
  refine ⟨E.below.grown (grownBy_putObj' w l.blk o) E.bw (fun k hk => by obtain rfl := Option.some.inj hk; exact hb.1), by rw [hsz]; exact E.bw, fun b hB => ⟨by rw [hsz]; exact (E.kept b hB).1, by rw [World.putObj_heap_other (show b ≠ l.blk from fun e => hb.2 (e ▸ hB))]; exact (E.kept b hB).2⟩, fun j l0 hj => by rw [hsz]; exact E.fresh j l0 hj, fun j hj => ?_, fun j j' l0 l0' hj hj' h0 h0' e => E.apart j j' l0 l0' (hgone j hj) (hgone j' hj') h0 h0' e⟩
  by_cases e : j = id
  · subst e
    rw [Hp.get_put, if_pos rfl] at hj ⊢
    exact ⟨l, hl, hb, by rw [World.putObj_heap_same hlt]; exact hr⟩
  · obtain ⟨l0, hl0, hb0, hr0⟩ := E.live j (hgone j hj)
    have hne : l0.blk ≠ l.blk := fun e' => e (E.apart j id l0 l (hgone j hj) hlive hl0 hl e')
    rw [Hp.get_put, if_neg e]
    exact ⟨l0, hl0, hb0, by rw [World.putObj_heap_other hne]; exact hr0⟩
/-- A name more. -/
def Env.add (ρ : Env) (id : Nat) (l : Loc) : Env := fun j => if j = id then some l else ρ j
theorem Env.le_add {ρ : Env} {id : Nat} {l : Loc} (h : ρ id = none) : Env.le ρ (ρ.add id l) := fun j l0 hj => by
  unfold Env.add
  by_cases e : j = id
  · subst e; rw [h] at hj; cases hj
  · rw [if_neg e]; exact hj
theorem Emb.fresh0 {ρ : Env} {base : Kp} {w0 : World} {h : Hp} {w : World} (E : Emb ρ base w0 h w) : ρ h.nx = .none := by
  cases hr : ρ h.nx with
  | none => rfl
  | some l => have := (E.fresh _ _ hr).1; omega
/-- A block is made. -/
theorem Emb.alloc {ρ : Env} {base : Kp} {w0 : World} {h : Hp} {w : World} (E : Emb ρ base w0 h w) (o : Obj) (b : Blk) (ex : Nat) (hr : BlkR (ρ.add h.nx ⟨w.heap.size, 0, ex⟩) ⟨w.heap.size, 0, ex⟩ b (some o)) :
    Emb (ρ.add h.nx ⟨w.heap.size, 0, ex⟩) base w0 (h.new b) (w.alloc o) := by
  have hn := E.fresh0
  have hgo : ∀ j, j ≠ h.nx → (h.new b).get j = h.get j := fun j e => by rw [Hp.get_new, if_neg e]
  have hgn : ∀ j, h.get j ≠ .gone → j ≠ h.nx := fun j hj e => by
    obtain ⟨l, hl, _⟩ := E.live j hj
    rw [e, hn] at hl
    cases hl
  refine ⟨E.below.alloc E.bw o, by simp; have := E.bw; omega, fun b hB => ⟨by simp; have := (E.kept b hB).1; omega, by rw [Below.heap_alloc w o b (E.kept b hB).1]; exact (E.kept b hB).2⟩, fun j l hj => ?_, fun j hj => ?_, fun j j' l l' hj hj' h0 h0' e => ?_⟩
  · unfold Env.add at hj
    by_cases e : j = h.nx
    · rw [if_pos e] at hj
      obtain rfl := Option.some.inj hj
      subst e
      exact ⟨Nat.lt_succ_self _, by simp⟩
    · rw [if_neg e] at hj
      have := E.fresh j l hj
      exact ⟨Nat.lt_succ_of_lt this.1, by simp; omega⟩
  · by_cases e : j = h.nx
    · subst e
      rw [Hp.get_new, if_pos rfl]
      exact ⟨_, by unfold Env.add; rw [if_pos rfl], ⟨E.bw, fun hB => Nat.lt_irrefl _ (E.kept _ hB).1⟩, by rw [show (w.alloc o).heap[w.heap.size]? = some o from heap_alloc_new w o]; exact hr⟩
    · rw [hgo j e] at hj ⊢
      obtain ⟨l, hl, hb, hr0⟩ := E.live j hj
      refine ⟨l, (by unfold Env.add; rw [if_neg e]; exact hl), hb, ?_⟩
      rw [Below.heap_alloc w o l.blk (E.fresh j l hl).2]
      exact hr0.mono (Env.le_add hn)
  · unfold Env.add at h0 h0'
    by_cases e1 : j = h.nx
    · by_cases e2 : j' = h.nx
      · rw [e1, e2]
      · rw [if_pos e1] at h0
        rw [if_neg e2] at h0'
        obtain rfl := Option.some.inj h0
        have := (E.fresh j' l' h0').2
        dsimp only at e
        omega
    · by_cases e2 : j' = h.nx
      · rw [if_neg e1] at h0
        rw [if_pos e2] at h0'
        obtain rfl := Option.some.inj h0'
        have := (E.fresh j l h0).2
        dsimp only at e
        omega
      · rw [if_neg e1] at h0
        rw [if_neg e2] at h0'
        rw [hgo j e1] at hj
        rw [hgo j' e2] at hj'
        exact E.apart j j' l l' hj hj' h0 h0' e
end Go.Proofs.YtnpdnlnglahicaaGreatDoor
