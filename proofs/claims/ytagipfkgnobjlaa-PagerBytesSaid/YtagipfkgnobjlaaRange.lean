/- Plain facts on a range over a function: what a round keeps, one law for the caller, and how a function leaves that holds such loops. Nothing of the program is used here. -/
import Derived.Test.YtagipfkgnobjlaaHeap
import Derived.RangeFuncNested
import Derived.RangeFuncBound
import Derived.RangeFuncCalls
import Derived.RangeFuncLeaves
import Derived.Shelf.Abstract
import Derived.Shelf.RegionOpen
import Derived.OwnWalkIn
import Derived.TacticsInMore
import Derived.LoopNIn
import Derived.LoopIn
namespace Go.Proofs.Ytagipfkgnobjlaa
open Go.RowKit

/-- Every row of cells but those of X lies as it lay: what an iterator asks of a round. -/
structure KeepC (X : Nat → Prop) (W W' : World) : Prop where
  size : W.heap.size ≤ W'.heap.size
  same : ∀ k c t fz, ¬ X k → W.heap[k]? = some (.cells c t fz) → W'.heap[k]? = some (.cells c t fz)
/-- Every block but those of X lies as it lay. -/
structure KeepA (X : Nat → Prop) (W W' : World) : Prop where
  os : W'.os = W.os
  tape : W'.tape = W.tape
  output : W'.output = W.output
  size : W.heap.size ≤ W'.heap.size
  same : ∀ k, k < W.heap.size → ¬ X k → W'.heap[k]? = W.heap[k]?
theorem KeepC.refl (X : Nat → Prop) (W : World) : KeepC X W W := ⟨Nat.le_refl _, fun _ _ _ _ _ h => h⟩
theorem KeepC.trans {X : Nat → Prop} {A B C : World} (h : KeepC X A B) (k : KeepC X B C) : KeepC X A C := ⟨Nat.le_trans h.size k.size, fun i c t fz hx hi => k.same i c t fz hx (h.same i c t fz hx hi)⟩
theorem KeepA.refl (X : Nat → Prop) (W : World) : KeepA X W W := ⟨rfl, rfl, rfl, Nat.le_refl _, fun _ _ _ => rfl⟩
theorem KeepA.trans {X : Nat → Prop} {A B C : World} (h : KeepA X A B) (k : KeepA X B C) : KeepA X A C :=
  ⟨k.os.trans h.os, k.tape.trans h.tape, k.output.trans h.output, Nat.le_trans h.size k.size, fun i hi hx => (k.same i (Nat.lt_of_lt_of_le hi h.size) hx).trans (h.same i hi hx)⟩
theorem KeepA.c {X : Nat → Prop} {W W' : World} (h : KeepA X W W') : KeepC X W W' := ⟨h.size, fun k _ _ _ hx hk => (h.same k (Array.getElem?_eq_some_iff.1 hk).1 hx).trans hk⟩
theorem KeepA.below {X : Nat → Prop} {W W' : World} {B : Nat} (h : KeepA X W W') (hB : B ≤ W.heap.size) (hX : ∀ k, X k → B ≤ k) : Below B W W' :=
  ⟨h.os, h.tape, h.output, h.size, fun k hk => h.same k (by omega) (fun hx => by have := hX k hx; omega)⟩
theorem KeepA.of_below {X : Nat → Prop} {W W' : World} (h : Below W.heap.size W W') : KeepA X W W' := ⟨h.os, h.tape, h.output, h.size, fun k hk _ => h.block k hk⟩
theorem KeepA.setCell {X : Nat → Prop} {W W' : World} {a : Addr} {v : Value} (h : KeepA X W W') (hx : X a.block) : KeepA X W (W'.setCell a v) :=
  h.trans ⟨rfl, rfl, rfl, by simp [World.setCell], fun k _ hk => Below.heap_setCell _ _ _ _ (fun e => hk (by rw [e]; exact hx))⟩
theorem KeepA.mono {X Y : Nat → Prop} {W W' : World} (h : KeepA X W W') (hx : ∀ k, X k → Y k) : KeepA Y W W' := ⟨h.os, h.tape, h.output, h.size, fun k hk hy => h.same k hk (fun e => hy (hx k e))⟩
theorem KeepA.cell {X : Nat → Prop} {W W' : World} (h : KeepA X W W') {p : Addr} {v : Value} (hc : W.cell? p = some v) (hx : ¬ X p.block) : W'.cell? p = some v :=
  (World.cell?_of_block (h.same p.block (World.block_lt_of_cell? W p hc) hx)).trans hc
theorem KeepC.cell {X : Nat → Prop} {W W' : World} (h : KeepC X W W') {p : Addr} {v : Value} (hc : W.cell? p = some v) (hx : ¬ X p.block) : W'.cell? p = some v := by
  unfold World.cell? at hc ⊢
  split at hc
  · rename_i c t fz hh
    rw [h.same _ _ _ _ hx hh]
    exact hc
  · cases hc
theorem Rd.keepA {X : Nat → Prop} {W W' : World} {a : Option Addr} {l : List Value} (h : Rd W a l) (hk : KeepA X W W') (hx : ∀ b off, a = some ⟨b, off, none⟩ → b < W.heap.size → ¬ X b) : Rd W' a l := by
  rcases h with h | ⟨b, off, ha, hlt, hc⟩
  · exact .inl h
  · exact .inr ⟨b, off, ha, Nat.lt_of_lt_of_le hlt hk.size, fun k hk' => hk.cell (hc k hk') (hx b off ha hlt)⟩
theorem Rd.keepC {X : Nat → Prop} {W W' : World} {a : Option Addr} {l : List Value} (h : Rd W a l) (hk : KeepC X W W') (hx : ∀ b off, a = some ⟨b, off, none⟩ → b < W.heap.size → ¬ X b) : Rd W' a l := by
  rcases h with h | ⟨b, off, ha, hlt, hc⟩
  · exact .inl h
  · exact .inr ⟨b, off, ha, Nat.lt_of_lt_of_le hlt hk.size, fun k hk' => hk.cell (hc k hk') (hx b off ha hlt)⟩
theorem keepC_put {X : Nat → Prop} (W : World) (l : Nat) (o o' : Obj) (h : W.heap[l]? = some o) (hc : o.isCells = false) : KeepC X W (W.putObj l o') := by
  refine ⟨by simp, fun k c t fz _ hk => ?_⟩
  rw [World.putObj_heap_other]
  · exact hk
  · intro e
    subst e
    rw [h] at hk
    cases hk
    simp [Obj.isCells] at hc
theorem Box.keepA {X : Nat → Prop} {W W' : World} {b : Nat} {t : TypeId} {v : Value} (h : Box W b t v) (hk : KeepA X W W') (hx : ¬ X b) : Box W' b t v := (hk.same b h.lt hx).trans h
/-- What holds of blocks that lay ahead of the loop, or of rows of cells. -/
def Stays (B : Nat) (W W' : World) : Prop := ∀ k o, W.heap[k]? = some o → (k < B ∨ o.isCells = true) → W'.heap[k]? = some o
theorem stays_grown {B : Nat} {W W' : World} {row : Option Nat} (hg : W.grownBy W' row) (hr : ∀ r, row = some r → B ≤ r ∧ ∃ o : Obj, W.heap[r]? = some o ∧ o.isCells = false) : Stays B W W' := by
  intro k o hk ho
  refine (hg.block k (Array.getElem?_eq_some_iff.1 hk).1 ?_).trans hk
  intro e
  obtain ⟨hB, o', ho', hc⟩ := hr k e.symm
  rw [hk] at ho'
  obtain rfl := Option.some.inj ho'
  rcases ho with ho | ho
  · omega
  · rw [ho] at hc; cases hc
theorem Box.stays {B : Nat} {W W' : World} {b : Nat} {t : TypeId} {v : Value} (h : Box W b t v) (hs : Stays B W W') : Box W' b t v := hs b _ h (.inr rfl)
/-- How a round may be left. -/
def rndPost (X : Nat → Prop) (G : Nat → World → Prop) (Gx : Code → Nat → World → Prop) (k : Nat) (W : World) : Exit → Act → World → Prop
  | .normal, _, W' => KeepA X W W' ∧ G k W'
  | .ret, _, W' => KeepA X W W' ∧ Gx .ret k W'
  | .exit id, _, W' => KeepA X W W' ∧ Gx (.exit id) k W'
  | .goto t, _, W' => KeepA X W W' ∧ Gx (.goto t) k W'
  | .panic _, _, _ => False
  | .outgrown, _, _ => False
/-- An iterator's contract: it goes round 'len' times, in round k with arguments of which N speaks, or till a round says no; it asks of a round that it leave alone all rows of cells but those of X. -/
def Stops (P : Program) (gf : Nat) (lb : Array Value) (X : Nat → Prop) (N : Nat → Array Value → World → Prop) (len : Nat) (w : World) : Prop :=
  ∀ (lp : Nat) (J Jx : Nat → World → Prop) (W : World), Below w.heap.size w W → AbidesFrom W.heap.size J → AbidesFrom W.heap.size Jx →
    (∀ k args W1, k < len → N k args W1 → KeepC X W W1 → J k W1 → YieldAt Fence.wide 2 P lp args W1 fun e W' =>
      (e = .returned (.bool true) ∧ J (k + 1) W' ∧ KeepC X W1 W') ∨ (e = .returned (.bool false) ∧ Jx (k + 1) W')) →
    J 0 W →
    CallsIn Fence.wide 3 P gf (#[.func (.yield lp) #[] #[]] ++ lb) W fun e W' => (∃ v, e = .returned v) ∧ (J len W' ∨ ∃ k, k < len ∧ Jx (k + 1) W')
/-- The statement 'for .. := range seq { body }' of a function that is called as ever. -/
theorem wp_range {P : Program} {g : Operand} {ps : Array Tmp} {assign body : Code} {Q : Exit → Act → World → Prop} {a : Act} {w : World}
    {gf : Nat} {lb : Array Value} (hg : a.eval g = .func (.func gf) #[] lb) (eg : ∀ args w, (callFunc gf args).run P w = .ok (.enter gf args) w)
    (X : Nat → Prop) {N : Nat → Array Value → World → Prop} {len : Nat} (hseq : Stops P gf lb X N len w) (hX : ∀ k, X k → k < w.heap.size) (hps : ∀ k args W, N k args W → args.size = ps.size)
    (G : Nat → World → Prop) (Gx : Code → Nat → World → Prop)
    (hG : ∀ s W W', G s W → Stays w.heap.size W W' → G s W') (hGx : ∀ c s W W', Gx c s W → Stays w.heap.size W W' → Gx c s W') (h0 : G 0 w)
    (hround : ∀ (l k : Nat) (args : Array Value) (W : World), k < len → N k args W → KeepA X w W → G k W →
      assign.wpIn (Fence.wide.inRound l) 2 P (Exit.then (fun a1 W1 => KeepA X W W1 ∧ ∀ W2, Stays w.heap.size W1 W2 → KeepA X w W2 → body.wpIn (Fence.wide.inRound l) 2 P (rndPost X G Gx (k + 1) W2) a1 W2) (fun _ _ _ => False))
        { tmps := (ps.zip args).foldl (fun t (p, v) => t.setIfInBounds p v) a.tmps, defers := [] } W)
    (hdone : ∀ (D : Nat) (W : World), w.heap.size ≤ D → KeepA X w W → G len W → W.heap[D]? = some (.deferred (some [])) → Q .normal { a with defers := { target := .collected D, args := #[] } :: a.defers } W)
    (hstop : ∀ (D : Nat) (c : Code) (k : Nat) (W : World), w.heap.size ≤ D → k < len → KeepA X w W → Gx c (k + 1) W → W.heap[D]? = some (.deferred (some [])) → c.wp P Q { a with defers := { target := .collected D, args := #[] } :: a.defers } W) :
    (Code.rangeFunc g ps assign body).wp P Q a w := by
  -- the book-keeping of the loop: block D the deferred calls of its rounds, block l its record
  have hturn : ∀ {W W' : World} {row : Option Nat}, KeepA X w W → W.grownBy W' row → (∀ r, row = some r → w.heap.size ≤ r) → KeepA X w W' := fun hs hgr hr =>
    ⟨hgr.os.trans hs.os, hgr.tape.trans hs.tape, hgr.output.trans hs.output, Nat.le_trans hs.size hgr.size, fun k hk hx => (hgr.block k (Nat.lt_of_lt_of_le hk hs.size) (fun e => by have := hr k e.symm; omega)).trans (hs.same k hk hx)⟩
  have hother : ∀ {W W' : World} {r : Nat} {o : Obj}, KeepA X W W' → w.heap.size ≤ r → W.heap[r]? = some o → W'.heap[r]? = some o := fun h hB ho =>
    (h.same _ (Array.getElem?_eq_some_iff.1 ho).1 (fun hx => by have := hX _ hx; omega)).trans ho
  refine (wpIn_wide (n := 4)).1 (wpIn_rangeFunc fun fn hfn => ?_)
  let rec_ : LoopState → Option Code → Obj := fun st pe => .loop { state := st, pending := pe, fn, tmps := a.tmps, params := ps, assign, body, defers := w.heap.size }
  obtain ⟨W1, hW1⟩ : ∃ W1, (w.alloc (.deferred (some []))).alloc (rec_ .ready none) = W1 := ⟨_, rfl⟩
  have hl1 : W1.heap[w.heap.size + 1]? = some (rec_ .ready none) := by
    rw [← hW1]; have := World.alloc_heap_new (w.alloc (.deferred (some []))) (rec_ .ready none); rwa [World.size_alloc] at this
  have hd1 : W1.heap[w.heap.size]? = some (.deferred (some [])) := by
    rw [← hW1]; exact (Below.heap_alloc _ _ _ (by simp)).trans (World.alloc_heap_new w _)
  have hb1 : Below w.heap.size w W1 := by
    rw [← hW1]; exact ((Below.refl _ w).alloc (Nat.le_refl _) _).alloc (by simp) _
  have hst1 : Stays w.heap.size w W1 := fun k o hk _ => (hb1.block k (Array.getElem?_eq_some_iff.1 hk).1).trans hk
  refine ⟨w.heap.size + 1, [{ target := .collected w.heap.size, args := #[] }], W1, { target := .fn (.func gf) lb, args := #[.func (.yield (w.heap.size + 1)) #[] #[]] }, W1, gf,
    #[.func (.yield (w.heap.size + 1)) #[] #[]] ++ lb, W1, ?_, ?_, ?_, ?_, fun _ => by omega, ?_⟩
  · rw [← hW1]; exact run_enterLoop_outer _ _ _ _ _
  · simp only [resolve, hg]
    simp [go_sem]
  · exact fun _ _ => trivial
  · simp [invoke, go_sem, eg]
  -- the iterator, at the caller's word on its own blocks beside the two blocks of the book-keeping
  have habide : ∀ (M : Nat → World → Prop) (o : Obj), (∀ s W W', M s W → Stays w.heap.size W W' → M s W') → o.isCells = false → o.isWalk = false →
      AbidesFrom W1.heap.size (fun k W => (KeepA X w W ∧ M k W) ∧ W.heap[w.heap.size + 1]? = some o ∧ W.heap[w.heap.size]? = some (.deferred (some []))) := by
    intro M o hM _ ho s U V row hs hgr hr
    have hrow : ∀ r, row = some r → w.heap.size ≤ r ∧ ∃ o : Obj, U.heap[r]? = some o ∧ o.isCells = false := fun r e => by
      obtain ⟨hB, o', ho', hw⟩ := hr r e
      exact ⟨by have := hb1.size; omega, o', ho', Obj.not_cells_of_walk hw⟩
    have keep : ∀ (r : Nat) (o' : Obj), U.heap[r]? = some o' → o'.isWalk = false → V.heap[r]? = some o' := fun r o' h hw =>
      (hgr.block r (Array.getElem?_eq_some_iff.1 h).1 (fun e => by obtain ⟨_, o2, h2, hw2⟩ := hr r e.symm; rw [h] at h2; cases h2; rw [hw] at hw2; cases hw2)).trans h
    exact ⟨⟨hturn hs.1.1 hgr fun r e => (hrow r e).1, hM s U V hs.1.2 (stays_grown hgr hrow)⟩, keep _ _ hs.2.1 ho, keep _ _ hs.2.2 rfl⟩
  have hcall := hseq (w.heap.size + 1) (fun k W => (KeepA X w W ∧ G k W) ∧ W.heap[w.heap.size + 1]? = some (rec_ .ready none) ∧ W.heap[w.heap.size]? = some (.deferred (some [])))
    (fun k W => ∃ c, (KeepA X w W ∧ Gx c k W) ∧ W.heap[w.heap.size + 1]? = some (rec_ .done (some c)) ∧ W.heap[w.heap.size]? = some (.deferred (some []))) W1 hb1
    (habide G _ hG rfl rfl) (fun s U V row hs hgr hr => by obtain ⟨c, hc⟩ := hs; exact ⟨c, habide (Gx c) _ (hGx c) rfl rfl s U V row hc hgr hr⟩) ?_ ⟨⟨KeepA.of_below hb1, hG 0 _ _ h0 hst1⟩, hl1, hd1⟩
  · refine hcall.mono ?_
    rintro e W2 ⟨⟨v, rfl⟩, (⟨⟨hk2, hg2⟩, hl2, hd2⟩ | ⟨k, hk, c, ⟨hk2, hg2⟩, hl2, hd2⟩)⟩
    · have he := run_endLoop (P := P) hl2 (by simp)
      refine ⟨none, _, he, hdone w.heap.size _ (Nat.le_refl _) (hturn hk2 (grownBy_putObj' W2 _ _) (fun r e => by cases e; omega)) (hG _ _ _ hg2 (stays_grown (grownBy_putObj' W2 _ _) (fun r e => by cases e; exact ⟨by omega, _, hl2, rfl⟩))) ?_⟩
      rw [World.putObj_heap_other (by omega)]; exact hd2
    · have he := run_endLoop (P := P) hl2 (by simp)
      refine ⟨some c, _, he, wpIn_wide.2 (hstop w.heap.size c k _ (Nat.le_refl _) hk (hturn hk2 (grownBy_putObj' W2 _ _) (fun r e => by cases e; omega)) (hGx _ _ _ _ hg2 (stays_grown (grownBy_putObj' W2 _ _) (fun r e => by cases e; exact ⟨by omega, _, hl2, rfl⟩))) ?_)⟩
      rw [World.putObj_heap_other (by omega)]; exact hd2
  -- a round
  rintro k args W hk hN _ ⟨⟨hkW, hgW⟩, hl, hd⟩
  refine ⟨fn, _, assign, body, run_yield (P := P) (args := args) hl (hps k args W hN), roundIn_of_wpIn hfn (wpIn_mono (hround _ k args W hk hN hkW hgW) ?_)⟩
  intro e a1 W2 h
  cases e with
  | normal =>
    obtain ⟨hk2, hA2⟩ := h
    have hl2 := hother hk2 (by omega) hl
    have hd2 := hother hk2 (Nat.le_refl _) hd
    refine ⟨_, run_beginRound hl2 rfl, ?_⟩
    have hlt : w.heap.size + 1 < W2.heap.size := (Array.getElem?_eq_some_iff.1 hl2).1
    have hl3 : (W2.putObj (w.heap.size + 1) (rec_ .busy none)).heap[w.heap.size + 1]? = some (rec_ .busy none) := World.putObj_heap_same hlt
    have hd3 : (W2.putObj (w.heap.size + 1) (rec_ .busy none)).heap[w.heap.size]? = some (.deferred (some [])) := (World.putObj_heap_other (by omega)).trans hd2
    have hk3 := hturn (hkW.trans hk2) (grownBy_putObj' W2 (w.heap.size + 1) (rec_ .busy none)) (fun r e => by cases e; omega)
    have hA3 := hA2 _ (stays_grown (grownBy_putObj' W2 (w.heap.size + 1) (rec_ .busy none)) (fun r e => by cases e; exact ⟨by omega, _, hl2, rfl⟩)) hk3
    have hc3 : KeepC X W (W2.putObj (w.heap.size + 1) (rec_ .busy none)) := hk2.c.trans (keepC_put _ _ _ _ hl2 rfl)
    refine wpIn_mono hA3 ?_
    have fin : ∀ (jump : Option Code) (W4 : World), KeepA X (W2.putObj (w.heap.size + 1) (rec_ .busy none)) W4 →
        (Instr.endRound (w.heap.size + 1) jump).run P W4 = .ok (.bool jump.isNone) (W4.putObj (w.heap.size + 1) (rec_ (if jump.isNone then .ready else .done) jump)) ∧
        KeepA X w (W4.putObj (w.heap.size + 1) (rec_ (if jump.isNone then .ready else .done) jump)) ∧
        KeepC X W (W4.putObj (w.heap.size + 1) (rec_ (if jump.isNone then .ready else .done) jump)) ∧
        Stays w.heap.size W4 (W4.putObj (w.heap.size + 1) (rec_ (if jump.isNone then .ready else .done) jump)) ∧
        (W4.putObj (w.heap.size + 1) (rec_ (if jump.isNone then .ready else .done) jump)).heap[w.heap.size + 1]? = some (rec_ (if jump.isNone then .ready else .done) jump) ∧
        (W4.putObj (w.heap.size + 1) (rec_ (if jump.isNone then .ready else .done) jump)).heap[w.heap.size]? = some (.deferred (some [])) := by
      intro jump W4 hk4
      have hl4 := hother hk4 (by omega) hl3
      have hd4 := hother hk4 (Nat.le_refl _) hd3
      exact ⟨run_endRound (P := P) jump hl4, hturn (hk3.trans hk4) (grownBy_putObj' _ _ _) (fun r e => by cases e; omega), (hc3.trans hk4.c).trans (keepC_put _ _ _ _ hl4 rfl),
        stays_grown (grownBy_putObj' _ _ _) (fun r e => by cases e; exact ⟨by omega, _, hl4, rfl⟩), World.putObj_heap_same (Array.getElem?_eq_some_iff.1 hl4).1, (World.putObj_heap_other (by omega)).trans hd4⟩
    intro e a3 W4 hp
    cases e with
    | normal =>
      obtain ⟨hr, h1, h2, h3, h4, h5⟩ := fin none W4 hp.1
      exact ⟨_, _, hr, .inl ⟨rfl, ⟨⟨h1, hG _ _ _ hp.2 h3⟩, h4, h5⟩, h2⟩⟩
    | ret =>
      obtain ⟨hr, h1, h2, h3, h4, h5⟩ := fin (some .ret) W4 hp.1
      exact ⟨_, _, hr, .inr ⟨rfl, .ret, ⟨h1, hGx _ _ _ _ hp.2 h3⟩, h4, h5⟩⟩
    | exit id =>
      obtain ⟨hr, h1, h2, h3, h4, h5⟩ := fin (some (.exit id)) W4 hp.1
      exact ⟨_, _, hr, .inr ⟨rfl, .exit id, ⟨h1, hGx _ _ _ _ hp.2 h3⟩, h4, h5⟩⟩
    | goto t =>
      obtain ⟨hr, h1, h2, h3, h4, h5⟩ := fin (some (.goto t)) W4 hp.1
      exact ⟨_, _, hr, .inr ⟨rfl, .goto t, ⟨h1, hGx _ _ _ _ hp.2 h3⟩, h4, h5⟩⟩
    | panic ch => exact hp.elim
    | outgrown => exact hp.elim
  | ret => exact h.elim
  | exit id => exact h.elim
  | goto t => exact h.elim
  | panic ch => exact h.elim
  | outgrown => exact h.elim
/-- A function that holds ranges over functions, entered. -/
theorem calls_of_wp_marks {P : Program} {f : FuncId} {fn : Func} {c : Code} {args : Array Value} {w : World} {R : Ending → World → Prop} (hf : P.funcs[f]? = some fn) (hb : fn.body = some c)
    (h : c.wp P (bodyPostM Fence.wide 0 P fn R) { tmps := args ++ Array.replicate (fn.ntmps - args.size) undef, defers := [] } w) : Calls P f args w R :=
  callsIn_wide.1 (callsIn_of_wp_marks (F := Fence.wide) (n := 0) hf hb trivial (wpIn_wide.2 h) rfl)
/-- The marks of its loops. -/
def marks (Ds : List Nat) : List Deferred := Ds.map fun D => { target := .collected D, args := #[] }
theorem leaves_marks {P : Program} {fn : Func} {tmps : Array Value} {R : Ending → World → Prop} (Ds : List Nat) : ∀ (w : World), Ds.Nodup → (∀ D ∈ Ds, w.heap[D]? = some (.deferred (some []))) →
    (∀ w', KeepA (fun k => k ∈ Ds) w w' → ∃ v, (results fn tmps).run P w' = .ok v w' ∧ R (.returned v) w') → LeavesInM Fence.wide 0 P fn tmps R (marks Ds) .returning w := by
  induction Ds with
  | nil => exact fun w _ _ h => h w (KeepA.refl _ _)
  | cons D Ds ih =>
    intro w hnd hD h
    have hnd' := List.nodup_cons.1 hnd
    have hDw := hD D (by simp)
    refine ⟨by simp, .inl ⟨D, _, rfl, run_takeDeferred hDw, ih _ hnd'.2 (fun D' hD' => ?_) (fun w' hk => h w' ?_)⟩⟩
    · rw [World.putObj_heap_other (fun e => hnd'.1 (by rw [← e]; exact hD'))]
      exact hD D' (by simp [hD'])
    · have hput : KeepA (fun k => k ∈ D :: Ds) w (w.putObj D (.deferred none)) := ⟨rfl, rfl, rfl, by simp, fun k _ hx => World.putObj_heap_other (fun e => hx (by simp [e]))⟩
      exact hput.trans (hk.mono fun k hx => List.mem_cons_of_mem _ hx)
theorem post_marks {P : Program} {fn : Func} {a : Act} {w : World} {R : Ending → World → Prop} (Ds : List Nat) (hd : a.defers = marks Ds) (hnd : Ds.Nodup) (hD : ∀ D ∈ Ds, w.heap[D]? = some (.deferred (some [])))
    (h : ∀ w', KeepA (fun k => k ∈ Ds) w w' → ∃ v, (results fn a.tmps).run P w' = .ok v w' ∧ R (.returned v) w') : bodyPostM Fence.wide 0 P fn R .ret a w := by
  show LeavesInM Fence.wide 0 P fn a.tmps R a.defers .returning w
  rw [hd]
  exact leaves_marks Ds w hnd hD h
end Go.Proofs.Ytagipfkgnobjlaa
