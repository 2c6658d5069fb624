/- A range over a function whose rounds write what the iterator handed over: the blocks made since. Nothing of the program is used here. -/
import Derived.Test.YtmbpacpkabbcgaaRange
namespace Go.Proofs.Ytmbpacpkabbcgaa
open Go.RowKit

/-- An iterator's contract, where two blocks of the loop's book-keeping lie behind those that it knows of. -/
def StopsY (P : Program) (gf : Nat) (lb : Array Value) (X : Nat → Prop) (N : Nat → Array Value → World → Prop) (len : Nat) (w : World) : Prop :=
  ∀ (lp : Nat) (J Jx : Nat → World → Prop) (W : World), Below w.heap.size w W → w.heap.size + 2 ≤ W.heap.size → AbidesFrom W.heap.size J → AbidesFrom W.heap.size Jx →
    (∀ k args W1, k < len → N k args W1 → KeepC X W W1 → J k W1 → YieldAt Fence.wide 2 P lp args W1 fun e W' =>
      (e = .returned (.bool true) ∧ J (k + 1) W' ∧ KeepC X W1 W') ∨ (e = .returned (.bool false) ∧ Jx (k + 1) W')) →
    J 0 W →
    CallsIn Fence.wide 3 P gf (#[.func (.yield lp) #[] #[]] ++ lb) W fun e W' => (∃ v, e = .returned v) ∧ (J len W' ∨ ∃ k, k < len ∧ Jx (k + 1) W')
/-- The statement 'for .. := range seq { body }' of a function that is called as ever. -/
theorem wp_rangeZ {P : Program} {g : Operand} {ps : Array Tmp} {assign body : Code} {Q : Exit → Act → World → Prop} {a : Act} {w : World}
    {gf : Nat} {lb : Array Value} (hg : a.eval g = .func (.func gf) #[] lb) (eg : ∀ args w, (callFunc gf args).run P w = .ok (.enter gf args) w)
    (X : Nat → Prop) {N : Nat → Array Value → World → Prop} {len : Nat} (hseq : StopsY P gf lb X N len w) (hX : ∀ k, X k → k ≠ w.heap.size ∧ k ≠ w.heap.size + 1) (hps : ∀ k args W, N k args W → args.size = ps.size)
    (G : Nat → World → Prop) (Gx : Code → Nat → World → Prop)
    (hG : ∀ s W W', G s W → Stays w.heap.size W W' → G s W') (hGx : ∀ c s W W', Gx c s W → Stays w.heap.size W W' → Gx c s W') (h0 : G 0 w)
    (hround : ∀ (l k : Nat) (args : Array Value) (W : World), k < len → N k args W → KeepA X w W → G k W →
      assign.wpIn (Fence.wide.inRound l) 2 P (Exit.then (fun a1 W1 => KeepA X W W1 ∧ ∀ W2, Stays w.heap.size W1 W2 → KeepA X w W2 → w.heap.size + 2 ≤ W2.heap.size → body.wpIn (Fence.wide.inRound l) 2 P (rndPost X G Gx (k + 1) W2) a1 W2) (fun _ _ _ => False))
        { tmps := (ps.zip args).foldl (fun t (p, v) => t.setIfInBounds p v) a.tmps, defers := [] } W)
    (hdone : ∀ (D : Nat) (W : World), w.heap.size ≤ D → KeepA X w W → G len W → W.heap[D]? = some (.deferred (some [])) → Q .normal { a with defers := { target := .collected D, args := #[] } :: a.defers } W)
    (hstop : ∀ (D : Nat) (c : Code) (k : Nat) (W : World), w.heap.size ≤ D → k < len → KeepA X w W → Gx c (k + 1) W → W.heap[D]? = some (.deferred (some [])) → c.wp P Q { a with defers := { target := .collected D, args := #[] } :: a.defers } W) :
    (Code.rangeFunc g ps assign body).wp P Q a w := by
  -- the book-keeping of the loop: block D the deferred calls of its rounds, block l its record
  have hturn : ∀ {W W' : World} {row : Option Nat}, KeepA X w W → W.grownBy W' row → (∀ r, row = some r → w.heap.size ≤ r) → KeepA X w W' := fun hs hgr hr =>
    ⟨hgr.os.trans hs.os, hgr.tape.trans hs.tape, hgr.output.trans hs.output, Nat.le_trans hs.size hgr.size, fun k hk hx => (hgr.block k (Nat.lt_of_lt_of_le hk hs.size) (fun e => by have := hr k e.symm; omega)).trans (hs.same k hk hx)⟩
  have hother : ∀ {W W' : World} {r : Nat} {o : Obj}, KeepA X W W' → r = w.heap.size ∨ r = w.heap.size + 1 → W.heap[r]? = some o → W'.heap[r]? = some o := fun h hB ho =>
    (h.same _ (Array.getElem?_eq_some_iff.1 ho).1 (fun hx => by have := hX _ hx; omega)).trans ho
  refine (wpIn_wide (n := 4)).1 (wpIn_rangeFunc fun fn hfn => ?_)
  let rec_ : LoopState → Option Code → Obj := fun st pe => .loop { state := st, pending := pe, fn, tmps := a.tmps, params := ps, assign, body, defers := w.heap.size }
  obtain ⟨W1, hW1⟩ : ∃ W1, (w.alloc (.deferred (some []))).alloc (rec_ .ready none) = W1 := ⟨_, rfl⟩
  have hl1 : W1.heap[w.heap.size + 1]? = some (rec_ .ready none) := by
    rw [← hW1]; have := World.alloc_heap_new (w.alloc (.deferred (some []))) (rec_ .ready none); rwa [World.size_alloc] at this
  have hd1 : W1.heap[w.heap.size]? = some (.deferred (some [])) := by
    rw [← hW1]; exact (Below.heap_alloc _ _ _ (by simp)).trans (World.alloc_heap_new w _)
  have hb1 : Below w.heap.size w W1 := by
    rw [← hW1]; exact ((Below.refl _ w).alloc (Nat.le_refl _) _).alloc (by simp) _
  have hst1 : Stays w.heap.size w W1 := fun k o hk _ => (hb1.block k (Array.getElem?_eq_some_iff.1 hk).1).trans hk
  refine ⟨w.heap.size + 1, [{ target := .collected w.heap.size, args := #[] }], W1, { target := .fn (.func gf) lb, args := #[.func (.yield (w.heap.size + 1)) #[] #[]] }, W1, gf,
    #[.func (.yield (w.heap.size + 1)) #[] #[]] ++ lb, W1, ?_, ?_, ?_, ?_, fun _ => by omega, ?_⟩
  · rw [← hW1]; exact run_enterLoop_outer _ _ _ _ _
  · simp only [resolve, hg]
    simp [go_sem]
  · exact fun _ _ => trivial
  · simp [invoke, go_sem, eg]
  -- the iterator, at the caller's word on its own blocks beside the two blocks of the book-keeping
  have habide : ∀ (M : Nat → World → Prop) (o : Obj), (∀ s W W', M s W → Stays w.heap.size W W' → M s W') → o.isCells = false → o.isWalk = false →
      AbidesFrom W1.heap.size (fun k W => (KeepA X w W ∧ M k W) ∧ W.heap[w.heap.size + 1]? = some o ∧ W.heap[w.heap.size]? = some (.deferred (some []))) := by
    intro M o hM _ ho s U V row hs hgr hr
    have hrow : ∀ r, row = some r → w.heap.size ≤ r ∧ ∃ o : Obj, U.heap[r]? = some o ∧ o.isCells = false := fun r e => by
      obtain ⟨hB, o', ho', hw⟩ := hr r e
      exact ⟨by have := hb1.size; omega, o', ho', Obj.not_cells_of_walk hw⟩
    have keep : ∀ (r : Nat) (o' : Obj), U.heap[r]? = some o' → o'.isWalk = false → V.heap[r]? = some o' := fun r o' h hw =>
      (hgr.block r (Array.getElem?_eq_some_iff.1 h).1 (fun e => by obtain ⟨_, o2, h2, hw2⟩ := hr r e.symm; rw [h] at h2; cases h2; rw [hw] at hw2; cases hw2)).trans h
    exact ⟨⟨hturn hs.1.1 hgr fun r e => (hrow r e).1, hM s U V hs.1.2 (stays_grown hgr hrow)⟩, keep _ _ hs.2.1 ho, keep _ _ hs.2.2 rfl⟩
  have hcall := hseq (w.heap.size + 1) (fun k W => (KeepA X w W ∧ G k W) ∧ W.heap[w.heap.size + 1]? = some (rec_ .ready none) ∧ W.heap[w.heap.size]? = some (.deferred (some [])))
    (fun k W => ∃ c, (KeepA X w W ∧ Gx c k W) ∧ W.heap[w.heap.size + 1]? = some (rec_ .done (some c)) ∧ W.heap[w.heap.size]? = some (.deferred (some []))) W1 hb1 (by rw [← hW1]; simp)
    (habide G _ hG rfl rfl) (fun s U V row hs hgr hr => by obtain ⟨c, hc⟩ := hs; exact ⟨c, habide (Gx c) _ (hGx c) rfl rfl s U V row hc hgr hr⟩) ?_ ⟨⟨KeepA.of_below hb1, hG 0 _ _ h0 hst1⟩, hl1, hd1⟩
  · refine hcall.mono ?_
    rintro e W2 ⟨⟨v, rfl⟩, (⟨⟨hk2, hg2⟩, hl2, hd2⟩ | ⟨k, hk, c, ⟨hk2, hg2⟩, hl2, hd2⟩)⟩
    · have he := run_endLoop (P := P) hl2 (by simp)
      refine ⟨none, _, he, hdone w.heap.size _ (Nat.le_refl _) (hturn hk2 (grownBy_putObj' W2 _ _) (fun r e => by cases e; omega)) (hG _ _ _ hg2 (stays_grown (grownBy_putObj' W2 _ _) (fun r e => by cases e; exact ⟨by omega, _, hl2, rfl⟩))) ?_⟩
      rw [World.putObj_heap_other (by omega)]; exact hd2
    · have he := run_endLoop (P := P) hl2 (by simp)
      refine ⟨some c, _, he, wpIn_wide.2 (hstop w.heap.size c k _ (Nat.le_refl _) hk (hturn hk2 (grownBy_putObj' W2 _ _) (fun r e => by cases e; omega)) (hGx _ _ _ _ hg2 (stays_grown (grownBy_putObj' W2 _ _) (fun r e => by cases e; exact ⟨by omega, _, hl2, rfl⟩))) ?_)⟩
      rw [World.putObj_heap_other (by omega)]; exact hd2
  -- a round
  rintro k args W hk hN _ ⟨⟨hkW, hgW⟩, hl, hd⟩
  refine ⟨fn, _, assign, body, run_yield (P := P) (args := args) hl (hps k args W hN), roundIn_of_wpIn hfn (wpIn_mono (hround _ k args W hk hN hkW hgW) ?_)⟩
  intro e a1 W2 h
  cases e with
  | normal =>
    obtain ⟨hk2, hA2⟩ := h
    have hl2 := hother hk2 (.inr rfl) hl
    have hd2 := hother hk2 (.inl rfl) hd
    refine ⟨_, run_beginRound hl2 rfl, ?_⟩
    have hlt : w.heap.size + 1 < W2.heap.size := (Array.getElem?_eq_some_iff.1 hl2).1
    have hl3 : (W2.putObj (w.heap.size + 1) (rec_ .busy none)).heap[w.heap.size + 1]? = some (rec_ .busy none) := World.putObj_heap_same hlt
    have hd3 : (W2.putObj (w.heap.size + 1) (rec_ .busy none)).heap[w.heap.size]? = some (.deferred (some [])) := (World.putObj_heap_other (by omega)).trans hd2
    have hk3 := hturn (hkW.trans hk2) (grownBy_putObj' W2 (w.heap.size + 1) (rec_ .busy none)) (fun r e => by cases e; omega)
    have hA3 := hA2 _ (stays_grown (grownBy_putObj' W2 (w.heap.size + 1) (rec_ .busy none)) (fun r e => by cases e; exact ⟨by omega, _, hl2, rfl⟩)) hk3 (Nat.le_trans hlt (grownBy_putObj' W2 (w.heap.size + 1) (rec_ .busy none)).size)
    have hc3 : KeepC X W (W2.putObj (w.heap.size + 1) (rec_ .busy none)) := hk2.c.trans (keepC_put _ _ _ _ hl2 rfl)
    refine wpIn_mono hA3 ?_
    have fin : ∀ (jump : Option Code) (W4 : World), KeepA X (W2.putObj (w.heap.size + 1) (rec_ .busy none)) W4 →
        (Instr.endRound (w.heap.size + 1) jump).run P W4 = .ok (.bool jump.isNone) (W4.putObj (w.heap.size + 1) (rec_ (if jump.isNone then .ready else .done) jump)) ∧
        KeepA X w (W4.putObj (w.heap.size + 1) (rec_ (if jump.isNone then .ready else .done) jump)) ∧
        KeepC X W (W4.putObj (w.heap.size + 1) (rec_ (if jump.isNone then .ready else .done) jump)) ∧
        Stays w.heap.size W4 (W4.putObj (w.heap.size + 1) (rec_ (if jump.isNone then .ready else .done) jump)) ∧
        (W4.putObj (w.heap.size + 1) (rec_ (if jump.isNone then .ready else .done) jump)).heap[w.heap.size + 1]? = some (rec_ (if jump.isNone then .ready else .done) jump) ∧
        (W4.putObj (w.heap.size + 1) (rec_ (if jump.isNone then .ready else .done) jump)).heap[w.heap.size]? = some (.deferred (some [])) := by
      intro jump W4 hk4
      have hl4 := hother hk4 (.inr rfl) hl3
      have hd4 := hother hk4 (.inl rfl) hd3
      exact ⟨run_endRound (P := P) jump hl4, hturn (hk3.trans hk4) (grownBy_putObj' _ _ _) (fun r e => by cases e; omega), (hc3.trans hk4.c).trans (keepC_put _ _ _ _ hl4 rfl),
        stays_grown (grownBy_putObj' _ _ _) (fun r e => by cases e; exact ⟨by omega, _, hl4, rfl⟩), World.putObj_heap_same (Array.getElem?_eq_some_iff.1 hl4).1, (World.putObj_heap_other (by omega)).trans hd4⟩
    intro e a3 W4 hp
    cases e with
    | normal =>
      obtain ⟨hr, h1, h2, h3, h4, h5⟩ := fin none W4 hp.1
      exact ⟨_, _, hr, .inl ⟨rfl, ⟨⟨h1, hG _ _ _ hp.2 h3⟩, h4, h5⟩, h2⟩⟩
    | ret =>
      obtain ⟨hr, h1, h2, h3, h4, h5⟩ := fin (some .ret) W4 hp.1
      exact ⟨_, _, hr, .inr ⟨rfl, .ret, ⟨h1, hGx _ _ _ _ hp.2 h3⟩, h4, h5⟩⟩
    | exit id =>
      obtain ⟨hr, h1, h2, h3, h4, h5⟩ := fin (some (.exit id)) W4 hp.1
      exact ⟨_, _, hr, .inr ⟨rfl, .exit id, ⟨h1, hGx _ _ _ _ hp.2 h3⟩, h4, h5⟩⟩
    | goto t =>
      obtain ⟨hr, h1, h2, h3, h4, h5⟩ := fin (some (.goto t)) W4 hp.1
      exact ⟨_, _, hr, .inr ⟨rfl, .goto t, ⟨h1, hGx _ _ _ _ hp.2 h3⟩, h4, h5⟩⟩
    | panic ch => exact hp.elim
    | outgrown => exact hp.elim
  | ret => exact h.elim
  | exit id => exact h.elim
  | goto t => exact h.elim
  | panic ch => exact h.elim
  | outgrown => exact h.elim
/-- The same where a round is left by one break alone, behind which all goes on as behind the loop's end. -/
theorem wp_rangeB {P : Program} {g : Operand} {ps : Array Tmp} {assign body : Code} {Q : Exit → Act → World → Prop} {a : Act} {w : World}
    {gf : Nat} {lb : Array Value} (hg : a.eval g = .func (.func gf) #[] lb) (eg : ∀ args w, (callFunc gf args).run P w = .ok (.enter gf args) w) (id : Nat) (hid : ∀ a w, Q .normal a w → (Code.exit id).wp P Q a w)
    (X : Nat → Prop) {N : Nat → Array Value → World → Prop} {len : Nat} (hseq : StopsY P gf lb X N len w) (hX : ∀ k, X k → k ≠ w.heap.size ∧ k ≠ w.heap.size + 1) (hps : ∀ k args W, N k args W → args.size = ps.size)
    (G : Nat → World → Prop) (hG : ∀ s W W', G s W → Stays w.heap.size W W' → G s W') (h0 : G 0 w)
    (hround : ∀ (l k : Nat) (args : Array Value) (W : World), k < len → N k args W → KeepA X w W → G k W →
      assign.wpIn (Fence.wide.inRound l) 2 P (Exit.then (fun a1 W1 => KeepA X W W1 ∧ ∀ W2, Stays w.heap.size W1 W2 → KeepA X w W2 → w.heap.size + 2 ≤ W2.heap.size → body.wpIn (Fence.wide.inRound l) 2 P (rndPost X G (fun c j W => c = .exit id ∧ G j W) (k + 1) W2) a1 W2) (fun _ _ _ => False))
        { tmps := (ps.zip args).foldl (fun t (p, v) => t.setIfInBounds p v) a.tmps, defers := [] } W)
    (hdone : ∀ (D k : Nat) (W : World), w.heap.size ≤ D → k ≤ len → KeepA X w W → G k W → W.heap[D]? = some (.deferred (some [])) → Q .normal { a with defers := { target := .collected D, args := #[] } :: a.defers } W) :
    (Code.rangeFunc g ps assign body).wp P Q a w := by
  refine wp_rangeZ hg eg X hseq hX hps G (fun c j W => c = .exit id ∧ G j W) hG (fun c s W W' h hs => ⟨h.1, hG _ _ _ h.2 hs⟩) h0 hround (fun D W hD hk hG' hd => hdone D len W hD (Nat.le_refl _) hk hG' hd) ?_
  rintro D c k W hD hk hkw ⟨rfl, hg2⟩ hd
  exact hid _ _ (hdone D (k + 1) W hD hk hkw hg2 hd)
end Go.Proofs.Ytmbpacpkabbcgaa
