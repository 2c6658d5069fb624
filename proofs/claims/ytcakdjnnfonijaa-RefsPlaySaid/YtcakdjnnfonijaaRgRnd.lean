/- A range over a function whose rounds are told by what was handed out. Nothing of the program is used here. -/
import Derived.Test.YtcakdjnnfonijaaRoLo
import Derived.RangeFuncFrom
namespace Go.Proofs.Ytcakdjnnfonijaa
open Go.RowKit

/-- How a round may be left. -/
def rndPostS {α : Type} (X : Nat → Prop) (G : List α → World → Prop) (Gx : Code → List α → World → Prop) (k : List α) (W : World) : Exit → Act → World → Prop
  | .normal, _, W' => KeepA X W W' ∧ KeepsWalks W W' ∧ G k W'
  | .ret, _, W' => KeepA X W W' ∧ Gx .ret k W'
  | .exit id, _, W' => KeepA X W W' ∧ Gx (.exit id) k W'
  | .goto t, _, W' => KeepA X W W' ∧ Gx (.goto t) k W'
  | .panic _, _, _ => False
  | .outgrown, _, _ => False
/-- The statement 'for .. := range seq { body }' of a function that is called as ever. -/
theorem wp_rangeS {α : Type} {P : Program} {g : Operand} {ps : Array Tmp} {assign body : Code} {Q : Exit → Act → World → Prop} {a : Act} {w : World}
    {gf : Nat} {lb : Array Value} (hg : a.eval g = .func (.func gf) #[] lb) (eg : ∀ args w, (callFunc gf args).run P w = .ok (.enter gf args) w)
    (X : Nat → Prop) {encs : α → Array Value} {S Sp : List α → Prop} {N : Nat} (hseq : SeqStopsK Fence.wide 3 P gf lb encs KeepsWalks S Sp N w) (hX : ∀ k, X k → k ≠ w.heap.size ∧ k ≠ w.heap.size + 1) (hps : ∀ x, (encs x).size = ps.size)
    (G : List α → World → Prop) (Gx : Code → List α → World → Prop)
    (hG : ∀ s W W', G s W → Stays w.heap.size W W' → G s W') (hGx : ∀ c s W W', Gx c s W → Stays w.heap.size W W' → Gx c s W') (h0 : G [] w)
    (hround : ∀ (l : Nat) (pre : List α) (x : α) (W : World), pre.length < N → KeepA X w W → G pre W →
      assign.wpIn (Fence.wide.inRound l) 2 P (Exit.then (fun a1 W1 => KeepA X W W1 ∧ KeepsWalks W W1 ∧ ∀ W2, Stays w.heap.size W1 W2 → KeepA X w W2 → w.heap.size + 2 ≤ W2.heap.size → body.wpIn (Fence.wide.inRound l) 2 P (rndPostS X G Gx (pre ++ [x]) W2) a1 W2) (fun _ _ _ => False))
        { tmps := (ps.zip (encs x)).foldl (fun t (p, v) => t.setIfInBounds p v) a.tmps, defers := [] } W)
    (hdone : ∀ (D : Nat) (xs : List α) (W : World), w.heap.size ≤ D → S xs → KeepA X w W → G xs W → W.heap[D]? = some (.deferred (some [])) → Q .normal { a with defers := { target := .collected D, args := #[] } :: a.defers } W)
    (hstop : ∀ (D : Nat) (c : Code) (pre : List α) (W : World), w.heap.size ≤ D → KeepA X w W → Gx c pre W → W.heap[D]? = some (.deferred (some [])) → c.wp P Q { a with defers := { target := .collected D, args := #[] } :: a.defers } W) :
    (Code.rangeFunc g ps assign body).wp P Q a w := by
  -- the book-keeping of the loop: block D the deferred calls of its rounds, block l its record
  have hturn : ∀ {W W' : World} {row : Option Nat}, KeepA X w W → W.grownBy W' row → (∀ r, row = some r → w.heap.size ≤ r) → KeepA X w W' := fun hs hgr hr =>
    ⟨hgr.os.trans hs.os, hgr.tape.trans hs.tape, hgr.output.trans hs.output, Nat.le_trans hs.size hgr.size, fun k hk hx => (hgr.block k (Nat.lt_of_lt_of_le hk hs.size) (fun e => by have := hr k e.symm; omega)).trans (hs.same k hk hx)⟩
  have hother : ∀ {W W' : World} {r : Nat} {o : Obj}, KeepA X W W' → r = w.heap.size ∨ r = w.heap.size + 1 → W.heap[r]? = some o → W'.heap[r]? = some o := fun h hB ho =>
    (h.same _ (Array.getElem?_eq_some_iff.1 ho).1 (fun hx => by have := hX _ hx; omega)).trans ho
  refine (wpIn_wide (n := 4)).1 (wpIn_rangeFunc fun fn hfn => ?_)
  let rec_ : LoopState → Option Code → Obj := fun st pe => .loop { state := st, pending := pe, fn, tmps := a.tmps, params := ps, assign, body, defers := w.heap.size }
  obtain ⟨W1, hW1⟩ : ∃ W1, (w.alloc (.deferred (some []))).alloc (rec_ .ready none) = W1 := ⟨_, rfl⟩
  have hl1 : W1.heap[w.heap.size + 1]? = some (rec_ .ready none) := by
    rw [← hW1]; have := World.alloc_heap_new (w.alloc (.deferred (some []))) (rec_ .ready none); rwa [World.size_alloc] at this
  have hd1 : W1.heap[w.heap.size]? = some (.deferred (some [])) := by
    rw [← hW1]; exact (Below.heap_alloc _ _ _ (by simp)).trans (World.alloc_heap_new w _)
  have hb1 : Below w.heap.size w W1 := by
    rw [← hW1]; exact ((Below.refl _ w).alloc (Nat.le_refl _) _).alloc (by simp) _
  have hst1 : Stays w.heap.size w W1 := fun k o hk _ => (hb1.block k (Array.getElem?_eq_some_iff.1 hk).1).trans hk
  refine ⟨w.heap.size + 1, [{ target := .collected w.heap.size, args := #[] }], W1, { target := .fn (.func gf) lb, args := #[.func (.yield (w.heap.size + 1)) #[] #[]] }, W1, gf,
    #[.func (.yield (w.heap.size + 1)) #[] #[]] ++ lb, W1, ?_, ?_, ?_, ?_, fun _ => by omega, ?_⟩
  · rw [← hW1]; exact run_enterLoop_outer _ _ _ _ _
  · simp only [resolve, hg]
    simp [go_sem]
  · exact fun _ _ => trivial
  · simp [invoke, go_sem, eg]
  -- the iterator, at the caller's word on its own blocks beside the two blocks of the book-keeping
  have habide : ∀ (M : List α → World → Prop) (o : Obj), (∀ s W W', M s W → Stays w.heap.size W W' → M s W') → o.isCells = false → o.isWalk = false →
      AbidesFrom W1.heap.size (fun k W => (KeepA X w W ∧ M k W) ∧ W.heap[w.heap.size + 1]? = some o ∧ W.heap[w.heap.size]? = some (.deferred (some []))) := by
    intro M o hM _ ho s U V row hs hgr hr
    have hrow : ∀ r, row = some r → w.heap.size ≤ r ∧ ∃ o : Obj, U.heap[r]? = some o ∧ o.isCells = false := fun r e => by
      obtain ⟨hB, o', ho', hw⟩ := hr r e
      exact ⟨by have := hb1.size; omega, o', ho', Obj.not_cells_of_walk hw⟩
    have keep : ∀ (r : Nat) (o' : Obj), U.heap[r]? = some o' → o'.isWalk = false → V.heap[r]? = some o' := fun r o' h hw =>
      (hgr.block r (Array.getElem?_eq_some_iff.1 h).1 (fun e => by obtain ⟨_, o2, h2, hw2⟩ := hr r e.symm; rw [h] at h2; cases h2; rw [hw] at hw2; cases hw2)).trans h
    exact ⟨⟨hturn hs.1.1 hgr fun r e => (hrow r e).1, hM s U V hs.1.2 (stays_grown hgr hrow)⟩, keep _ _ hs.2.1 ho, keep _ _ hs.2.2 rfl⟩
  have hcall := hseq (w.heap.size + 1) (fun k W => (KeepA X w W ∧ G k W) ∧ W.heap[w.heap.size + 1]? = some (rec_ .ready none) ∧ W.heap[w.heap.size]? = some (.deferred (some [])))
    (fun k W => ∃ c, (KeepA X w W ∧ Gx c k W) ∧ W.heap[w.heap.size + 1]? = some (rec_ .done (some c)) ∧ W.heap[w.heap.size]? = some (.deferred (some []))) W1 hb1
    (habide G _ hG rfl rfl) (fun s U V row hs hgr hr => by obtain ⟨c, hc⟩ := hs; exact ⟨c, habide (Gx c) _ (hGx c) rfl rfl s U V row hc hgr hr⟩) ?_ ⟨⟨KeepA.of_below hb1, hG [] _ _ h0 hst1⟩, hl1, hd1⟩
  · refine hcall.mono ?_
    rintro e W2 ⟨⟨v, rfl⟩, (⟨xs, hxs, ⟨hk2, hg2⟩, hl2, hd2⟩ | ⟨pre, _, c, ⟨hk2, hg2⟩, hl2, hd2⟩)⟩
    · have he := run_endLoop (P := P) hl2 (by simp)
      refine ⟨none, _, he, hdone w.heap.size xs _ (Nat.le_refl _) hxs (hturn hk2 (grownBy_putObj' W2 _ _) (fun r e => by cases e; omega)) (hG _ _ _ hg2 (stays_grown (grownBy_putObj' W2 _ _) (fun r e => by cases e; exact ⟨by omega, _, hl2, rfl⟩))) ?_⟩
      rw [World.putObj_heap_other (by omega)]; exact hd2
    · have he := run_endLoop (P := P) hl2 (by simp)
      refine ⟨some c, _, he, wpIn_wide.2 (hstop w.heap.size c pre _ (Nat.le_refl _) (hturn hk2 (grownBy_putObj' W2 _ _) (fun r e => by cases e; omega)) (hGx _ _ _ _ hg2 (stays_grown (grownBy_putObj' W2 _ _) (fun r e => by cases e; exact ⟨by omega, _, hl2, rfl⟩))) ?_)⟩
      rw [World.putObj_heap_other (by omega)]; exact hd2
  -- a round
  rintro pre x W ⟨⟨hkW, hgW⟩, hl, hd⟩ hlen
  refine ⟨fn, _, assign, body, run_yield (P := P) (args := encs x) hl (hps x), roundIn_of_wpIn hfn (wpIn_mono (hround _ pre x W hlen hkW hgW) ?_)⟩
  intro e a1 W2 h
  cases e with
  | normal =>
    obtain ⟨hk2, hw2, hA2⟩ := h
    have hl2 := hother hk2 (.inr rfl) hl
    have hd2 := hother hk2 (.inl rfl) hd
    refine ⟨_, run_beginRound hl2 rfl, ?_⟩
    have hlt : w.heap.size + 1 < W2.heap.size := (Array.getElem?_eq_some_iff.1 hl2).1
    have hl3 : (W2.putObj (w.heap.size + 1) (rec_ .busy none)).heap[w.heap.size + 1]? = some (rec_ .busy none) := World.putObj_heap_same hlt
    have hd3 : (W2.putObj (w.heap.size + 1) (rec_ .busy none)).heap[w.heap.size]? = some (.deferred (some [])) := (World.putObj_heap_other (by omega)).trans hd2
    have hk3 := hturn (hkW.trans hk2) (grownBy_putObj' W2 (w.heap.size + 1) (rec_ .busy none)) (fun r e => by cases e; omega)
    have hA3 := hA2 _ (stays_grown (grownBy_putObj' W2 (w.heap.size + 1) (rec_ .busy none)) (fun r e => by cases e; exact ⟨by omega, _, hl2, rfl⟩)) hk3 (Nat.le_trans hlt (grownBy_putObj' W2 (w.heap.size + 1) (rec_ .busy none)).size)
    have hc3 : KeepsWalks W (W2.putObj (w.heap.size + 1) (rec_ .busy none)) := hw2.trans (KeepsWalks.putObj _ hl2 rfl)
    refine wpIn_mono hA3 ?_
    have fin : ∀ (jump : Option Code) (W4 : World), KeepA X (W2.putObj (w.heap.size + 1) (rec_ .busy none)) W4 →
        (Instr.endRound (w.heap.size + 1) jump).run P W4 = .ok (.bool jump.isNone) (W4.putObj (w.heap.size + 1) (rec_ (if jump.isNone then .ready else .done) jump)) ∧
        KeepA X w (W4.putObj (w.heap.size + 1) (rec_ (if jump.isNone then .ready else .done) jump)) ∧
        (KeepsWalks (W2.putObj (w.heap.size + 1) (rec_ .busy none)) W4 → KeepsWalks W (W4.putObj (w.heap.size + 1) (rec_ (if jump.isNone then .ready else .done) jump))) ∧
        Stays w.heap.size W4 (W4.putObj (w.heap.size + 1) (rec_ (if jump.isNone then .ready else .done) jump)) ∧
        (W4.putObj (w.heap.size + 1) (rec_ (if jump.isNone then .ready else .done) jump)).heap[w.heap.size + 1]? = some (rec_ (if jump.isNone then .ready else .done) jump) ∧
        (W4.putObj (w.heap.size + 1) (rec_ (if jump.isNone then .ready else .done) jump)).heap[w.heap.size]? = some (.deferred (some [])) := by
      intro jump W4 hk4
      have hl4 := hother hk4 (.inr rfl) hl3
      have hd4 := hother hk4 (.inl rfl) hd3
      exact ⟨run_endRound (P := P) jump hl4, hturn (hk3.trans hk4) (grownBy_putObj' _ _ _) (fun r e => by cases e; omega), fun hq => (hc3.trans hq).trans (KeepsWalks.putObj _ hl4 rfl),
        stays_grown (grownBy_putObj' _ _ _) (fun r e => by cases e; exact ⟨by omega, _, hl4, rfl⟩), World.putObj_heap_same (Array.getElem?_eq_some_iff.1 hl4).1, (World.putObj_heap_other (by omega)).trans hd4⟩
    intro e a3 W4 hp
    cases e with
    | normal =>
      obtain ⟨hr, h1, h2, h3, h4, h5⟩ := fin none W4 hp.1
      exact ⟨_, _, hr, .inl ⟨rfl, ⟨⟨h1, hG _ _ _ hp.2.2 h3⟩, h4, h5⟩, h2 hp.2.1⟩⟩
    | ret =>
      obtain ⟨hr, h1, h2, h3, h4, h5⟩ := fin (some .ret) W4 hp.1
      exact ⟨_, _, hr, .inr ⟨rfl, .ret, ⟨h1, hGx _ _ _ _ hp.2 h3⟩, h4, h5⟩⟩
    | exit id =>
      obtain ⟨hr, h1, h2, h3, h4, h5⟩ := fin (some (.exit id)) W4 hp.1
      exact ⟨_, _, hr, .inr ⟨rfl, .exit id, ⟨h1, hGx _ _ _ _ hp.2 h3⟩, h4, h5⟩⟩
    | goto t =>
      obtain ⟨hr, h1, h2, h3, h4, h5⟩ := fin (some (.goto t)) W4 hp.1
      exact ⟨_, _, hr, .inr ⟨rfl, .goto t, ⟨h1, hGx _ _ _ _ hp.2 h3⟩, h4, h5⟩⟩
    | panic ch => exact hp.elim
    | outgrown => exact hp.elim
  | ret => exact h.elim
  | exit id => exact h.elim
  | goto t => exact h.elim
  | panic ch => exact h.elim
  | outgrown => exact h.elim
end Go.Proofs.Ytcakdjnnfonijaa
