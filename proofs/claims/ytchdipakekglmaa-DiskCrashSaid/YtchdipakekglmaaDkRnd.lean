/- A round of the law's range over the pieces: what it leaves. -/
import Derived.Test.YtchdipakekglmaaDkLawP
namespace Go.Proofs.Ytchdipakekglmaa
open Go.RowKit

/-- The statement 'for .. := range seq { body }' of a function that is called as ever. -/
theorem wp_rangeY {P : Program} {g : Operand} {ps : Array Tmp} {assign body : Code} {Q : Exit → Act → World → Prop} {a : Act} {w : World}
    {gf : Nat} {lb : Array Value} (hg : a.eval g = .func (.func gf) #[] lb) (eg : ∀ args w, (callFunc gf args).run P w = .ok (.enter gf args) w)
    (X : Nat → Prop) {N : Nat → Array Value → World → Prop} {len : Nat} (hseq : Stops P gf lb X N len w) (hX : ∀ k, X k → k ≠ w.heap.size ∧ k ≠ w.heap.size + 1) (hps : ∀ k args W, N k args W → args.size = ps.size)
    (G : Nat → World → Prop) (Gx : Code → Nat → World → Prop)
    (hG : ∀ s W W', G s W → Stays w.heap.size W W' → G s W') (hGx : ∀ c s W W', Gx c s W → Stays w.heap.size W W' → Gx c s W') (h0 : G 0 w)
    (hround : ∀ (l k : Nat) (args : Array Value) (W : World), k < len → N k args W → KeepA X w W → G k W →
      assign.wpIn (Fence.wide.inRound l) 2 P (Exit.then (fun a1 W1 => KeepA X W W1 ∧ ∀ W2, Stays w.heap.size W1 W2 → KeepA X w W2 → w.heap.size + 2 ≤ W2.heap.size → body.wpIn (Fence.wide.inRound l) 2 P (rndPost X G Gx (k + 1) W2) a1 W2) (fun _ _ _ => False))
        { tmps := (ps.zip args).foldl (fun t (p, v) => t.setIfInBounds p v) a.tmps, defers := [] } W)
    (hdone : ∀ (D : Nat) (W : World), w.heap.size ≤ D → KeepA X w W → G len W → W.heap[D]? = some (.deferred (some [])) → Q .normal { a with defers := { target := .collected D, args := #[] } :: a.defers } W)
    (hstop : ∀ (D : Nat) (c : Code) (k : Nat) (W : World), w.heap.size ≤ D → k < len → KeepA X w W → Gx c (k + 1) W → W.heap[D]? = some (.deferred (some [])) → c.wp P Q { a with defers := { target := .collected D, args := #[] } :: a.defers } W) :
    (Code.rangeFunc g ps assign body).wp P Q a w := by
  -- the book-keeping of the loop: block D the deferred calls of its rounds, block l its record
  have hturn : ∀ {W W' : World} {row : Option Nat}, KeepA X w W → W.grownBy W' row → (∀ r, row = some r → w.heap.size ≤ r) → KeepA X w W' := fun hs hgr hr =>
    ⟨hgr.os.trans hs.os, hgr.tape.trans hs.tape, hgr.output.trans hs.output, Nat.le_trans hs.size hgr.size, fun k hk hx => (hgr.block k (Nat.lt_of_lt_of_le hk hs.size) (fun e => by have := hr k e.symm; omega)).trans (hs.same k hk hx)⟩
  have hother : ∀ {W W' : World} {r : Nat} {o : Obj}, KeepA X W W' → r = w.heap.size ∨ r = w.heap.size + 1 → W.heap[r]? = some o → W'.heap[r]? = some o := fun h hB ho =>
    (h.same _ (Array.getElem?_eq_some_iff.1 ho).1 (fun hx => by have := hX _ hx; omega)).trans ho
  refine (wpIn_wide (n := 4)).1 (wpIn_rangeFunc fun fn hfn => ?_)
  let rec_ : LoopState → Option Code → Obj := fun st pe => .loop { state := st, pending := pe, fn, tmps := a.tmps, params := ps, assign, body, defers := w.heap.size }
  obtain ⟨W1, hW1⟩ : ∃ W1, (w.alloc (.deferred (some []))).alloc (rec_ .ready none) = W1 := ⟨_, rfl⟩
  have hl1 : W1.heap[w.heap.size + 1]? = some (rec_ .ready none) := by
    rw [← hW1]; have := World.alloc_heap_new (w.alloc (.deferred (some []))) (rec_ .ready none); rwa [World.size_alloc] at this
  have hd1 : W1.heap[w.heap.size]? = some (.deferred (some [])) := by
    rw [← hW1]; exact (Below.heap_alloc _ _ _ (by simp)).trans (World.alloc_heap_new w _)
  have hb1 : Below w.heap.size w W1 := by
    rw [← hW1]; exact ((Below.refl _ w).alloc (Nat.le_refl _) _).alloc (by simp) _
  have hst1 : Stays w.heap.size w W1 := fun k o hk _ => (hb1.block k (Array.getElem?_eq_some_iff.1 hk).1).trans hk
  refine ⟨w.heap.size + 1, [{ target := .collected w.heap.size, args := #[] }], W1, { target := .fn (.func gf) lb, args := #[.func (.yield (w.heap.size + 1)) #[] #[]] }, W1, gf,
    #[.func (.yield (w.heap.size + 1)) #[] #[]] ++ lb, W1, ?_, ?_, ?_, ?_, fun _ => by omega, ?_⟩
  · rw [← hW1]; exact run_enterLoop_outer _ _ _ _ _
  · simp only [resolve, hg]
    simp [go_sem]
  · exact fun _ _ => trivial
  · simp [invoke, go_sem, eg]
  -- the iterator, at the caller's word on its own blocks beside the two blocks of the book-keeping
  have habide : ∀ (M : Nat → World → Prop) (o : Obj), (∀ s W W', M s W → Stays w.heap.size W W' → M s W') → o.isCells = false → o.isWalk = false →
      AbidesFrom W1.heap.size (fun k W => (KeepA X w W ∧ M k W) ∧ W.heap[w.heap.size + 1]? = some o ∧ W.heap[w.heap.size]? = some (.deferred (some []))) := by
    intro M o hM _ ho s U V row hs hgr hr
    have hrow : ∀ r, row = some r → w.heap.size ≤ r ∧ ∃ o : Obj, U.heap[r]? = some o ∧ o.isCells = false := fun r e => by
      obtain ⟨hB, o', ho', hw⟩ := hr r e
      exact ⟨by have := hb1.size; omega, o', ho', Obj.not_cells_of_walk hw⟩
    have keep : ∀ (r : Nat) (o' : Obj), U.heap[r]? = some o' → o'.isWalk = false → V.heap[r]? = some o' := fun r o' h hw =>
      (hgr.block r (Array.getElem?_eq_some_iff.1 h).1 (fun e => by obtain ⟨_, o2, h2, hw2⟩ := hr r e.symm; rw [h] at h2; cases h2; rw [hw] at hw2; cases hw2)).trans h
    exact ⟨⟨hturn hs.1.1 hgr fun r e => (hrow r e).1, hM s U V hs.1.2 (stays_grown hgr hrow)⟩, keep _ _ hs.2.1 ho, keep _ _ hs.2.2 rfl⟩
  have hcall := hseq (w.heap.size + 1) (fun k W => (KeepA X w W ∧ G k W) ∧ W.heap[w.heap.size + 1]? = some (rec_ .ready none) ∧ W.heap[w.heap.size]? = some (.deferred (some [])))
    (fun k W => ∃ c, (KeepA X w W ∧ Gx c k W) ∧ W.heap[w.heap.size + 1]? = some (rec_ .done (some c)) ∧ W.heap[w.heap.size]? = some (.deferred (some []))) W1 hb1
    (habide G _ hG rfl rfl) (fun s U V row hs hgr hr => by obtain ⟨c, hc⟩ := hs; exact ⟨c, habide (Gx c) _ (hGx c) rfl rfl s U V row hc hgr hr⟩) ?_ ⟨⟨KeepA.of_below hb1, hG 0 _ _ h0 hst1⟩, hl1, hd1⟩
  · refine hcall.mono ?_
    rintro e W2 ⟨⟨v, rfl⟩, (⟨⟨hk2, hg2⟩, hl2, hd2⟩ | ⟨k, hk, c, ⟨hk2, hg2⟩, hl2, hd2⟩)⟩
    · have he := run_endLoop (P := P) hl2 (by simp)
      refine ⟨none, _, he, hdone w.heap.size _ (Nat.le_refl _) (hturn hk2 (grownBy_putObj' W2 _ _) (fun r e => by cases e; omega)) (hG _ _ _ hg2 (stays_grown (grownBy_putObj' W2 _ _) (fun r e => by cases e; exact ⟨by omega, _, hl2, rfl⟩))) ?_⟩
      rw [World.putObj_heap_other (by omega)]; exact hd2
    · have he := run_endLoop (P := P) hl2 (by simp)
      refine ⟨some c, _, he, wpIn_wide.2 (hstop w.heap.size c k _ (Nat.le_refl _) hk (hturn hk2 (grownBy_putObj' W2 _ _) (fun r e => by cases e; omega)) (hGx _ _ _ _ hg2 (stays_grown (grownBy_putObj' W2 _ _) (fun r e => by cases e; exact ⟨by omega, _, hl2, rfl⟩))) ?_)⟩
      rw [World.putObj_heap_other (by omega)]; exact hd2
  -- a round
  rintro k args W hk hN _ ⟨⟨hkW, hgW⟩, hl, hd⟩
  refine ⟨fn, _, assign, body, run_yield (P := P) (args := args) hl (hps k args W hN), roundIn_of_wpIn hfn (wpIn_mono (hround _ k args W hk hN hkW hgW) ?_)⟩
  intro e a1 W2 h
  cases e with
  | normal =>
    obtain ⟨hk2, hA2⟩ := h
    have hl2 := hother hk2 (.inr rfl) hl
    have hd2 := hother hk2 (.inl rfl) hd
    refine ⟨_, run_beginRound hl2 rfl, ?_⟩
    have hlt : w.heap.size + 1 < W2.heap.size := (Array.getElem?_eq_some_iff.1 hl2).1
    have hl3 : (W2.putObj (w.heap.size + 1) (rec_ .busy none)).heap[w.heap.size + 1]? = some (rec_ .busy none) := World.putObj_heap_same hlt
    have hd3 : (W2.putObj (w.heap.size + 1) (rec_ .busy none)).heap[w.heap.size]? = some (.deferred (some [])) := (World.putObj_heap_other (by omega)).trans hd2
    have hk3 := hturn (hkW.trans hk2) (grownBy_putObj' W2 (w.heap.size + 1) (rec_ .busy none)) (fun r e => by cases e; omega)
    have hA3 := hA2 _ (stays_grown (grownBy_putObj' W2 (w.heap.size + 1) (rec_ .busy none)) (fun r e => by cases e; exact ⟨by omega, _, hl2, rfl⟩)) hk3 (Nat.le_trans hlt (grownBy_putObj' W2 (w.heap.size + 1) (rec_ .busy none)).size)
    have hc3 : KeepC X W (W2.putObj (w.heap.size + 1) (rec_ .busy none)) := hk2.c.trans (keepC_put _ _ _ _ hl2 rfl)
    refine wpIn_mono hA3 ?_
    have fin : ∀ (jump : Option Code) (W4 : World), KeepA X (W2.putObj (w.heap.size + 1) (rec_ .busy none)) W4 →
        (Instr.endRound (w.heap.size + 1) jump).run P W4 = .ok (.bool jump.isNone) (W4.putObj (w.heap.size + 1) (rec_ (if jump.isNone then .ready else .done) jump)) ∧
        KeepA X w (W4.putObj (w.heap.size + 1) (rec_ (if jump.isNone then .ready else .done) jump)) ∧
        KeepC X W (W4.putObj (w.heap.size + 1) (rec_ (if jump.isNone then .ready else .done) jump)) ∧
        Stays w.heap.size W4 (W4.putObj (w.heap.size + 1) (rec_ (if jump.isNone then .ready else .done) jump)) ∧
        (W4.putObj (w.heap.size + 1) (rec_ (if jump.isNone then .ready else .done) jump)).heap[w.heap.size + 1]? = some (rec_ (if jump.isNone then .ready else .done) jump) ∧
        (W4.putObj (w.heap.size + 1) (rec_ (if jump.isNone then .ready else .done) jump)).heap[w.heap.size]? = some (.deferred (some [])) := by
      intro jump W4 hk4
      have hl4 := hother hk4 (.inr rfl) hl3
      have hd4 := hother hk4 (.inl rfl) hd3
      exact ⟨run_endRound (P := P) jump hl4, hturn (hk3.trans hk4) (grownBy_putObj' _ _ _) (fun r e => by cases e; omega), (hc3.trans hk4.c).trans (keepC_put _ _ _ _ hl4 rfl),
        stays_grown (grownBy_putObj' _ _ _) (fun r e => by cases e; exact ⟨by omega, _, hl4, rfl⟩), World.putObj_heap_same (Array.getElem?_eq_some_iff.1 hl4).1, (World.putObj_heap_other (by omega)).trans hd4⟩
    intro e a3 W4 hp
    cases e with
    | normal =>
      obtain ⟨hr, h1, h2, h3, h4, h5⟩ := fin none W4 hp.1
      exact ⟨_, _, hr, .inl ⟨rfl, ⟨⟨h1, hG _ _ _ hp.2 h3⟩, h4, h5⟩, h2⟩⟩
    | ret =>
      obtain ⟨hr, h1, h2, h3, h4, h5⟩ := fin (some .ret) W4 hp.1
      exact ⟨_, _, hr, .inr ⟨rfl, .ret, ⟨h1, hGx _ _ _ _ hp.2 h3⟩, h4, h5⟩⟩
    | exit id =>
      obtain ⟨hr, h1, h2, h3, h4, h5⟩ := fin (some (.exit id)) W4 hp.1
      exact ⟨_, _, hr, .inr ⟨rfl, .exit id, ⟨h1, hGx _ _ _ _ hp.2 h3⟩, h4, h5⟩⟩
    | goto t =>
      obtain ⟨hr, h1, h2, h3, h4, h5⟩ := fin (some (.goto t)) W4 hp.1
      exact ⟨_, _, hr, .inr ⟨rfl, .goto t, ⟨h1, hGx _ _ _ _ hp.2 h3⟩, h4, h5⟩⟩
    | panic ch => exact hp.elim
    | outgrown => exact hp.elim
  | ret => exact h.elim
  | exit id => exact h.elim
  | goto t => exact h.elim
  | panic ch => exact h.elim
  | outgrown => exact h.elim
/-- The statement 'for .. := range seq { body }' of a function that is called as ever. -/
theorem step_pushIn {F : Fence} {n : Nat} {ops : Array Oper} {rest : List Oper} {o : Oper} {act : Act} {Q : Exit → Act → World → Prop} {w : World} (hgd : o.guard = none) (s x : Operand) (ho : o.op = .call { callee := .builtin .append, args := #[s, x], argTypes := #[24, 24] })
    (base : Nat) (v : Value) (l : List Int) (hv : act.eval s = v) (g : Nat) (i : Int) (hx : act.eval x = .slice (some ⟨g, 0, none⟩) 1 1) (hown : OwnI w base v l) (hg : RowAt w g 3 #[.int .i64 i]) (hsz : l.length ≤ 1000000) (hbase : base ≤ w.heap.size)
    (h : ∀ v' w', OwnI w' base v' (l ++ [i]) → w.grownBy w' v.ownBlock → NewRow w v v' → wpListIn F n Try.prog ops Q rest (act.put o.dst v') w') : wpListIn F n Try.prog ops Q (o :: rest) act w := by
  refine wpListIn_plain hgd fun K hK' => ?_
  obtain ⟨v', w', hrun, r1, r2, r3⟩ := run_append_any eltI w base o.type v l.length (l.map (Value.int .i64)) hown (some ⟨g, 0, none⟩) 1 1 [.int .i64 i] rfl (.inr ⟨g, 0, rfl, hg.lt, fun k hk => by
    have : k = 0 := by simpa using hk
    subst this
    exact hg.cell 0⟩) (fun u hu => by rw [List.mem_singleton.1 hu]; rfl) (by omega) (by omega) hbase
  unfold Oper.wpIn
  refine ⟨?_, ?_⟩
  · simp [Oper.about, ho, resolve, Target.leads, Sem.run_pure]
  · rw [Oper.semAt_plain F _ _ (by rw [ho]; intro c hc'; cases hc')]
    simp [execOp, ho, resolve, invoke, builtin, hv, hx, hrun, Result.andThen]
    refine hK' _ _ (h v' w' ?_ r2 r3)
    unfold OwnI
    rw [List.length_append, List.map_append]
    exact r1
theorem own_stays {B : Nat} {w w' : World} (hs : Stays B w w') {base : Nat} {v : Value} {l : List Int} (h : OwnI w base v l) : OwnI w' base v l := by
  refine ⟨h.1, ?_⟩
  rcases h.2 with h | ⟨g, cap, cur, hv, hg, hh, r⟩
  · exact .inl h
  · exact .inr ⟨g, cap, cur, hv, hg, hs g _ hh (.inr rfl), r⟩
theorem row_stays {B : Nat} {w w' : World} (hs : Stays B w w') {b : Nat} {t : TypeId} {cells : Array Value} (h : RowAt w b t cells) : RowAt w' b t cells := hs b _ h (.inr rfl)
/-- Which sectors some pieces touch. -/
def Tch (size : Nat) (l : List (Int × List UInt8)) (T : List Bool) : Prop := T.length = size ∧ ∀ j, j < size → (T[j]? = some true ↔ ∃ p ∈ l, p.1 = (j : Int))
theorem Tch.nil (size : Nat) : Tch size [] (List.replicate size false) := ⟨by simp, fun j hj => by simp [hj]⟩
theorem Tch.snoc {size : Nat} {l : List (Int × List UInt8)} {T : List Bool} (h : Tch size l T) {p : Int × List UInt8} {j : Nat} (hp : p.1 = (j : Int)) : Tch size (l ++ [p]) (T.set j true) := by
  refine ⟨by rw [List.length_set]; exact h.1, fun i hi => ?_⟩
  rw [List.getElem?_set]
  by_cases hij : j = i
  · subst hij
    rw [if_pos rfl, if_pos (by rw [h.1]; exact hi)]
    exact ⟨fun _ => ⟨p, List.mem_append_right _ (List.mem_singleton.2 rfl), hp⟩, fun _ => rfl⟩
  · rw [if_neg hij, h.2 i hi]
    constructor
    · rintro ⟨q, hq, e⟩
      exact ⟨q, List.mem_append_left _ hq, e⟩
    · rintro ⟨q, hq, e⟩
      rcases List.mem_append.1 hq with hq | hq
      · exact ⟨q, hq, e⟩
      · rw [List.mem_singleton.1 hq, hp] at e
        exact absurd (by omega) hij
def rowB (T : List Bool) : Array Value := (T.map Value.bool).toArray
def touchX (ob tbr D0 : Nat) : Nat → Prop := fun k => k = ob ∨ k = tbr ∨ D0 + 2 ≤ k
theorem rnd_world {W2 : World} {ob tbr D0 k j : Nat} {v : Value} {T : List Bool} (hbx : RowAt W2 ob 24 #[v]) (hown : OwnI W2 (D0 + 2) v (List.replicate k 1)) (hrow : RowAt W2 tbr 4 (rowB T)) (hob : ob < D0) (htb : tbr < D0) (hne : ob ≠ tbr) (hD : D0 + 2 ≤ W2.heap.size) :
    (W2.setCell ⟨tbr, j, none⟩ (.bool true)).cell? ⟨ob, 0, none⟩ = some v ∧
    OwnI ((W2.setCell ⟨tbr, j, none⟩ (.bool true)).alloc (.cells #[.int .i64 1] 3)) (D0 + 2) v (List.replicate k 1) ∧
    RowAt ((W2.setCell ⟨tbr, j, none⟩ (.bool true)).alloc (.cells #[.int .i64 1] 3)) W2.heap.size 3 #[.int .i64 1] ∧
    D0 + 2 ≤ ((W2.setCell ⟨tbr, j, none⟩ (.bool true)).alloc (.cells #[.int .i64 1] 3)).heap.size ∧
    ∀ v' W5, OwnI W5 (D0 + 2) v' (List.replicate k 1 ++ [1]) → ((W2.setCell ⟨tbr, j, none⟩ (.bool true)).alloc (.cells #[.int .i64 1] 3)).grownBy W5 v.ownBlock → NewRow ((W2.setCell ⟨tbr, j, none⟩ (.bool true)).alloc (.cells #[.int .i64 1] 3)) v v' →
      W5.cell? ⟨ob, 0, none⟩ = some v ∧ W5.frozen? ⟨ob, 0, none⟩ = false ∧ KeepA (touchX ob tbr D0) W2 (W5.setCell ⟨ob, 0, none⟩ v') ∧ RowAt (W5.setCell ⟨ob, 0, none⟩ v') ob 24 #[v'] ∧ OwnI (W5.setCell ⟨ob, 0, none⟩ v') (D0 + 2) v' (List.replicate (k + 1) 1) ∧ RowAt (W5.setCell ⟨ob, 0, none⟩ v') tbr 4 (rowB (T.set j true)) := by
  have kset : KeepA (fun x => x = tbr) W2 (W2.setCell ⟨tbr, j, none⟩ (.bool true)) := keep_grown (grown_setCell _ _ _)
  have hr2 : RowAt (W2.setCell ⟨tbr, j, none⟩ (.bool true)) tbr 4 (rowB (T.set j true)) := by
    have := hrow.set j (.bool true)
    unfold rowB at this ⊢
    rw [List.map_set]
    simpa using this
  have hb2 := row_keep kset hbx hne
  have ho2 : OwnI (W2.setCell ⟨tbr, j, none⟩ (.bool true)) (D0 + 2) v (List.replicate k 1) := own_keep kset hown fun g hg e => by have := OwnI.lt hown hg; omega
  have hsz : (W2.setCell ⟨tbr, j, none⟩ (.bool true)).heap.size = W2.heap.size := by simp
  generalize W2.setCell ⟨tbr, j, none⟩ (.bool true) = Wd at *
  have hal : Below Wd.heap.size Wd (Wd.alloc (.cells #[.int .i64 1] 3)) := below_alloc _
  have ho3 := ho2.later hal
  have hb3 := RowAt.below hb2 hal
  have hr3 := RowAt.below hr2 hal
  have kal : KeepA (touchX ob tbr D0) W2 (Wd.alloc (.cells #[.int .i64 1] 3)) := (kset.mono fun _ e => .inr (.inl e)).trans (KeepA.of_below hal)
  refine ⟨hb2.cell 0, ho3, by rw [← hsz]; exact RowAt.new _ _ _, by rw [World.size_alloc]; omega, fun v' W5 q1 q2 q3 => ?_⟩
  have hs3 : D0 + 2 ≤ (Wd.alloc (.cells #[.int .i64 1] 3)).heap.size := by rw [World.size_alloc]; omega
  generalize Wd.alloc (.cells #[.int .i64 1] 3) = W4 at *
  have kg := keep_grownO q2
  have hb5 := row_keep kg hb3 fun e => by have := OwnI.lt ho3 e; omega
  have hr5 := row_keep kg hr3 fun e => by have := OwnI.lt ho3 e; omega
  have kst : KeepA (fun x => x = ob) W5 (W5.setCell ⟨ob, 0, none⟩ v') := keep_grown (grown_setCell _ _ _)
  refine ⟨hb5.cell 0, hb5.frozen 0, (kal.trans (kg.mono fun x e => .inr (.inr (OwnI.lt ho3 e)))).trans (kst.mono fun _ e => .inl e), hb5.set 0 v', ?_, row_keep kst hr5 (Ne.symm hne)⟩
  rw [List.replicate_succ']
  exact own_keep kst q1 fun g hg e => by
    subst e
    rcases q3 _ hg with e | e
    · have := OwnI.lt ho3 e; omega
    · omega
/-- What the law holds on to. -/
structure Inp (w0 w : World) (g rb Dm : Nat) (cells : Array Value) (pa : Option Addr) (ps : List Int) : Prop where
  row : RowAt w g 26 cells
  res : Box w rb 4 (.bool false)
  picks : RdI w pa ps
  mark : w.heap[Dm]? = some (.deferred (some []))
  bel : Below g w0 w
theorem Inp.later {w0 w w' : World} {g rb Dm : Nat} {cells : Array Value} {pa : Option Addr} {ps : List Int} (h : Inp w0 w g rb Dm cells pa ps) (hb : Below w.heap.size w w') : Inp w0 w' g rb Dm cells pa ps :=
  ⟨RowAt.below h.row hb, h.res.below hb, h.picks.later hb, (hb.block Dm (Array.getElem?_eq_some_iff.1 h.mark).1).trans h.mark, h.bel.trans (hb.mono (Nat.le_of_lt h.row.lt))⟩
theorem convB (a : Option Addr) (l : List UInt8) (n c : Nat) (S : ByteArray) (hn : n = l.length) (hS : str l = S) (w : World) (h : RdB w a l) : (convert 39 9 (.slice a n c)).run Try.prog w = .ok (.string S) w := by
  subst hS
  exact run_str (P := Try.prog) w 39 9 5 a n c l Try.underlying39 Try.underlying5 Try.underlying9 hn h
end Go.Proofs.Ytchdipakekglmaa
