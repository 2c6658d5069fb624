/- A range over a function whose rounds get what was made anew, and whose state holds maps; the batches of a log so. (Printed by gen_pgrnd.py.) -/
import Derived.Test.YtagipfkgnobjlaaWlIter
namespace Go.Proofs.Ytagipfkgnobjlaa
open Go.RowKit

/-- Neither cells nor a map: what a walk or a loop writes of its own. -/
def oddO : Obj → Bool
  | .cells _ _ _ => false
  | .map _ _ => false
  | _ => true
theorem grown_of_below {w w' : World} (h : Below w.heap.size w w') : w.grownBy w' none := ⟨h.os, h.tape, h.output, h.size, fun k hk _ => h.block k hk⟩
def StayW (B : Nat) (W W' : World) : Prop := ∃ row, W.grownBy W' row ∧ ∀ r, row = some r → B ≤ r ∧ ∃ o : Obj, W.heap[r]? = some o ∧ oddO o = true
theorem stayW_grown {B : Nat} {W W' : World} {row : Option Nat} (hg : W.grownBy W' row) (hr : ∀ r, row = some r → B ≤ r ∧ ∃ o : Obj, W.heap[r]? = some o ∧ oddO o = true) : StayW B W W' := ⟨row, hg, hr⟩
/-- An iterator's contract: what a round gets was made since the last one's end. -/
def StopsF (P : Program) (gf : Nat) (lb : Array Value) (X : Nat → Prop) (N : Nat → Array Value → World → World → Prop) (len : Nat) (w : World) : Prop :=
  ∀ (lp : Nat) (J Jx : Nat → World → Prop) (W : World), Below w.heap.size w W → w.heap.size + 2 ≤ W.heap.size →
    (∀ k args W0 W1, k < len → KeepC X W W0 → J k W0 → Below W0.heap.size W0 W1 → N k args W0 W1 → YieldAt Fence.wide 2 P lp args W1 fun e W' =>
      (e = .returned (.bool true) ∧ J (k + 1) W' ∧ KeepC X W1 W') ∨ (e = .returned (.bool false) ∧ Jx (k + 1) W')) →
    J 0 W →
    CallsIn Fence.wide 3 P gf (#[.func (.yield lp) #[] #[]] ++ lb) W fun e W' => (∃ v, e = .returned v) ∧ (J len W' ∨ ∃ k, k < len ∧ Jx (k + 1) W')
/-- The statement 'for .. := range seq { body }' of a function that is called as ever. -/
theorem wp_rangeF {P : Program} {g : Operand} {ps : Array Tmp} {assign body : Code} {Q : Exit → Act → World → Prop} {a : Act} {w : World}
    {gf : Nat} {lb : Array Value} (hg : a.eval g = .func (.func gf) #[] lb) (eg : ∀ args w, (callFunc gf args).run P w = .ok (.enter gf args) w)
    (X : Nat → Prop) {N : Nat → Array Value → World → World → Prop} {len : Nat} (hseq : StopsF P gf lb X N len w) (hX : ∀ k, X k → k ≠ w.heap.size ∧ k ≠ w.heap.size + 1) (hps : ∀ k args W0 W, N k args W0 W → args.size = ps.size)
    (G : Nat → World → Prop) (Gx : Code → Nat → World → Prop)
    (hG : ∀ s W W', G s W → StayW w.heap.size W W' → G s W') (hGx : ∀ c s W W', Gx c s W → StayW w.heap.size W W' → Gx c s W') (h0 : G 0 w)
    (hround : ∀ (l k : Nat) (args : Array Value) (W0 W : World), k < len → KeepA X w W0 → G k W0 → w.heap.size + 2 ≤ W0.heap.size → Below W0.heap.size W0 W → N k args W0 W →
      assign.wpIn (Fence.wide.inRound l) 2 P (Exit.then (fun a1 W1 => KeepA X W W1 ∧ ∀ W2, StayW w.heap.size W1 W2 → KeepA X w W2 → w.heap.size + 2 ≤ W2.heap.size → body.wpIn (Fence.wide.inRound l) 2 P (rndPost X G Gx (k + 1) W2) a1 W2) (fun _ _ _ => False))
        { tmps := (ps.zip args).foldl (fun t (p, v) => t.setIfInBounds p v) a.tmps, defers := [] } W)
    (hdone : ∀ (D : Nat) (W : World), D = w.heap.size → KeepA X w W → G len W → W.heap[D]? = some (.deferred (some [])) → Q .normal { a with defers := { target := .collected D, args := #[] } :: a.defers } W)
    (hstop : ∀ (D : Nat) (c : Code) (k : Nat) (W : World), D = w.heap.size → k < len → KeepA X w W → Gx c (k + 1) W → W.heap[D]? = some (.deferred (some [])) → c.wp P Q { a with defers := { target := .collected D, args := #[] } :: a.defers } W) :
    (Code.rangeFunc g ps assign body).wp P Q a w := by
  -- the book-keeping of the loop: block D the deferred calls of its rounds, block l its record
  have hturn : ∀ {W W' : World} {row : Option Nat}, KeepA X w W → W.grownBy W' row → (∀ r, row = some r → w.heap.size ≤ r) → KeepA X w W' := fun hs hgr hr =>
    ⟨hgr.os.trans hs.os, hgr.tape.trans hs.tape, hgr.output.trans hs.output, Nat.le_trans hs.size hgr.size, fun k hk hx => (hgr.block k (Nat.lt_of_lt_of_le hk hs.size) (fun e => by have := hr k e.symm; omega)).trans (hs.same k hk hx)⟩
  have hother : ∀ {W W' : World} {r : Nat} {o : Obj}, KeepA X W W' → r = w.heap.size ∨ r = w.heap.size + 1 → W.heap[r]? = some o → W'.heap[r]? = some o := fun h hB ho =>
    (h.same _ (Array.getElem?_eq_some_iff.1 ho).1 (fun hx => by have := hX _ hx; omega)).trans ho
  refine (wpIn_wide (n := 4)).1 (wpIn_rangeFunc fun fn hfn => ?_)
  let rec_ : LoopState → Option Code → Obj := fun st pe => .loop { state := st, pending := pe, fn, tmps := a.tmps, params := ps, assign, body, defers := w.heap.size }
  obtain ⟨W1, hW1⟩ : ∃ W1, (w.alloc (.deferred (some []))).alloc (rec_ .ready none) = W1 := ⟨_, rfl⟩
  have hl1 : W1.heap[w.heap.size + 1]? = some (rec_ .ready none) := by
    rw [← hW1]; have := World.alloc_heap_new (w.alloc (.deferred (some []))) (rec_ .ready none); rwa [World.size_alloc] at this
  have hd1 : W1.heap[w.heap.size]? = some (.deferred (some [])) := by
    rw [← hW1]; exact (Below.heap_alloc _ _ _ (by simp)).trans (World.alloc_heap_new w _)
  have hb1 : Below w.heap.size w W1 := by
    rw [← hW1]; exact ((Below.refl _ w).alloc (Nat.le_refl _) _).alloc (by simp) _
  have hst1 : StayW w.heap.size w W1 := ⟨none, grown_of_below hb1, fun r e => by cases e⟩
  refine ⟨w.heap.size + 1, [{ target := .collected w.heap.size, args := #[] }], W1, { target := .fn (.func gf) lb, args := #[.func (.yield (w.heap.size + 1)) #[] #[]] }, W1, gf,
    #[.func (.yield (w.heap.size + 1)) #[] #[]] ++ lb, W1, ?_, ?_, ?_, ?_, fun _ => by omega, ?_⟩
  · rw [← hW1]; exact run_enterLoop_outer _ _ _ _ _
  · simp only [resolve, hg]
    simp [go_sem]
  · exact fun _ _ => trivial
  · simp [invoke, go_sem, eg]
  have hcall := hseq (w.heap.size + 1) (fun k W => (KeepA X w W ∧ G k W) ∧ W.heap[w.heap.size + 1]? = some (rec_ .ready none) ∧ W.heap[w.heap.size]? = some (.deferred (some [])))
    (fun k W => ∃ c, (KeepA X w W ∧ Gx c k W) ∧ W.heap[w.heap.size + 1]? = some (rec_ .done (some c)) ∧ W.heap[w.heap.size]? = some (.deferred (some []))) W1 hb1 (by rw [← hW1]; simp)
    ?_ ⟨⟨KeepA.of_below hb1, hG 0 _ _ h0 hst1⟩, hl1, hd1⟩
  · refine hcall.mono ?_
    rintro e W2 ⟨⟨v, rfl⟩, (⟨⟨hk2, hg2⟩, hl2, hd2⟩ | ⟨k, hk, c, ⟨hk2, hg2⟩, hl2, hd2⟩)⟩
    · have he := run_endLoop (P := P) hl2 (by simp)
      refine ⟨none, _, he, hdone w.heap.size _ rfl (hturn hk2 (grownBy_putObj' W2 _ _) (fun r e => by cases e; omega)) (hG _ _ _ hg2 (stayW_grown (grownBy_putObj' W2 _ _) (fun r e => by cases e; exact ⟨by omega, _, hl2, rfl⟩))) ?_⟩
      rw [World.putObj_heap_other (by omega)]; exact hd2
    · have he := run_endLoop (P := P) hl2 (by simp)
      refine ⟨some c, _, he, wpIn_wide.2 (hstop w.heap.size c k _ rfl hk (hturn hk2 (grownBy_putObj' W2 _ _) (fun r e => by cases e; omega)) (hGx _ _ _ _ hg2 (stayW_grown (grownBy_putObj' W2 _ _) (fun r e => by cases e; exact ⟨by omega, _, hl2, rfl⟩))) ?_)⟩
      rw [World.putObj_heap_other (by omega)]; exact hd2
  -- a round
  rintro k args W0 W hk _ ⟨⟨hkW0, hgW⟩, hl0, hd0⟩ hbel hN
  have hkW : KeepA X w W := hkW0.trans (KeepA.of_below hbel)
  have hl := (hbel.block _ (Array.getElem?_eq_some_iff.1 hl0).1).trans hl0
  have hd := (hbel.block _ (Array.getElem?_eq_some_iff.1 hd0).1).trans hd0
  refine ⟨fn, _, assign, body, run_yield (P := P) (args := args) hl (hps k args W0 W hN), roundIn_of_wpIn hfn (wpIn_mono (hround _ k args W0 W hk hkW0 hgW (Array.getElem?_eq_some_iff.1 hl0).1 hbel hN) ?_)⟩
  intro e a1 W2 h
  cases e with
  | normal =>
    obtain ⟨hk2, hA2⟩ := h
    have hl2 := hother hk2 (.inr rfl) hl
    have hd2 := hother hk2 (.inl rfl) hd
    refine ⟨_, run_beginRound hl2 rfl, ?_⟩
    have hlt : w.heap.size + 1 < W2.heap.size := (Array.getElem?_eq_some_iff.1 hl2).1
    have hl3 : (W2.putObj (w.heap.size + 1) (rec_ .busy none)).heap[w.heap.size + 1]? = some (rec_ .busy none) := World.putObj_heap_same hlt
    have hd3 : (W2.putObj (w.heap.size + 1) (rec_ .busy none)).heap[w.heap.size]? = some (.deferred (some [])) := (World.putObj_heap_other (by omega)).trans hd2
    have hk3 := hturn (hkW.trans hk2) (grownBy_putObj' W2 (w.heap.size + 1) (rec_ .busy none)) (fun r e => by cases e; omega)
    have hA3 := hA2 _ (stayW_grown (grownBy_putObj' W2 (w.heap.size + 1) (rec_ .busy none)) (fun r e => by cases e; exact ⟨by omega, _, hl2, rfl⟩)) hk3 (Nat.le_trans hlt (grownBy_putObj' W2 (w.heap.size + 1) (rec_ .busy none)).size)
    have hc3 : KeepC X W (W2.putObj (w.heap.size + 1) (rec_ .busy none)) := hk2.c.trans (keepC_put _ _ _ _ hl2 rfl)
    refine wpIn_mono hA3 ?_
    have fin : ∀ (jump : Option Code) (W4 : World), KeepA X (W2.putObj (w.heap.size + 1) (rec_ .busy none)) W4 →
        (Instr.endRound (w.heap.size + 1) jump).run P W4 = .ok (.bool jump.isNone) (W4.putObj (w.heap.size + 1) (rec_ (if jump.isNone then .ready else .done) jump)) ∧
        KeepA X w (W4.putObj (w.heap.size + 1) (rec_ (if jump.isNone then .ready else .done) jump)) ∧
        KeepC X W (W4.putObj (w.heap.size + 1) (rec_ (if jump.isNone then .ready else .done) jump)) ∧
        StayW w.heap.size W4 (W4.putObj (w.heap.size + 1) (rec_ (if jump.isNone then .ready else .done) jump)) ∧
        (W4.putObj (w.heap.size + 1) (rec_ (if jump.isNone then .ready else .done) jump)).heap[w.heap.size + 1]? = some (rec_ (if jump.isNone then .ready else .done) jump) ∧
        (W4.putObj (w.heap.size + 1) (rec_ (if jump.isNone then .ready else .done) jump)).heap[w.heap.size]? = some (.deferred (some [])) := by
      intro jump W4 hk4
      have hl4 := hother hk4 (.inr rfl) hl3
      have hd4 := hother hk4 (.inl rfl) hd3
      exact ⟨run_endRound (P := P) jump hl4, hturn (hk3.trans hk4) (grownBy_putObj' _ _ _) (fun r e => by cases e; omega), (hc3.trans hk4.c).trans (keepC_put _ _ _ _ hl4 rfl),
        stayW_grown (grownBy_putObj' _ _ _) (fun r e => by cases e; exact ⟨by omega, _, hl4, rfl⟩), World.putObj_heap_same (Array.getElem?_eq_some_iff.1 hl4).1, (World.putObj_heap_other (by omega)).trans hd4⟩
    intro e a3 W4 hp
    cases e with
    | normal =>
      obtain ⟨hr, h1, h2, h3, h4, h5⟩ := fin none W4 hp.1
      exact ⟨_, _, hr, .inl ⟨rfl, ⟨⟨h1, hG _ _ _ hp.2 h3⟩, h4, h5⟩, h2⟩⟩
    | ret =>
      obtain ⟨hr, h1, h2, h3, h4, h5⟩ := fin (some .ret) W4 hp.1
      exact ⟨_, _, hr, .inr ⟨rfl, .ret, ⟨h1, hGx _ _ _ _ hp.2 h3⟩, h4, h5⟩⟩
    | exit id =>
      obtain ⟨hr, h1, h2, h3, h4, h5⟩ := fin (some (.exit id)) W4 hp.1
      exact ⟨_, _, hr, .inr ⟨rfl, .exit id, ⟨h1, hGx _ _ _ _ hp.2 h3⟩, h4, h5⟩⟩
    | goto t =>
      obtain ⟨hr, h1, h2, h3, h4, h5⟩ := fin (some (.goto t)) W4 hp.1
      exact ⟨_, _, hr, .inr ⟨rfl, .goto t, ⟨h1, hGx _ _ _ _ hp.2 h3⟩, h4, h5⟩⟩
    | panic ch => exact hp.elim
    | outgrown => exact hp.elim
  | ret => exact h.elim
  | exit id => exact h.elim
  | goto t => exact h.elim
  | panic ch => exact h.elim
  | outgrown => exact h.elim
attribute [local go_sem] Oper.semAt_some
set_option maxRecDepth 100000 in
set_option maxHeartbeats 4000000 in
theorem batches_stopsF (w0 w : World) (hw0 : Below w0.heap.size w0 w) (B : Nat) (v : Value) (bs : List (List UInt8)) (base : Nat) (hbox : w.cell? ⟨B, 0, none⟩ = some v) (hB : Bats w0 base v bs) (hn : bs.length ≤ 1000000) (hs : ∀ b ∈ bs, b.length ≤ 100000000)
    (X : Nat → Prop) (hX : ∀ x, X x → w0.heap.size ≤ x ∨ x < base) :
    StopsF Try.prog 59 #[.pointer (some ⟨B, 0, none⟩)] X (fun k args W0 W => ∃ b v, bs[k]? = some b ∧ args = #[.int .i64 k, v] ∧ OwnB W W0.heap.size 5 v b) bs.length w := by
  intro lp J Jx W hW hWs hY h0
  refine callsIn_of_wp Try.func59 rfl trivial ?_ rfl
  simp only [Try.ntmps59, List.size_toArray, List.length_cons, List.length_nil, Nat.reduceAdd, Nat.reduceSub, Array.replicate_succ, Array.replicate_zero, List.push_toArray, List.append_toArray, List.nil_append, List.cons_append]
  have hbl : B < w.heap.size := World.block_lt_of_cell? w _ hbox
  have hbox1 : W.cell? ⟨B, 0, none⟩ = some v := (hW.cell (p := ⟨B, 0, none⟩) hbl).trans hbox
  have hW0 : Below w0.heap.size w0 W := hw0.trans (hW.mono hw0.size)
  obtain ⟨a, cp, rfl, hat⟩ := hB.at2
  have HAT : Hid (∀ W1, KeepC X W W1 → ∀ j (hj : j < bs.length), ∃ hb ho xa xc, a = some ⟨hb, ho, none⟩ ∧ W1.cell? ⟨hb, ho + j, none⟩ = some (.slice xa bs[j].length xc) ∧ RdB W1 xa bs[j]) := fun W1 hk j hj => by
    obtain ⟨hb, ho, xa, xc, ha, q1, q2, hc, hr, q3⟩ := hat j hj
    refine ⟨hb, ho, xa, xc, ha, hk.cell (cell_later hW0 q2 hc) (fun hx => by rcases hX _ hx with h | h <;> (dsimp only at h; omega)), Rd.keepC (hr.mono hW0) hk (fun b off he _ hx => ?_)⟩
    have := q3 _ he
    rcases hX _ hx with h | h <;> (dsimp only at this; omega)
  obtain ⟨m, hm⟩ : ∃ m, bs.length = m := ⟨_, rfl⟩
  rw [hm] at hbox1 hn hY ⊢
  have HM := Lib.hid hm
  have HS := Lib.hid hs
  have HY := Lib.hid hY
  have H0 := Lib.hid h0
  have HWS := Lib.hid hWs
  clear hbl hbox hB hat hX hm hs hY h0 hW hWs hW0 hw0
  gi_wp2
  gi_loopw [7] (fun p wr => ∃ k : Nat, k ≤ m ∧ p = .int .i64 k ∧ J k wr ∧ KeepC X W wr) (fun p _ => m - (intOf p).toNat)
  case atStart => exact ⟨0, Nat.zero_le _, rfl, H0.out, KeepC.refl _ _⟩
  case round =>
    obtain ⟨k, hk, rfl, hJk, hkc⟩ := hrel
    have HJK := Lib.hid hJk
    have HKC := Lib.hid hkc
    clear hJk hkc hbox1
    by_cases hlt : k < m
    · have hkl : k < bs.length := by rw [HM.out]; exact hlt
      obtain ⟨hb, ho, xa, xc, rfl, c0, hr⟩ := HAT.out wr HKC.out k hkl
      obtain ⟨x, hx⟩ : ∃ x, bs[k] = x := ⟨_, rfl⟩
      have hxl : x.length ≤ 100000000 := by rw [← hx]; exact HS.out _ (List.getElem_mem hkl)
      rw [hx] at c0 hr
      have HX : Hid (bs[k]? = some x) := by rw [← hx]; exact List.getElem?_eq_getElem hkl
      have HC := Lib.hid (clone_any xa x x.length xc wr rfl hxl hr)
      obtain ⟨ll, hll⟩ : ∃ z, x.length = z := ⟨_, rfl⟩
      have HLL := Lib.hid hll
      rw [hll] at c0 HC
      have hb1 : (k : Int) < (m : Int) := by omega
      clear hx hxl hr hll
      gi_wp2_with fail
      refine ⟨trivial, (callsIn_wide.2 HC.out).mono ?_⟩
      rintro _ w2 ⟨v2, rfl, ho2, hb2⟩
      have HO2 := Lib.hid ho2
      have HK2 := Lib.hid (HKC.out.trans (KeepA.of_below (X := X) hb2).c)
      obtain ⟨fn, tmps, assign, body, hy, hR⟩ := HY.out k #[.int .i64 k, v2] wr w2 hlt HKC.out HJK.out hb2 ⟨x, v2, HX.out, rfl, HO2.out⟩
      have HR := Lib.hid hR
      clear ho2 hb2 hR c0
      gi_wp2_with fail
      refine HR.out.mono ?_
      rintro e W3 (⟨rfl, hJ3, hk3⟩ | ⟨rfl, hJx3⟩)
      · have HJ3 := Lib.hid hJ3
        have HK3 := Lib.hid (HK2.out.trans hk3)
        clear hJ3 hk3 hy
        gi_wp2
        go_roundw
        case rel => exact ⟨k + 1, by omega, by go_num, HJ3.out, HK3.out⟩
        case measure => simp [intOf]; omega
      · have HJ3 := Lib.hid hJx3
        clear hJx3 hy
        gi_wp2
        exact bodyPost_ret (results_none rfl _ _ _) rfl ⟨⟨_, rfl⟩, .inr ⟨k, hlt, HJ3.out⟩⟩
    · obtain rfl : k = m := by omega
      gi_wp2
      go_end0
      exact ⟨⟨_, rfl⟩, .inl HJK.out⟩
end Go.Proofs.Ytagipfkgnobjlaa
