/- refs.Order's state behind its first loop. -/
import Derived.Test.YtcakdjnnfonijaaRoOrd0
import Derived.Test.YtcakdjnnfonijaaRoStep
namespace Go.Proofs.Ytcakdjnnfonijaa
open Go.RowKit

theorem run_entry_b {P : Program} {w : World} {r m since clock b : Nat} {seen : Array Nat} {es : Array MapEntry} (hr : w.heap[r]? = some (.mapIter (some m) since (seen.push b) clock)) (hb : w.heap[m]? = some (.map es clock)) (he : ∃ e ∈ es.toList, e.born = b) :
    ∃ e ∈ es.toList, e.born = b ∧ (Instr.entry (.pointer (some ⟨r, 0, none⟩))).run P w = .ok (.tuple #[e.key, e.val]) w := by
  obtain ⟨e0, he0, hb0⟩ := he
  have hs : (es.find? (·.born == b)).isSome = true := by
    rw [← Array.find?_toList, List.find?_isSome]
    exact ⟨e0, he0, by simp [hb0]⟩
  cases hf : es.find? (·.born == b) with
  | none => rw [hf] at hs; cases hs
  | some e =>
    refine ⟨e, by simpa using Array.mem_of_find?_eq_some hf, by simpa using Array.find?_some hf, ?_⟩
    simp only [Instr.entry, getObj, Sem.run_bind, Sem.run, hr, hb, Result.andThen, Array.back?_push, bne_self_eq_false, Bool.false_eq_true, if_false, hf]
    rfl
section
variable {κ : Type} [DecidableEq κ] {kv : κ → Value} {clock : Nat} {es : List MapEntry} {f : κ → Option Value}
theorem MapF.born_inj (h : MapF kv clock es f) {a b : MapEntry} (ha : a ∈ es) (hb : b ∈ es) (e : a.born = b.born) : a = b := by
  obtain ⟨i, hi⟩ := List.mem_iff_getElem?.1 ha
  obtain ⟨j, hj⟩ := List.mem_iff_getElem?.1 hb
  have := h.born i j a b hi hj e
  subst this
  rw [hi] at hj
  exact Option.some.inj hj
theorem MapF.key_inj (h : MapF kv clock es f) {a b : MapEntry} (ha : a ∈ es) (hb : b ∈ es) (e : a.key = b.key) : a = b := by
  obtain ⟨i, hi⟩ := List.mem_iff_getElem?.1 ha
  obtain ⟨j, hj⟩ := List.mem_iff_getElem?.1 hb
  have := h.dis i j a b hi hj e
  subst this
  rw [hi] at hj
  exact Option.some.inj hj
end
theorem keyF_congr {L : List (Rf × List Rf)} {φ φ' : Rf × List Rf → Int} (h : ∀ x ∈ L, φ x = φ' x) (u : Rf) : keyF L φ u = keyF L φ' u := by
  unfold keyF
  cases hf : L.find? (fun x => decide (x.1 = u)) with
  | none => rfl
  | some y => rw [Option.map_some, Option.map_some, h y (List.mem_of_find?_eq_some hf)]
theorem wait_len {L : List (Rf × List Rf)} {H : List Rf} (hn : H.Nodup) (h : ∀ u ∈ H, ∃ x ∈ L, x.1 = u) : H.length ≤ L.length := by
  have := nodup_len H (L.map (·.1)) hn fun u hu => by
    obtain ⟨x, hx, e⟩ := h u hu
    exact List.mem_map.2 ⟨x, hx, e⟩
  rwa [List.length_map] at this
/-- Who waits at the beginning. -/
theorem InH.first {L : List (Rf × List Rf)} {H : List Rf} (hn : H.Nodup) (h : ∀ u, u ∈ H ↔ ∃ x ∈ L, x.1 = u ∧ x.2.length = 0) : InH L [] H := by
  refine ⟨hn, fun u => ?_⟩
  rw [h u]
  constructor
  · rintro ⟨x, hx, e, h0⟩
    exact ⟨x, hx, e, rdyB_iff.2 ⟨by simp, by rw [cnt_nil]; exact h0⟩⟩
  · rintro ⟨x, hx, e, h0⟩
    exact ⟨x, hx, e, by have := (rdyB_iff.1 h0).2; rwa [cnt_nil] at this⟩
/-- The state: the heap gh of those that wait, its variable's box q, what is told, how many are left. -/
structure OrdSt (w1 w : World) (g gh q : Nat) (L : List (Rf × List Rf)) (v : Value) (H : List Rf) (ov : Value) (o : List Rf) (φ : Rf × List Rf → Int) : Prop where
  hp : HpAt w gh v H
  is : IsHp ltR H H.length
  low : ∀ p, v.ownBlock = some p → w1.heap.size ≤ p
  ghl : w1.heap.size ≤ gh
  out : OwnRf w ov o
  olow : ∀ p, ov.ownBlock = some p → w1.heap.size ≤ p ∧ p ≠ q ∧ Safe w gh v p
  box : Box w q 58 (.pointer (some ⟨gh, 0, none⟩))
  sq : Safe w gh v q
  ql : w1.heap.size ≤ q
  keep : KeepA (fun k => k = g) w1 w
  lf : MapR w g rfV (keyF L φ)
  gl : g < w1.heap.size
section
variable {w1 w w' : World} {g gh q : Nat} {L : List (Rf × List Rf)} {v v' : Value} {H H' : List Rf} {ov ov' : Value} {o o' : List Rf} {φ φ' : Rf × List Rf → Int}
theorem KeepA.below_more {X : Nat → Prop} (h : KeepA X w1 w) (hb : Below w.heap.size w w') : KeepA X w1 w' := h.trans (KeepA.of_below hb)
theorem OrdSt.later (h : OrdSt w1 w g gh q L v H ov o φ) (hb : Below w.heap.size w w') : OrdSt w1 w' g gh q L v H ov o φ :=
  ⟨h.hp.later hb, h.is, h.low, h.ghl, h.out.later hb, fun p hp => ⟨(h.olow p hp).1, (h.olow p hp).2.1, (h.olow p hp).2.2.later hb.size⟩, (hb.block q h.sq.1).trans h.box, h.sq.later hb.size, h.ql, h.keep.below_more hb, h.lf.same (hb.block g h.lf.lt), h.gl⟩
theorem OrdSt.size (h : OrdSt w1 w g gh q L v H ov o φ) : w1.heap.size ≤ w.heap.size := h.keep.size
theorem OrdSt.heap (h : OrdSt w1 w g gh q L v H ov o φ) (h1 : HpAt w' gh v' H') (h2 : IsHp ltR H' H'.length) (h3 : HUp w gh v w' v') : OrdSt w1 w' g gh q L v' H' ov o φ := by
  have hlow := h3.low h.ghl h.low h.size
  refine ⟨h1, h2, hlow.1, h.ghl, h.out.keep h3.keep ?_, fun p hp => ⟨(h.olow p hp).1, (h.olow p hp).2.1, (h3.safe (h.olow p hp).2.2).1⟩, (h3.safe h.sq).2.trans h.box, (h3.safe h.sq).1, h.ql, ?_, h.lf.same (hlow.2 g h.gl), h.gl⟩
  · rintro p hp (e | e)
    · exact (h.olow p hp).2.2.2.1 e
    · exact (h.olow p hp).2.2.2.2 e
  · refine ⟨h3.keep.os.trans h.keep.os, h3.keep.tape.trans h.keep.tape, h3.keep.output.trans h.keep.output, Nat.le_trans h.keep.size h3.keep.size, fun k hk hx => (hlow.2 k hk).trans (h.keep.same k hk hx)⟩
theorem OrdSt.left (h : OrdSt w1 w g gh q L v H ov o φ) (h1 : KeepA (fun k => k = g) w w') (h2 : MapR w' g rfV (keyF L φ')) : OrdSt w1 w' g gh q L v H ov o φ' := by
  have hg : ∀ p, w1.heap.size ≤ p → ¬ p = g := fun p hp e => by have := h.gl; omega
  exact ⟨h.hp.keep h1 (hg _ h.ghl) (fun b hb => hg _ (h.low b hb)), h.is, h.low, h.ghl, h.out.keep h1 (fun b hb => hg _ (h.olow b hb).1), fun p hp => ⟨(h.olow p hp).1, (h.olow p hp).2.1, (h.olow p hp).2.2.later h1.size⟩, (h1.same q h.sq.1 (hg _ h.ql)).trans h.box, h.sq.later h1.size, h.ql, h.keep.trans h1, h2, h.gl⟩
theorem OrdSt.told (h : OrdSt w1 w g gh q L v H ov o φ) (h1 : OwnRf w' ov' o') (h2 : w.grownBy w' ov.ownBlock) (h3 : NewRow w ov ov') : OrdSt w1 w' g gh q L v H ov' o' φ := by
  have hk := keep_grownO h2
  have hne : ∀ p, (∀ b, ov.ownBlock = some b → b ≠ p) → ¬ ov.ownBlock = some p := fun p h e => h p e rfl
  have hsz := h.size
  refine ⟨h.hp.keep hk (hne _ fun b hb => (h.olow b hb).2.2.2.1) (fun b hb => hne _ fun c hc e => (h.olow c hc).2.2.2.2 (by rw [hb, e])), h.is, h.low, h.ghl, h1, fun p hp => ?_, (hk.same q h.sq.1 (hne _ fun b hb => (h.olow b hb).2.1)).trans h.box, h.sq.later h2.size, h.ql, ?_, h.lf.same (hk.same g h.lf.lt (hne _ fun b hb e => by have := (h.olow b hb).1; have := h.gl; omega)), h.gl⟩
  · rcases h3 p hp with e | e
    · exact ⟨(h.olow p e).1, (h.olow p e).2.1, (h.olow p e).2.2.later h2.size⟩
    · refine ⟨by omega, fun e2 => by have := h.sq.1; omega, by have := h2.size; exact World.ownsRow.lt h1 p hp |>.2, fun e2 => by have := h.hp.lt; omega, fun e2 => by have := h.hp.own.lt e2; omega⟩
  · refine ⟨hk.os.trans h.keep.os, hk.tape.trans h.keep.tape, hk.output.trans h.keep.output, Nat.le_trans h.keep.size hk.size, fun k hk' hx => (hk.same k (Nat.lt_of_lt_of_le hk' hsz) (hne _ fun b hb e => by have := (h.olow b hb).1; omega)).trans (h.keep.same k hk' hx)⟩
end
end Go.Proofs.Ytcakdjnnfonijaa
