/- Maps whose keys are structs: entries, the steps of a walk, ranges over such maps. Nothing of the program is used here. -/
import Derived.Test.YtagipfkgnobjlaaRoMap
import Derived.Test.YtagipfkgnobjlaaDkHi
import Derived.ChangeKeysEq
import Derived.Laws.IdiomRangeMap
import Derived.OrdersHeld
namespace Go.Proofs.Ytagipfkgnobjlaa
open Go.RowKit

section
variable {P : Program} {kt : TypeId} {κ : Type} [DecidableEq κ] {kv : κ → Value}
theorem MapR.same {w w' : World} {r : Nat} {f : κ → Option Value} (h : MapR w r kv f) (e : w'.heap[r]? = w.heap[r]?) : MapR w' r kv f := by
  obtain ⟨es, c, h1, h2⟩ := h
  exact ⟨es, c, e.trans h1, h2⟩
theorem map_grow (w : World) (r : Nat) (o : Obj) : w.grownBy { w with heap := w.heap.setIfInBounds r o } (some r) := ⟨rfl, rfl, rfl, by simp, fun i hi hne => by
  show (w.heap.setIfInBounds r o)[i]? = w.heap[i]?
  rw [Array.getElem?_setIfInBounds_ne (fun e => hne (by rw [e]))]⟩
theorem map_at {w : World} {r : Nat} {o' : Obj} (h1 : w.heap[r]? = some o') (o : Obj) : ({ w with heap := w.heap.setIfInBounds r o } : World).heap[r]? = some o := by
  show (w.heap.setIfInBounds r o)[r]? = some o
  rw [Array.getElem?_setIfInBounds_self_of_lt (Array.getElem?_eq_some_iff.1 h1).1]
theorem wp_lookup1 (K : KeyT P kt kv) {mt et : TypeId} (hm : P.underlying mt = some (.map kt et)) {o : Oper} {act : Act} {N : Act → World → Prop} {Q : Exit → Act → World → Prop} {w : World} (x y : Operand) (ho : o.op = .lookup mt x y false)
    {r : Nat} {f : κ → Option Value} (h : MapR w r kv f) (k : κ) (z : Value) (hz : (zeroValue et).run P w = .ok z w) (hx : act.eval x = .map (some r)) (hy : act.eval y = kv k) (v : Value) (hv : (f k).getD z = v)
    (hn : N (act.put o.dst v) w) : o.wp P act w N Q := by
  unfold Oper.wp execOp
  simp only [ho, hx, hy]
  rw [Sem.run_bind, run_lookup_map K hm h k z hz false]
  subst hv
  exact hn
theorem step_lookup1 (K : KeyT P kt kv) {mt et : TypeId} (hm : P.underlying mt = some (.map kt et)) {ops : Array Oper} {rest : List Oper} {o : Oper} {act : Act} {Q : Exit → Act → World → Prop} {w : World} (hw : Region.wanted o (yielded ops act.tmps) = true) (x y : Operand) (ho : o.op = .lookup mt x y false)
    {r : Nat} {f : κ → Option Value} (h : MapR w r kv f) (k : κ) (z : Value) (hz : (zeroValue et).run P w = .ok z w) (hx : act.eval x = .map (some r)) (hy : act.eval y = kv k) (v : Value) (hv : (f k).getD z = v)
    (hn : wpList P ops Q rest (act.put o.dst v) w) : wpList P ops Q (o :: rest) act w :=
  wpList_step fun _ hK => by
    rw [if_pos hw]
    exact wp_lookup1 K hm x y ho h k z hz hx hy v hv (hK _ _ hn)
theorem step_lookup2 (K : KeyT P kt kv) {mt et : TypeId} (hm : P.underlying mt = some (.map kt et)) {ops : Array Oper} {rest : List Oper} {o : Oper} {act : Act} {Q : Exit → Act → World → Prop} {w : World} (hgd : o.guard = none) (x y : Operand) (ho : o.op = .lookup mt x y true)
    {r : Nat} {f : κ → Option Value} (h : MapR w r kv f) (k : κ) (z : Value) (hz : (zeroValue et).run P w = .ok z w) (hx : act.eval x = .map (some r)) (hy : act.eval y = kv k) (v : Value) (b : Bool) (hv : (f k).getD z = v) (hb : (f k).isSome = b)
    (hn : wpList P ops Q rest (act.put o.dst (.tuple #[v, .bool b])) w) : wpList P ops Q (o :: rest) act w :=
  wpList_plain hgd fun _ hK => by
    unfold Oper.wp execOp
    simp only [ho, hx, hy]
    rw [Sem.run_bind, run_lookup_map K hm h k z hz true]
    subst hv hb
    exact hK _ _ hn
theorem wp_updateM (K : KeyT P kt kv) {mt et : TypeId} (hm : P.underlying mt = some (.map kt et)) {o : Oper} {act : Act} {N : Act → World → Prop} {Q : Exit → Act → World → Prop} {w : World} (x y z : Operand) (ho : o.op = .mapUpdate mt x y z) (hd : o.dst = none)
    {r : Nat} {f : κ → Option Value} (h : MapR w r kv f) (k : κ) (v : Value) (hx : act.eval x = .map (some r)) (hy : act.eval y = kv k) (hv : act.eval z = v)
    (hn : ∀ w', w.grownBy w' (some r) → MapR w' r kv (fun j => if j = k then some v else f j) → N act w') : o.wp P act w N Q := by
  obtain ⟨w', h1, h2, h3⟩ := run_update_map K hm h k v
  unfold Oper.wp execOp
  simp only [ho, hx, hy, hv]
  rw [Sem.run_bind, h1]
  have := hn w' h2 h3
  show N (act.put o.dst _) w'
  rw [hd]
  exact this
theorem step_updateM (K : KeyT P kt kv) {mt et : TypeId} (hm : P.underlying mt = some (.map kt et)) {ops : Array Oper} {rest : List Oper} {o : Oper} {act : Act} {Q : Exit → Act → World → Prop} {w : World} (hgd : o.guard = none) (x y z : Operand) (ho : o.op = .mapUpdate mt x y z) (hd : o.dst = none)
    {r : Nat} {f : κ → Option Value} (h : MapR w r kv f) (k : κ) (v : Value) (hx : act.eval x = .map (some r)) (hy : act.eval y = kv k) (hv : act.eval z = v)
    (hn : ∀ w', w.grownBy w' (some r) → MapR w' r kv (fun j => if j = k then some v else f j) → wpList P ops Q rest act w') : wpList P ops Q (o :: rest) act w :=
  wpList_plain hgd fun _ hK => wp_updateM K hm x y z ho hd h k v hx hy hv fun w' q1 q2 => hK _ _ (hn w' q1 q2)
end
theorem step_makeMapM {P : Program} {ops : Array Oper} {rest : List Oper} {o : Oper} {act : Act} {Q : Exit → Act → World → Prop} {w : World} (hgd : o.guard = none) (t : TypeId) (ho : o.op = .makeMap t none)
    (h : ∀ w', w.alloc (.map #[] 0) = w' → wpList P ops Q rest (act.put o.dst (.map (some w.heap.size))) w') : wpList P ops Q (o :: rest) act w :=
  wpList_plain hgd fun K hK => by
    unfold Oper.wp execOp
    simp only [ho]
    exact hK _ _ (h _ rfl)
end Go.Proofs.Ytagipfkgnobjlaa
