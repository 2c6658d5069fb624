/- Plain facts on values of several cells (structs): a row in a block of its own, loads and stores of it, structs as elements of a slice, results that lie in such rows. Nothing of the program is used here. -/
import Derived.Test.YtagipfkgnobjlaaHeap
import Derived.Lib.AppendStr
import Derived.Laws.CopyRow
namespace Go.Proofs.Ytagipfkgnobjlaa
open Go.RowKit

/-- A variable of some cells in a block of its own. -/
def RowAt (w : World) (b : Nat) (t : TypeId) (cs : Array Value) : Prop := w.heap[b]? = some (.cells cs t (0, 0))
theorem RowAt.cell {w : World} {b : Nat} {t : TypeId} {cs : Array Value} (h : RowAt w b t cs) (k : Nat) : w.cell? ⟨b, k, none⟩ = cs[k]? := cell_of_row w b k cs t (0, 0) h
theorem RowAt.frozen {w : World} {b : Nat} {t : TypeId} {cs : Array Value} (h : RowAt w b t cs) (k : Nat) : w.frozen? ⟨b, k, none⟩ = false := frozen_of_row w b k cs t h
theorem RowAt.lt {w : World} {b : Nat} {t : TypeId} {cs : Array Value} (h : RowAt w b t cs) : b < w.heap.size := (Array.getElem?_eq_some_iff.1 h).1
theorem RowAt.new (w : World) (t : TypeId) (cs : Array Value) : RowAt (w.alloc (.cells cs t)) w.heap.size t cs := heap_alloc_new w _
theorem RowAt.mono {w w' : World} {b B : Nat} {t : TypeId} {cs : Array Value} (h : RowAt w b t cs) (hb : Below B w w') (hB : b < B) : RowAt w' b t cs := (hb.block b hB).trans h
theorem RowAt.below {w w' : World} {b : Nat} {t : TypeId} {cs : Array Value} (h : RowAt w b t cs) (hb : Below w.heap.size w w') : RowAt w' b t cs := h.mono hb h.lt
theorem RowAt.grown {w w' : World} {b : Nat} {t : TypeId} {cs : Array Value} {row : Option Nat} (h : RowAt w b t cs) (hg : w.grownBy w' row) (hr : ∀ g, row = some g → b ≠ g) : RowAt w' b t cs :=
  (hg.block b h.lt (fun e => hr b e.symm rfl)).trans h
theorem RowAt.set {w : World} {b : Nat} {t : TypeId} {cs : Array Value} (h : RowAt w b t cs) (k : Nat) (u : Value) : RowAt (w.setCell ⟨b, k, none⟩ u) b t (cs.setIfInBounds k u) := heap_setCell_same w b k cs t u h
theorem RowAt.other {w : World} {b : Nat} {t : TypeId} {cs : Array Value} (h : RowAt w b t cs) {a : Addr} (u : Value) (hne : b ≠ a.block) : RowAt (w.setCell a u) b t cs := (heap_setCell_other w a b u hne).trans h
theorem RowAt.box {w : World} {b : Nat} {t : TypeId} {v : Value} (h : RowAt w b t #[v]) : Box w b t v := h
theorem grown_setCell (w : World) (a : Addr) (u : Value) : w.grownBy (w.setCell a u) (some a.block) := ⟨rfl, rfl, rfl, by simp [World.setCell], fun i _ hi => heap_setCell_other w a i u (by intro e; exact hi (by rw [e]))⟩
theorem grown_setRow (w : World) (b : Nat) (cs : Array Value) : w.grownBy (w.setRow b cs) (some b) := ⟨rfl, rfl, rfl, by simp, fun i _ hi => setRow_other w b i cs (by intro e; exact hi (by rw [e]))⟩
theorem below_of_grown {B : Nat} {w w' : World} {row : Option Nat} (hg : w.grownBy w' row) (hB : B ≤ w.heap.size) (hr : ∀ g, row = some g → B ≤ g) : Below B w w' := (Below.refl B w).grown hg hB hr

/-- A whole struct is stored. -/
theorem step_storeRow {P : Program} {ops : Array Oper} {rest : List Oper} {o : Oper} {a : Act} {w : World} {Q : Exit → Act → World → Prop} (hgd : o.guard = none) (ty : TypeId) (x y : Operand) (ho : o.op = .store ty x y)
    (hd : o.dst = none) (b : Nat) (cells : Array Value) (hx : a.eval x = .pointer (some ⟨b, 0, none⟩)) (hy : a.eval y = .agg cells)
    (t : TypeId) (old : Array Value) (hg : RowAt w b t old) (hi : (P.info? ty).map (·.size) = some cells.size)
    (hold : old.size = cells.size) (h1 : cells.all (·.oneCell') = true)
    (h : ∀ w', RowAt w' b t cells → w.grownBy w' (some b) → wpList P ops Q rest a w') : wpList P ops Q (o :: rest) a w :=
  wpList_store_row hgd ty x y ho b cells hx hy t old hg hi hold h1 (by rw [hd]; exact h _ (setRow_heap w b old cells t (0, 0) hg) (grown_setRow w b cells))
/-- A struct type of so many cells. -/
def Agg (P : Program) (ty : TypeId) (n : Nat) : Prop := (∃ fs, P.underlying ty = some (.struct fs)) ∧ (P.info? ty).map (·.size) = some n
theorem run_loadVar_cells {P : Program} (w : World) (a : Addr) (ty : TypeId) (cs : List Value) (hA : Agg P ty cs.length) (h : ∀ j v, cs[j]? = some v → w.cell? (a.add j) = some v) :
    (loadVar ty a).run P w = .ok (.agg cs.toArray) w := by
  have hl : (loadCells a cs.length).run P w = .ok cs.toArray w := run_loadCells_list (P := P) w a cs h
  obtain ⟨⟨fs, hu⟩, hi⟩ := hA
  cases hq : P.info? ty with
  | none => simp [hq] at hi
  | some i =>
    have hs : i.size = cs.length := by simpa [hq] using hi
    have hagg : (isAgg ty).run P w = .ok true w := by
      unfold isAgg
      rw [Sem.run_bind, run_underlying hu w]
      rfl
    simp [loadVar, Sem.run_bind, hagg, sizeOf, typeInfo, hq, hs, hl]
/-- A whole struct is loaded. -/
theorem step_loadCells {P : Program} {ops : Array Oper} {rest : List Oper} {o : Oper} {a : Act} {w : World} {Q : Exit → Act → World → Prop} (hgd : o.guard = none) (ty : TypeId) (x : Operand) (ho : o.op = .load ty x)
    (p : Addr) (hx : a.eval x = .pointer (some p)) (cs : List Value) (hA : Agg P ty cs.length) (hc : ∀ j v, cs[j]? = some v → w.cell? (p.add j) = some v)
    (h : wpList P ops Q rest (a.put o.dst (.agg cs.toArray)) w) : wpList P ops Q (o :: rest) a w :=
  wpList_plain hgd fun K hK => by
    unfold Oper.wp execOp
    simp only [ho, hx, Instr.loadAt, Instr.sureAddr, Sem.run_bind, Sem.run_pure, Result.andThen_ok, run_loadVar_cells w p ty cs hA hc]
    exact hK _ _ h
theorem run_loadVar_row' {P : Program} {w : World} {b : Nat} {t ty : TypeId} {cs : Array Value} (hg : RowAt w b t cs) (hA : Agg P ty cs.size) :
    (loadVar ty ⟨b, 0, none⟩).run P w = .ok (.agg cs) w := by
  have := run_loadVar_cells (P := P) w ⟨b, 0, none⟩ ty cs.toList (by simpa using hA) fun j v hv => by
    have hadd : (⟨b, 0, none⟩ : Addr).add j = ⟨b, j, none⟩ := by unfold Addr.add; split <;> simp_all
    rw [hadd, hg.cell]
    simpa using hv
  simpa using this
theorem step_loadRow {P : Program} {ops : Array Oper} {rest : List Oper} {o : Oper} {a : Act} {w : World} {Q : Exit → Act → World → Prop} (hgd : o.guard = none) (ty : TypeId) (x : Operand) (ho : o.op = .load ty x)
    (b : Nat) (hx : a.eval x = .pointer (some ⟨b, 0, none⟩)) {t : TypeId} {cs : Array Value} (hg : RowAt w b t cs) (hA : Agg P ty cs.size)
    (h : wpList P ops Q rest (a.put o.dst (.agg cs)) w) : wpList P ops Q (o :: rest) a w :=
  wpList_plain hgd fun K hK => by
    unfold Oper.wp execOp
    simp only [ho, hx, Instr.loadAt, Instr.sureAddr, Sem.run_bind, Sem.run_pure, Result.andThen_ok, run_loadVar_row' hg hA]
    exact hK _ _ h
theorem results_row2 {P : Program} {fn : Func} {p q : Tmp} {ty : TypeId} (h : fn.results = #[.cell p ty, .tmp q]) {tmps : Array Value} {w : World} {b : Nat} {t : TypeId} {cs : Array Value}
    (hp : tmps.getD p undef = .pointer (some ⟨b, 0, none⟩)) (hg : RowAt w b t cs) (hA : Agg P ty cs.size) {u : Value} (hq : tmps.getD q undef = u) :
    (results fn tmps).run P w = .ok (.tuple #[.agg cs, u]) w := by
  have hp' : tmps[p]?.getD undef = .pointer (some ⟨b, 0, none⟩) := by simpa using hp
  subst hq
  simp [results, h, hp', asAddr, run_loadVar_row' hg hA]
/-- What an append, or some, onto a row leaves: all blocks but the row's own lie as they lay. -/
structure Onto (w : World) (v : Value) (w' : World) (v' : Value) : Prop where
  grown : w.grownBy w' v.ownBlock
  row : NewRow w v v'
theorem Onto.refl (w : World) (v : Value) : Onto w v w v := ⟨World.grownBy.refl _ _, fun _ h => .inl h⟩
theorem Onto.trans {w w1 w2 : World} {v v1 v2 : Value} (h : Onto w v w1 v1) (k : Onto w1 v1 w2 v2) : Onto w v w2 v2 := by
  refine ⟨⟨k.grown.os.trans h.grown.os, k.grown.tape.trans h.grown.tape, k.grown.output.trans h.grown.output, Nat.le_trans h.grown.size k.grown.size, fun i hi hr => ?_⟩, fun g hg => ?_⟩
  · refine (k.grown.block i (Nat.lt_of_lt_of_le hi h.grown.size) fun e => ?_).trans (h.grown.block i hi hr)
    rcases h.row i e.symm with h2 | h2
    · exact hr h2.symm
    · omega
  · rcases k.row g hg with h2 | h2
    · exact h.row g h2
    · exact .inr (Nat.le_trans h.grown.size h2)
theorem Onto.alloc {w w1 : World} {v v1 : Value} (h : Onto w v w1 v1) (o : Obj) : Onto w v (w1.alloc o) v1 :=
  ⟨grown_trans h.grown ⟨rfl, rfl, rfl, by simp, fun k hk _ => Below.heap_alloc w1 o k hk⟩, h.row⟩
theorem Onto.below {B : Nat} {w w1 w2 : World} {v v1 : Value} (h : Onto w v w1 v1) (hb : Below B w1 w2) (hB : w1.heap.size ≤ B) : Onto w v w2 v1 :=
  ⟨grown_trans h.grown (grown_below _ hb hB), h.row⟩
theorem Onto.sep {w w' : World} {v v' : Value} (h : Onto w v w' v') {b : Nat} (hb : b < w.heap.size) (hs : v.ownBlock ≠ some b) : v'.ownBlock ≠ some b := by
  intro e
  rcases h.row b e with h2 | h2
  · exact hs h2
  · omega
theorem Onto.same {w w' : World} {v v' : Value} (h : Onto w v w' v') {b : Nat} (hb : b < w.heap.size) (hs : v.ownBlock ≠ some b) : w'.heap[b]? = w.heap[b]? := h.grown.block b hb fun e => hs e.symm
theorem RowAt.onto {w w' : World} {v v' : Value} {b : Nat} {t : TypeId} {cs : Array Value} (hr : RowAt w b t cs) (h : Onto w v w' v') (hs : v.ownBlock ≠ some b) : RowAt w' b t cs := (h.same hr.lt hs).trans hr
theorem Box.onto {w w' : World} {v v' : Value} {b : Nat} {t : TypeId} {u : Value} (hr : Box w b t u) (h : Onto w v w' v') (hs : v.ownBlock ≠ some b) : Box w' b t u := (h.same hr.lt hs).trans hr
theorem OwnB.sep {w : World} {base : Nat} {e : TypeId} {v : Value} {l : List UInt8} (h : OwnB w base e v l) {b : Nat} (hb : w.heap.size ≤ b) : v.ownBlock ≠ some b := by
  intro e
  have := (World.ownsRow.lt h b e).2
  omega
theorem Onto.down {base : Nat} {e : TypeId} {w w' : World} {v v' : Value} {l : List UInt8} (h : Onto w v w' v') (ho : OwnB w base e v l) (hb : base ≤ w.heap.size) : Below base w w' :=
  (Below.refl base w).grown h.grown hb fun g hg => (World.ownsRow.lt ho g hg).1
/-- 'append(s, bytes..)' onto a row of bytes of the call's own: all else stays. -/
theorem step_appendO {P : Program} {ops : Array Oper} {rest : List Oper} {o : Oper} {act : Act} {Q : Exit → Act → World → Prop} {w : World} (hgd : o.guard = none) (s x : Operand) {t : TypeId}
    (ho : o.op = .call { callee := .builtin .append, args := #[s, x], argTypes := #[t, t] }) {e : TypeId} {z : Value} (E : Elt P t e 1 1 z) (base : Nat)
    (v : Value) (l : List UInt8) (hv : act.eval s = v) (a : Option Addr) (m c : Nat) (k : List UInt8) (hx : act.eval x = .slice a m c)
    (hown : OwnB w base e v l) (hm : m = k.length) (hk : RdB w a k) (hsz : l.length + k.length ≤ 140737488355328) (hbase : base ≤ w.heap.size)
    (h : ∀ v' w', OwnB w' base e v' (l ++ k) → Onto w v w' v' → wpList P ops Q rest (act.put o.dst v') w') : wpList P ops Q (o :: rest) act w := by
  refine step_append hgd s x ho E base v l.length (l.map bv) hv a m c (k.map bv) hx hown (by simp [hm]) hk (bv_one k) (by omega) (by omega) hbase fun v' w' h1 h2 h3 => ?_
  refine h v' w' ?_ ⟨h2, h3⟩
  unfold OwnB
  rw [List.map_append, List.length_append, ← hm]
  exact h1
end Go.Proofs.Ytagipfkgnobjlaa
