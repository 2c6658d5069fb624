/- Maps whose keys are structs: entries, the steps of a walk, ranges over such maps. Nothing of the program is used here. -/
import Derived.Test.YtcakdjnnfonijaaRoMap
import Derived.Test.YtcakdjnnfonijaaRoRows
import Derived.ChangeKeysEq
import Derived.Laws.IdiomRangeMap
import Derived.OrdersHeld
namespace Go.Proofs.Ytcakdjnnfonijaa
open Go.RowKit

section
variable {P : Program} {kt : TypeId} {κ : Type} [DecidableEq κ] {kv : κ → Value}
/-- A map lies at r; the entry with this stamp has the key k. -/
def MapE (w : World) (r : Nat) (kv : κ → Value) (f : κ → Option Value) (k : κ) (st : Nat) : Prop :=
  ∃ (es : Array MapEntry) (clock : Nat), w.heap[r]? = some (.map es clock) ∧ MapF kv clock es.toList f ∧ ∃ (n : Nat) (e : MapEntry), es.toList[n]? = some e ∧ e.key = kv k ∧ e.born = st
theorem MapE.map {w : World} {r : Nat} {f : κ → Option Value} {k : κ} {st : Nat} (h : MapE w r kv f k st) : MapR w r kv f := by
  obtain ⟨es, c, h1, h2, -⟩ := h
  exact ⟨es, c, h1, h2⟩
theorem MapR.same {w w' : World} {r : Nat} {f : κ → Option Value} (h : MapR w r kv f) (e : w'.heap[r]? = w.heap[r]?) : MapR w' r kv f := by
  obtain ⟨es, c, h1, h2⟩ := h
  exact ⟨es, c, e.trans h1, h2⟩
theorem MapE.same {w w' : World} {r : Nat} {f : κ → Option Value} {k : κ} {st : Nat} (h : MapE w r kv f k st) (e : w'.heap[r]? = w.heap[r]?) : MapE w' r kv f k st := by
  obtain ⟨es, c, h1, h2⟩ := h
  exact ⟨es, c, e.trans h1, h2⟩
theorem MapR.eqf {w : World} {r : Nat} {f f' : κ → Option Value} (h : MapR w r kv f) (e : ∀ k, f k = f' k) : MapR w r kv f' := by
  have : f = f' := funext e
  rwa [← this]
theorem map_grow (w : World) (r : Nat) (o : Obj) : w.grownBy { w with heap := w.heap.setIfInBounds r o } (some r) := ⟨rfl, rfl, rfl, by simp, fun i hi hne => by
  show (w.heap.setIfInBounds r o)[i]? = w.heap[i]?
  rw [Array.getElem?_setIfInBounds_ne (fun e => hne (by rw [e]))]⟩
theorem map_at {w : World} {r : Nat} {o' : Obj} (h1 : w.heap[r]? = some o') (o : Obj) : ({ w with heap := w.heap.setIfInBounds r o } : World).heap[r]? = some o := by
  show (w.heap.setIfInBounds r o)[r]? = some o
  rw [Array.getElem?_setIfInBounds_self_of_lt (Array.getElem?_eq_some_iff.1 h1).1]
theorem run_entry_map (K : KeyT P kt kv) {mt et : TypeId} (hm : P.underlying mt = some (.map kt et)) {w : World} {r : Nat} {f : κ → Option Value} (h : MapR w r kv f) (k : κ) (z : Value) (hz : (zeroValue et).run P w = .ok z w) :
    ∃ (w' : World) (st : Nat), (Instr.mapEntry mt (.map (some r)) (kv k)).run P w = .ok (.tuple #[(f k).getD z, .int .i64 st]) w' ∧ w.grownBy w' (some r) ∧ MapE w' r kv (fun j => if j = k then some ((f k).getD z) else f j) k st := by
  obtain ⟨es, c, h1, h2⟩ := h
  unfold Instr.mapEntry
  rcases h2.find K k w with ⟨q1, q2, q3⟩ | ⟨n, e, q1, q2, q3, q4⟩
  · refine ⟨_, c, ?_, map_grow w r (.map (es.push { key := kv k, val := z, born := c }) (c + 1)), _, _, map_at h1 _, ?_, ?_⟩
    · rw [Sem.run_bind, run_underlying hm, Result.andThen_ok]
      dsimp only
      simp only [Sem.run_bind, Result.andThen_ok, MapKept.run_getObj_map h1, K.chk, q3, hz]
      rw [MapKept.run_setObj_map _ h1, q1]
      rfl
    · rw [Array.toList_push, q1]
      exact h2.push q2 z
    · refine ⟨es.size, { key := kv k, val := z, born := c }, ?_, rfl, rfl⟩
      simp
  · have he : es[n]? = some e := by simpa using q1
    refine ⟨_, e.born, ?_, map_grow w r (.map (es.modify n fun e => { e with key := kv k }) c), _, _, map_at h1 _, ?_, ?_⟩
    · rw [Sem.run_bind, run_underlying hm, Result.andThen_ok]
      dsimp only
      simp only [Sem.run_bind, Result.andThen_ok, MapKept.run_getObj_map h1, K.chk, q4]
      rw [he]
      simp only [Option.map_some, Option.getD_some, q2]
      rw [K.stays, Result.andThen_ok]
      rw [MapKept.run_setObj_map _ h1, q3]
      rfl
    · rw [Array.toList_modify, q3]
      exact h2.put q1 q2 e.val _ (by rw [← q2])
    · refine ⟨n, { e with key := kv k }, ?_, rfl, rfl⟩
      rw [Array.toList_modify, List.getElem?_modify, q1]
      simp
theorem run_estore_map {mt : TypeId} {w : World} {r : Nat} {f : κ → Option Value} {k : κ} {st : Nat} (h : MapE w r kv f k st) (v : Value) :
    ∃ w', (Instr.entryStore mt (.map (some r)) (.int .i64 st) v).run P w = .ok () w' ∧ w.grownBy w' (some r) ∧ MapR w' r kv (fun j => if j = k then some v else f j) := by
  obtain ⟨es, c, h1, h2, n, e, q1, q2, q3⟩ := h
  have he : es[n]? = some e := by simpa using q1
  have hfind : es.findIdx? (fun e => (e.born : Int) == (st : Int)) = some n := by
    obtain ⟨l⟩ := es
    rw [List.findIdx?_toArray, List.findIdx?_eq_some_iff_getElem]
    obtain ⟨hn, hen⟩ := List.getElem?_eq_some_iff.1 q1
    refine ⟨hn, ?_, fun j hj => ?_⟩
    · rw [hen, q3]; simp
    · have hjl : j < l.length := by have : n < l.length := hn; omega
      simp only [Bool.not_eq_true, beq_eq_false_iff_ne, ne_eq]
      intro hb
      have hb2 : l[j].born = e.born := by rw [q3]; exact Int.ofNat.inj hb
      have := h2.born j n _ _ (List.getElem?_eq_getElem hjl) q1 hb2
      omega
  refine ⟨_, ?_, map_grow w r (.map (es.modify n fun e => { e with val := v }) c), _, _, map_at h1 _, ?_⟩
  · unfold Instr.entryStore
    have ha : (asInt (.int .i64 (st : Int))).run P w = .ok (st : Int) w := rfl
    simp only [Sem.run_bind, Result.andThen_ok, MapKept.run_getObj_map h1, ha, hfind]
    exact MapKept.run_setObj_map _ h1
  · rw [Array.toList_modify]
    exact h2.put q1 q2 v _ (by rw [← q2])
theorem wp_lookup1 (K : KeyT P kt kv) {mt et : TypeId} (hm : P.underlying mt = some (.map kt et)) {o : Oper} {act : Act} {N : Act → World → Prop} {Q : Exit → Act → World → Prop} {w : World} (x y : Operand) (ho : o.op = .lookup mt x y false)
    {r : Nat} {f : κ → Option Value} (h : MapR w r kv f) (k : κ) (z : Value) (hz : (zeroValue et).run P w = .ok z w) (hx : act.eval x = .map (some r)) (hy : act.eval y = kv k) (v : Value) (hv : (f k).getD z = v)
    (hn : N (act.put o.dst v) w) : o.wp P act w N Q := by
  unfold Oper.wp execOp
  simp only [ho, hx, hy]
  rw [Sem.run_bind, run_lookup_map K hm h k z hz false]
  subst hv
  exact hn
theorem step_lookup1 (K : KeyT P kt kv) {mt et : TypeId} (hm : P.underlying mt = some (.map kt et)) {ops : Array Oper} {rest : List Oper} {o : Oper} {act : Act} {Q : Exit → Act → World → Prop} {w : World} (hw : Region.wanted o (yielded ops act.tmps) = true) (x y : Operand) (ho : o.op = .lookup mt x y false)
    {r : Nat} {f : κ → Option Value} (h : MapR w r kv f) (k : κ) (z : Value) (hz : (zeroValue et).run P w = .ok z w) (hx : act.eval x = .map (some r)) (hy : act.eval y = kv k) (v : Value) (hv : (f k).getD z = v)
    (hn : wpList P ops Q rest (act.put o.dst v) w) : wpList P ops Q (o :: rest) act w :=
  wpList_step fun _ hK => by
    rw [if_pos hw]
    exact wp_lookup1 K hm x y ho h k z hz hx hy v hv (hK _ _ hn)
theorem step_lookup2 (K : KeyT P kt kv) {mt et : TypeId} (hm : P.underlying mt = some (.map kt et)) {ops : Array Oper} {rest : List Oper} {o : Oper} {act : Act} {Q : Exit → Act → World → Prop} {w : World} (hgd : o.guard = none) (x y : Operand) (ho : o.op = .lookup mt x y true)
    {r : Nat} {f : κ → Option Value} (h : MapR w r kv f) (k : κ) (z : Value) (hz : (zeroValue et).run P w = .ok z w) (hx : act.eval x = .map (some r)) (hy : act.eval y = kv k) (v : Value) (b : Bool) (hv : (f k).getD z = v) (hb : (f k).isSome = b)
    (hn : wpList P ops Q rest (act.put o.dst (.tuple #[v, .bool b])) w) : wpList P ops Q (o :: rest) act w :=
  wpList_plain hgd fun _ hK => by
    unfold Oper.wp execOp
    simp only [ho, hx, hy]
    rw [Sem.run_bind, run_lookup_map K hm h k z hz true]
    subst hv hb
    exact hK _ _ hn
theorem wp_updateM (K : KeyT P kt kv) {mt et : TypeId} (hm : P.underlying mt = some (.map kt et)) {o : Oper} {act : Act} {N : Act → World → Prop} {Q : Exit → Act → World → Prop} {w : World} (x y z : Operand) (ho : o.op = .mapUpdate mt x y z) (hd : o.dst = none)
    {r : Nat} {f : κ → Option Value} (h : MapR w r kv f) (k : κ) (v : Value) (hx : act.eval x = .map (some r)) (hy : act.eval y = kv k) (hv : act.eval z = v)
    (hn : ∀ w', w.grownBy w' (some r) → MapR w' r kv (fun j => if j = k then some v else f j) → N act w') : o.wp P act w N Q := by
  obtain ⟨w', h1, h2, h3⟩ := run_update_map K hm h k v
  unfold Oper.wp execOp
  simp only [ho, hx, hy, hv]
  rw [Sem.run_bind, h1]
  have := hn w' h2 h3
  show N (act.put o.dst _) w'
  rw [hd]
  exact this
theorem step_updateM (K : KeyT P kt kv) {mt et : TypeId} (hm : P.underlying mt = some (.map kt et)) {ops : Array Oper} {rest : List Oper} {o : Oper} {act : Act} {Q : Exit → Act → World → Prop} {w : World} (hgd : o.guard = none) (x y z : Operand) (ho : o.op = .mapUpdate mt x y z) (hd : o.dst = none)
    {r : Nat} {f : κ → Option Value} (h : MapR w r kv f) (k : κ) (v : Value) (hx : act.eval x = .map (some r)) (hy : act.eval y = kv k) (hv : act.eval z = v)
    (hn : ∀ w', w.grownBy w' (some r) → MapR w' r kv (fun j => if j = k then some v else f j) → wpList P ops Q rest act w') : wpList P ops Q (o :: rest) act w :=
  wpList_plain hgd fun _ hK => wp_updateM K hm x y z ho hd h k v hx hy hv fun w' q1 q2 => hK _ _ (hn w' q1 q2)
theorem wp_entryM (K : KeyT P kt kv) {mt et : TypeId} (hm : P.underlying mt = some (.map kt et)) {o : Oper} {act : Act} {N : Act → World → Prop} {Q : Exit → Act → World → Prop} {w : World} (x y : Operand) (ho : o.op = .mapEntry mt x y)
    {r : Nat} {f : κ → Option Value} (h : MapR w r kv f) (k : κ) (z : Value) (hz : (zeroValue et).run P w = .ok z w) (hx : act.eval x = .map (some r)) (hy : act.eval y = kv k)
    (hn : ∀ w' (st : Nat), w.grownBy w' (some r) → MapE w' r kv (fun j => if j = k then some ((f k).getD z) else f j) k st → N (act.put o.dst (.tuple #[(f k).getD z, .int .i64 st])) w') : o.wp P act w N Q := by
  obtain ⟨w', st, h1, h2, h3⟩ := run_entry_map K hm h k z hz
  unfold Oper.wp execOp
  simp only [ho, hx, hy]
  rw [Sem.run_bind, h1]
  exact hn w' st h2 h3
theorem step_entryM (K : KeyT P kt kv) {mt et : TypeId} (hm : P.underlying mt = some (.map kt et)) {ops : Array Oper} {rest : List Oper} {o : Oper} {act : Act} {Q : Exit → Act → World → Prop} {w : World} (hgd : o.guard = none) (x y : Operand) (ho : o.op = .mapEntry mt x y)
    {r : Nat} {f : κ → Option Value} (h : MapR w r kv f) (k : κ) (z : Value) (hz : (zeroValue et).run P w = .ok z w) (hx : act.eval x = .map (some r)) (hy : act.eval y = kv k) (v : Value) (hv : (f k).getD z = v)
    (hn : ∀ w' (st : Nat), w.grownBy w' (some r) → MapE w' r kv (fun j => if j = k then some v else f j) k st → wpList P ops Q rest (act.put o.dst (.tuple #[v, .int .i64 st])) w') : wpList P ops Q (o :: rest) act w :=
  wpList_plain hgd fun _ hK => wp_entryM K hm x y ho h k z hz hx hy fun w' st q1 q2 => hK _ _ (by subst hv; exact hn w' st q1 q2)
theorem wp_estoreM {mt : TypeId} {o : Oper} {act : Act} {N : Act → World → Prop} {Q : Exit → Act → World → Prop} {w : World} (x y z : Operand) (ho : o.op = .entryStore mt x y z) (hd : o.dst = none)
    {r : Nat} {f : κ → Option Value} {k : κ} {st : Nat} (h : MapE w r kv f k st) (v : Value) (hx : act.eval x = .map (some r)) (hy : act.eval y = .int .i64 st) (hv : act.eval z = v)
    (hn : ∀ w', w.grownBy w' (some r) → MapR w' r kv (fun j => if j = k then some v else f j) → N act w') : o.wp P act w N Q := by
  obtain ⟨w', h1, h2, h3⟩ := run_estore_map (P := P) (mt := mt) h v
  unfold Oper.wp execOp
  simp only [ho, hx, hy, hv]
  rw [Sem.run_bind, h1]
  have := hn w' h2 h3
  show N (act.put o.dst _) w'
  rw [hd]
  exact this
theorem step_estoreM {mt : TypeId} {ops : Array Oper} {rest : List Oper} {o : Oper} {act : Act} {Q : Exit → Act → World → Prop} {w : World} (hgd : o.guard = none) (x y z : Operand) (ho : o.op = .entryStore mt x y z) (hd : o.dst = none)
    {r : Nat} {f : κ → Option Value} {k : κ} {st : Nat} (h : MapE w r kv f k st) (v : Value) (hx : act.eval x = .map (some r)) (hy : act.eval y = .int .i64 st) (hv : act.eval z = v)
    (hn : ∀ w', w.grownBy w' (some r) → MapR w' r kv (fun j => if j = k then some v else f j) → wpList P ops Q rest act w') : wpList P ops Q (o :: rest) act w :=
  wpList_plain hgd fun _ hK => wp_estoreM x y z ho hd h v hx hy hv fun w' q1 q2 => hK _ _ (hn w' q1 q2)
end
theorem step_makeMapM {P : Program} {ops : Array Oper} {rest : List Oper} {o : Oper} {act : Act} {Q : Exit → Act → World → Prop} {w : World} (hgd : o.guard = none) (t : TypeId) (ho : o.op = .makeMap t none)
    (h : ∀ w', w.alloc (.map #[] 0) = w' → wpList P ops Q rest (act.put o.dst (.map (some w.heap.size))) w') : wpList P ops Q (o :: rest) act w :=
  wpList_plain hgd fun K hK => by
    unfold Oper.wp execOp
    simp only [ho]
    exact hK _ _ (h _ rfl)
theorem run_next_g {P : Program} {w : World} {r m since c0 clock : Nat} {seen : Array Nat} {es : Array MapEntry} (ty : TypeId) (hr : w.heap[r]? = some (.mapIter (some m) since seen c0)) (hb : w.heap[m]? = some (.map es clock)) (hold : ∀ x ∈ es.toList, x.born < since) (hsc : since ≤ c0) :
    ((leftOf es seen).size = 0 ∧ (Instr.next (.pointer (some ⟨r, 0, none⟩)) false ty).run P w = .ok (.tuple #[.bool false]) w) ∨
    ∃ e ∈ (leftOf es seen).toList, ∃ w1 : World, (w1 = w ∨ w1 = w.drew) ∧ (Instr.next (.pointer (some ⟨r, 0, none⟩)) false ty).run P w = .ok (.tuple #[.bool true, e.key, e.val]) { w1 with heap := w1.heap.setIfInBounds r (.mapIter (some m) since (seen.push e.born) clock) } := by
  simp only [Instr.next, getObj, Sem.run_bind, Sem.run, hr, hb, Result.andThen, next_test_false seen es since c0 hold hsc, Bool.false_eq_true, if_false]
  unfold leftOf
  have hmem : ∀ x ∈ (Array.filter (fun e => !seen.contains e.born) es).toList, x.born < since := fun x hx => hold x (by simp at hx ⊢; exact hx.1)
  generalize Array.filter (fun e => !seen.contains e.born) es = L at hmem ⊢
  have e1 : L.filter (fun x => decide (x.born < since)) = L := Array.filter_eq_self.2 (fun x hx => by simpa using hmem x (by simpa using hx))
  have e2 : L.filter (fun x => decide (x.born ≥ since)) = #[] := by
    rw [Array.filter_eq_empty_iff]
    intro x hx
    have := hmem x (by simpa using hx)
    simp
    omega
  simp only [e1, e2, Array.append_empty]
  by_cases h0 : L.size = 0
  · left
    have : L = #[] := Array.eq_empty_of_size_eq_zero h0
    subst this
    refine ⟨rfl, ?_⟩
    simp [choose, Sem.run, Question.forced]
  · right
    have hne : L.isEmpty = false := by simp [Array.isEmpty, h0]
    simp only [hne, Bool.false_eq_true, if_false, Array.empty_append, Array.size_map]
    have hch : ∃ (j : Nat) (w1 : World), j < L.size ∧ (w1 = w ∨ w1 = w.drew) ∧ (choose (Question.mapNext L.size)).run P w = .ok j w1 := by
      by_cases hf : L.size ≤ 1
      · exact ⟨0, w, by omega, .inl rfl, by simp [choose, Sem.run, Question.forced, hf]⟩
      · exact ⟨_, w.drew, Nat.mod_lt _ (by omega), .inr rfl, by
          simp only [choose, Sem.run, Question.forced, decide_eq_true_eq, hf, if_false, Question.cut]
          rfl⟩
    obtain ⟨j, w1, hj, hal, hrun⟩ := hch
    refine ⟨L[j], by simp, w1, hal, ?_⟩
    have hw1 : w1.heap[r]? = some (.mapIter (some m) since seen c0) := by rcases hal with rfl | rfl <;> exact hr
    simp only [hrun, Array.getElem?_map, Array.getElem?_eq_getElem hj, Option.map_some, Sem.run_bind, Result.andThen, setObj, Sem.run, hw1]
    rfl
theorem run_entry_g {P : Program} {w : World} {r m since clock b : Nat} {seen : Array Nat} {es : Array MapEntry} (hr : w.heap[r]? = some (.mapIter (some m) since (seen.push b) clock)) (hb : w.heap[m]? = some (.map es clock)) (he : ∃ e ∈ es.toList, e.born = b) :
    ∃ e ∈ es.toList, (Instr.entry (.pointer (some ⟨r, 0, none⟩))).run P w = .ok (.tuple #[e.key, e.val]) w := by
  obtain ⟨e0, he0, hb0⟩ := he
  have hs : (es.find? (·.born == b)).isSome = true := by
    rw [← Array.find?_toList, List.find?_isSome]
    exact ⟨e0, he0, by simp [hb0]⟩
  cases hf : es.find? (·.born == b) with
  | none => rw [hf] at hs; cases hs
  | some e =>
    refine ⟨e, by simpa using Array.mem_of_find?_eq_some hf, ?_⟩
    simp only [Instr.entry, getObj, Sem.run_bind, Sem.run, hr, hb, Result.andThen, Array.back?_push, bne_self_eq_false, Bool.false_eq_true, if_false, hf]
    rfl
theorem step_next {P : Program} {ops : Array Oper} {rest : List Oper} {o : Oper} {act : Act} {Q : Exit → Act → World → Prop} {w : World} (hgd : o.guard = none) (x : Operand) (ho : o.op = .next x false) (it : Value) (hx : act.eval x = it) (v : Value) (w1 : World) (hr : (Instr.next it false o.type).run P w = .ok v w1)
    (h : wpList P ops Q rest (act.put o.dst v) w1) : wpList P ops Q (o :: rest) act w :=
  wpList_plain hgd fun K hK => by
    unfold Oper.wp execOp
    simp only [ho, hx]
    rw [Sem.run_bind, hr]
    exact hK _ _ h
theorem step_entry {P : Program} {ops : Array Oper} {rest : List Oper} {o : Oper} {act : Act} {Q : Exit → Act → World → Prop} {w : World} (hgd : o.guard = none) (x : Operand) (ho : o.op = .entry x) (it : Value) (hx : act.eval x = it) (v : Value) (w1 : World) (hr : (Instr.entry it).run P w = .ok v w1)
    (h : wpList P ops Q rest (act.put o.dst v) w1) : wpList P ops Q (o :: rest) act w :=
  wpList_plain hgd fun K hK => by
    unfold Oper.wp execOp
    simp only [ho, hx]
    rw [Sem.run_bind, hr]
    exact hK _ _ h
theorem step_range {P : Program} {ops : Array Oper} {rest : List Oper} {o : Oper} {act : Act} {Q : Exit → Act → World → Prop} {w : World} (hgd : o.guard = none) (T : TypeId) (x : Operand) (ho : o.op = .range T x) (it : Value) (hx : act.eval x = it) (v : Value) (w1 : World) (hr : (Instr.range T it).run P w = .ok v w1)
    (h : wpList P ops Q rest (act.put o.dst v) w1) : wpList P ops Q (o :: rest) act w :=
  wpList_plain hgd fun K hK => by
    unfold Oper.wp execOp
    simp only [ho, hx]
    rw [Sem.run_bind, hr]
    exact hK _ _ h
theorem iterSeen_of {w : World} {r m a b : Nat} {s : Array Nat} (h : w.heap[r]? = some (.mapIter (some m) a s b)) : w.iterSeen r = s := by
  unfold World.iterSeen
  rw [h]
end Go.Proofs.Ytcakdjnnfonijaa
