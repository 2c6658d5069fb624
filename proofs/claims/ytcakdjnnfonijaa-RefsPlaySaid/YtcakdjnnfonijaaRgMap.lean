/- Maps whose keys are structs: entries taken away; how many there are; copies. -/
import Derived.Test.YtcakdjnnfonijaaRoOrd2
namespace Go.Proofs.Ytcakdjnnfonijaa
open Go.RowKit

section
variable {P : Program} {kt : TypeId} {κ : Type} [DecidableEq κ] {kv : κ → Value}
theorem erase_get (es : List MapEntry) (n i : Nat) (a : MapEntry) (h : (es.eraseIdx n)[i]? = some a) : es[if i < n then i else i + 1]? = some a := by
  rw [List.getElem?_eraseIdx] at h
  split at h
  · rename_i h1; rw [if_pos h1]; exact h
  · rename_i h1; rw [if_neg h1]; exact h
/-- An entry is taken away. -/
theorem MapF.del {clock : Nat} {es : List MapEntry} {f : κ → Option Value} (h : MapF kv clock es f) (inj : ∀ a b, kv a = kv b → a = b) {k : κ} {n : Nat} {e : MapEntry} (h1 : es[n]? = some e) (h2 : e.key = kv k) :
    MapF kv clock (es.eraseIdx n) (fun j => if j = k then none else f j) := by
  have hne : ∀ i, (if i < n then i else i + 1) ≠ n := fun i => by split <;> omega
  have hij : ∀ i j, (if i < n then i else i + 1) = (if j < n then j else j + 1) → i = j := fun i j e => by
    split at e <;> split at e <;> omega
  have hmem : ∀ a ∈ es.eraseIdx n, a ∈ es ∧ a.key ≠ kv k := fun a ha => by
    obtain ⟨i, hi⟩ := List.mem_iff_getElem?.1 ha
    have := erase_get es n i a hi
    refine ⟨List.mem_of_getElem? this, fun hk => hne i (h.dis _ n a e this h1 (by rw [hk, h2]))⟩
  refine ⟨fun a ha => ?_, fun j u hj => ?_, fun i j a b ha hb hab => ?_, fun a ha => h.lt a (hmem a ha).1, fun i j a b ha hb hab => ?_⟩
  · obtain ⟨j, h5, h6⟩ := h.key a (hmem a ha).1
    refine ⟨j, h5, ?_⟩
    have hjk : j ≠ k := fun e' => (hmem a ha).2 (by rw [h5, e'])
    show (if j = k then none else f j) = some a.val
    rw [if_neg hjk]; exact h6
  · have hj' : (if j = k then none else f j) = some u := hj
    by_cases hjk : j = k
    · rw [if_pos hjk] at hj'; cases hj'
    · rw [if_neg hjk] at hj'
      obtain ⟨a, ha, hk⟩ := h.all j u hj'
      obtain ⟨i, hi⟩ := List.mem_iff_getElem?.1 ha
      have hin : i ≠ n := fun e' => by
        subst e'
        rw [h1] at hi
        cases hi
        exact hjk (inj _ _ (hk.symm.trans h2))
      refine ⟨a, List.mem_iff_getElem?.2 ⟨if i < n then i else i - 1, ?_⟩, hk⟩
      rw [List.getElem?_eraseIdx]
      by_cases hl : i < n
      · rw [if_pos hl, if_pos hl]; exact hi
      · rw [if_neg hl, if_neg (by omega), show i - 1 + 1 = i by omega]; exact hi
  · exact hij i j (h.dis _ _ a b (erase_get es n i a ha) (erase_get es n j b hb) hab)
  · exact hij i j (h.born _ _ a b (erase_get es n i a ha) (erase_get es n j b hb) hab)
theorem run_delete_map (K : KeyT P kt kv) {mt et ty : TypeId} (hm : P.underlying mt = some (.map kt et)) {w : World} {r : Nat} {f : κ → Option Value} (h : MapR w r kv f) (k : κ) :
    ∃ w', (Builtin.delete_ #[mt, kt] ty #[.map (some r), kv k]).run P w = .ok (.tuple #[]) w' ∧ w.grownBy w' (some r) ∧ MapR w' r kv (fun j => if j = k then none else f j) := by
  obtain ⟨es, c, h1, h2⟩ := h
  rcases h2.find K k w with ⟨q1, q2, q3⟩ | ⟨n, e, q1, q2, q3, q4⟩
  · refine ⟨_, ?_, map_grow w r (.map es c), es, c, map_at h1 _, ?_⟩
    · unfold Builtin.delete_
      simp only [List.getElem?_toArray, List.getElem?_cons_zero, List.getElem?_cons_succ]
      rw [Sem.run_bind, run_underlying hm, Result.andThen_ok]
      dsimp only
      simp only [Sem.run_bind, Result.andThen_ok, MapKept.run_getObj_map h1, K.chk, q3]
      rw [MapKept.run_setObj_map _ h1]
      rfl
    · have : (fun j => if j = k then none else f j) = f := funext fun j => by
        by_cases e : j = k
        · rw [if_pos e, e, q1]
        · rw [if_neg e]
      rw [this]
      exact h2
  · refine ⟨_, ?_, map_grow w r (.map (es.eraseIdxIfInBounds n) c), es.eraseIdxIfInBounds n, c, map_at h1 _, ?_⟩
    · unfold Builtin.delete_
      simp only [List.getElem?_toArray, List.getElem?_cons_zero, List.getElem?_cons_succ]
      rw [Sem.run_bind, run_underlying hm, Result.andThen_ok]
      dsimp only
      simp only [Sem.run_bind, Result.andThen_ok, MapKept.run_getObj_map h1, K.chk, q4]
      rw [MapKept.run_setObj_map _ h1]
      rfl
    · rw [show (es.eraseIdxIfInBounds n).toList = es.toList.eraseIdx n by simp [Array.eraseIdxIfInBounds]; split <;> simp_all]
      exact h2.del K.inj q1 q2
theorem MapR.none_iff {w : World} {r : Nat} {f : κ → Option Value} (h : MapR w r kv f) : ∃ es c, w.heap[r]? = some (.map es c) ∧ (es.size = 0 ↔ ∀ k, f k = none) := by
  obtain ⟨es, c, h1, h2⟩ := h
  refine ⟨es, c, h1, fun h0 k => ?_, fun h0 => ?_⟩
  · cases hf : f k with
    | none => rfl
    | some v =>
      obtain ⟨e, he, -⟩ := h2.all k v hf
      have := List.length_pos_of_mem he
      simp at this
      omega
  · by_cases hz : es.size = 0
    · exact hz
    · have hp : 0 < es.toList.length := by simp; omega
      obtain ⟨k, -, hk⟩ := h2.key _ (List.getElem_mem hp)
      rw [h0 k] at hk
      cases hk
theorem wp_deleteM (K : KeyT P kt kv) {mt et : TypeId} (hm : P.underlying mt = some (.map kt et)) {o : Oper} {act : Act} {N : Act → World → Prop} {Q : Exit → Act → World → Prop} {w : World} (x y : Operand) (ho : o.op = .call { callee := .builtin .delete, args := #[x, y], argTypes := #[mt, kt] }) (hd : o.dst = none)
    {r : Nat} {f : κ → Option Value} (h : MapR w r kv f) (k : κ) (hx : act.eval x = .map (some r)) (hy : act.eval y = kv k)
    (hn : ∀ w', w.grownBy w' (some r) → MapR w' r kv (fun j => if j = k then none else f j) → N act w') : o.wp P act w N Q := by
  obtain ⟨w', h1, h2, h3⟩ := run_delete_map (ty := o.type) K hm h k
  unfold Oper.wp execOp
  simp only [ho, resolve, invoke, builtin, Sem.run_bind, Sem.run_pure, Result.andThen_ok, List.map_toArray, List.map_cons, List.map_nil, hx, hy, h1]
  have := hn w' h2 h3
  show N (act.put o.dst _) w'
  rw [hd]
  exact this
end
end Go.Proofs.Ytcakdjnnfonijaa
