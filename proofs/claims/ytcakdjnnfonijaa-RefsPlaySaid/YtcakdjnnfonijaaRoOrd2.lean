/- Ranges over maps with struct keys, in the law's own words; the state of refs.Order's first loop. -/
import Derived.Test.YtcakdjnnfonijaaRoLo
import Derived.Test.YtcakdjnnfonijaaRoDocO
namespace Go.Proofs.Ytcakdjnnfonijaa
open Go.RowKit

/-- How many entries an iterator has not handed out. -/
def itLeft (w : World) (r : Nat) : Nat := match w.heap[r]? with
  | some (.mapIter (some m) _ seen _) => match w.heap[m]? with
    | some (.map es _) => (leftOf es seen).size
    | _ => 0
  | _ => 0
section
variable {κ : Type} [DecidableEq κ] {kv : κ → Value}
/-- An iterator at r over the map at m, whose contents are f; the keys S were handed out. -/
def ItF (w : World) (r m : Nat) (kv : κ → Value) (f : κ → Option Value) (S : List κ) : Prop :=
  ∃ (es : Array MapEntry) (clock : Nat) (seen : Array Nat) (c0 : Nat), w.heap[r]? = some (.mapIter (some m) clock seen c0) ∧ clock ≤ c0 ∧ w.heap[m]? = some (.map es clock) ∧ MapF kv clock es.toList f ∧ ∀ e ∈ es.toList, ∀ k, e.key = kv k → (seen.contains e.born = true ↔ k ∈ S)
theorem ItF.lt {w : World} {r m : Nat} {f : κ → Option Value} {S : List κ} (h : ItF w r m kv f S) : r < w.heap.size ∧ m < w.heap.size ∧ r ≠ m := by
  obtain ⟨es, c, seen, c0, h1, -, h2, -⟩ := h
  exact ⟨(Array.getElem?_eq_some_iff.1 h1).1, (Array.getElem?_eq_some_iff.1 h2).1, fun e => by rw [e, h2] at h1; cases h1⟩
theorem ItF.map {w : World} {r m : Nat} {f : κ → Option Value} {S : List κ} (h : ItF w r m kv f S) : MapR w m kv f := by
  obtain ⟨es, c, seen, c0, -, -, h2, h3, -⟩ := h
  exact ⟨es, c, h2, h3⟩
theorem ItF.same {w w' : World} {r m : Nat} {f : κ → Option Value} {S : List κ} (h : ItF w r m kv f S) (e1 : w'.heap[r]? = w.heap[r]?) (e2 : w'.heap[m]? = w.heap[m]?) : ItF w' r m kv f S ∧ itLeft w' r = itLeft w r := by
  obtain ⟨es, c, seen, c0, h1, h2, h3, h4⟩ := h
  refine ⟨⟨es, c, seen, c0, e1.trans h1, h2, e2.trans h3, h4⟩, ?_⟩
  unfold itLeft
  rw [e1, h1]
  dsimp only
  rw [e2]
theorem ItF.later {w w' : World} {r m : Nat} {f : κ → Option Value} {S : List κ} (h : ItF w r m kv f S) (hb : Below w.heap.size w w') : ItF w' r m kv f S ∧ itLeft w' r = itLeft w r := h.same (hb.block r h.lt.1) (hb.block m h.lt.2.1)
theorem run_range_F {P : Program} {kt et mt : TypeId} (hm : P.underlying mt = some (.map kt et)) {w : World} {m : Nat} {f : κ → Option Value} (h : MapR w m kv f) :
    ∃ w', (Instr.range mt (.map (some m))).run P w = .ok (.pointer (some ⟨w.heap.size, 0, none⟩)) w' ∧ Below w.heap.size w w' ∧ ItF w' w.heap.size m kv f [] := by
  obtain ⟨es, c, h1, h2⟩ := h
  have hlt := (Array.getElem?_eq_some_iff.1 h1).1
  refine ⟨_, run_range_map (P := P) w mt _ _ m es c hm h1, below_alloc _, es, c, #[], c, heap_alloc_new w _, Nat.le_refl _, ?_, h2, fun e _ k _ => by simp⟩
  exact (((below_alloc (w := w) _)).block m hlt).trans h1
theorem ItF.next {P : Program} {w : World} {r m : Nat} {f : κ → Option Value} {S : List κ} (h : ItF w r m kv f S) (inj : ∀ a b, kv a = kv b → a = b) (ty : TypeId) :
    ((∀ k v, f k = some v → k ∈ S) ∧ (Instr.next (.pointer (some ⟨r, 0, none⟩)) false ty).run P w = .ok (.tuple #[.bool false]) w) ∨
    ∃ (k : κ) (v : Value) (w' : World), f k = some v ∧ k ∉ S ∧ (Instr.next (.pointer (some ⟨r, 0, none⟩)) false ty).run P w = .ok (.tuple #[.bool true, kv k, v]) w' ∧ KeepA (fun x => x = r) w w' ∧ ItF w' r m kv f (S ++ [k]) ∧ itLeft w' r < itLeft w r ∧
      (Instr.entry (.pointer (some ⟨r, 0, none⟩))).run P w' = .ok (.tuple #[kv k, v]) w' := by
  have hrm := h.lt.2.2
  obtain ⟨es, c, seen, c0, h1, h2, h3, h4, h5⟩ := h
  rcases run_next_g (P := P) ty h1 h3 h4.lt h2 with ⟨h0, hrun⟩ | ⟨e, he, w1, hw1, hrun⟩
  · refine .inl ⟨fun k v hk => ?_, hrun⟩
    obtain ⟨e, he, hek⟩ := h4.all k v hk
    exact (h5 e he k hek).1 (all_seen es seen h0 e he)
  · right
    obtain ⟨hmem, hns⟩ := mem_left he
    obtain ⟨k, hk, hfk⟩ := h4.key e hmem
    obtain ⟨w2, hw2⟩ : ∃ x, ({ w1 with heap := w1.heap.setIfInBounds r (.mapIter (some m) c (seen.push e.born) c) } : World) = x := ⟨_, rfl⟩
    have hr := (Array.getElem?_eq_some_iff.1 h1).1
    have hk2 : KeepA (fun x => x = r) w w2 := by
      rw [← hw2]
      rcases hw1 with rfl | rfl
      · exact ⟨rfl, rfl, rfl, by simp, fun k hk hne => by simp [Ne.symm hne]⟩
      · exact ⟨rfl, rfl, rfl, by show w.heap.size ≤ (w.heap.setIfInBounds r _).size; simp, fun k hk hne => by show (w.heap.setIfInBounds r _)[k]? = w.heap[k]?; simp [Ne.symm hne]⟩
    have hit2 : w2.heap[r]? = some (.mapIter (some m) c (seen.push e.born) c) := by
      rw [← hw2]
      rcases hw1 with rfl | rfl
      · simp [hr]
      · show (w.heap.setIfInBounds r _)[r]? = _
        simp [hr]
    rw [hw2] at hrun
    have hM2 : w2.heap[m]? = some (.map es c) := (hk2.same m (Array.getElem?_eq_some_iff.1 h3).1 (Ne.symm hrm)).trans h3
    obtain ⟨e', he', hb', hent⟩ := run_entry_b (P := P) hit2 hM2 ⟨e, hmem, rfl⟩
    have hee := h4.born_inj he' hmem hb'
    subst hee
    refine ⟨k, e'.val, w2, hfk, fun hin => ?_, by rw [hrun, hk], hk2, ⟨es, c, seen.push e'.born, c, hit2, Nat.le_refl _, hM2, h4, fun x hx j hj => ?_⟩, ?_, by rw [hent, hk]⟩
    · have := (h5 e' hmem k hk).2 hin
      rw [hns] at this; cases this
    · rw [Array.contains_push, Bool.or_eq_true, h5 x hx j hj, List.mem_append, List.mem_singleton]
      constructor
      · rintro (q | q)
        · exact .inl q
        · have e1 := h4.born_inj hx hmem (by simpa using q)
          subst e1
          exact .inr (inj _ _ (hj.symm.trans hk))
      · rintro (q | q)
        · exact .inl q
        · subst q
          have e1 := h4.key_inj hx hmem (hj.trans hk.symm)
          subst e1
          exact .inr (by simp)
    · have hsh := left_shrinks es seen e' he
      unfold itLeft
      rw [hit2, h1]
      dsimp only
      rw [hM2, h3]
      exact hsh
end
end Go.Proofs.Ytcakdjnnfonijaa
