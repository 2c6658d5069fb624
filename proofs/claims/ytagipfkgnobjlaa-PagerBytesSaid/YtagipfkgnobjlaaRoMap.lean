/- Maps whose keys are structs: what they hold, and what lookups, updates and entries run to. Nothing of the program is used here. -/
import Derived.Test.YtagipfkgnobjlaaRow
import Derived.MapKept
import Derived.WideKeyRuns
namespace Go.Proofs.Ytagipfkgnobjlaa
open Go.RowKit

/-- How keys of a type are held against each other. -/
structure KeyT (P : Program) (kt : TypeId) {κ : Type} [DecidableEq κ] (kv : κ → Value) : Prop where
  inj : ∀ a b, kv a = kv b → a = b
  find : ∀ (w : World) (k : κ) (es : List MapEntry), (∀ e ∈ es, ∃ j, e.key = kv j) → ((∀ e ∈ es, e.key ≠ kv k) ∧ (Instr.findKey kt (kv k) es).run P w = .ok none w) ∨ ∃ n e, es[n]? = some e ∧ e.key = kv k ∧ (Instr.findKey kt (kv k) es).run P w = .ok (some (n, e.val)) w
  chk : ∀ (w : World) b a, (Instr.checkKey b 10000 kt (kv a)).run P w = .ok () w
  stays : ∀ (w : World) a, (Instr.keyThatStays (kv a) (kv a)).run P w = .ok (kv a) w
/-- A map's entries say f. -/
structure MapF {κ : Type} [DecidableEq κ] (kv : κ → Value) (clock : Nat) (es : List MapEntry) (f : κ → Option Value) : Prop where
  key : ∀ e ∈ es, ∃ k, e.key = kv k ∧ f k = some e.val
  all : ∀ k v, f k = some v → ∃ e ∈ es, e.key = kv k
  dis : ∀ (i j : Nat) (a b : MapEntry), es[i]? = some a → es[j]? = some b → a.key = b.key → i = j
  lt : ∀ e ∈ es, e.born < clock
  born : ∀ (i j : Nat) (a b : MapEntry), es[i]? = some a → es[j]? = some b → a.born = b.born → i = j
section
variable {P : Program} {kt : TypeId} {κ : Type} [DecidableEq κ] {kv : κ → Value}
theorem MapF.nil (c : Nat) : MapF kv c [] (fun _ => none) := ⟨(fun e h => by cases h), (fun k v h => by cases h), (fun i j a b h => by simp at h), (fun e h => by cases h), (fun i j a b h => by simp at h)⟩
theorem MapF.find (K : KeyT P kt kv) {clock : Nat} {es : List MapEntry} {f : κ → Option Value} (h : MapF kv clock es f) (k : κ) (w : World) :
    (f k = none ∧ (∀ e ∈ es, e.key ≠ kv k) ∧ (Instr.findKey kt (kv k) es).run P w = .ok none w) ∨ ∃ n e, es[n]? = some e ∧ e.key = kv k ∧ f k = some e.val ∧ (Instr.findKey kt (kv k) es).run P w = .ok (some (n, e.val)) w := by
  rcases K.find w k es (fun e he => (h.key e he).imp fun _ h => h.1) with ⟨q1, q2⟩ | ⟨n, e, q1, q2, q3⟩
  · refine .inl ⟨?_, q1, q2⟩
    cases hf : f k with
    | none => rfl
    | some v =>
      obtain ⟨e, he, hk⟩ := h.all k v hf
      exact absurd hk (q1 e he)
  · obtain ⟨j, hj, hf⟩ := h.key e (List.mem_of_getElem? q1)
    rw [q2] at hj
    rw [← K.inj _ _ hj] at hf
    exact .inr ⟨n, e, q1, q2, hf, q3⟩
theorem modify_get (es : List MapEntry) (n : Nat) (g : MapEntry → MapEntry) (i : Nat) (a : MapEntry) (h : (es.modify n g)[i]? = some a) : (i = n ∧ ∃ b, es[n]? = some b ∧ a = g b) ∨ (i ≠ n ∧ es[i]? = some a) := by
  rw [List.getElem?_modify] at h
  cases hg : es[i]? with
  | none => rw [hg] at h; cases h
  | some b =>
    rw [hg] at h
    have h : (if n = i then g b else b) = a := Option.some.inj h
    by_cases hin : n = i
    · subst hin
      rw [if_pos rfl] at h
      exact .inl ⟨rfl, b, hg, h.symm⟩
    · rw [if_neg hin] at h
      exact .inr ⟨fun e => hin e.symm, by rw [← h]⟩
/-- An entry gets another value. -/
theorem MapF.put {clock : Nat} {es : List MapEntry} {f : κ → Option Value} (h : MapF kv clock es f) {k : κ} {n : Nat} {e : MapEntry} (h1 : es[n]? = some e) (h2 : e.key = kv k) (v : Value) (g : MapEntry → MapEntry) (hg : g e = { e with key := kv k, val := v }) :
    MapF kv clock (es.modify n g) (fun j => if j = k then some v else f j) := by
  have hsame : ∀ (i : Nat) (a : MapEntry), (es.modify n g)[i]? = some a → ∃ b, es[i]? = some b ∧ a.key = b.key ∧ a.born = b.born := fun i a ha => by
    rcases modify_get es n g i a ha with ⟨rfl, b, hb, rfl⟩ | ⟨_, hb⟩
    · rw [h1] at hb
      cases hb
      exact ⟨e, h1, by rw [hg, h2], by rw [hg]⟩
    · exact ⟨a, hb, rfl, rfl⟩
  refine ⟨fun a ha => ?_, fun j u hj => ?_, fun i j a b ha hb hab => ?_, fun a ha => ?_, fun i j a b ha hb hab => ?_⟩
  · obtain ⟨i, hi⟩ := List.mem_iff_getElem?.1 ha
    rcases modify_get es n g i a hi with ⟨rfl, b, hb, rfl⟩ | ⟨hin, hb⟩
    · rw [h1] at hb
      cases hb
      exact ⟨k, by rw [hg], by rw [hg]; simp⟩
    · obtain ⟨j, h5, h6⟩ := h.key a (List.mem_of_getElem? hb)
      refine ⟨j, h5, ?_⟩
      have hjk : j ≠ k := fun e' => hin (h.dis i n a e hb h1 (by rw [h5, e', h2]))
      show (if j = k then some v else f j) = some a.val
      rw [if_neg hjk]; exact h6
  · have hin : ∃ e' ∈ es, e'.key = kv j := by
      by_cases hjk : j = k
      · subst hjk; exact ⟨e, List.mem_of_getElem? h1, h2⟩
      · have hj' : (if j = k then some v else f j) = some u := hj
        rw [if_neg hjk] at hj'
        exact h.all j u hj'
    obtain ⟨e', he', hk'⟩ := hin
    obtain ⟨i, hi⟩ := List.mem_iff_getElem?.1 he'
    by_cases hni : n = i
    · subst hni
      rw [h1] at hi
      cases hi
      refine ⟨g e, List.mem_of_getElem? (i := n) (by rw [List.getElem?_modify, h1]; simp), ?_⟩
      rw [hg, ← hk', h2]
    · refine ⟨e', List.mem_of_getElem? (i := i) (by rw [List.getElem?_modify, hi]; simp [hni]), hk'⟩
  · obtain ⟨a', ha', ka, -⟩ := hsame i a ha
    obtain ⟨b', hb', kb, -⟩ := hsame j b hb
    exact h.dis i j a' b' ha' hb' (by rw [← ka, ← kb, hab])
  · obtain ⟨i, hi⟩ := List.mem_iff_getElem?.1 ha
    obtain ⟨b, hb, -, hbn⟩ := hsame i a hi
    rw [hbn]
    exact h.lt b (List.mem_of_getElem? hb)
  · obtain ⟨a', ha', -, ka⟩ := hsame i a ha
    obtain ⟨b', hb', -, kb⟩ := hsame j b hb
    exact h.born i j a' b' ha' hb' (by rw [← ka, ← kb, hab])
/-- An entry comes in. -/
theorem MapF.push {clock : Nat} {es : List MapEntry} {f : κ → Option Value} (h : MapF kv clock es f) {k : κ} (h1 : ∀ e ∈ es, e.key ≠ kv k) (v : Value) :
    MapF kv (clock + 1) (es ++ [{ key := kv k, val := v, born := clock }]) (fun j => if j = k then some v else f j) := by
  have hat : ∀ (i : Nat) (a : MapEntry), (es ++ [{ key := kv k, val := v, born := clock }])[i]? = some a → (es[i]? = some a) ∨ (i = es.length ∧ a = { key := kv k, val := v, born := clock }) := fun i a ha => by
    by_cases hil : i < es.length
    · rw [List.getElem?_append_left hil] at ha; exact .inl ha
    · rw [List.getElem?_append_right (by omega)] at ha
      have h0 : i - es.length = 0 := by
        have := (List.getElem?_eq_some_iff.1 ha).1
        simpa using this
      rw [h0] at ha
      exact .inr ⟨by omega, (Option.some.inj ha).symm⟩
  refine ⟨fun a ha => ?_, fun j u hj => ?_, fun i j a b ha hb hab => ?_, fun a ha => ?_, fun i j a b ha hb hab => ?_⟩
  · rcases List.mem_append.1 ha with ha | ha
    · obtain ⟨j, h5, h6⟩ := h.key a ha
      refine ⟨j, h5, ?_⟩
      have hjk : j ≠ k := fun e => h1 a ha (by rw [h5, e])
      show (if j = k then some v else f j) = some a.val
      rw [if_neg hjk]; exact h6
    · rw [List.mem_singleton.1 ha]
      exact ⟨k, rfl, by simp⟩
  · by_cases hjk : j = k
    · subst hjk
      exact ⟨_, List.mem_append_right _ (List.mem_singleton.2 rfl), rfl⟩
    · have hj' : (if j = k then some v else f j) = some u := hj
      rw [if_neg hjk] at hj'
      obtain ⟨e, he, hk⟩ := h.all j u hj'
      exact ⟨e, List.mem_append_left _ he, hk⟩
  · rcases hat i a ha with ha | ⟨rfl, rfl⟩ <;> rcases hat j b hb with hb | ⟨rfl, rfl⟩
    · exact h.dis i j a b ha hb hab
    · exact absurd hab (h1 a (List.mem_of_getElem? ha))
    · exact absurd hab.symm (h1 b (List.mem_of_getElem? hb))
    · rfl
  · rcases List.mem_append.1 ha with ha | ha
    · exact Nat.lt_succ_of_lt (h.lt a ha)
    · rw [List.mem_singleton.1 ha]; exact Nat.lt_succ_self _
  · rcases hat i a ha with ha | ⟨rfl, rfl⟩ <;> rcases hat j b hb with hb | ⟨rfl, rfl⟩
    · exact h.born i j a b ha hb hab
    · have := h.lt a (List.mem_of_getElem? ha); rw [hab] at this; exact absurd this (Nat.lt_irrefl _)
    · have := h.lt b (List.mem_of_getElem? hb); rw [← hab] at this; exact absurd this (Nat.lt_irrefl _)
    · rfl
/-- A map lies at r. -/
def MapR (w : World) (r : Nat) (kv : κ → Value) (f : κ → Option Value) : Prop := ∃ (es : Array MapEntry) (clock : Nat), w.heap[r]? = some (.map es clock) ∧ MapF kv clock es.toList f
theorem MapR.lt {w : World} {r : Nat} {f : κ → Option Value} (h : MapR w r kv f) : r < w.heap.size := by
  obtain ⟨es, c, h1, -⟩ := h
  exact (Array.getElem?_eq_some_iff.1 h1).1
theorem MapR.new (w : World) : MapR (w.alloc (.map #[] 0)) w.heap.size kv (fun _ => none) := ⟨#[], 0, heap_alloc_new w _, MapF.nil _⟩
theorem run_lookup_map (K : KeyT P kt kv) {mt et : TypeId} (hm : P.underlying mt = some (.map kt et)) {w : World} {r : Nat} {f : κ → Option Value} (h : MapR w r kv f) (k : κ) (z : Value) (hz : (zeroValue et).run P w = .ok z w) (ok : Bool) :
    (Instr.lookup mt (.map (some r)) (kv k) ok).run P w = .ok (if ok then .tuple #[(f k).getD z, .bool (f k).isSome] else (f k).getD z) w := by
  obtain ⟨es, c, h1, h2⟩ := h
  unfold Instr.lookup
  rw [Sem.run_bind, run_underlying hm, Result.andThen_ok]
  dsimp only
  simp only [Sem.run_bind, Sem.run_pure, Result.andThen_ok, MapKept.run_getObj_map h1, K.chk]
  rcases h2.find K k w with ⟨q1, q2, q3⟩ | ⟨n, e, q1, q2, q3, q4⟩
  · rw [q3, q1]
    simp only [Result.andThen_ok, Sem.run_bind, hz, Sem.run_pure]
    cases ok <;> rfl
  · rw [q4, q3]
    simp only [Result.andThen_ok]
    cases ok <;> rfl
theorem run_update_map (K : KeyT P kt kv) {mt et : TypeId} (hm : P.underlying mt = some (.map kt et)) {w : World} {r : Nat} {f : κ → Option Value} (h : MapR w r kv f) (k : κ) (v : Value) :
    ∃ w', (Instr.mapUpdate mt (.map (some r)) (kv k) v).run P w = .ok () w' ∧ w.grownBy w' (some r) ∧ MapR w' r kv (fun j => if j = k then some v else f j) := by
  obtain ⟨es, c, h1, h2⟩ := h
  have hgrow : ∀ o, w.grownBy { w with heap := w.heap.setIfInBounds r o } (some r) := fun o => ⟨rfl, rfl, rfl, by simp, fun i hi hne => by
    show (w.heap.setIfInBounds r o)[i]? = w.heap[i]?
    rw [Array.getElem?_setIfInBounds_ne (fun e => hne (by rw [e]))]⟩
  have hat : ∀ o, ({ w with heap := w.heap.setIfInBounds r o } : World).heap[r]? = some o := fun o => by
    show (w.heap.setIfInBounds r o)[r]? = some o
    rw [Array.getElem?_setIfInBounds_self_of_lt (Array.getElem?_eq_some_iff.1 h1).1]
  unfold Instr.mapUpdate
  rcases h2.find K k w with ⟨q1, q2, q3⟩ | ⟨n, e, q1, q2, q3, q4⟩
  · refine ⟨_, ?_, hgrow (.map (es.push { key := kv k, val := v, born := c }) (c + 1)), _, _, hat _, ?_⟩
    · rw [Sem.run_bind, run_underlying hm, Result.andThen_ok]
      dsimp only
      simp only [Sem.run_bind, Result.andThen_ok, MapKept.run_getObj_map h1, K.chk, q3]
      exact MapKept.run_setObj_map _ h1
    · rw [Array.toList_push]
      exact h2.push q2 v
  · have he : es[n]? = some e := by simpa using q1
    refine ⟨_, ?_, hgrow (.map (es.modify n fun e => { e with key := kv k, val := v }) c), _, _, hat _, ?_⟩
    · rw [Sem.run_bind, run_underlying hm, Result.andThen_ok]
      dsimp only
      simp only [Sem.run_bind, Result.andThen_ok, MapKept.run_getObj_map h1, K.chk, q4]
      rw [he]
      simp only [Option.map_some, Option.getD_some, q2]
      rw [K.stays, Result.andThen_ok]
      exact MapKept.run_setObj_map _ h1
    · rw [Array.toList_modify]
      exact h2.put q1 q2 v _ rfl
end
end Go.Proofs.Ytagipfkgnobjlaa
