/- What the document answers for links in an order, plainly. Nothing of the program is used here. -/
import Derived.Test.YtcakdjnnfonijaaRoStep
namespace Go.Proofs.Ytcakdjnnfonijaa

abbrev Rf := ByteArray × Int
def rightR (v : Rf) : Bool := decide (1 ≤ v.1.size) && (decide (v.1.size ≤ 128) && (decide (1 ≤ v.2) && decide (v.2 ≤ 2147483647)))
/-- Targets are right so far. -/
def goodT (l : List Rf) (k : Nat) : Prop := (∀ t ∈ l.take k, rightR t = true) ∧ (l.take k).Nodup
open Classical in
noncomputable def tgt (l : List Rf) : Int := if goodT l l.length then (if 64 < l.length then 3 else 0) else 2
theorem goodT_zero (l : List Rf) : goodT l 0 := ⟨fun t h => by simp at h, by simp⟩
theorem goodT_succ {l : List Rf} {k : Nat} (hk : k < l.length) (h : goodT l k) (h1 : rightR l[k] = true) (h2 : l[k] ∉ l.take k) : goodT l (k + 1) := by
  have ht : l.take (k + 1) = l.take k ++ [l[k]] := (List.take_append_getElem hk).symm
  unfold goodT
  rw [ht]
  refine ⟨fun t htm => ?_, ?_⟩
  · rcases List.mem_append.1 htm with htm | htm
    · exact h.1 t htm
    · rw [List.mem_singleton.1 htm]; exact h1
  · rw [List.nodup_append]
    exact ⟨h.2, by simp, fun a ha b hb => by rw [List.mem_singleton.1 hb]; exact fun e => h2 (by rw [← e]; exact ha)⟩
theorem tgt_bad {l : List Rf} {k : Nat} (hk : k < l.length) (h : rightR l[k] = false ∨ l[k] ∈ l.take k) : tgt l = 2 := by
  unfold tgt
  rw [if_neg]
  intro hg
  unfold goodT at hg
  rw [List.take_length] at hg
  rcases h with h | h
  · have := hg.1 l[k] (List.getElem_mem hk)
    rw [h] at this; cases this
  · obtain ⟨i, hi, he⟩ := List.mem_iff_getElem.1 h
    rw [List.length_take] at hi
    rw [List.getElem_take] at he
    exact (List.pairwise_iff_getElem.1 hg.2) i k (by omega) hk (by omega) he
theorem tgt_good {l : List Rf} (h : goodT l l.length) : tgt l = if 64 < l.length then 3 else 0 := by unfold tgt; rw [if_pos h]
theorem tgt_in (l : List Rf) : tgt l = 0 ∨ tgt l = 2 ∨ tgt l = 3 := by
  unfold tgt
  split
  · split
    · exact .inr (.inr rfl)
    · exact .inl rfl
  · exact .inr (.inl rfl)
theorem tgt_nodup {l : List Rf} (h : tgt l ≠ 2) : l.Nodup := by
  unfold tgt at h
  by_cases hg : goodT l l.length
  · have := hg.2
    rwa [List.take_length] at this
  · rw [if_neg hg] at h
    exact absurd rfl h
/-- Links are right so far. -/
def goodL (L : List (Rf × List Rf)) (k : Nat) : Prop := (∀ x ∈ L.take k, rightR x.1 = true ∧ tgt x.2 ≠ 2) ∧ ((L.take k).map (·.1)).Nodup
theorem goodL_zero (L : List (Rf × List Rf)) : goodL L 0 := ⟨fun t h => by simp at h, by simp⟩
theorem goodL_succ {L : List (Rf × List Rf)} {k : Nat} (hk : k < L.length) (h : goodL L k) (h1 : rightR L[k].1 = true) (h2 : tgt L[k].2 ≠ 2) (h3 : L[k].1 ∉ (L.take k).map (·.1)) : goodL L (k + 1) := by
  have ht : L.take (k + 1) = L.take k ++ [L[k]] := (List.take_append_getElem hk).symm
  unfold goodL
  rw [ht]
  refine ⟨fun t htm => ?_, ?_⟩
  · rcases List.mem_append.1 htm with htm | htm
    · exact h.1 t htm
    · rw [List.mem_singleton.1 htm]; exact ⟨h1, h2⟩
  · rw [List.map_append, List.nodup_append]
    exact ⟨h.2, by simp, fun a ha b hb => by
      rw [List.map_singleton] at hb
      rw [List.mem_singleton.1 hb]; exact fun e => h3 (by rw [← e]; exact ha)⟩
theorem goodL_not {L : List (Rf × List Rf)} {k : Nat} (hk : k < L.length) (h : rightR L[k].1 = false ∨ tgt L[k].2 = 2 ∨ L[k].1 ∈ (L.take k).map (·.1)) : ¬ goodL L L.length := by
  intro hg
  unfold goodL at hg
  rw [List.take_length] at hg
  rcases h with h | h | h
  · have := (hg.1 L[k] (List.getElem_mem hk)).1
    rw [h] at this; cases this
  · exact (hg.1 L[k] (List.getElem_mem hk)).2 h
  · obtain ⟨x, hx, he⟩ := List.mem_map.1 h
    obtain ⟨i, hi, hxi⟩ := List.mem_iff_getElem.1 hx
    rw [List.length_take] at hi
    rw [List.getElem_take] at hxi
    have := (List.pairwise_iff_getElem.1 hg.2) i k (by rw [List.length_map]; omega) (by rw [List.length_map]; exact hk) (by omega)
    rw [List.getElem_map, List.getElem_map, hxi, he] at this
    exact this rfl
theorem goodL_lks {L : List (Rf × List Rf)} (h : goodL L L.length) : Lks L := by
  unfold goodL at h
  rw [List.take_length] at h
  exact ⟨h.2, fun x hx => tgt_nodup (h.1 x hx).2⟩
open Classical in
/-- The document's answer. -/
noncomputable def ordR (lt : Rf → Rf → Bool) (L : List (Rf × List Rf)) : List Rf × Int :=
  if ¬ goodL L L.length then ([], 2) else if ∃ x ∈ L, tgt x.2 = 3 then ([], 3) else if ∃ x ∈ L, ∃ t ∈ x.2, t ∉ L.map (·.1) then ([], 7) else
    match topo lt L L.length [] with
    | none => ([], 331)
    | some out => (out, 0)
theorem ordR_arg {lt : Rf → Rf → Bool} {L : List (Rf × List Rf)} (h : ¬ goodL L L.length) : ordR lt L = ([], 2) := by unfold ordR; rw [if_pos h]
theorem ordR_long {lt : Rf → Rf → Bool} {L : List (Rf × List Rf)} (h : goodL L L.length) (h2 : ∃ x ∈ L, tgt x.2 = 3) : ordR lt L = ([], 3) := by unfold ordR; rw [if_neg (by simpa using h), if_pos h2]
theorem ordR_none {lt : Rf → Rf → Bool} {L : List (Rf × List Rf)} (h : goodL L L.length) (h2 : ¬ ∃ x ∈ L, tgt x.2 = 3) (h3 : ∃ x ∈ L, ∃ t ∈ x.2, t ∉ L.map (·.1)) : ordR lt L = ([], 7) := by unfold ordR; rw [if_neg (by simpa using h), if_neg h2, if_pos h3]
theorem ordR_topo {lt : Rf → Rf → Bool} {L : List (Rf × List Rf)} (h : goodL L L.length) (h2 : ¬ ∃ x ∈ L, tgt x.2 = 3) (h3 : ¬ ∃ x ∈ L, ∃ t ∈ x.2, t ∉ L.map (·.1)) : ordR lt L = match topo lt L L.length [] with | none => ([], 331) | some out => (out, 0) := by unfold ordR; rw [if_neg (by simpa using h), if_neg h2, if_neg h3]
end Go.Proofs.Ytcakdjnnfonijaa
