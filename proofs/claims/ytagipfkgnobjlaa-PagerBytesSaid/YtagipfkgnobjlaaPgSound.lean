/- sound: what a range over the free pages' map counts (plain part). -/
import Derived.Test.YtagipfkgnobjlaaPgChain
import Derived.Test.YtagipfkgnobjlaaDkHi
namespace Go.Proofs.Ytagipfkgnobjlaa
open Go.RowKit

theorem flt_exact (p : MapEntry → Bool) (b : Nat) : ∀ l : List MapEntry, l.Pairwise (fun x y => x.born ≠ y.born) → (∃ e ∈ l, p e = true ∧ e.born = b) → (l.filter (fun e => p e && (e.born != b))).length + 1 = (l.filter p).length
  | [], _, h => by obtain ⟨e, he, -⟩ := h; cases he
  | x :: l, hp, h => by
    rw [List.pairwise_cons] at hp
    by_cases hx : x.born = b
    · have hpx : p x = true := by
        obtain ⟨e, he, h1, h2⟩ := h
        rcases List.mem_cons.1 he with e1 | e1
        · rw [← e1]; exact h1
        · exact absurd (hx.trans h2.symm) (hp.1 e e1)
      have hsame : l.filter (fun e => p e && (e.born != b)) = l.filter p := List.filter_congr fun y hy => by
        have : y.born ≠ b := fun e => hp.1 y hy (hx.trans e.symm)
        simp [this]
      rw [List.filter_cons_of_neg (by simp [hx]), List.filter_cons_of_pos hpx, hsame, List.length_cons]
    · have h2 : ∃ e ∈ l, p e = true ∧ e.born = b := by
        obtain ⟨e, he, h1, h2⟩ := h
        rcases List.mem_cons.1 he with e1 | e1
        · exact absurd (e1 ▸ h2) hx
        · exact ⟨e, e1, h1, h2⟩
      have ih := flt_exact p b l hp.2 h2
      by_cases hpx : p x = true
      · rw [List.filter_cons_of_pos (by simp [hpx, hx]), List.filter_cons_of_pos hpx, List.length_cons, List.length_cons]; omega
      · rw [List.filter_cons_of_neg (by simp [hpx]), List.filter_cons_of_neg hpx]; exact ih
theorem born_pair {κ : Type} [DecidableEq κ] {kv : κ → Value} {cl : Nat} {es : List MapEntry} {f : κ → Option Value} (h : MapF kv cl es f) : es.Pairwise (fun x y => x.born ≠ y.born) := by
  rw [List.pairwise_iff_getElem]
  intro i j hi hj hij e
  have := h.born i j _ _ (List.getElem?_eq_getElem hi) (List.getElem?_eq_getElem hj) e
  omega
/-- One entry less is left. -/
theorem left_exact {es : Array MapEntry} {seen : Array Nat} (hp : es.toList.Pairwise (fun x y => x.born ≠ y.born)) {e : MapEntry} (he : e ∈ (leftOf es seen).toList) : (leftOf es (seen.push e.born)).size + 1 = (leftOf es seen).size := by
  have h1 : (leftOf es seen).toList = es.toList.filter (fun x => !seen.contains x.born) := by unfold leftOf; simp
  have h2 : (leftOf es (seen.push e.born)).toList = es.toList.filter (fun x => (!seen.contains x.born) && (x.born != e.born)) := by
    unfold leftOf
    rw [Array.toList_filter]
    refine List.filter_congr fun x hx => ?_
    rw [Bool.eq_iff_iff]
    simp [bne]
  have z1 : (leftOf es seen).toList.length = (leftOf es seen).size := Array.length_toList
  have z2 : (leftOf es (seen.push e.born)).toList.length = (leftOf es (seen.push e.born)).size := Array.length_toList
  rw [← z1, ← z2, h1, h2]
  rw [h1, List.mem_filter] at he
  exact flt_exact _ e.born _ hp ⟨e, he.1, he.2, rfl⟩
/-- As many entries as pages. -/
theorem setF_size {cl : Nat} {es : Array MapEntry} {l : List Nat} (h : MapF intV cl es.toList (setF l)) (hl : l.Nodup) : es.size = l.length := by
  have hkey : ∀ e ∈ es.toList, ∃ k ∈ l, e.key = intV (k : Int) := fun e he => by
    obtain ⟨z, h1, h2⟩ := h.key e he
    unfold setF at h2
    split at h2
    · rename_i ha
      obtain ⟨k, hk, e2⟩ := List.any_eq_true.1 ha
      have : (k : Int) = z := by simpa using e2
      exact ⟨k, hk, by rw [this]; exact h1⟩
    · cases h2
  let nk : MapEntry → Nat := fun e => match e.key with | .int _ z => z.toNat | _ => 0
  have hnk : ∀ e ∈ es.toList, nk e ∈ l ∧ e.key = intV (nk e : Int) := fun e he => by
    obtain ⟨k, hk, e2⟩ := hkey e he
    have : nk e = k := by show (match e.key with | .int _ z => z.toNat | _ => 0) = k; rw [e2]; simp [intV]
    rw [this]
    exact ⟨hk, e2⟩
  have hnd : (es.toList.map nk).Nodup := by
    rw [List.Nodup, List.pairwise_map, List.pairwise_iff_getElem]
    intro i j hi hj hij e
    have a1 := hnk _ (List.getElem_mem hi)
    have a2 := hnk _ (List.getElem_mem hj)
    have := h.dis i j _ _ (List.getElem?_eq_getElem hi) (List.getElem?_eq_getElem hj) (by rw [a1.2, a2.2, e])
    omega
  have h1 := sub_len (es.toList.map nk) l hnd fun x hx => by
    obtain ⟨e, he, rfl⟩ := List.mem_map.1 hx
    exact (hnk e he).1
  have h2 := sub_len l (es.toList.map nk) hl fun x hx => by
    obtain ⟨e, he, hk⟩ := h.all (x : Int) (.bool true) (setF_yes hx)
    have := (hnk e he).2
    have e3 : intV (x : Int) = intV (nk e : Int) := hk.symm.trans this
    have : (x : Int) = (nk e : Int) := keyI.inj _ _ e3
    have : x = nk e := by omega
    rw [this]
    exact List.mem_map.2 ⟨e, he, rfl⟩
  rw [List.length_map] at h1 h2
  have h3 : es.toList.length = es.size := Array.length_toList
  omega
end Go.Proofs.Ytagipfkgnobjlaa
