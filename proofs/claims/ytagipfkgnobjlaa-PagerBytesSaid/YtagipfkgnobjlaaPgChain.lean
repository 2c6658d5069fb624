/- The chain of free pages, plainly. -/
import Derived.Test.YtagipfkgnobjlaaPgTaken
namespace Go.Proofs.Ytagipfkgnobjlaa
open Go.RowKit

/-- So many steps along the chain. -/
def stepN (nx : Nat → Nat) : Nat → Nat → Nat
  | 0, a => a
  | k + 1, a => stepN nx k (nx a)
theorem stepN_succ (nx : Nat → Nat) : ∀ (k a : Nat), stepN nx (k + 1) a = nx (stepN nx k a)
  | 0, _ => rfl
  | k + 1, a => stepN_succ nx k (nx a)
theorem chain_spec (nx : Nat → Nat) (cnt : Nat) : ∀ (f a : Nat) (acc : List Nat), acc.Nodup → ∃ rest, chainF nx cnt f a acc = acc ++ rest ∧ (acc ++ rest).Nodup ∧ (∀ (k : Nat) (x : Nat), rest[k]? = some x → x = stepN nx k a ∧ 0 < x ∧ x < cnt) ∧ (rest.length = f ∨ ¬ (0 < stepN nx rest.length a ∧ stepN nx rest.length a < cnt ∧ stepN nx rest.length a ∉ acc ++ rest))
  | 0, a, acc, hn => ⟨[], by simp [chainF], by simpa using hn, fun k x h => by simp at h, .inl rfl⟩
  | f + 1, a, acc, hn => by
    by_cases h : 0 < a ∧ a < cnt ∧ a ∉ acc
    · have hn2 : (acc ++ [a]).Nodup := List.nodup_append.2 ⟨hn, by simp, fun x hx y hy e => by
        rw [List.mem_singleton] at hy
        subst hy e
        exact h.2.2 hx⟩
      obtain ⟨rest, e1, e2, e3, e4⟩ := chain_spec nx cnt f (nx a) (acc ++ [a]) hn2
      refine ⟨a :: rest, ?_, by simpa using e2, fun k x hk => ?_, ?_⟩
      · conv => lhs; unfold chainF
        rw [if_pos h, e1, List.append_assoc]
        rfl
      · cases k with
        | zero =>
          simp only [List.getElem?_cons_zero, Option.some.injEq] at hk
          subst hk
          exact ⟨rfl, h.1, h.2.1⟩
        | succ k =>
          rw [List.getElem?_cons_succ] at hk
          exact e3 k x hk
      · rcases e4 with e | e
        · exact .inl (by rw [List.length_cons, e])
        · refine .inr fun q => e ?_
          rw [List.length_cons] at q
          rw [List.append_assoc]
          exact q
    · refine ⟨[], by rw [chainF_stop h, List.append_nil], by simpa using hn, fun k x h => by simp at h, .inr fun q => h ?_⟩
      simpa [stepN] using q
theorem sub_len : ∀ (l l' : List Nat), l.Nodup → (∀ x ∈ l, x ∈ l') → l.length ≤ l'.length
  | [], _, _, _ => Nat.zero_le _
  | a :: l, l', hn, h => by
    rw [List.nodup_cons] at hn
    have ha : a ∈ l' := h a List.mem_cons_self
    have h2 : ∀ x ∈ l, x ∈ l'.erase a := fun x hx => by
      have hne : x ≠ a := fun e => hn.1 (e ▸ hx)
      exact (List.mem_erase_of_ne hne).2 (h x (List.mem_cons_of_mem _ hx))
    have := sub_len l (l'.erase a) hn.2 h2
    rw [List.length_erase_of_mem ha] at this
    have hp := List.length_pos_of_mem ha
    rw [List.length_cons]
    omega
/-- The free pages: the chain's first pages, all in range, none twice; behind the last the chain leaves the range or comes back. -/
theorem freeL_spec (n : Nat) (s : PS) : (freeL n s).Nodup ∧ (∀ (k : Nat) (x : Nat), (freeL n s)[k]? = some x → x = stepN (nxP n s) k s.now.free ∧ 0 < x ∧ x < s.now.count) ∧ ¬ (0 < stepN (nxP n s) (freeL n s).length s.now.free ∧ stepN (nxP n s) (freeL n s).length s.now.free < s.now.count ∧ stepN (nxP n s) (freeL n s).length s.now.free ∉ freeL n s) := by
  obtain ⟨rest, e1, e2, e3, e4⟩ := chain_spec (nxP n s) s.now.count s.now.count s.now.free [] List.nodup_nil
  rw [List.nil_append] at e1 e2 e4
  have ef : freeL n s = rest := e1
  rw [ef]
  refine ⟨e2, e3, ?_⟩
  rcases e4 with e | e
  · have hsub : ∀ x ∈ rest, x ∈ (List.range s.now.count).erase 0 := fun x hx => by
      obtain ⟨k, hk⟩ := List.getElem?_of_mem hx
      obtain ⟨-, q1, q2⟩ := e3 k x hk
      exact (List.mem_erase_of_ne (by omega)).2 (List.mem_range.2 q2)
    have := sub_len rest _ e2 hsub
    intro q
    by_cases h0 : 0 < s.now.count
    · rw [List.length_erase_of_mem (List.mem_range.2 h0), List.length_range] at this
      omega
    · omega
  · exact e
end Go.Proofs.Ytagipfkgnobjlaa
