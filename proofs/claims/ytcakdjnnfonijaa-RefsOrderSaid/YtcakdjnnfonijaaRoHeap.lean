/- Heaps in a list, plainly: what a swap upwards and a swap downwards keep. Nothing of the program is used here. -/
import Derived.Test.YtcakdjnnfonijaaPlain
namespace Go.Proofs.Ytcakdjnnfonijaa

/-- A total order. -/
structure TotLt {α : Type} (lt : α → α → Bool) : Prop where
  irr : ∀ a, lt a a = false
  trans : ∀ a b c, lt a b = true → lt b c = true → lt a c = true
  tot : ∀ a b, a ≠ b → lt a b = true ∨ lt b a = true
section
variable {α : Type} {lt : α → α → Bool} (T : TotLt lt)
include T
theorem TotLt.asym {a b : α} (h : lt a b = true) : lt b a = false := by
  cases hb : lt b a with
  | false => rfl
  | true =>
    have := T.trans a b a h hb
    rw [T.irr a] at this
    cases this
theorem TotLt.le_trans {a b c : α} (h1 : lt b a = false) (h2 : lt c b = false) : lt c a = false := by
  cases hc : lt c a with
  | false => rfl
  | true =>
    by_cases e : b = c
    · subst e; rw [hc] at h1; cases h1
    · rcases T.tot b c e with h | h
      · have := T.trans b c a h hc
        rw [h1] at this; cases this
      · rw [h2] at h; cases h
theorem TotLt.eq {a b : α} (h1 : lt a b = false) (h2 : lt b a = false) : a = b := by
  apply Classical.byContradiction
  intro e
  rcases T.tot a b e with h | h
  · rw [h1] at h; cases h
  · rw [h2] at h; cases h
end
/-- The element at a place. -/
def hp {α : Type} [Inhabited α] (H : List α) (k : Nat) : α := H.getD k default
theorem hp_get {α : Type} [Inhabited α] {H : List α} {k : Nat} (h : k < H.length) : hp H k = H[k] := by unfold hp; rw [List.getD_eq_getElem?_getD, List.getElem?_eq_getElem h]; rfl
/-- Two places change. -/
def swapL {α : Type} [Inhabited α] (H : List α) (i j : Nat) : List α := (H.set i (hp H j)).set j (hp H i)
theorem swapL_len {α : Type} [Inhabited α] (H : List α) (i j : Nat) : (swapL H i j).length = H.length := by unfold swapL; rw [List.length_set, List.length_set]
theorem hp_swap {α : Type} [Inhabited α] {H : List α} {i j : Nat} (hi : i < H.length) (hj : j < H.length) (k : Nat) : hp (swapL H i j) k = if k = j then hp H i else if k = i then hp H j else hp H k := by
  unfold swapL
  by_cases hk : k < H.length
  · rw [hp_get (by rw [List.length_set, List.length_set]; exact hk), List.getElem_set]
    by_cases h1 : k = j
    · rw [if_pos h1.symm, if_pos h1]
    · rw [if_neg (fun e => h1 e.symm), if_neg h1, List.getElem_set]
      by_cases h2 : k = i
      · rw [if_pos h2.symm, if_pos h2]
      · rw [if_neg (fun e => h2 e.symm), if_neg h2, hp_get hk]
  · rw [if_neg (by omega), if_neg (by omega)]
    have e : ∀ (L : List α), L.length ≤ k → L.getD k default = default := fun L h => by rw [List.getD_eq_getElem?_getD, List.getElem?_eq_none h]; rfl
    unfold hp
    rw [e _ (by rw [List.length_set, List.length_set]; omega), e H (by omega)]
theorem swapL_perm {α : Type} [Inhabited α] {H : List α} {i j : Nat} (hi : i < H.length) (hj : j < H.length) : (swapL H i j).Perm H := by
  unfold swapL
  rw [hp_get hi, hp_get hj]
  exact List.set_set_perm hi hj
section
variable {α : Type} [Inhabited α] (lt : α → α → Bool)
/-- The first n elements are a heap. -/
def IsHp (H : List α) (n : Nat) : Prop := ∀ k, 0 < k → k < n → lt (hp H k) (hp H ((k - 1) / 2)) = false
def UpEx (H : List α) (n j : Nat) : Prop := (∀ k, 0 < k → k < n → k ≠ j → lt (hp H k) (hp H ((k - 1) / 2)) = false) ∧ ∀ k, 0 < k → k < n → (k - 1) / 2 = j → 0 < j → lt (hp H k) (hp H ((j - 1) / 2)) = false
def DnEx (H : List α) (n i : Nat) : Prop := (∀ k, 0 < k → k < n → (k - 1) / 2 ≠ i → lt (hp H k) (hp H ((k - 1) / 2)) = false) ∧ ∀ k, 0 < k → k < n → (k - 1) / 2 = i → 0 < i → lt (hp H k) (hp H ((i - 1) / 2)) = false
end
section
variable {α : Type} [Inhabited α] {lt : α → α → Bool}
theorem UpEx.done {H : List α} {n j : Nat} (h : UpEx lt H n j) (hj : j = 0 ∨ lt (hp H j) (hp H ((j - 1) / 2)) = false) : IsHp lt H n := fun k h1 h2 => by
  by_cases hk : k = j
  · subst hk
    rcases hj with h | h
    · omega
    · exact h
  · exact h.1 k h1 h2 hk
theorem UpEx.step (T : TotLt lt) {H : List α} {n j : Nat} (h : UpEx lt H n j) (hn : n ≤ H.length) (hjn : j < n) (h0 : 0 < j) (hl : lt (hp H j) (hp H ((j - 1) / 2)) = true) : UpEx lt (swapL H ((j - 1) / 2) j) n ((j - 1) / 2) := by
  obtain ⟨i, hi⟩ : ∃ i, (j - 1) / 2 = i := ⟨_, rfl⟩
  rw [hi] at hl ⊢
  have hs := hp_swap (H := H) (i := i) (j := j) (by omega) (by omega)
  refine ⟨fun k k0 kn ki => ?_, fun k k0 kn kp i0 => ?_⟩
  · rw [hs k, hs ((k - 1) / 2)]
    by_cases h1 : k = j
    · subst h1
      rw [if_pos rfl, hi, if_neg (by omega), if_pos rfl]
      exact T.asym hl
    · rw [if_neg h1, if_neg ki]
      by_cases h2 : (k - 1) / 2 = j
      · rw [if_pos h2]
        have := h.2 k k0 kn h2 h0
        rw [hi] at this
        exact this
      · rw [if_neg h2]
        by_cases h3 : (k - 1) / 2 = i
        · rw [if_pos h3]
          have h4 := h.1 k k0 kn h1
          rw [h3] at h4
          cases h5 : lt (hp H k) (hp H j) with
          | false => rfl
          | true =>
            have := T.trans _ _ _ h5 hl
            rw [h4] at this; cases this
        · rw [if_neg h3]
          exact h.1 k k0 kn h1
  · rw [hs k, hs ((i - 1) / 2), if_neg (show ¬ (i - 1) / 2 = j by omega), if_neg (show ¬ (i - 1) / 2 = i by omega)]
    have hpi := h.1 i i0 (by omega) (by omega)
    by_cases h1 : k = j
    · rw [if_pos h1]
      exact hpi
    · rw [if_neg h1, if_neg (show ¬ k = i by omega)]
      have h4 := h.1 k k0 kn h1
      rw [kp] at h4
      exact T.le_trans hpi h4
theorem UpEx.push {H : List α} (h : IsHp lt H H.length) (x : α) : UpEx lt (H ++ [x]) (H.length + 1) H.length := by
  have hh : ∀ k, k < H.length → hp (H ++ [x]) k = hp H k := fun k hk => by
    rw [hp_get (by rw [List.length_append]; omega), hp_get hk, List.getElem_append_left hk]
  refine ⟨fun k k0 kn kj => ?_, fun k k0 kn kp j0 => by omega⟩
  rw [hh k (by omega), hh ((k - 1) / 2) (by omega)]
  exact h k k0 (by omega)
/-- The lesser child. -/
def chL (lt : α → α → Bool) (H : List α) (n i : Nat) : Nat := if decide (2 * i + 2 < n) && lt (hp H (2 * i + 2)) (hp H (2 * i + 1)) then 2 * i + 2 else 2 * i + 1
theorem chL_in {H : List α} {n i : Nat} (h : 2 * i + 1 < n) : chL lt H n i < n ∧ (chL lt H n i - 1) / 2 = i ∧ 0 < chL lt H n i ∧ chL lt H n i ≠ i := by
  unfold chL
  split
  · rename_i hc
    simp only [Bool.and_eq_true, decide_eq_true_eq] at hc
    omega
  · omega
theorem chL_least (T : TotLt lt) {H : List α} {n i : Nat} {k : Nat} (kn : k < n) (k0 : 0 < k) (kp : (k - 1) / 2 = i) : lt (hp H k) (hp H (chL lt H n i)) = false := by
  have hk : k = 2 * i + 1 ∨ k = 2 * i + 2 := by omega
  unfold chL
  split
  · rename_i hc
    simp only [Bool.and_eq_true, decide_eq_true_eq] at hc
    rcases hk with rfl | rfl
    · exact T.asym hc.2
    · exact T.irr _
  · rename_i hc
    simp only [Bool.and_eq_true, decide_eq_true_eq, not_and, Bool.not_eq_true] at hc
    rcases hk with rfl | rfl
    · exact T.irr _
    · exact hc kn
theorem DnEx.done (T : TotLt lt) {H : List α} {n i : Nat} (h : DnEx lt H n i) (hj : n ≤ 2 * i + 1 ∨ lt (hp H (chL lt H n i)) (hp H i) = false) : IsHp lt H n := fun k k0 kn => by
  by_cases hk : (k - 1) / 2 = i
  · rcases hj with hj | hj
    · omega
    · rw [hk]
      exact T.le_trans hj (chL_least T kn k0 hk)
  · exact h.1 k k0 kn hk
theorem DnEx.step (T : TotLt lt) {H : List α} {n i : Nat} (h : DnEx lt H n i) (hn : n ≤ H.length) (hc : 2 * i + 1 < n) (hl : lt (hp H (chL lt H n i)) (hp H i) = true) : DnEx lt (swapL H i (chL lt H n i)) n (chL lt H n i) := by
  obtain ⟨q1, q2, q3, q4⟩ := chL_in (lt := lt) (H := H) hc
  have hleast := fun k kn k0 kp => chL_least T (H := H) (n := n) (i := i) (k := k) kn k0 kp
  obtain ⟨j, hj⟩ : ∃ j, chL lt H n i = j := ⟨_, rfl⟩
  rw [hj] at hl q1 q2 q3 q4 ⊢
  have hs := hp_swap (H := H) (i := i) (j := j) (by omega) (by omega)
  refine ⟨fun k k0 kn kp => ?_, fun k k0 kn kp j0 => ?_⟩
  · rw [hs k, hs ((k - 1) / 2), if_neg kp]
    by_cases h1 : k = j
    · subst h1
      rw [if_pos rfl, q2, if_pos rfl]
      exact T.asym hl
    · rw [if_neg h1]
      by_cases h2 : (k - 1) / 2 = i
      · rw [if_pos h2, if_neg (show ¬ k = i by omega), ← hj]
        exact hleast k kn k0 h2
      · rw [if_neg h2]
        by_cases h3 : k = i
        · rw [if_pos h3, h3]
          exact h.2 j q3 q1 q2 (by omega)
        · rw [if_neg h3]
          exact h.1 k k0 kn h2
  · rw [hs k, hs ((j - 1) / 2), q2, if_neg (show ¬ k = j by omega), if_neg (show ¬ k = i by omega), if_neg (fun e => q4 e.symm), if_pos rfl]
    have := h.1 k k0 kn (by omega)
    rw [kp] at this
    exact this
theorem IsHp.pop {H : List α} {n : Nat} (h : IsHp lt H (n + 1)) (hn : n < H.length) : DnEx lt (swapL H 0 n) n 0 := by
  have hs := hp_swap (H := H) (i := 0) (j := n) (by omega) hn
  refine ⟨fun k k0 kn kp => ?_, fun k k0 kn kp i0 => by omega⟩
  rw [hs k, hs ((k - 1) / 2), if_neg (by omega), if_neg (by omega), if_neg (by omega), if_neg kp]
  exact h k k0 (by omega)
theorem IsHp.least (T : TotLt lt) {H : List α} {n : Nat} (h : IsHp lt H n) : ∀ k, k < n → lt (hp H k) (hp H 0) = false := by
  intro k
  induction k using Nat.strongRecOn with
  | _ k ih =>
    intro kn
    by_cases k0 : k = 0
    · rw [k0]; exact T.irr _
    · exact T.le_trans (ih ((k - 1) / 2) (by omega) (by omega)) (h k (by omega) kn)
end
end Go.Proofs.Ytcakdjnnfonijaa
