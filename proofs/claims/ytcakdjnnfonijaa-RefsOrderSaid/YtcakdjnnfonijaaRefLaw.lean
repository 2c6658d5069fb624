/- RefsCompare answers true for any three versions. -/
import Derived.Test.YtcakdjnnfonijaaRefDoc
namespace Go.Proofs.Ytcakdjnnfonijaa
open Go.RowKit

theorem less_asymm : ∀ a b : List UInt8, Op.bytesLess a b = true → Op.bytesLess b a = false
  | _, [], h => by cases ‹List UInt8› <;> simp [Op.bytesLess] at h
  | [], _ :: _, _ => rfl
  | a :: x, b :: y, h => by
    simp only [Op.bytesLess, Bool.or_eq_true, Bool.and_eq_true, decide_eq_true_eq, beq_iff_eq] at h
    simp only [Op.bytesLess, Bool.or_eq_false_iff, Bool.and_eq_false_iff, decide_eq_false_iff_not, beq_eq_false_iff_ne]
    rcases h with h | ⟨rfl, h⟩
    · exact ⟨fun h2 => by rw [UInt8.lt_iff_toNat_lt] at h h2; omega, .inl fun e => by subst e; rw [UInt8.lt_iff_toNat_lt] at h; omega⟩
    · exact ⟨fun h2 => by rw [UInt8.lt_iff_toNat_lt] at h2; omega, .inr (less_asymm x y h)⟩
theorem less_total : ∀ a b : List UInt8, Op.bytesLess a b = false → Op.bytesLess b a = false → a = b
  | [], [], _, _ => rfl
  | [], _ :: _, h, _ => by simp [Op.bytesLess] at h
  | _ :: _, [], _, h => by simp [Op.bytesLess] at h
  | a :: x, b :: y, h, h2 => by
    simp only [Op.bytesLess, Bool.or_eq_false_iff, Bool.and_eq_false_iff, decide_eq_false_iff_not, beq_eq_false_iff_ne, UInt8.lt_iff_toNat_lt] at h h2
    have e : a = b := UInt8.toNat_inj.1 (by omega)
    subst e
    rw [less_total x y (by simpa using h.2) (by simpa using h2.2)]
theorem less_irrefl (a : List UInt8) : Op.bytesLess a a = false := by
  cases h : Op.bytesLess a a with
  | false => rfl
  | true => have := less_asymm a a h; rw [h] at this; cases this
theorem less_trans : ∀ a b c : List UInt8, Op.bytesLess a b = true → Op.bytesLess b c = true → Op.bytesLess a c = true
  | _, _, [], _, h => by cases ‹List UInt8› <;> simp [Op.bytesLess] at h
  | [], _, _ :: _, _, _ => rfl
  | _ :: _, [], _ :: _, h, _ => by simp [Op.bytesLess] at h
  | a :: x, b :: y, c :: z, h, h2 => by
    simp only [Op.bytesLess, Bool.or_eq_true, Bool.and_eq_true, decide_eq_true_eq, beq_iff_eq, UInt8.lt_iff_toNat_lt] at h h2 ⊢
    rcases h with h | ⟨rfl, h⟩
    · rcases h2 with h2 | ⟨rfl, h2⟩
      · exact .inl (by omega)
      · exact .inl h
    · rcases h2 with h2 | ⟨rfl, h2⟩
      · exact .inl h2
      · exact .inr ⟨rfl, less_trans x y z h h2⟩
theorem cmpS_neg (s t : ByteArray) : cmpS t s = - cmpS s t := by
  unfold cmpS
  cases h : Op.bytesLess s.toList t.toList with
  | true =>
    have hne : (t.toList == s.toList) = false := by
      cases he : t.toList == s.toList with
      | false => rfl
      | true => rw [eq_of_beq he, less_irrefl] at h; cases h
    rw [less_asymm _ _ h, hne]
    rfl
  | false =>
    cases h2 : Op.bytesLess t.toList s.toList with
    | true =>
      have hne : (s.toList == t.toList) = false := by
        cases he : s.toList == t.toList with
        | false => rfl
        | true => rw [eq_of_beq he, less_irrefl] at h2; cases h2
      rw [hne]
      rfl
    | false =>
      rw [less_total _ _ h h2]
      simp
theorem cmpI_neg (m n : Int) : cmpI n m = - cmpI m n := by
  unfold cmpI
  split <;> split <;> first | rfl | omega
theorem cmpS_in (s t : ByteArray) : cmpS s t = -1 ∧ Op.bytesLess s.toList t.toList = true ∨ cmpS s t = 0 ∧ s.toList = t.toList ∨ cmpS s t = 1 ∧ Op.bytesLess t.toList s.toList = true := by
  unfold cmpS
  cases h : Op.bytesLess s.toList t.toList with
  | true => exact .inl ⟨rfl, rfl⟩
  | false =>
    cases he : s.toList == t.toList with
    | true => exact .inr (.inl ⟨rfl, eq_of_beq he⟩)
    | false =>
      refine .inr (.inr ⟨rfl, ?_⟩)
      cases h2 : Op.bytesLess t.toList s.toList with
      | true => rfl
      | false => rw [less_total _ _ h h2] at he; simp at he
theorem cmpI_in (m n : Int) : cmpI m n = -1 ∧ m < n ∨ cmpI m n = 0 ∧ m = n ∨ cmpI m n = 1 ∧ n < m := by
  unfold cmpI
  split
  · exact .inl ⟨rfl, by assumption⟩
  · split
    · exact .inr (.inr ⟨rfl, by assumption⟩)
    · exact .inr (.inl ⟨rfl, by omega⟩)
theorem cmpS_of (s t : ByteArray) : (Op.bytesLess s.toList t.toList = true → cmpS s t = -1) ∧ (s.toList = t.toList → cmpS s t = 0) := by
  refine ⟨fun h => by unfold cmpS; rw [if_pos h], fun h => by unfold cmpS; rw [h, less_irrefl]; simp⟩
theorem cmpR_neg (s t : ByteArray) (m n : Int) : cmpR t s n m = - cmpR s t m n := by
  unfold cmpR cmpOr
  rw [cmpS_neg s t, cmpI_neg m n]
  rcases cmpS_in s t with ⟨h, _⟩ | ⟨h, _⟩ | ⟨h, _⟩ <;> rw [h] <;> rfl
theorem cmpR_in (s t : ByteArray) (m n : Int) : cmpR s t m n = -1 ∨ cmpR s t m n = 0 ∨ cmpR s t m n = 1 := by
  unfold cmpR cmpOr
  rcases cmpS_in s t with ⟨h, _⟩ | ⟨h, _⟩ | ⟨h, _⟩ <;> rw [h]
  · exact .inl rfl
  · rcases cmpI_in m n with ⟨h, _⟩ | ⟨h, _⟩ | ⟨h, _⟩ <;> rw [h] <;> simp
  · exact .inr (.inr rfl)
theorem cmpR_self (s : ByteArray) (m : Int) : cmpR s s m m = 0 := by
  have := cmpR_neg s s m m
  omega
/-- At most: by subject, then by number. -/
theorem cmpR_le (s t : ByteArray) (m n : Int) : cmpR s t m n ≤ 0 ↔ Op.bytesLess s.toList t.toList = true ∨ s.toList = t.toList ∧ m ≤ n := by
  unfold cmpR cmpOr
  rcases cmpS_in s t with ⟨h, h2⟩ | ⟨h, h2⟩ | ⟨h, h2⟩ <;> rw [h]
  · simp [h2]
  · rw [if_pos rfl, h2, less_irrefl]
    rcases cmpI_in m n with ⟨h3, h4⟩ | ⟨h3, h4⟩ | ⟨h3, h4⟩ <;> rw [h3] <;> simp <;> omega
  · rw [if_neg (by decide), less_asymm _ _ h2]
    simp
    intro e
    rw [e, less_irrefl] at h2
    cases h2
theorem cmpR_trans (s t u : ByteArray) (m n o : Int) (h : cmpR s t m n ≤ 0) (h2 : cmpR t u n o ≤ 0) : cmpR s u m o ≤ 0 := by
  rw [cmpR_le] at h h2 ⊢
  rcases h with h | ⟨h, hm⟩
  · rcases h2 with h2 | ⟨h2, _⟩
    · exact .inl (less_trans _ _ _ h h2)
    · rw [← h2]; exact .inl h
  · rcases h2 with h2 | ⟨h2, hn⟩
    · rw [h]; exact .inl h2
    · exact .inr ⟨h.trans h2, by omega⟩
end Go.Proofs.Ytcakdjnnfonijaa
