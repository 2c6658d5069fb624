/- Numbers as bytes, in plain Lean: how a number is put (vput), and read (vtake). -/
import Derived.Test.YtomfdiomakjeoaaPlain
namespace Go.Proofs.Ytomfdiomakjeoaa

def vput (x : Nat) : List UInt8 := if x < 128 then [UInt8.ofNat x] else UInt8.ofNat (128 + x % 128) :: vput (x / 128)
termination_by x
decreasing_by omega
theorem vput_lt {x : Nat} (h : x < 128) : vput x = [UInt8.ofNat x] := by rw [vput, if_pos h]
theorem vput_ge {x : Nat} (h : ¬ x < 128) : vput x = UInt8.ofNat (128 + x % 128) :: vput (x / 128) := by rw [vput, if_neg h]
theorem vput_len (n : Nat) : ∀ x, x < 128 ^ (n + 1) → (vput x).length ≤ n + 1 := by
  induction n with
  | zero => intro x h; rw [vput_lt (by simpa using h)]; simp
  | succ n ih =>
    intro x h
    by_cases h1 : x < 128
    · rw [vput_lt h1]; simp
    · rw [vput_ge h1]
      have := ih (x / 128) (by rw [Nat.pow_succ] at h; omega)
      simp only [List.length_cons]; omega
theorem vput_len10 {x : Nat} (h : x < 18446744073709551616) : (vput x).length ≤ 10 := vput_len 9 x (by omega)

def vgo : Nat → Nat → Nat → List UInt8 → Option (Nat × Nat)
  | _, _, _, [] => none
  | i, x, m, c :: r => if i = 9 ∧ 1 < c.toNat then none else if c.toNat < 128 then some (x + m * c.toNat, i + 1) else vgo (i + 1) (x + m * (c.toNat % 128)) (m * 128) r
def vtake (l : List UInt8) : Option (Nat × Nat) := vgo 0 0 1 l
def vval (l : List UInt8) : Nat := match vtake l with | some p => p.1 | none => 0
def vlen (l : List UInt8) : Nat := match vtake l with | some p => p.2 | none => 0
def verr (l : List UInt8) : Nat := match vtake l with | some _ => 0 | none => 270
theorem vgo_bound (i x m : Nat) (l : List UInt8) (hi : i ≤ 9) (hm : m = 128 ^ i) (hx : x < m) : ∀ p, vgo i x m l = some p → p.1 < 18446744073709551616 ∧ i < p.2 ∧ p.2 ≤ i + l.length ∧ p.2 ≤ 10 := by
  induction l generalizing i x m with
  | nil => intro p h; simp [vgo] at h
  | cons c r ih =>
    intro p h
    rw [vgo] at h
    by_cases h1 : i = 9 ∧ 1 < c.toNat
    · rw [if_pos h1] at h; cases h
    · rw [if_neg h1] at h
      by_cases h2 : c.toNat < 128
      · rw [if_pos h2] at h
        obtain rfl : p = _ := (Option.some.inj h).symm
        refine ⟨?_, by simp, by simp, by simp; omega⟩
        have hb : (m : Nat) * (c.toNat + 1) ≤ 18446744073709551616 := by
          subst hm
          by_cases h9 : i = 9
          · subst h9; have : c.toNat ≤ 1 := by omega
            omega
          · have hp : (128 : Nat) ^ i ≤ 128 ^ 8 := Nat.pow_le_pow_right (by decide) (by omega)
            calc 128 ^ i * (c.toNat + 1) ≤ 128 ^ 8 * 128 := Nat.mul_le_mul hp (by omega)
              _ ≤ _ := by decide
        rw [Nat.mul_succ] at hb
        show x + m * c.toNat < _
        omega
      · rw [if_neg h2] at h
        have h9 : i ≠ 9 := by intro e; exact h1 ⟨e, by omega⟩
        have hlt : c.toNat % 128 < 128 := Nat.mod_lt _ (by decide)
        have hb : m * (c.toNat % 128 + 1) ≤ m * 128 := Nat.mul_le_mul_left _ hlt
        rw [Nat.mul_succ] at hb
        have := ih (i + 1) _ _ (by omega) (by rw [hm, Nat.pow_succ]) (by omega) p h
        simp only [List.length_cons]; omega
theorem vval_lt (l : List UInt8) : vval l < 18446744073709551616 := by
  unfold vval
  cases h : vtake l with
  | none => decide
  | some p => exact (vgo_bound 0 0 1 l (by omega) rfl (by omega) p h).1
theorem vlen_le (l : List UInt8) : vlen l ≤ l.length := by
  unfold vlen
  cases h : vtake l with
  | none => simp
  | some p => have := vgo_bound 0 0 1 l (by omega) rfl (by omega) p h; show p.2 ≤ _; omega
theorem vlen_le10 (l : List UInt8) : vlen l ≤ 10 := by
  unfold vlen
  cases h : vtake l with
  | none => simp
  | some p => have := vgo_bound 0 0 1 l (by omega) rfl (by omega) p h; show p.2 ≤ _; omega
theorem verr_cases (l : List UInt8) : verr l = 0 ∧ 0 < vlen l ∨ verr l = 270 ∧ vval l = 0 ∧ vlen l = 0 := by
  unfold verr vval vlen
  cases h : vtake l with
  | none => exact .inr ⟨rfl, rfl, rfl⟩
  | some p => have := vgo_bound 0 0 1 l (by omega) rfl (by omega) p h; exact .inl ⟨rfl, by show 0 < p.2; omega⟩
end Go.Proofs.Ytomfdiomakjeoaa
