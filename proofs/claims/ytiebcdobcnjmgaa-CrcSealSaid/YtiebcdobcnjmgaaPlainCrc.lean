/- Plain facts on the sum: one byte changed changes it; what is sealed is opened, and with one byte changed it is not. Nothing of the program is used here. -/
import Derived.Test.YtiebcdobcnjmgaaPlain
namespace Go.Proofs.Ytiebcdobcnjmgaa

theorem xor_cancel {a b c : Nat} (h : a ^^^ c = b ^^^ c) : a = b := by
  have := congrArg (· ^^^ c) h
  simpa [Nat.xor_assoc] using this
theorem xor_zero_eq {a b : Nat} (h : a ^^^ b = 0) : a = b := by
  apply xor_cancel (c := b)
  rw [h, Nat.xor_self]
/-- The steps lead no two registers to one. -/
theorem stp_zero (r : Nat) (h : r < 4294967296) (h0 : stp 3988292384 r = 0) : r = 0 := by
  unfold stp at h0
  split at h0
  · have := xor_zero_eq h0; omega
  · omega
theorem stps_zero (k : Nat) : ∀ r, r < 4294967296 → stps 3988292384 k r = 0 → r = 0 := by
  induction k with
  | zero => exact fun r _ h => h
  | succ k ih => exact fun r h h0 => ih r h (stp_zero _ (stps_lt _ 32 (by decide) _ _ h) h0)
theorem stps_inj (k a b : Nat) (ha : a < 4294967296) (hb : b < 4294967296) (h : stps 3988292384 k a = stps 3988292384 k b) : a = b := by
  apply xor_zero_eq
  apply stps_zero k _ (Nat.xor_lt_two_pow (n := 32) ha hb)
  rw [stps_xor, h, Nat.xor_self]
theorem byte_lt32 (x : UInt8) : x.toNat < 4294967296 := Nat.lt_trans (byte_lt x) (by decide)
theorem reg1_inj_reg (x : UInt8) (a b : Nat) (ha : a < 4294967296) (hb : b < 4294967296) (h : reg1 a x = reg1 b x) : a = b :=
  xor_cancel (stps_inj 8 _ _ (Nat.xor_lt_two_pow (n := 32) ha (byte_lt32 x)) (Nat.xor_lt_two_pow (n := 32) hb (byte_lt32 x)) h)
theorem regs_inj (l : List UInt8) : ∀ a b, a < 4294967296 → b < 4294967296 → regs a l = regs b l → a = b := by
  induction l with
  | nil => exact fun a b _ _ h => h
  | cons x l ih => exact fun a b ha hb h => reg1_inj_reg x a b ha hb (ih _ _ (reg1_lt a x ha) (reg1_lt b x hb) h)
theorem reg1_inj_byte (r : Nat) (hr : r < 4294967296) (x y : UInt8) (h : reg1 r x = reg1 r y) : x = y := by
  have := stps_inj 8 _ _ (Nat.xor_lt_two_pow (n := 32) hr (byte_lt32 x)) (Nat.xor_lt_two_pow (n := 32) hr (byte_lt32 y)) h
  rw [Nat.xor_comm r, Nat.xor_comm r] at this
  exact UInt8.toNat_inj.1 (xor_cancel this)
theorem sum32_set (l : List UInt8) (k : Nat) (hk : k < l.length) (y : UInt8) (hy : y ≠ l[k]) : sum32 (l.set k y) ≠ sum32 l := by
  intro h
  unfold sum32 more32 at h
  have h1 := xor_cancel h
  rw [List.set_eq_take_append_cons_drop, if_pos hk] at h1
  have e : l = l.take k ++ l[k] :: l.drop (k + 1) := by rw [← List.drop_eq_getElem_cons hk, List.take_append_drop]
  conv at h1 => rhs; rw [e]
  simp only [regs, List.foldl_append, List.foldl_cons] at h1
  have hr : regs (0 ^^^ 4294967295) (l.take k) < 4294967296 := regs_lt _ _ (by decide)
  exact hy (reg1_inj_byte _ hr _ _ (regs_inj _ _ _ (reg1_lt _ _ hr) (reg1_lt _ _ hr) h1))
theorem lowB_inj (n : Nat) : ∀ a b, a < 256 ^ n → b < 256 ^ n → lowB a n = lowB b n → a = b := by
  induction n with
  | zero => intro a b ha hb _; simp at ha hb; omega
  | succ n ih =>
    intro a b ha hb h
    simp only [lowB, List.cons.injEq] at h
    have h1 := congrArg UInt8.toNat h.1
    rw [UInt8.toNat_ofNat', UInt8.toNat_ofNat'] at h1
    have h2 := ih (a / 256) (b / 256) (by rw [Nat.pow_succ] at ha; exact Nat.div_lt_of_lt_mul (by omega)) (by rw [Nat.pow_succ] at hb; exact Nat.div_lt_of_lt_mul (by omega)) h.2
    simp only [show (2 : Nat) ^ 8 = 256 from rfl] at h1
    omega
theorem opened_sealed (l : List UInt8) : opened (l ++ lowB (sum32 l) 4) = (l, 0) := by
  have hl : (l ++ lowB (sum32 l) 4).length = l.length + 4 := by rw [List.length_append, lowB_length]
  have ht : (l ++ lowB (sum32 l) 4).take l.length = l := by rw [List.take_append_of_le_length (Nat.le_refl _), List.take_length]
  have := opened_yes (l := l ++ lowB (sum32 l) 4) (by omega) (by rw [hl, Nat.add_sub_cancel, ht])
  rwa [hl, Nat.add_sub_cancel, ht] at this
theorem opened_changed (l : List UInt8) (k : Nat) (y : UInt8) (hk : k < l.length + 4) (hy : ∀ h : k < (l ++ lowB (sum32 l) 4).length, y ≠ (l ++ lowB (sum32 l) 4)[k]) :
    opened ((l ++ lowB (sum32 l) 4).set k y) = ([], 110) := by
  have hl : ((l ++ lowB (sum32 l) 4).set k y).length = l.length + 4 := by rw [List.length_set, List.length_append, lowB_length]
  have hl0 : (l ++ lowB (sum32 l) 4).length = l.length + 4 := by rw [List.length_append, lowB_length]
  refine opened_no (by omega) ?_
  rw [hl, Nat.add_sub_cancel]
  intro h
  have hy := hy (by omega)
  by_cases hkl : k < l.length
  · have hs : (l ++ lowB (sum32 l) 4).set k y = l.set k y ++ lowB (sum32 l) 4 := by rw [List.set_append, if_pos hkl]
    rw [List.getElem_append_left hkl] at hy
    have hls : (l.set k y).length = l.length := List.length_set
    rw [hs, List.take_append_of_le_length (by omega), List.take_of_length_le (by omega)] at h
    have h2 := List.append_cancel_left h
    exact sum32_set l k hkl y hy (lowB_inj 4 _ _ (by have := sum32_lt (l.set k y); omega) (by have := sum32_lt l; omega) h2)
  · have hs : (l ++ lowB (sum32 l) 4).set k y = l ++ (lowB (sum32 l) 4).set (k - l.length) y := by rw [List.set_append, if_neg hkl]
    rw [hs, List.take_append_of_le_length (Nat.le_refl _), List.take_length] at h
    have h2 := List.append_cancel_left h
    rw [List.getElem_append_right (by omega)] at hy
    have hkk : k - l.length < (lowB (sum32 l) 4).length := by rw [lowB_length]; omega
    have h3 : (lowB (sum32 l) 4)[k - l.length] = ((lowB (sum32 l) 4).set (k - l.length) y)[k - l.length]'(by rw [List.length_set]; exact hkk) := by
      simp only [← h2]
    rw [List.getElem_set_self] at h3
    exact hy h3.symm
theorem xor_byte_ne (x b : UInt8) (hb : b ≠ 0) : UInt8.ofNat (x.toNat ^^^ b.toNat) ≠ x := by
  intro h
  have h1 := congrArg UInt8.toNat h
  rw [UInt8.toNat_ofNat', Nat.mod_eq_of_lt (Nat.xor_lt_two_pow (n := 8) (byte_lt x) (byte_lt b))] at h1
  have h2 : b.toNat = 0 := by
    have := congrArg (· ^^^ x.toNat) h1
    simp only [Nat.xor_self] at this
    rw [Nat.xor_comm x.toNat, Nat.xor_assoc, Nat.xor_self, Nat.xor_zero] at this
    exact this
  exact hb (UInt8.toNat_inj.1 h2)
/-- Does their sum stand behind bytes? -/
def isSealed (l : List UInt8) : Bool := decide (4 ≤ l.length ∧ l.take (l.length - 4) ++ lowB (sum32 (l.take (l.length - 4))) 4 = l)
theorem isSealed_yes {l : List UInt8} (h4 : 4 ≤ l.length) (h : isSealed l = true) : opened l = (l.take (l.length - 4), 0) ∧ str (l.take (l.length - 4) ++ lowB (sum32 (l.take (l.length - 4))) 4) = str l := by
  unfold isSealed at h
  have h2 := (of_decide_eq_true h).2
  exact ⟨opened_yes (by omega) h2, by rw [h2]⟩
theorem isSealed_no {l : List UInt8} (h4 : 4 ≤ l.length) (h : isSealed l = false) : opened l = ([], 110) ∧ str (l.take (l.length - 4) ++ lowB (sum32 (l.take (l.length - 4))) 4) ≠ str l := by
  unfold isSealed at h
  have h2 : ¬ l.take (l.length - 4) ++ lowB (sum32 (l.take (l.length - 4))) 4 = l := fun e => of_decide_eq_false h ⟨h4, e⟩
  exact ⟨opened_no (by omega) h2, fun e => h2 (str_inj.1 e)⟩
theorem isSealed_short {l : List UInt8} (h4 : ¬ 4 ≤ l.length) : isSealed l = false := decide_eq_false (fun h => h4 h.1)
end Go.Proofs.Ytiebcdobcnjmgaa
