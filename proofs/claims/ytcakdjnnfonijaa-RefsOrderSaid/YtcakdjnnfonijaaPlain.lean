/- Plain facts on numbers and sums of bytes: words turned by exclusive or, a table's steps, the sums of the program and of the document. Nothing of the program is used here. -/
import Derived.WalkKit
namespace Go.Proofs.Ytcakdjnnfonijaa
open Go.RowKit

theorem wrapU (k : IntKind) (hk : k.signed = false) (n : Nat) (h : n < 2 ^ k.bits) : k.wrap (n : Int) = n := by
  have h' : (n : Int) < 2 ^ k.bits := by exact_mod_cast h
  cases k <;> simp_all [IntKind.wrap, IntKind.bits, IntKind.signed] <;> omega
theorem bits_xor_nat (k : IntKind) (hk : k.signed = false) (a b : Nat) (ha : a < 2 ^ k.bits) (hb : b < 2 ^ k.bits) : bits .xor k (a : Int) (b : Int) = ((a ^^^ b : Nat) : Int) := by
  simp only [bits, BitVec.ofInt_natCast, BitVec.toNat_xor, BitVec.toNat_ofNat, Nat.mod_eq_of_lt ha, Nat.mod_eq_of_lt hb]
  exact wrapU k hk _ (Nat.xor_lt_two_pow ha hb)
theorem bits_and_nat (k : IntKind) (hk : k.signed = false) (a b : Nat) (ha : a < 2 ^ k.bits) (hb : b < 2 ^ k.bits) : bits .and k (a : Int) (b : Int) = ((a &&& b : Nat) : Int) := by
  simp only [bits, BitVec.ofInt_natCast, BitVec.toNat_and, BitVec.toNat_ofNat, Nat.mod_eq_of_lt ha, Nat.mod_eq_of_lt hb]
  exact wrapU k hk _ (Nat.and_lt_two_pow _ hb)
theorem bits_or_nat (k : IntKind) (hk : k.signed = false) (a b : Nat) (ha : a < 2 ^ k.bits) (hb : b < 2 ^ k.bits) : bits .or k (a : Int) (b : Int) = ((a ||| b : Nat) : Int) := by
  simp only [bits, BitVec.ofInt_natCast, BitVec.toNat_or, BitVec.toNat_ofNat, Nat.mod_eq_of_lt ha, Nat.mod_eq_of_lt hb]
  exact wrapU k hk _ (Nat.or_lt_two_pow ha hb)

/-- One step down, turned by P. -/
def stp (P r : Nat) : Nat := if r % 2 = 1 then (r / 2) ^^^ P else r / 2
def stps (P : Nat) : Nat → Nat → Nat
  | 0, r => r
  | k + 1, r => stp P (stps P k r)
theorem stp_lt (P N r : Nat) (hP : P < 2 ^ N) (hr : r < 2 ^ N) : stp P r < 2 ^ N := by
  unfold stp
  split
  · exact Nat.xor_lt_two_pow (by omega) hP
  · omega
theorem stps_lt (P N : Nat) (hP : P < 2 ^ N) (k r : Nat) (hr : r < 2 ^ N) : stps P k r < 2 ^ N := by
  induction k with
  | zero => exact hr
  | succ k ih => exact stp_lt P N _ hP ih
theorem xor_div2 (a b : Nat) : (a ^^^ b) / 2 = a / 2 ^^^ b / 2 := Nat.xor_div_two
theorem stp_xor (P a b : Nat) : stp P (a ^^^ b) = stp P a ^^^ stp P b := by
  unfold stp
  have hm := @Nat.xor_mod_two_eq_one a b
  rw [xor_div2]
  rcases Nat.mod_two_eq_zero_or_one a with ha | ha <;> rcases Nat.mod_two_eq_zero_or_one b with hb | hb <;> simp only [ha, hb] at hm <;> simp [ha, hb, hm]
  · rw [Nat.xor_assoc]
  · rw [Nat.xor_assoc, Nat.xor_assoc, Nat.xor_comm P]
  · rw [Nat.xor_assoc, Nat.xor_comm P (b / 2 ^^^ P), Nat.xor_assoc, Nat.xor_self, Nat.xor_zero]
theorem stps_xor (P k a b : Nat) : stps P k (a ^^^ b) = stps P k a ^^^ stps P k b := by
  induction k with
  | zero => rfl
  | succ k ih => simp only [stps, ih, stp_xor]
theorem stps_pow (P k h : Nat) : ∀ j, j ≤ k → stps P j (2 ^ k * h) = 2 ^ (k - j) * h := by
  intro j
  induction j with
  | zero => intro _; rfl
  | succ j ih =>
    intro hj
    have e : k - j = (k - (j + 1)) + 1 := by omega
    simp only [stps, ih (by omega), stp]
    rw [e, Nat.pow_succ, Nat.mul_right_comm, if_neg (by omega), Nat.mul_div_cancel _ (by decide)]
/-- What a table of bytes does in one turn, eight steps do. -/
theorem xor_split (y : Nat) : y = 2 ^ 8 * (y / 256) ^^^ (y % 256) := by
  apply Nat.eq_of_testBit_eq
  intro i
  rw [Nat.testBit_xor, show (256 : Nat) = 2 ^ 8 from rfl, Nat.testBit_mod_two_pow, Nat.testBit_two_pow_mul, Nat.testBit_div_two_pow]
  by_cases h : i < 8
  · simp [h, Nat.not_le.mpr h]
  · have h8 : 8 ≤ i := by omega
    simp [h, h8, Nat.sub_add_cancel h8]
theorem stps8 (P y : Nat) : stps P 8 y = y / 256 ^^^ stps P 8 (y % 256) := by
  conv => lhs; rw [xor_split y]
  rw [stps_xor, stps_pow P 8 _ 8 (Nat.le_refl 8)]
  simp
theorem xor_hi (r x : Nat) (hx : x < 256) : (r ^^^ x) / 256 = r / 256 := by
  have := @Nat.xor_div_two_pow r x 8
  simp only [show (2 : Nat) ^ 8 = 256 from rfl] at this
  rw [this, Nat.div_eq_of_lt hx, Nat.xor_zero]
theorem xor_lo (r x : Nat) (hx : x < 256) : (r ^^^ x) % 256 = r % 256 ^^^ x := by
  have := @Nat.xor_mod_two_pow r x 8
  simp only [show (2 : Nat) ^ 8 = 256 from rfl] at this
  rw [this, Nat.mod_eq_of_lt hx]

/-- The sum's register behind a byte, and behind bytes. -/
def reg1 (r : Nat) (x : UInt8) : Nat := stps 3988292384 8 (r ^^^ x.toNat)
def regs (r : Nat) (l : List UInt8) : Nat := l.foldl reg1 r
theorem byte_lt (x : UInt8) : x.toNat < 256 := x.toNat_lt
theorem reg1_lt (r : Nat) (x : UInt8) (h : r < 4294967296) : reg1 r x < 4294967296 :=
  stps_lt _ 32 (by decide) 8 _ (Nat.xor_lt_two_pow (n := 32) h (Nat.lt_trans (byte_lt x) (by decide)))
theorem regs_lt (l : List UInt8) : ∀ r, r < 4294967296 → regs r l < 4294967296 := by
  induction l with
  | nil => exact fun r h => h
  | cons x l ih => exact fun r h => ih _ (reg1_lt r x h)
theorem regs_snoc (r : Nat) (l : List UInt8) (x : UInt8) : regs r (l ++ [x]) = reg1 (regs r l) x := by simp [regs]
theorem regs_append (r : Nat) (l k : List UInt8) : regs r (l ++ k) = regs (regs r l) k := by simp [regs]
/-- The table's way of one byte. -/
theorem reg1_table (r : Nat) (x : UInt8) : reg1 r x = (r / 256) ^^^ stps 3988292384 8 (r % 256 ^^^ x.toNat) := by
  unfold reg1
  rw [stps8, xor_hi _ _ (byte_lt x), xor_lo _ _ (byte_lt x)]
/-- The sum, and the sum of more bytes. -/
def more32 (s : Nat) (l : List UInt8) : Nat := regs (s ^^^ 4294967295) l ^^^ 4294967295
def sum32 (l : List UInt8) : Nat := more32 0 l
theorem more32_lt (s : Nat) (l : List UInt8) (h : s < 4294967296) : more32 s l < 4294967296 :=
  Nat.xor_lt_two_pow (n := 32) (regs_lt l _ (Nat.xor_lt_two_pow (n := 32) h (by decide))) (by decide)
theorem sum32_lt (l : List UInt8) : sum32 l < 4294967296 := more32_lt 0 l (by decide)
theorem more32_sum (l k : List UInt8) : more32 (sum32 l) k = sum32 (l ++ k) := by
  unfold sum32 more32
  rw [Nat.xor_assoc, Nat.xor_self, Nat.xor_zero, regs_append]

/-- The fingerprint behind a byte, and behind bytes. -/
def fin1 (f : Nat) (x : UInt8) : Nat := (f / 256) ^^^ stps 13933329357911598997 8 (f % 256 ^^^ x.toNat)
def fins (f : Nat) (l : List UInt8) : Nat := l.foldl fin1 f
theorem fins_snoc (r : Nat) (l : List UInt8) (x : UInt8) : fins r (l ++ [x]) = fin1 (fins r l) x := by simp [fins]
theorem fins_append (r : Nat) (l k : List UInt8) : fins r (l ++ k) = fins (fins r l) k := by simp [fins]
theorem lo_lt (f : Nat) (x : UInt8) : f % 256 ^^^ x.toNat < 256 := Nat.xor_lt_two_pow (n := 8) (Nat.mod_lt _ (by decide)) (byte_lt x)
theorem fin1_lt (f : Nat) (x : UInt8) (h : f < 18446744073709551616) : fin1 f x < 18446744073709551616 :=
  Nat.xor_lt_two_pow (n := 64) (Nat.lt_of_le_of_lt (Nat.div_le_self _ _) h) (stps_lt _ 64 (by decide) 8 _ (Nat.lt_trans (lo_lt f x) (by decide)))
theorem fins_lt (l : List UInt8) : ∀ r, r < 18446744073709551616 → fins r l < 18446744073709551616 := by
  induction l with
  | nil => exact fun r h => h
  | cons x l ih => exact fun r h => ih _ (fin1_lt r x h)

/-- The lowest n bytes of a number, the lowest first. -/
def lowB : Nat → Nat → List UInt8
  | _, 0 => []
  | x, n + 1 => UInt8.ofNat x :: lowB (x / 256) n
theorem lowB_length (n : Nat) : ∀ x, (lowB x n).length = n := by
  induction n with
  | zero => exact fun _ => rfl
  | succ n ih => exact fun x => by simp [lowB, ih]
theorem lowB_snoc (n : Nat) : ∀ x, lowB x (n + 1) = lowB x n ++ [UInt8.ofNat (x / 256 ^ n)] := by
  induction n with
  | zero => exact fun x => by simp [lowB]
  | succ n ih =>
    intro x
    show UInt8.ofNat x :: lowB (x / 256) (n + 1) = _
    rw [ih (x / 256)]
    simp [lowB, Nat.div_div_eq_div_mul, Nat.pow_succ, Nat.mul_comm]
/-- Bytes as a text. -/
def str (l : List UInt8) : ByteArray := ⟨l.toArray⟩
theorem str_inj {l k : List UInt8} : str l = str k ↔ l = k := by simp [str]
/-- What is opened, and the error. -/
def opened (l : List UInt8) : List UInt8 × Nat :=
  if l.length < 4 then ([], 4)
  else if l.take (l.length - 4) ++ lowB (sum32 (l.take (l.length - 4))) 4 = l then (l.take (l.length - 4), 0) else ([], 110)
theorem opened_short {l : List UInt8} (h : l.length < 4) : opened l = ([], 4) := by unfold opened; rw [if_pos h]
theorem opened_yes {l : List UInt8} (h : ¬ l.length < 4) (e : l.take (l.length - 4) ++ lowB (sum32 (l.take (l.length - 4))) 4 = l) : opened l = (l.take (l.length - 4), 0) := by unfold opened; rw [if_neg h, if_pos e]
theorem opened_no {l : List UInt8} (h : ¬ l.length < 4) (e : ¬ l.take (l.length - 4) ++ lowB (sum32 (l.take (l.length - 4))) 4 = l) : opened l = ([], 110) := by unfold opened; rw [if_neg h, if_neg e]
theorem more32_cut (l : List UInt8) (k : Nat) : more32 (sum32 (l.take k)) (l.drop k) = sum32 l := by rw [more32_sum, List.take_append_drop]
theorem fins_two (f : Nat) (l : List UInt8) (k : Nat) : fins (fins f (l.take k)) (l.drop k) = fins f l := by rw [← fins_append, List.take_append_drop]
theorem take_snoc (l : List UInt8) (k : Nat) (h : k < l.length) : l.take (k + 1) = l.take k ++ [l[k]] := by
  rw [List.take_succ_eq_append_getElem h]
end Go.Proofs.Ytcakdjnnfonijaa
