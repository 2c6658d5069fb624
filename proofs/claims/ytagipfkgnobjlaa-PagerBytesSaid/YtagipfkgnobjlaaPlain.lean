/- Plain facts on numbers and sums of bytes: words turned by exclusive or, a table's steps, the sums of the program and of the document. Nothing of the program is used here. -/
import Derived.WalkKit
namespace Go.Proofs.Ytagipfkgnobjlaa
open Go.RowKit

theorem wrapU (k : IntKind) (hk : k.signed = false) (n : Nat) (h : n < 2 ^ k.bits) : k.wrap (n : Int) = n := by
  have h' : (n : Int) < 2 ^ k.bits := by exact_mod_cast h
  cases k <;> simp_all [IntKind.wrap, IntKind.bits, IntKind.signed] <;> omega
theorem bits_or_nat (k : IntKind) (hk : k.signed = false) (a b : Nat) (ha : a < 2 ^ k.bits) (hb : b < 2 ^ k.bits) : bits .or k (a : Int) (b : Int) = ((a ||| b : Nat) : Int) := by
  simp only [bits, BitVec.ofInt_natCast, BitVec.toNat_or, BitVec.toNat_ofNat, Nat.mod_eq_of_lt ha, Nat.mod_eq_of_lt hb]
  exact wrapU k hk _ (Nat.or_lt_two_pow ha hb)

/-- One step down, turned by P. -/
def stp (P r : Nat) : Nat := if r % 2 = 1 then (r / 2) ^^^ P else r / 2
def stps (P : Nat) : Nat → Nat → Nat
  | 0, r => r
  | k + 1, r => stp P (stps P k r)
/-- The sum's register behind a byte, and behind bytes. -/
def reg1 (r : Nat) (x : UInt8) : Nat := stps 3988292384 8 (r ^^^ x.toNat)
def regs (r : Nat) (l : List UInt8) : Nat := l.foldl reg1 r
/-- The sum, and the sum of more bytes. -/
def more32 (s : Nat) (l : List UInt8) : Nat := regs (s ^^^ 4294967295) l ^^^ 4294967295
def sum32 (l : List UInt8) : Nat := more32 0 l
/-- The lowest n bytes of a number, the lowest first. -/
def lowB : Nat → Nat → List UInt8
  | _, 0 => []
  | x, n + 1 => UInt8.ofNat x :: lowB (x / 256) n
theorem lowB_length (n : Nat) : ∀ x, (lowB x n).length = n := by
  induction n with
  | zero => exact fun _ => rfl
  | succ n ih => exact fun x => by simp [lowB, ih]
theorem lowB_snoc (n : Nat) : ∀ x, lowB x (n + 1) = lowB x n ++ [UInt8.ofNat (x / 256 ^ n)] := by
  induction n with
  | zero => exact fun x => by simp [lowB]
  | succ n ih =>
    intro x
    show UInt8.ofNat x :: lowB (x / 256) (n + 1) = _
    rw [ih (x / 256)]
    simp [lowB, Nat.div_div_eq_div_mul, Nat.pow_succ, Nat.mul_comm]
/-- Bytes as a text. -/
def str (l : List UInt8) : ByteArray := ⟨l.toArray⟩
/-- What is opened, and the error. -/
def opened (l : List UInt8) : List UInt8 × Nat :=
  if l.length < 4 then ([], 4)
  else if l.take (l.length - 4) ++ lowB (sum32 (l.take (l.length - 4))) 4 = l then (l.take (l.length - 4), 0) else ([], 110)
end Go.Proofs.Ytagipfkgnobjlaa
