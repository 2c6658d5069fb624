/- Zigzag and Unzigzag, the program's and the document's: what they hand back; the world stays. -/
import Derived.Test.YtomfdiomakjeoaaWireNum
namespace Go.Proofs.Ytomfdiomakjeoaa
open Go.RowKit

def zig (n : Int) : Nat := if 0 ≤ n then 2 * n.toNat else 2 * (-(n + 1)).toNat + 1
def unzig (x : Nat) : Int := if x % 2 = 0 then ((x / 2 : Nat) : Int) else -((x / 2 : Nat) : Int) - 1
theorem zig_unzig (x : Nat) : zig (unzig x) = x := by unfold zig unzig; split <;> split <;> omega
theorem unzig_zig (n : Int) : unzig (zig n) = n := by unfold zig unzig; split <;> split <;> omega
theorem zig_lt (n : Int) (h1 : -9223372036854775808 ≤ n) (h2 : n ≤ 9223372036854775807) : zig n < 18446744073709551616 := by unfold zig; split <;> omega
theorem unzig_in (x : Nat) (h : x < 18446744073709551616) : -9223372036854775808 ≤ unzig x ∧ unzig x ≤ 9223372036854775807 := by unfold unzig; split <;> omega
theorem bits_xor_ones (a : Nat) (h : a < 9223372036854775808) : bits .xor .i64 (a : Int) (-1) = -(a : Int) - 1 := by
  have e : BitVec.ofInt 64 (-1) = BitVec.allOnes 64 := by decide
  show IntKind.i64.wrap (((BitVec.ofInt 64 (a : Int) ^^^ BitVec.ofInt 64 (-1)).toNat : Nat) : Int) = _
  rw [e, BitVec.ofInt_natCast, BitVec.xor_allOnes, BitVec.toNat_not, BitVec.toNat_ofNat, Nat.mod_eq_of_lt (by omega)]
  simp only [IntKind.wrap, IntKind.bits, IntKind.signed]
  simp; omega
theorem bits_xor_ones64 (a : Nat) (h : a < 18446744073709551616) : bits .xor .u64 (a : Int) 18446744073709551615 = ((18446744073709551615 - a : Nat) : Int) := by
  have e : BitVec.ofInt 64 18446744073709551615 = BitVec.allOnes 64 := by decide
  show IntKind.u64.wrap (((BitVec.ofInt 64 (a : Int) ^^^ BitVec.ofInt 64 18446744073709551615).toNat : Nat) : Int) = _
  rw [e, BitVec.ofInt_natCast, BitVec.xor_allOnes, BitVec.toNat_not, BitVec.toNat_ofNat, Nat.mod_eq_of_lt (by omega)]
  simp only [IntKind.wrap, IntKind.bits, IntKind.signed]
  simp; omega
theorem bits_xor_zero (a : Nat) (h : a < 9223372036854775808) : bits .xor .i64 (a : Int) 0 = a := by
  show IntKind.i64.wrap (((BitVec.ofInt 64 (a : Int) ^^^ 0#64).toNat : Nat) : Int) = _
  rw [BitVec.ofInt_natCast, BitVec.xor_zero, BitVec.toNat_ofNat, Nat.mod_eq_of_lt (by omega)]
  simp only [IntKind.wrap, IntKind.bits, IntKind.signed]
  simp; omega

set_option maxRecDepth 100000 in
theorem unzigzag_any (x : Nat) (hx : x < 18446744073709551616) (w : World) :
    Calls Try.prog 19 #[.int .u64 (x : Int)] w fun e w' => e = .returned (.int .i64 (unzig x)) ∧ w = w' := by
  have ha : bits .and .u64 (x : Int) 1 = ((x % 2 : Nat) : Int) := (bits_and_nat .u64 rfl x 1 hx (by decide)).trans (by rw [Nat.and_one_is_mod])
  go_enter Try.func19, Try.ntmps19
  by_cases h : x % 2 = 0
  · rw [h] at ha
    have hu : unzig x = ((x / 2 : Nat) : Int) := by unfold unzig; rw [if_pos h]
    have h0 : bits .xor .i64 ((x : Int) / 2) 0 = _ := bits_xor_zero (x / 2) (by omega)
    clear h
    go_wp2
    go_ret
    exact ⟨by rw [hu]; rfl, rfl⟩
  · have h1 : x % 2 = 1 := by omega
    rw [h1] at ha
    have hu : unzig x = -((x / 2 : Nat) : Int) - 1 := by unfold unzig; rw [if_neg h]
    have h0 : bits .xor .i64 ((x : Int) / 2) (-1) = _ := bits_xor_ones (x / 2) (by omega)
    clear h h1
    go_wp2
    go_ret
    exact ⟨by rw [hu]; rfl, rfl⟩

set_option maxRecDepth 100000 in
theorem refunzigzag_any (x : Nat) (hx : x < 18446744073709551616) (w : World) :
    Calls Try.prog 20 #[.int .u64 (x : Int)] w fun e w' => e = .returned (.int .i64 (unzig x)) ∧ w = w' := by
  go_enter Try.func20, Try.ntmps20
  by_cases h : x % 2 = 0
  · have hu : unzig x = ((x / 2 : Nat) : Int) := by unfold unzig; rw [if_pos h]
    have ht : ((x : Int) % 2 == 0) = true := by simp; omega
    clear h
    go_wp2
    go_ret
    exact ⟨by rw [hu]; rfl, rfl⟩
  · have hu : unzig x = -((x / 2 : Nat) : Int) - 1 := by unfold unzig; rw [if_neg h]
    have ht : ((x : Int) % 2 == 0) = false := by simp; omega
    clear h
    go_wp2
    go_ret
    exact ⟨by rw [hu]; rfl, rfl⟩

set_option maxRecDepth 100000 in
theorem refzigzag_any (n : Int) (h1 : -9223372036854775808 ≤ n) (h2 : n ≤ 9223372036854775807) (w : World) :
    Calls Try.prog 22 #[.int .i64 n] w fun e w' => e = .returned (.int .u64 (zig n : Nat)) ∧ w = w' := by
  go_enter Try.func22, Try.ntmps22
  by_cases h : 0 ≤ n
  · have hz : ((zig n : Nat) : Int) = 2 * n := by unfold zig; rw [if_pos h]; omega
    go_wp2
    go_ret
    first | exact ⟨rfl, rfl⟩ | exact ⟨by rw [hz]; rfl, rfl⟩
  · have hz : ((zig n : Nat) : Int) = 2 * -(n + 1) + 1 := by unfold zig; rw [if_neg h]; omega
    go_wp2
    go_ret
    first | exact ⟨rfl, rfl⟩ | exact ⟨by rw [hz]; rfl, rfl⟩

theorem zig_pos (n : Int) (h : 0 ≤ n) (h2 : n ≤ 9223372036854775807) : bits .xor .u64 (n * 2) (n / 9223372036854775808) = ((zig n : Nat) : Int) := by
  obtain ⟨m, rfl⟩ := Int.eq_ofNat_of_zero_le h
  have e : zig (m : Int) = 2 * m := by unfold zig; rw [if_pos h]; omega
  rw [show (m : Int) / 9223372036854775808 = ((0 : Nat) : Int) by omega, show (m : Int) * 2 = ((2 * m : Nat) : Int) by omega, e]
  exact (bits_xor_nat .u64 rfl _ _ (by show 2 * m < 18446744073709551616; omega) (by decide)).trans (by rw [Nat.xor_zero])
theorem zig_neg (n : Int) (h : ¬ 0 ≤ n) (h1 : -9223372036854775808 ≤ n) : bits .xor .u64 (IntKind.u64.wrap (IntKind.u64.wrap n * 2)) (IntKind.u64.wrap (n / 9223372036854775808)) = ((zig n : Nat) : Int) := by
  have e : zig n = 18446744073709551615 - (2 * n + 18446744073709551616).toNat := by unfold zig; rw [if_neg h]; omega
  have w1 : IntKind.u64.wrap (IntKind.u64.wrap n * 2) = ((2 * n + 18446744073709551616).toNat : Int) := by
    simp only [IntKind.wrap, IntKind.bits, IntKind.signed]; simp; omega
  have w2 : IntKind.u64.wrap (n / 9223372036854775808) = 18446744073709551615 := by
    rw [show n / 9223372036854775808 = -1 by omega]; decide
  rw [w1, w2, e]
  exact bits_xor_ones64 _ (by omega)

set_option maxRecDepth 100000 in
theorem zigzag_any (n : Int) (h1 : -9223372036854775808 ≤ n) (h2 : n ≤ 9223372036854775807) (w : World) :
    Calls Try.prog 21 #[.int .i64 n] w fun e w' => e = .returned (.int .u64 (zig n : Nat)) ∧ w = w' := by
  go_enter Try.func21, Try.ntmps21
  by_cases h : 0 ≤ n
  · go_wp2
    go_ret
    exact ⟨congrArg (fun x => Ending.returned (.int .u64 x)) (zig_pos n h h2), rfl⟩
  · go_wp2
    go_ret
    exact ⟨congrArg (fun x => Ending.returned (.int .u64 x)) (zig_neg n (by omega) h1), rfl⟩
end Go.Proofs.Ytomfdiomakjeoaa
