/- How numbers are read: wire.TakeVarint and the document's Take; the world stays. -/
import Derived.Test.YtomfdiomakjeoaaWireZig
namespace Go.Proofs.Ytomfdiomakjeoaa
open Go.RowKit

theorem v_none {l : List UInt8} (h : vtake l = none) : vval l = 0 ∧ vlen l = 0 ∧ verr l = 270 := by simp [vval, vlen, verr, h]
theorem v_some {l : List UInt8} {x k : Nat} (h : vtake l = some (x, k)) : vval l = x ∧ vlen l = k ∧ verr l = 0 := by simp [vval, vlen, verr, h]
theorem or_step (k z y : Nat) (hz : z < 128 ^ k) (_ : y < 128) (h : 128 ^ k * (y + 1) ≤ 18446744073709551616) :
    bits .or .u64 (z : Int) (IntKind.u64.wrap ((y : Int) * 2 ^ (7 * k))) = ((z + 128 ^ k * y : Nat) : Int) := by
  have e : (128 : Nat) ^ k = 2 ^ (7 * k) := by rw [Nat.pow_mul]
  rw [Nat.mul_succ] at h
  have hw : IntKind.u64.wrap ((y : Int) * 2 ^ (7 * k)) = ((2 ^ (7 * k) * y : Nat) : Int) := by
    rw [show ((y : Int) * 2 ^ (7 * k)) = ((2 ^ (7 * k) * y : Nat) : Int) by push_cast; rw [Int.mul_comm]]
    refine wrapU .u64 rfl _ ?_
    show _ < 18446744073709551616
    rw [← e]
    have : 0 < 128 ^ k := Nat.pow_pos (by decide)
    omega
  rw [hw, bits_or_nat .u64 rfl _ _ (by show z < 18446744073709551616; omega) (by show _ < 18446744073709551616; rw [← e]; omega), e, Nat.or_comm, ← Nat.two_pow_add_eq_or_of_lt (by rw [← e]; exact hz), Nat.add_comm]
theorem drop_at (l : List UInt8) (k : Nat) (h : k < l.length) : l.drop k = l[k] :: l.drop (k + 1) := List.drop_eq_getElem_cons h

set_option maxRecDepth 100000 in
set_option maxHeartbeats 1000000 in
theorem takevarint_any (a : Option Addr) (l : List UInt8) (n cap : Nat) (w : World) (hn : Hid (n = l.length)) (hc : n ≤ cap) (_ : cap ≤ 9223372036854775807) (hl : RdB w a l) :
    Calls Try.prog 13 #[.slice a n cap] w fun e w' => e = .returned (.tuple #[.int .u64 (vval l : Nat), .int .i64 (vlen l : Nat), .int .i64 (verr l : Nat)]) ∧ w = w' := by
  have HL := Lib.hid hl
  clear hl
  obtain ⟨m, hm1, hm2, hm3, hmm⟩ : ∃ m : Nat, m ≤ n ∧ m ≤ 10 ∧ (m = n ∨ m = 10) ∧ (if (10 : Int) < (n : Int) then (10 : Int) else (n : Int)) = (m : Int) := by
    by_cases h : n < 10
    · exact ⟨n, by omega, by omega, .inl rfl, by rw [if_neg (by omega)]⟩
    · exact ⟨10, by omega, by omega, .inr rfl, by split <;> omega⟩
  go_enter Try.func13, Try.ntmps13
  go_wp2
  go_step3
  go_wp2
  apply wp_label
  go_wp2

  go_loop [5, 6, 7, 8, 15] (fun x r _ _ i => ∃ k z : Nat, k ≤ m ∧ k ≤ 9 ∧ i = .int .i64 k ∧ x = .int .u64 z ∧ r = .int .i64 0 ∧ z < 128 ^ k ∧ vgo k z (128 ^ k) (l.drop k) = vtake l) (fun _ _ _ _ i => m - (intOf i).toNat)
  case atStart => exact ⟨0, 0, by omega, by omega, rfl, rfl, rfl, by simp, rfl⟩
  case round =>
    obtain ⟨k, z, hk, hk9, rfl, rfl, rfl, hz, hg⟩ := hrel
    by_cases hlt : k < m
    · have hkl : k < l.length := by rw [← hn.out]; omega
      obtain ⟨b, off, rfl, hbl, hcl⟩ := RdB.at HL.out (by omega)
      have hck := hcl k hkl
      rw [drop_at l k hkl, vgo] at hg
      have hbt := byte_lt l[k]
      generalize l[k].toNat = y at *
      have HG := Lib.hid hg
      have HZ := Lib.hid hz
      clear hg hz hcl
      have hand : bits .and .u8 (y : Int) 127 = ((y % 128 : Nat) : Int) := (bits_and_nat .u8 rfl y 127 hbt (by decide)).trans (by rw [Nat.and_two_pow_sub_one_eq_mod (n := 7)])
      have hpos : 0 < 128 ^ k := Nat.pow_pos (by decide)
      by_cases h9 : k = 9 ∧ 1 < y
      · have HO : Hid (vtake l = none) := by show _ = _; rw [← HG.out, if_pos h9]
        obtain ⟨rfl, hy1⟩ := h9
        go_wp2
        go_ret3
        obtain ⟨e1, e2, e3⟩ := v_none HO.out
        rw [e1, e2, e3]
        exact ⟨rfl, rfl⟩
      · have hfit : 128 ^ k * (y % 128 + 1) ≤ 18446744073709551616 := by
          by_cases h1 : k = 9
          · subst h1; have : y % 128 ≤ 1 := by omega
            omega
          · have hp : (128 : Nat) ^ k ≤ 128 ^ 8 := Nat.pow_le_pow_right (by decide) (by omega)
            calc 128 ^ k * (y % 128 + 1) ≤ 128 ^ 8 * 128 := Nat.mul_le_mul hp (by omega)
              _ ≤ _ := by decide
        have hor : bits .or .u64 (z : Int) (IntKind.u64.wrap ((y : Int) % 128 * 2 ^ (7 * k))) = ((z + 128 ^ k * (y % 128) : Nat) : Int) := or_step k z (y % 128) HZ.out (Nat.mod_lt _ (by decide)) hfit
        have ht : ((k : Int) == 9 && decide ((1 : Int) < y)) = false := by simp; omega
        by_cases h8 : y < 128
        · have HO : Hid (vtake l = some (z + 128 ^ k * (y % 128), k + 1)) := by
            show _ = _; rw [← HG.out, if_neg h9, if_pos h8, Nat.mod_eq_of_lt h8]
          have hor9 : k = 9 → bits .or .u64 (z : Int) ((y : Int) % 128 * 9223372036854775808) = ((z + 128 ^ k * (y % 128) : Nat) : Int) := by
            intro e
            subst e
            rw [← hor]
            congr 1
            simp only [IntKind.wrap, IntKind.bits, IntKind.signed]; simp; omega
          generalize z + 128 ^ k * (y % 128) = z1 at *
          clear hfit
          by_cases h1 : k = 9
          · have hor8 := hor9 h1
            clear hor9
            subst h1
            have hy1 : decide ((1 : Int) < (y : Int)) = false := by simp; omega
            go_wp2
            go_ret3
            obtain ⟨e1, e2, e3⟩ := v_some HO.out
            rw [e1, e2, e3]
            exact ⟨rfl, rfl⟩
          clear hor9
          go_wp2
          go_ret3
          obtain ⟨e1, e2, e3⟩ := v_some HO.out
          rw [e1, e2, e3]
          exact ⟨rfl, rfl⟩
        · have HO : Hid (vgo (k + 1) (z + 128 ^ k * (y % 128)) (128 ^ (k + 1)) (l.drop (k + 1)) = vtake l) := by
            show _ = _; rw [← HG.out, if_neg h9, if_neg h8, Nat.pow_succ]
          have HZ1 : Hid (z + 128 ^ k * (y % 128) < 128 ^ (k + 1)) := by
            show _ < _
            have := HZ.out
            have h3 : 128 ^ k * (y % 128 + 1) ≤ 128 ^ k * 128 := Nat.mul_le_mul_left _ (Nat.mod_lt _ (by decide))
            rw [Nat.mul_succ] at h3
            rw [Nat.pow_succ]; omega
          generalize z + 128 ^ k * (y % 128) = z1 at *
          have hk8 : k ≠ 9 := fun e => h9 ⟨e, by omega⟩
          clear hfit
          go_wp2
          go_round
          case rel => exact ⟨k + 1, z1, by omega, by omega, by go_num, rfl, rfl, HZ1.out, HO.out⟩
          case measure => simp [intOf]; omega
    · obtain rfl : k = n := by omega
      have HO : Hid (vtake l = none) := by show _ = _; rw [← hg, List.drop_of_length_le (by rw [hn.out]; exact Nat.le_refl _), vgo]
      go_wp2
      go_ret3
      obtain ⟨e1, e2, e3⟩ := v_none HO.out
      rw [e1, e2, e3]
      exact ⟨rfl, rfl⟩
end Go.Proofs.Ytomfdiomakjeoaa
