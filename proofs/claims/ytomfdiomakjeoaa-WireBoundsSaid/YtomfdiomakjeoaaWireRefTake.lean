/- The document's Take: what it hands back; the world stays. -/
import Derived.Test.YtomfdiomakjeoaaWireTake
namespace Go.Proofs.Ytomfdiomakjeoaa
open Go.RowKit

set_option maxRecDepth 100000 in
set_option maxHeartbeats 1000000 in
theorem reftake_any (a : Option Addr) (l : List UInt8) (n cap at0 : Nat) (w : World) (hn : Hid (n = l.length)) (hb : n ≤ 4611686018427387904) (hat : at0 ≤ n) (hl : RdB w a l) :
    Calls Try.prog 14 #[.slice a n cap, .int .i64 (at0 : Int)] w fun e w' => e = .returned (.tuple #[.int .u64 (vval (l.drop at0) : Nat), .int .i64 (at0 + vlen (l.drop at0) : Nat), .bool (verr (l.drop at0) == 0)]) ∧ w = w' := by
  have HL := Lib.hid hl
  clear hl
  go_enter Try.func14, Try.ntmps14
  go_wp2
  go_loop [7, 8, 9, 10] (fun x m i _ => ∃ k z p : Nat, k ≤ 9 ∧ at0 + k ≤ n ∧ i = .int .i64 k ∧ x = .int .u64 z ∧ m = .int .u64 p ∧ p = 128 ^ k ∧ z < 128 ^ k ∧ vgo k z (128 ^ k) (l.drop (at0 + k)) = vtake (l.drop at0)) (fun _ _ i _ => 10 - (intOf i).toNat)
  case atStart => exact ⟨0, 0, 1, by omega, by omega, rfl, rfl, rfl, rfl, by simp, rfl⟩
  case round =>
    obtain ⟨k, z, p, hk9, hkn, rfl, rfl, rfl, hp, hz, hg⟩ := hrel
    by_cases hlt : at0 + k < n
    · have hkl : at0 + k < l.length := by rw [← hn.out]; omega
      obtain ⟨b, off, rfl, hbl, hcl⟩ := RdB.at HL.out (by omega)
      have hck := hcl (at0 + k) hkl
      rw [drop_at l (at0 + k) hkl, vgo] at hg
      have hbt := byte_lt l[at0 + k]
      generalize l[at0 + k].toNat = y at *
      have HG := Lib.hid hg
      have HZ := Lib.hid hz
      have HP := Lib.hid hp
      clear hg hz hcl hp
      have hpos : 0 < 128 ^ k := Nat.pow_pos (by decide)
      by_cases h9 : k = 9 ∧ 1 < y
      · have HO : Hid (vtake (l.drop at0) = none) := by show _ = _; rw [← HG.out, if_pos h9]
        obtain ⟨rfl, hy1⟩ := h9
        go_wp2
        go_ret3
        obtain ⟨e1, e2, e3⟩ := v_none HO.out
        rw [e1, e2, e3]
        exact ⟨rfl, rfl⟩
      · have hfit : 128 ^ k * (y % 128 + 1) ≤ 18446744073709551616 := by
          by_cases h1 : k = 9
          · subst h1; have : y % 128 ≤ 1 := by omega
            omega
          · have hp : (128 : Nat) ^ k ≤ 128 ^ 8 := Nat.pow_le_pow_right (by decide) (by omega)
            calc 128 ^ k * (y % 128 + 1) ≤ 128 ^ 8 * 128 := Nat.mul_le_mul hp (by omega)
              _ ≤ _ := by decide
        rw [← HP.out, Nat.mul_succ] at hfit
        have hz2 := HZ.out
        rw [← HP.out] at hz2
        have hpb : k ≠ 9 → p ≤ 72057594037927936 := by
          intro h; rw [HP.out]
          calc 128 ^ k ≤ 128 ^ 8 := Nat.pow_le_pow_right (by decide) (by omega)
            _ ≤ _ := by decide
        have hp9 : p ≤ 9223372036854775808 := by
          rw [HP.out]
          calc 128 ^ k ≤ 128 ^ 9 := Nat.pow_le_pow_right (by decide) (by omega)
            _ ≤ _ := by decide
        obtain ⟨q, hq⟩ : ∃ q, q = p * (y % 128) := ⟨_, rfl⟩
        have hmul : (p : Int) * ((y : Int) % 128) = (q : Int) := by rw [hq]; push_cast; rfl
        rw [← hq] at hfit
        have HQ := Lib.hid hq
        clear hq
        have ht : ((k : Int) == 9 && decide ((1 : Int) < y)) = false := by simp; omega
        by_cases h8 : y < 128
        · have HO : Hid (vtake (l.drop at0) = some (z + q, k + 1)) := by
            show _ = _; rw [← HG.out, if_neg h9, if_pos h8, HQ.out, HP.out, Nat.mod_eq_of_lt h8]
          clear hpb
          by_cases h1 : k = 9
          · have hy1 : decide ((1 : Int) < (y : Int)) = false := by simp; omega
            subst h1
            go_wp2
            go_ret3
            obtain ⟨e1, e2, e3⟩ := v_some HO.out
            rw [e1, e2, e3]
            exact ⟨rfl, rfl⟩
          · go_wp2
            go_ret3
            obtain ⟨e1, e2, e3⟩ := v_some HO.out
            rw [e1, e2, e3]
            exact ⟨rfl, rfl⟩
        · have hk8 : k ≠ 9 := fun e => h9 ⟨e, by omega⟩
          have hp8 := hpb hk8
          have HO : Hid (vgo (k + 1) (z + q) (128 ^ (k + 1)) (l.drop (at0 + (k + 1))) = vtake (l.drop at0)) := by
            show _ = _; rw [← HG.out, if_neg h9, if_neg h8, Nat.pow_succ, HQ.out, HP.out]; rfl
          have HZ1 : Hid (z + q < 128 ^ (k + 1)) := by
            show _ < _
            have := HZ.out
            have h3 : 128 ^ k * (y % 128 + 1) ≤ 128 ^ k * 128 := Nat.mul_le_mul_left _ (Nat.mod_lt _ (by decide))
            rw [Nat.mul_succ, ← HP.out, ← HQ.out] at h3
            rw [← HP.out] at this
            rw [Nat.pow_succ, ← HP.out]; omega
          clear hpb
          go_wp2
          go_round
          case rel => exact ⟨k + 1, z + q, p * 128, by omega, by omega, by go_num, by go_num, by go_num, by rw [HP.out, Nat.pow_succ], HZ1.out, HO.out⟩
          case measure => simp [intOf]; omega
    · obtain rfl : n = at0 + k := by omega
      have HO : Hid (vtake (l.drop at0) = none) := by show _ = _; rw [← hg, List.drop_of_length_le (by rw [hn.out]; exact Nat.le_refl _), vgo]
      clear hg
      go_wp2
      go_ret3
      obtain ⟨e1, e2, e3⟩ := v_none HO.out
      rw [e1, e2, e3]
      exact ⟨rfl, rfl⟩
end Go.Proofs.Ytomfdiomakjeoaa
