/- The document's sums (lexiconref01.Sum, Finger), low bytes (Low) and both Seals, bytes.Clone: what each hands back; nothing that was there is changed. -/
import Derived.Test.YtiebcdobcnjmgaaCrcMore
namespace Go.Proofs.Ytiebcdobcnjmgaa
open Go.RowKit

theorem eltB : Elt Try.prog 22 5 1 1 (.int .u8 0) := ⟨Try.underlying22, by kernel_rfl, rfl, by decide⟩

set_option maxRecDepth 100000 in
set_option maxHeartbeats 400000 in
theorem refsum_any (a : Option Addr) (l : List UInt8) (n cap : Nat) (w : World) (hn : Hid (n = l.length)) (hb : n ≤ 9223372036854775807) (hl : RdB w a l) :
    Calls Try.prog 11 #[.slice a n cap] w fun e w' => e = .returned (.int .u32 (sum32 l : Nat)) ∧ w = w' := by
  have HL := Lib.hid hl
  clear hl
  go_enter Try.func11, Try.ntmps11
  go_wp2
  go_loop [3, 4, 5, 6] (fun r i _ _ => ∃ k : Nat, ∃ x : Nat, k ≤ n ∧ i = .int .i64 k ∧ r = .int .u32 x ∧ x = regs 4294967295 (l.take k)) (fun _ i _ _ => n - (intOf i).toNat)
  case atStart => exact ⟨0, 4294967295, by omega, rfl, rfl, by simp [regs]⟩
  case round =>
    obtain ⟨k, x, hk, rfl, rfl, hx⟩ := hrel
    have hxl : x < 4294967296 := by rw [hx]; exact regs_lt _ _ (by decide)
    by_cases hlt : k < n
    · have hkl : k < l.length := by rw [← hn.out]; exact hlt
      obtain ⟨b, off, rfl, hbl, hc⟩ := RdB.at HL.out (by omega)
      have hck := hc k hkl
      have hx1 : Hid (regs 4294967295 (l.take (k + 1)) = stps 3988292384 8 (x ^^^ l[k].toNat)) := by
        show _ = _
        rw [take_snoc l k hkl, regs_snoc, ← hx]; rfl
      have hbt := byte_lt l[k]
      generalize l[k].toNat = y at *
      obtain ⟨m, hm, hm2, hxm⟩ : ∃ m : Nat, m < 4294967296 ∧ bits .xor .u32 (x : Int) (y : Int) = (m : Int) ∧ Hid (m = x ^^^ y) :=
        ⟨_, Nat.xor_lt_two_pow (n := 32) hxl (by omega), bits_xor_nat .u32 rfl _ _ hxl (by show y < 4294967296; omega), rfl⟩
      rw [← hxm.out] at hx1
      clear hc hx
      go_wp2
      go_loop [3, 5, 6] (fun r j _ => ∃ i : Nat, ∃ z : Nat, i ≤ 8 ∧ j = .int .i64 i ∧ r = .int .u32 z ∧ z = stps 3988292384 i m) (fun _ j _ => 8 - (intOf j).toNat)
      case atStart => exact ⟨0, m, by omega, rfl, rfl, rfl⟩
      case round =>
        obtain ⟨i, z, hi, rfl, rfl, hz⟩ := hrel
        have hzl : z < 4294967296 := by rw [hz]; exact stps_lt _ 32 (by decide) _ _ hm
        by_cases hi8 : i < 8
        · have HZ := Lib.hid hz
          clear hz
          by_cases h2 : z % 2 = 1
          · have ht : ((z : Int) % 2 == 1) = true := by simp; omega
            have hxx : bits .xor .u32 ((z : Int) / 2) 3988292384 = ((z / 2 ^^^ 3988292384 : Nat) : Int) := by
              rw [show ((z : Int) / 2) = ((z / 2 : Nat) : Int) from rfl]; exact bits_xor_nat .u32 rfl (z / 2) 3988292384 (by show z / 2 < 4294967296; omega) (by decide)
            have HR : Hid (z / 2 ^^^ 3988292384 = stps 3988292384 (i + 1) m) := by
              show _ = stp _ _
              rw [← HZ.out]; unfold stp; rw [if_pos h2]
            clear h2
            go_wp2
            go_round
            case rel => exact ⟨i + 1, _, by omega, by go_num, rfl, HR.out⟩
            case measure => simp [intOf]; omega
          · have ht : ((z : Int) % 2 == 1) = false := by simp; omega
            have HR : Hid (z / 2 = stps 3988292384 (i + 1) m) := by
              show _ = stp _ _
              rw [← HZ.out]; unfold stp; rw [if_neg h2]
            clear h2
            go_wp2
            go_round
            case rel => exact ⟨i + 1, z / 2, by omega, by go_num, by go_num, HR.out⟩
            case measure => simp [intOf]; omega
        · obtain rfl : i = 8 := by omega
          have HZ := Lib.hid hz
          clear hz
          go_wp2
          go_round
          case rel => exact ⟨k + 1, z, by omega, by go_num, rfl, by rw [hx1.out, HZ.out]⟩
          case measure => simp [intOf]; omega
    · obtain rfl : k = n := by omega
      have HR : Hid (x ^^^ 4294967295 = sum32 l) := by
        show _ = _
        rw [hx, hn.out, List.take_length]; rfl
      have hc := xor_comp32 x hxl
      clear hx
      go_wp2
      go_ret
      exact ⟨by rw [HR.out]; rfl, rfl⟩

set_option maxRecDepth 100000 in
set_option maxHeartbeats 400000 in
theorem reffinger_any (a : Option Addr) (l : List UInt8) (n cap : Nat) (w : World) (hn : Hid (n = l.length)) (hb : n ≤ 9223372036854775807) (hl : RdB w a l) :
    Calls Try.prog 12 #[.slice a n cap] w fun e w' => e = .returned (.int .u64 (finger64 l : Nat)) ∧ w = w' := by
  have HL := Lib.hid hl
  clear hl
  go_enter Try.func12, Try.ntmps12
  go_wp2
  go_loop [3, 4, 5, 6, 7] (fun r i _ _ _ => ∃ k : Nat, ∃ x : Nat, k ≤ n ∧ i = .int .i64 k ∧ r = .int .u64 x ∧ x = fins 13933329357911598997 (l.take k)) (fun _ i _ _ _ => n - (intOf i).toNat)
  case atStart => exact ⟨0, 13933329357911598997, by omega, rfl, rfl, by simp [fins]⟩
  case round =>
    obtain ⟨k, x, hk, rfl, rfl, hx⟩ := hrel
    have hxl : x < 18446744073709551616 := by rw [hx]; exact fins_lt _ _ (by decide)
    by_cases hlt : k < n
    · have hkl : k < l.length := by rw [← hn.out]; exact hlt
      obtain ⟨b, off, rfl, hbl, hc⟩ := RdB.at HL.out (by omega)
      have hck := hc k hkl
      have hx1 : Hid (fins 13933329357911598997 (l.take (k + 1)) = (x / 256) ^^^ stps 13933329357911598997 8 ((x ^^^ l[k].toNat) % 256)) := by
        show _ = _
        rw [take_snoc l k hkl, fins_snoc, ← hx, xor_lo _ _ (byte_lt _)]; rfl
      have hbt := byte_lt l[k]
      generalize l[k].toNat = y at *
      obtain ⟨m, hm, hm2, hxm⟩ : ∃ m : Nat, m < 18446744073709551616 ∧ bits .xor .u64 (x : Int) (y : Int) = (m : Int) ∧ Hid (m = x ^^^ y) :=
        ⟨_, Nat.xor_lt_two_pow (n := 64) hxl (by omega), bits_xor_nat .u64 rfl _ _ hxl (by show y < 18446744073709551616; omega), rfl⟩
      rw [← hxm.out] at hx1
      clear hc hx
      go_wp2
      go_loop [5, 6, 7] (fun r j _ => ∃ i : Nat, ∃ z : Nat, i ≤ 8 ∧ j = .int .i64 i ∧ r = .int .u64 z ∧ z = stps 13933329357911598997 i (m % 256)) (fun _ j _ => 8 - (intOf j).toNat)
      case atStart => exact ⟨0, m % 256, by omega, rfl, by go_num, rfl⟩
      case round =>
        obtain ⟨i, z, hi, rfl, rfl, hz⟩ := hrel
        have hzl : z < 18446744073709551616 := by rw [hz]; exact stps_lt _ 64 (by decide) _ _ (by omega)
        by_cases hi8 : i < 8
        · have HZ := Lib.hid hz
          clear hz
          by_cases h2 : z % 2 = 1
          · have ht : ((z : Int) % 2 == 1) = true := by simp; omega
            have hxx : bits .xor .u64 ((z : Int) / 2) 13933329357911598997 = ((z / 2 ^^^ 13933329357911598997 : Nat) : Int) := by
              rw [show ((z : Int) / 2) = ((z / 2 : Nat) : Int) from rfl]; exact bits_xor_nat .u64 rfl (z / 2) 13933329357911598997 (by show z / 2 < 18446744073709551616; omega) (by decide)
            have HR : Hid (z / 2 ^^^ 13933329357911598997 = stps 13933329357911598997 (i + 1) (m % 256)) := by
              show _ = stp _ _
              rw [← HZ.out]; unfold stp; rw [if_pos h2]
            clear h2
            go_wp2
            go_round
            case rel => exact ⟨i + 1, _, by omega, by go_num, rfl, HR.out⟩
            case measure => simp [intOf]; omega
          · have ht : ((z : Int) % 2 == 1) = false := by simp; omega
            have HR : Hid (z / 2 = stps 13933329357911598997 (i + 1) (m % 256)) := by
              show _ = stp _ _
              rw [← HZ.out]; unfold stp; rw [if_neg h2]
            clear h2
            go_wp2
            go_round
            case rel => exact ⟨i + 1, z / 2, by omega, by go_num, by go_num, HR.out⟩
            case measure => simp [intOf]; omega
        · obtain rfl : i = 8 := by omega
          have HZ := Lib.hid hz
          clear hz
          have hxx : bits .xor .u64 ((x : Int) / 256) (z : Int) = ((x / 256 ^^^ z : Nat) : Int) := by
            rw [show ((x : Int) / 256) = ((x / 256 : Nat) : Int) from rfl]; exact bits_xor_nat .u64 rfl _ _ (by show x / 256 < 18446744073709551616; omega) hzl
          go_wp2
          go_round
          case rel => exact ⟨k + 1, x / 256 ^^^ z, by omega, by go_num, rfl, by rw [hx1.out, HZ.out]⟩
          case measure => simp [intOf]; omega
    · obtain rfl : k = n := by omega
      have HR : Hid (x = finger64 l) := by
        show _ = _
        rw [hx, hn.out, List.take_length]; rfl
      clear hx
      go_wp2
      go_ret
      exact ⟨by rw [← HR.out]; rfl, rfl⟩

set_option maxHeartbeats 400000 in
theorem clone_any (a : Option Addr) (l : List UInt8) (n cap : Nat) (w : World) (hn : n = l.length) (hb : n ≤ 140737488355328) (hl : RdB w a l) :
    Calls Try.prog 19 #[.slice a n cap] w (RetB 5 w l) := by
  have hnil := fun w a l c => Lib.run_eql_slice_nil (P := Try.prog) w 22 5 a l c 0 0 Try.underlying22
  have HL := Lib.hid hl
  cases a with
  | none =>
    obtain rfl : l = [] := by
      rcases hl with h | ⟨b, off, ha, _⟩
      · exact List.map_eq_nil_iff.1 h
      · cases ha
    clear hl
    go_enter Try.func19, Try.ntmps19
    go_wp2
    go_ret
    exact ⟨_, rfl, OwnB.nil _ _ _, Below.refl _ _⟩
  | some ad =>
    clear hl
    have hk := HL.out.mono (below_alloc (w := w) (.cells #[] 5))
    have ho : OwnB (w.alloc (.cells #[] 5)) w.heap.size 5 (.slice (some ⟨w.heap.size, 0, none⟩) 0 0) [] := World.ownsRow_lit w #[] 0 (Nat.le_refl _) (by decide) rfl
    have HK := Lib.hid hk
    have HO := Lib.hid ho
    have HN := Lib.hid hn
    clear hk ho hn
    go_enter Try.func19, Try.ntmps19
    go_wp2_with (at_builtin; refine step_appendB rfl (.tmp 5) (.tmp 6) rfl eltB w.heap.size _ [] rfl _ _ _ l rfl HO.out HN.out HK.out (by rw [← HN.out]; simpa using hb) (by simp) ?_; intro v' w' h1 h2)
    go_ret
    exact ⟨_, rfl, by simpa using h1, (below_alloc _).trans h2⟩

set_option maxRecDepth 100000 in
set_option maxHeartbeats 400000 in
theorem low_any (x n : Nat) (hx : x < 18446744073709551616) (hn : n ≤ 1000) (w : World) :
    Calls Try.prog 20 #[.int .u64 (x : Int), .int .i64 (n : Int)] w (RetB 5 w (lowB x n)) := by
  go_enter Try.func20, Try.ntmps20
  go_wp2
  go_loopw [0, 5, 6] (fun s v i wr => ∃ k : Nat, ∃ y : Nat, k ≤ n ∧ y < 18446744073709551616 ∧ i = .int .i64 k ∧ s = .int .u64 y ∧ y = x / 256 ^ k ∧ OwnB wr w.heap.size 5 v (lowB x k) ∧ Below w.heap.size w wr) (fun _ _ i _ => n - (intOf i).toNat)
  case atStart => exact ⟨0, x, by omega, hx, rfl, rfl, by simp, OwnB.nil _ _ _, Below.refl _ _⟩
  case round =>
    obtain ⟨k, y, hk, hy, rfl, rfl, hyk, ho, hb⟩ := hrel
    have HO := Lib.hid ho
    have HB := Lib.hid hb
    have HY := Lib.hid hyk
    clear ho hb hyk
    by_cases hlt : k < n
    · have HC := Lib.hid (rd_byte (w := wr) y ((y : Int) % 256) 5 rfl)
      have HL : Hid (lowB x k ++ [UInt8.ofNat y] = lowB x (k + 1)) := by show _ = _; rw [lowB_snoc, ← HY.out]
      have HL2 := Lib.hid (lowB_length k x)
      go_wp2_with (at_builtin; refine step_appendB rfl (.tmp 12) (.tmp 16) rfl eltB w.heap.size _ (lowB x k) rfl _ _ _ [UInt8.ofNat y] rfl (HO.out.kept (below_alloc _) (Nat.le_refl _)) rfl HC.out (by rw [HL2.out]; simp; omega) (by have := HB.out.size; simp; omega) ?_; intro v' w' h1 h2)
      have h3 := HB.out.trans (((Below.refl _ wr).alloc HB.out.size _).trans h2)
      rw [HL.out] at h1
      have H1 := Lib.hid h1
      have H3 := Lib.hid h3
      clear h1 h2 h3
      go_wp2
      go_roundw
      case rel => exact ⟨k + 1, y / 256, by omega, by omega, by go_num, by go_num, by rw [HY.out, Nat.div_div_eq_div_mul, Nat.pow_succ], H1.out, H3.out⟩
      case measure => simp [intOf]; omega
    · obtain rfl : k = n := by omega
      go_wp2
      go_ret
      exact ⟨_, rfl, HO.out, HB.out⟩

set_option maxRecDepth 100000 in
set_option maxHeartbeats 400000 in
theorem seal_any (a : Option Addr) (l : List UInt8) (n cap : Nat) (w : World) (hn : n = l.length) (hb : n ≤ 1000000) (hl : RdB w a l) :
    Calls Try.prog 13 #[.slice a n cap] w (RetB 5 w (l ++ lowB (sum32 l) 4)) := by
  have HL := Lib.hid hl
  have HN := Lib.hid hn
  clear hl hn
  go_enter Try.func13, Try.ntmps13
  go_wp2_with fail
  refine (clone_any a l n cap w HN.out (by omega) HL.out).mono ?_
  rintro e w1 ⟨v, rfl, h1, h2⟩
  have H1 := Lib.hid h1
  have H2 := Lib.hid h2
  clear h1 h2
  go_wp2_with fail
  refine (sum_any a l n cap w1 HN (by omega) (HL.out.mono H2.out)).mono ?_
  rintro e w2 ⟨rfl, h3⟩
  have H3 := Lib.hid (H1.out.kept h3 (Nat.le_refl _))
  have H4 := Lib.hid (below_trans H2.out h3)
  clear h3
  have hs := sum32_lt l
  generalize sum32 l = x at *
  go_wp2
  go_loopw [3, 4, 5] (fun v s i wr => ∃ k : Nat, ∃ y : Nat, k ≤ 4 ∧ y < 4294967296 ∧ i = .int .i64 k ∧ s = .int .u32 y ∧ y = x / 256 ^ k ∧ OwnB wr w.heap.size 5 v (l ++ lowB x k) ∧ Below w.heap.size w wr) (fun _ _ i _ => 4 - (intOf i).toNat)
  case atStart => exact ⟨0, x, by omega, hs, rfl, rfl, by simp, by simpa [lowB] using H3.out, H4.out⟩
  case round =>
    obtain ⟨k, y, hk, hy, rfl, rfl, hyk, ho, hb⟩ := hrel
    have HO := Lib.hid ho
    have HB := Lib.hid hb
    have HY := Lib.hid hyk
    clear ho hb hyk
    by_cases hlt : k < 4
    · have HC := Lib.hid (rd_byte (w := wr) y ((y : Int) % 256) 5 rfl)
      have HS : Hid (l ++ lowB x k ++ [UInt8.ofNat y] = l ++ lowB x (k + 1)) := by show _ = _; rw [lowB_snoc, ← HY.out, List.append_assoc]
      have HL2 := Lib.hid (lowB_length k x)
      go_wp2_with (at_builtin; refine step_appendB rfl (.tmp 14) (.tmp 17) rfl eltB w.heap.size _ (l ++ lowB x k) rfl _ _ _ [UInt8.ofNat y] rfl (HO.out.kept (below_alloc _) (Nat.le_refl _)) rfl HC.out (by rw [List.length_append, HL2.out, ← HN.out]; simp; omega) (by have := HB.out.size; simp; omega) ?_; intro v' w' h1 h2)
      have h3 := HB.out.trans (((Below.refl _ wr).alloc HB.out.size _).trans h2)
      rw [HS.out] at h1
      have H1 := Lib.hid h1
      have H3 := Lib.hid h3
      clear h1 h2 h3
      go_wp2
      go_roundw
      case rel => exact ⟨k + 1, y / 256, by omega, by omega, by go_num, by go_num, by rw [HY.out, Nat.div_div_eq_div_mul, Nat.pow_succ], H1.out, H3.out⟩
      case measure => simp [intOf]; omega
    · obtain rfl : k = 4 := by omega
      go_wp2
      go_ret
      exact ⟨_, rfl, HO.out, HB.out⟩

set_option maxRecDepth 100000 in
set_option maxHeartbeats 400000 in
theorem refseal_any (a : Option Addr) (l : List UInt8) (n cap : Nat) (w : World) (hn : n = l.length) (hb : n ≤ 1000000) (hl : RdB w a l) :
    Calls Try.prog 14 #[.slice a n cap] w (RetB 5 w (l ++ lowB (sum32 l) 4)) := by
  have HL := Lib.hid hl
  have HN := Lib.hid hn
  clear hl hn
  go_enter Try.func14, Try.ntmps14
  go_wp2_with (at_builtin; refine step_appendB rfl (.const (.slice none 0 0)) (.tmp 4) rfl eltB w.heap.size _ [] rfl _ _ _ l rfl (OwnB.nil _ _ _) HN.out HL.out (by rw [← HN.out]; simp; omega) (Nat.le_refl _) ?_; intro v1 w1 h1 h2)
  have H1 := Lib.hid h1
  have H2 := Lib.hid h2
  clear h1 h2
  refine (refsum_any a l n cap w1 HN (by omega) (HL.out.mono H2.out)).mono ?_
  rintro e _ ⟨rfl, rfl⟩
  have hs := sum32_lt l
  generalize sum32 l = x at *
  go_wp2_with fail
  refine (low_any x 4 (by omega) (by omega) _).mono ?_
  rintro e w2 ⟨v2, rfl, h3, h4⟩
  obtain ⟨a2, c2, rfl, hc2, h5⟩ := h3.rd
  have H3 := Lib.hid (H1.out.kept h4 (Nat.le_refl _))
  have H4 := Lib.hid (below_trans H2.out h4)
  have H5 := Lib.hid h5
  have HQ := Lib.hid (lowB_length 4 x)
  clear h3 h4 h5
  generalize hq : lowB x 4 = q at *
  have HE := Lib.hid hq
  clear hq
  go_wp2_with (at_builtin; refine step_appendB rfl (.tmp 6) (.tmp 10) rfl eltB w.heap.size _ ([] ++ l) rfl _ _ _ q rfl H3.out rfl H5.out (by rw [HQ.out, List.nil_append, ← HN.out]; omega) H4.out.size ?_; intro v' w' h1 h2)
  go_ret
  exact ⟨_, rfl, by simpa using h1, H4.out.trans h2⟩
end Go.Proofs.Ytiebcdobcnjmgaa
