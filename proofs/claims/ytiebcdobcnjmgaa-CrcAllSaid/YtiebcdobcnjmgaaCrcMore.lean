/- The sums of the program: what crc.More, crc.Sum, crc.MoreFinger and crc.Finger hand back; nothing that was there is changed. -/
import Derived.Test.YtiebcdobcnjmgaaCrcTab
namespace Go.Proofs.Ytiebcdobcnjmgaa
open Go.RowKit

theorem table_open : ∃ T : Array Value, (∀ w, Calls Try.prog 17 #[] w fun e w' => e = .returned (.agg T) ∧ Below w.heap.size w w') ∧
    Hid (T.size = 256) ∧ T.all (·.oneCell') = true ∧ Hid (∀ i, i < 256 → T[i]? = some (.int .u32 (stps 3988292384 8 i : Nat))) :=
  ⟨_, table_any, tabOf_size _ _ _ (by omega), tabOf_one _ _ _, fun i h => tabOf_get _ _ i h⟩

theorem comp32 (s : Nat) (h : s < 4294967296) : bits .xor .u32 IntKind.u32.max (s : Int) = ((s ^^^ 4294967295 : Nat) : Int) := by
  rw [Nat.xor_comm]; exact bits_xor_nat .u32 rfl 4294967295 s (by decide) h
theorem xor_comp32 (s : Nat) (h : s < 4294967296) : bits .xor .u32 (s : Int) 4294967295 = ((s ^^^ 4294967295 : Nat) : Int) := bits_xor_nat .u32 rfl s 4294967295 h (by decide)

set_option maxRecDepth 100000 in
set_option maxHeartbeats 400000 in
theorem more_any (s : Nat) (hs : s < 4294967296) (a : Option Addr) (l : List UInt8) (n cap : Nat) (w : World) (hn : Hid (n = l.length)) (hb : n ≤ 9223372036854775807) (hl : RdB w a l) :
    Calls Try.prog 9 #[.int .u32 (s : Int), .slice a n cap] w fun e w' => e = .returned (.int .u32 (more32 s l : Nat)) ∧ Below w.heap.size w w' := by
  have hz := zeroT32
  obtain ⟨T, htab, HTs, HT1, HTg⟩ := table_open
  have hi : (Try.prog.info? 39).map (·.size) = some T.size := by rw [HTs.out]; kernel_rfl
  have HX := Lib.hid htab
  clear htab
  go_enter Try.func9, Try.ntmps9
  go_wp2_with (first | (go_at_call 17; refine (HX.out _).mono ?_; rintro e w1 ⟨rfl, hb1⟩) | (refine wpList_store_row rfl 39 _ _ rfl _ T rfl rfl _ _ (heap_alloc_new _ _) hi (by rw [HTs.out]; simp) HT1 ?_))
  rw [setRow_alloc]
  have hbW := below_trans hb1 (below_alloc (w := w1) (.cells T 39))
  have hTW := heap_alloc_new w1 (.cells T 39)
  have HL := Lib.hid (hl.mono hbW)
  generalize w1.alloc (.cells T 39) = W at *
  generalize w1.heap.size = g at *
  clear hl hz hb1 hi HT1 HTs HX
  have HTW := Lib.hid hTW
  clear hTW
  go_loop [6, 8, 9, 15] (fun r _ _ i => ∃ k : Nat, ∃ x : Nat, k ≤ n ∧ i = .int .i64 k ∧ r = .int .u32 x ∧ x = regs (s ^^^ 4294967295) (l.take k)) (fun _ _ _ i => n - (intOf i).toNat)
  case atStart => exact ⟨0, s ^^^ 4294967295, by omega, rfl, by rw [comp32 s hs], by simp [regs]⟩
  case round =>
    obtain ⟨k, x, hk, rfl, rfl, hx⟩ := hrel
    by_cases hlt : k < n
    · have hkl : k < l.length := by rw [← hn.out]; exact hlt
      obtain ⟨b, off, rfl, hbl, hc⟩ := RdB.at HL.out (by omega)
      have hck := hc k hkl
      have hx1 : Hid (regs (s ^^^ 4294967295) (l.take (k + 1)) = (x / 256) ^^^ stps 3988292384 8 (x % 256 ^^^ l[k].toNat)) := by
        show _ = _
        rw [take_snoc l k hkl, regs_snoc, ← hx, reg1_table]
      have hxl : x < 4294967296 := by rw [hx]; exact regs_lt _ _ (Nat.xor_lt_two_pow (n := 32) hs (by decide))
      have hbt := byte_lt l[k]
      generalize l[k].toNat = y at *
      obtain ⟨m, hm, hm2, hxm⟩ : ∃ m : Nat, m < 256 ∧ bits .xor .u8 ((x : Int) % 256) (y : Int) = (m : Int) ∧ Hid (m = x % 256 ^^^ y) :=
        ⟨_, Nat.xor_lt_two_pow (n := 8) (by omega) hbt, by rw [show ((x : Int) % 256) = ((x % 256 : Nat) : Int) from rfl]; exact bits_xor_nat .u8 rfl _ _ (by show x % 256 < 256; omega) hbt, rfl⟩
      have hcm := cell_row HTW.out (HTg.out m hm)
      have ht : stps 3988292384 8 m < 4294967296 := stps_lt _ 32 (by decide) 8 m (by omega)
      rw [← hxm.out] at hx1
      generalize stps 3988292384 8 m = t at *
      have hbx2 : bits .xor .u32 ((x : Int) / 256) (t : Int) = ((x / 256 ^^^ t : Nat) : Int) := by
        rw [show ((x : Int) / 256) = ((x / 256 : Nat) : Int) from rfl]; exact bits_xor_nat .u32 rfl _ _ (by show x / 256 < 4294967296; omega) ht
      clear hc hx
      go_wp2
      go_round
      case rel => exact ⟨k + 1, _, by omega, by go_num, rfl, hx1.out.symm⟩
      case measure => simp [intOf]; omega
    · obtain rfl : k = n := by omega
      have HR : Hid (x ^^^ 4294967295 = more32 s l) := by
        show _ = _
        rw [hx, hn.out, List.take_length]; rfl
      have hc := comp32 x (by rw [hx]; exact regs_lt _ _ (Nat.xor_lt_two_pow (n := 32) hs (by decide)))
      clear hx
      go_wp2
      go_ret
      exact ⟨by rw [HR.out]; rfl, hbW⟩

theorem fingers_open : ∃ T : Array Value, (∀ w, Calls Try.prog 18 #[] w fun e w' => e = .returned (.agg T) ∧ Below w.heap.size w w') ∧
    Hid (T.size = 256) ∧ T.all (·.oneCell') = true ∧ Hid (∀ i, i < 256 → T[i]? = some (.int .u64 (stps 13933329357911598997 8 i : Nat))) :=
  ⟨_, fingers_any, tabOf_size _ _ _ (by omega), tabOf_one _ _ _, fun i h => tabOf_get _ _ i h⟩

set_option maxRecDepth 100000 in
set_option maxHeartbeats 400000 in
theorem morefinger_any (s : Nat) (hs : s < 18446744073709551616) (a : Option Addr) (l : List UInt8) (n cap : Nat) (w : World) (hn : Hid (n = l.length)) (hb : n ≤ 9223372036854775807) (hl : RdB w a l) :
    Calls Try.prog 10 #[.int .u64 (s : Int), .slice a n cap] w fun e w' => e = .returned (.int .u64 (fins s l : Nat)) ∧ Below w.heap.size w w' := by
  have hz := zeroT64
  obtain ⟨T, htab, HTs, HT1, HTg⟩ := fingers_open
  have hi : (Try.prog.info? 42).map (·.size) = some T.size := by rw [HTs.out]; kernel_rfl
  have HX := Lib.hid htab
  clear htab
  go_enter Try.func10, Try.ntmps10
  go_wp2_with (first | (go_at_call 18; refine (HX.out _).mono ?_; rintro e w1 ⟨rfl, hb1⟩) | (refine wpList_store_row rfl 42 _ _ rfl _ T rfl rfl _ _ (heap_alloc_new _ _) hi (by rw [HTs.out]; simp) HT1 ?_))
  rw [setRow_alloc]
  have hbW := below_trans hb1 (below_alloc (w := w1) (.cells T 42))
  have hTW := heap_alloc_new w1 (.cells T 42)
  have HL := Lib.hid (hl.mono hbW)
  generalize w1.alloc (.cells T 42) = W at *
  generalize w1.heap.size = g at *
  clear hl hz hb1 hi HT1 HTs HX
  have HTW := Lib.hid hTW
  clear hTW
  go_loop [0, 7, 8, 12] (fun r _ _ i => ∃ k : Nat, ∃ x : Nat, k ≤ n ∧ i = .int .i64 k ∧ r = .int .u64 x ∧ x = fins s (l.take k)) (fun _ _ _ i => n - (intOf i).toNat)
  case atStart => exact ⟨0, s, by omega, rfl, rfl, by simp [fins]⟩
  case round =>
    obtain ⟨k, x, hk, rfl, rfl, hx⟩ := hrel
    by_cases hlt : k < n
    · have hkl : k < l.length := by rw [← hn.out]; exact hlt
      obtain ⟨b, off, rfl, hbl, hc⟩ := RdB.at HL.out (by omega)
      have hck := hc k hkl
      have hx1 : Hid (fins s (l.take (k + 1)) = (x / 256) ^^^ stps 13933329357911598997 8 (x % 256 ^^^ l[k].toNat)) := by
        show _ = _
        rw [take_snoc l k hkl, fins_snoc, ← hx]; rfl
      have hxl : x < 18446744073709551616 := by rw [hx]; exact fins_lt _ _ hs
      have hbt := byte_lt l[k]
      generalize l[k].toNat = y at *
      obtain ⟨m, hm, hm2, hxm⟩ : ∃ m : Nat, m < 256 ∧ bits .xor .u8 ((x : Int) % 256) (y : Int) = (m : Int) ∧ Hid (m = x % 256 ^^^ y) :=
        ⟨_, Nat.xor_lt_two_pow (n := 8) (by omega) hbt, by rw [show ((x : Int) % 256) = ((x % 256 : Nat) : Int) from rfl]; exact bits_xor_nat .u8 rfl _ _ (by show x % 256 < 256; omega) hbt, rfl⟩
      have hcm := cell_row HTW.out (HTg.out m hm)
      have ht : stps 13933329357911598997 8 m < 18446744073709551616 := stps_lt _ 64 (by decide) 8 m (by omega)
      rw [← hxm.out] at hx1
      generalize stps 13933329357911598997 8 m = t at *
      have hbx2 : bits .xor .u64 ((x : Int) / 256) (t : Int) = ((x / 256 ^^^ t : Nat) : Int) := by
        rw [show ((x : Int) / 256) = ((x / 256 : Nat) : Int) from rfl]; exact bits_xor_nat .u64 rfl _ _ (by show x / 256 < 18446744073709551616; omega) ht
      clear hc hx
      go_wp2
      go_round
      case rel => exact ⟨k + 1, _, by omega, by go_num, rfl, hx1.out.symm⟩
      case measure => simp [intOf]; omega
    · obtain rfl : k = n := by omega
      have HR : Hid (x = fins s l) := by
        show _ = _
        rw [hx, hn.out, List.take_length]
      clear hx
      go_wp2
      go_ret
      exact ⟨by rw [← HR.out]; rfl, hbW⟩

/-- The fingerprint's first register. -/
def finger64 (l : List UInt8) : Nat := fins 13933329357911598997 l

set_option maxHeartbeats 400000 in
theorem sum_any (a : Option Addr) (l : List UInt8) (n cap : Nat) (w : World) (hn : Hid (n = l.length)) (hb : n ≤ 9223372036854775807) (hl : RdB w a l) :
    Calls Try.prog 7 #[.slice a n cap] w fun e w' => e = .returned (.int .u32 (sum32 l : Nat)) ∧ Below w.heap.size w w' := by
  have HL := Lib.hid hl
  clear hl
  go_enter Try.func7, Try.ntmps7
  go_wp2_with fail
  refine (more_any 0 (by decide) a l n cap _ hn hb HL.out).mono ?_
  rintro e w1 ⟨rfl, hb1⟩
  go_wp2
  go_ret
  exact ⟨rfl, hb1⟩
set_option maxHeartbeats 400000 in
theorem finger_any (a : Option Addr) (l : List UInt8) (n cap : Nat) (w : World) (hn : Hid (n = l.length)) (hb : n ≤ 9223372036854775807) (hl : RdB w a l) :
    Calls Try.prog 8 #[.slice a n cap] w fun e w' => e = .returned (.int .u64 (finger64 l : Nat)) ∧ Below w.heap.size w w' := by
  have HL := Lib.hid hl
  clear hl
  go_enter Try.func8, Try.ntmps8
  go_wp2_with fail
  refine (morefinger_any 13933329357911598997 (by decide) a l n cap _ hn hb HL.out).mono ?_
  rintro e w1 ⟨rfl, hb1⟩
  go_wp2
  go_ret
  exact ⟨rfl, hb1⟩
end Go.Proofs.Ytiebcdobcnjmgaa
