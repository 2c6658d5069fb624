/- pager.low, pager.value, none, Size, space, asked. -/
import Derived.Test.YtagipfkgnobjlaaWlHi
import Derived.Test.YtagipfkgnobjlaaRound
import Derived.Great.BuildSlice
namespace Go.Proofs.Ytagipfkgnobjlaa
open Go.RowKit

attribute [local go_sem] Oper.semAt_some
theorem bits_or_i (a b : Nat) (ha : a < 9223372036854775808) (hb : b < 9223372036854775808) : bits .or .i64 (a : Int) (b : Int) = ((a ||| b : Nat) : Int) := by
  have hlt : a ||| b < 2 ^ 63 := Nat.or_lt_two_pow (by omega) (by omega)
  show IntKind.i64.wrap ((BitVec.ofInt 64 (a : Int) ||| BitVec.ofInt 64 (b : Int)).toNat : Int) = _
  rw [BitVec.ofInt_natCast, BitVec.ofInt_natCast, BitVec.toNat_or, BitVec.toNat_ofNat, BitVec.toNat_ofNat, Nat.mod_eq_of_lt (by omega), Nat.mod_eq_of_lt (by omega)]
  exact IntWalk.i64_in _ (by omega)
theorem or_add (a b k : Nat) (h : a < 2 ^ k) : a ||| b * 2 ^ k = a + b * 2 ^ k := by
  rw [Nat.or_comm, Nat.mul_comm b, ← Nat.two_pow_add_eq_or_of_lt h]
  omega
theorem or4 (y0 y1 y2 y3 : Nat) (h0 : y0 < 256) (h1 : y1 < 256) (h2 : y2 < 256) (h3 : y3 < 256) : bits BinOp.or IntKind.i64 (bits BinOp.or IntKind.i64 (bits BinOp.or IntKind.i64 (y0 : Int) ((y1 : Int) * 256)) ((y2 : Int) * 65536)) ((y3 : Int) * 16777216) = ((y0 + 256 * (y1 + 256 * (y2 + 256 * y3)) : Nat) : Int) := by
  have e1 : ((y1 : Int) * 256) = ((y1 * 2 ^ 8 : Nat) : Int) := by omega
  have e2 : ((y2 : Int) * 65536) = ((y2 * 2 ^ 16 : Nat) : Int) := by omega
  have e3 : ((y3 : Int) * 16777216) = ((y3 * 2 ^ 24 : Nat) : Int) := by omega
  have l1 : y0 + y1 * 2 ^ 8 < 2 ^ 16 := by omega
  have l2 : y0 + y1 * 2 ^ 8 + y2 * 2 ^ 16 < 2 ^ 24 := by omega
  rw [e1, e2, e3, bits_or_i _ _ (by omega) (by omega), or_add _ _ 8 h0, bits_or_i _ _ (by omega) (by omega), or_add _ _ 16 l1, bits_or_i _ _ (by omega) (by omega), or_add _ _ 24 l2]
  congr 1
  omega
set_option maxRecDepth 100000 in
set_option maxHeartbeats 400000 in
theorem plow_any (x : Nat) (hx : x < 4294967296) (w : World) :
    Calls Try.prog 41 #[.int .i64 (x : Int)] w (RetB 5 w (lowB x 4)) := by
  go_enter Try.func41, Try.ntmps41
  go_wp2
  go_ret
  have hc : ((lowB x 4).map bv).toArray = #[Value.int .u8 ((x : Int) % 256), .int .u8 ((x : Int) / 256 % 256), .int .u8 ((x : Int) / 65536 % 256), .int .u8 ((x : Int) / 16777216)] := by
    have e1 : x / 256 / 256 = x / 65536 := by omega
    have e2 : x / 65536 / 256 = x / 16777216 := by omega
    have e3 : x / 16777216 % 256 = x / 16777216 := by omega
    simp only [lowB, List.map_cons, List.map_nil, bv, UInt8.toNat_ofNat', e1, e2]
    simp only [Nat.reducePow, e3]
    rfl
  refine ⟨_, rfl, ?_, below_alloc _⟩
  rw [← hc]
  exact own_of_row (RowAt.new _ _ _) (lowB_length 4 x) (by decide) (Nat.le_refl _)
set_option maxRecDepth 100000 in
set_option maxHeartbeats 400000 in
theorem pvalue_any (w : World) (a : Option Addr) (l : List UInt8) (n cap : Nat) (hn : n = l.length) (hn4 : 4 ≤ n) (hl : RdB w a l) :
    Calls Try.prog 39 #[.slice a n cap] w fun e w' => e = .returned (.int .i64 (leB (l.take 4) : Int)) ∧ Below w.heap.size w w' := by
  obtain ⟨b0, b1, b2, b3, r, rfl⟩ : ∃ b0 b1 b2 b3 r, l = b0 :: b1 :: b2 :: b3 :: r := by
    match l, (by omega : 4 ≤ l.length) with
    | b0 :: b1 :: b2 :: b3 :: r, _ => exact ⟨b0, b1, b2, b3, r, rfl⟩
  · obtain ⟨b, off, rfl, hlt, hc⟩ := RdB.at hl (by simp)
    have c0 := hc 0 (by simp)
    have c1 := hc 1 (by simp)
    have c2 := hc 2 (by simp)
    have c3 := hc 3 (by simp)
    simp only [List.getElem_cons_zero, List.getElem_cons_succ] at c0 c1 c2 c3
    rw [Nat.add_zero] at c0
    have h0 := b0.toNat_lt
    have h1 := b1.toNat_lt
    have h2 := b2.toNat_lt
    have h3 := b3.toNat_lt
    have hnl : (4 : Int) ≤ (n : Int) := by omega
    have hn0 : decide (0 < n) = true := by simp; omega
    have hn1 : decide (1 < n) = true := by simp; omega
    have hn2 : decide (2 < n) = true := by simp; omega
    have hn3 : decide (3 < n) = true := by simp; omega
    have hv : leB ((b0 :: b1 :: b2 :: b3 :: r).take 4) = b0.toNat + 256 * (b1.toNat + 256 * (b2.toNat + 256 * b3.toNat)) := by simp [leB]
    obtain ⟨y0, hy0⟩ : ∃ y, b0.toNat = y := ⟨_, rfl⟩
    obtain ⟨y1, hy1⟩ : ∃ y, b1.toNat = y := ⟨_, rfl⟩
    obtain ⟨y2, hy2⟩ : ∃ y, b2.toNat = y := ⟨_, rfl⟩
    obtain ⟨y3, hy3⟩ : ∃ y, b3.toNat = y := ⟨_, rfl⟩
    rw [hy0, hy1, hy2, hy3] at hv
    rw [hy0] at c0 h0
    rw [hy1] at c1 h1
    rw [hy2] at c2 h2
    rw [hy3] at c3 h3
    rw [hv]
    have h0 : y0 < 256 := h0
    have h1 : y1 < 256 := h1
    have h2 : y2 < 256 := h2
    have h3 : y3 < 256 := h3
    clear hl hc hn hn4 hv hy0 hy1 hy2 hy3
    go_enter Try.func39, Try.ntmps39
    have HOR := Lib.hid (or4 y0 y1 y2 y3 h0 h1 h2 h3)
    go_wp2
    go_big_quiet (fail)
    go_wp2
    go_ret
    exact ⟨by rw [← HOR.out]; rfl, drewN_below (Below.refl _ _) _⟩
theorem DkS.hd {w : World} {S : Nat → Prop} {b : Nat} {D : DK} {F : Nat} (h : DkS w S b D F) : ∃ mv pv fv st, DkHd w b D.size mv pv fv st := by
  obtain ⟨m, pv, fv, fl, st, h, _⟩ := h
  exact ⟨_, _, _, _, h.hd⟩
set_option maxRecDepth 100000 in
theorem dsize_any (w : World) (S : Nat → Prop) (b : Nat) (D : DK) (F : Nat) (h : DkS w S b D F) :
    Calls Try.prog 53 #[.pointer (some ⟨b, 0, none⟩)] w fun e w' => e = .returned (.int .i64 (D.size : Int)) ∧ w' = w := by
  have hs := h.sizes
  obtain ⟨mv, pv, fv, st, hd⟩ := h.hd
  have HN := Lib.hid (none_any w b D.size mv pv fv st hd hs.1)
  have c0 := hd.cells.1
  clear hs hd h
  go_enter Try.func53, Try.ntmps53
  go_wp2_with (go_at_call 21; refine HN.out.mono ?_; rintro _ _ ⟨rfl, rfl⟩)
  go_ret
  exact ⟨rfl, rfl⟩
/-- How many pages there is room for. -/
def spaceP (size : Nat) (log : Int) : Int := if log < 4 then 0 else if (size : Int) < log then 0 else ((size : Int) - log) / 2
theorem spaceP_low {size : Nat} {log : Int} (h : log < 4) : spaceP size log = 0 := by unfold spaceP; rw [if_pos h]
theorem spaceP_high {size : Nat} {log : Int} (h : ¬ log < 4) (h2 : (size : Int) < log) : spaceP size log = 0 := by unfold spaceP; rw [if_neg h, if_pos h2]
theorem spaceP_ok {size : Nat} {log : Int} (h : ¬ log < 4) (h2 : ¬ (size : Int) < log) : spaceP size log = ((size : Int) - log) / 2 := by unfold spaceP; rw [if_neg h, if_neg h2]
set_option maxRecDepth 100000 in
set_option maxHeartbeats 1000000 in
theorem space_any (w : World) (S : Nat → Prop) (b : Nat) (D : DK) (F : Nat) (h : DkS w S b D F) (log : Int) :
    Calls Try.prog 27 #[.pointer (some ⟨b, 0, none⟩), .int .i64 log] w fun e w' => e = .returned (.int .i64 (spaceP D.size log)) ∧ w' = w := by
  have hs := h.sizes
  have HS := Lib.hid (dsize_any w S b D F h)
  obtain ⟨size, hsize⟩ : ∃ x, D.size = x := ⟨_, rfl⟩
  rw [hsize] at hs HS
  rw [hsize]
  obtain ⟨hs1, hs2⟩ := hs
  clear h hsize
  by_cases h1 : log < 4
  · go_enter Try.func27, Try.ntmps27
    go_wp2
    go_ret
    exact ⟨by rw [spaceP_low (by omega)]; rfl, rfl⟩
  · by_cases h2 : (size : Int) < log
    · go_enter Try.func27, Try.ntmps27
      go_wp2_with (go_at_call 53; refine HS.out.mono ?_; rintro _ _ ⟨rfl, rfl⟩)
      go_ret
      exact ⟨by rw [spaceP_high (by omega) (by omega)]; rfl, rfl⟩
    · have hd0 : 0 ≤ (size : Int) - log := by omega
      have hd1 : (size : Int) - log ≤ 65536 := by omega
      have hw : IntKind.i64.wrap ((size : Int) - log) = (size : Int) - log := IntWalk.i64_in _ (by omega)
      have hq : ((size : Int) - log).tdiv 2 = ((size : Int) - log) / 2 := Int.tdiv_eq_ediv_of_nonneg hd0
      have hw2 : IntKind.i64.wrap (((size : Int) - log) / 2) = ((size : Int) - log) / 2 := IntWalk.i64_in _ (by omega)
      go_enter Try.func27, Try.ntmps27
      go_wp2_with (go_at_call 53; refine HS.out.mono ?_; rintro _ _ ⟨rfl, rfl⟩)
      go_ret
      exact ⟨by rw [spaceP_ok (by omega) (by omega)]; rfl, rfl⟩
def askP (size : Nat) (log : Int) : Int := if spaceP size log < 2 then 2 else 0
set_option maxRecDepth 100000 in
set_option maxHeartbeats 1000000 in
theorem pasked_any (w : World) (S : Nat → Prop) (b : Nat) (D : DK) (F : Nat) (h : DkS w S b D F) (log : Int) :
    Calls Try.prog 25 #[.pointer (some ⟨b, 0, none⟩), .int .i64 log] w fun e w' => e = .returned (.int .i64 (askP D.size log)) ∧ w' = w := by
  have hs := h.sizes
  have HS := Lib.hid (dsize_any w S b D F h)
  have HP := Lib.hid (space_any w S b D F h log)
  obtain ⟨size, hsize⟩ : ∃ x, D.size = x := ⟨_, rfl⟩
  rw [hsize] at hs HS HP
  rw [hsize]
  obtain ⟨hs1, hs2⟩ := hs
  have hs0 : ((size : Int) == 0) = false := by simp; omega
  obtain ⟨sp, hsp⟩ : ∃ x, spaceP size log = x := ⟨_, rfl⟩
  have HA : Hid (askP size log = if sp < 2 then 2 else 0) := by show _ = _; unfold askP; rw [hsp]
  rw [hsp] at HP
  clear h hsize hsp
  by_cases h1 : sp < 2
  · go_enter Try.func25, Try.ntmps25
    go_wp2_with (first
      | (go_at_call 53; refine HS.out.mono ?_; rintro _ _ ⟨rfl, rfl⟩)
      | (go_at_call 27; refine HP.out.mono ?_; rintro _ _ ⟨rfl, rfl⟩))
    go_ret
    exact ⟨by rw [HA.out, if_pos (by omega)]; rfl, rfl⟩
  · go_enter Try.func25, Try.ntmps25
    go_wp2_with (first
      | (go_at_call 53; refine HS.out.mono ?_; rintro _ _ ⟨rfl, rfl⟩)
      | (go_at_call 27; refine HP.out.mono ?_; rintro _ _ ⟨rfl, rfl⟩))
    go_ret
    exact ⟨by rw [HA.out, if_neg (by omega)]; rfl, rfl⟩
end Go.Proofs.Ytagipfkgnobjlaa
