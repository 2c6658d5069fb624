/- Numbers as bytes: wal.low, wal.value; bytes.Clone. -/
import Derived.Test.YtmbpacpkabbcgaaDkSet
namespace Go.Proofs.Ytmbpacpkabbcgaa
open Go.RowKit

/-- The number that the first n bytes say, the lowest first. -/
def leB : List UInt8 → Nat
  | [] => 0
  | x :: r => x.toNat + 256 * leB r
theorem leB_lt (l : List UInt8) : leB l < 256 ^ l.length := by
  induction l with
  | nil => simp [leB]
  | cons x r ih => have := x.toNat_lt; simp only [leB, List.length_cons, Nat.pow_succ]; omega
theorem leB_snoc (l : List UInt8) (x : UInt8) : leB (l ++ [x]) = leB l + 256 ^ l.length * x.toNat := by
  induction l with
  | nil => simp [leB]
  | cons y r ih => simp only [leB, List.cons_append, List.length_cons, ih, Nat.pow_succ, Nat.mul_add]; rw [Nat.mul_comm (256 ^ r.length) 256, Nat.mul_assoc]; omega
theorem leB_lowB (n : Nat) : ∀ x, x < 256 ^ n → leB (lowB x n) = x := by
  induction n with
  | zero => intro x h; simp at h; subst h; rfl
  | succ n ih =>
    intro x h
    simp only [lowB, leB]
    rw [ih (x / 256) (by rw [Nat.pow_succ] at h; omega), UInt8.toNat_ofNat']
    show x % 256 + _ = x
    omega
attribute [local go_sem] Oper.semAt_some
theorem clone_any (a : Option Addr) (l : List UInt8) (n cap : Nat) (w : World) (hn : n = l.length) (hb : n ≤ 100000000) (hl : RdB w a l) :
    Calls Try.prog 36 #[.slice a n cap] w (RetB 5 w l) := by
  have HL := Lib.hid hl
  have hnil := fun w a l c => Lib.run_eql_slice_nil (P := Try.prog) w 41 5 a l c 0 0 Try.underlying41
  cases a with
  | none =>
    obtain rfl : l = [] := by
      rcases hl with h | ⟨b, off, ha, _⟩
      · exact List.map_eq_nil_iff.1 h
      · cases ha
    clear hl
    go_enter Try.func36, Try.ntmps36
    go_wp2
    go_ret
    exact ⟨_, rfl, OwnB.nil _ _ _, Below.refl _ _⟩
  | some ad =>
    clear hl
    have hk := HL.out.mono (below_alloc (w := w) (.cells #[] 5))
    have ho : OwnB (w.alloc (.cells #[] 5)) w.heap.size 5 (.slice (some ⟨w.heap.size, 0, none⟩) 0 0) [] := World.ownsRow_lit w #[] 0 (Nat.le_refl _) (by decide) rfl
    have HK := Lib.hid hk
    have HO := Lib.hid ho
    have HN := Lib.hid hn
    clear hk ho hn
    go_enter Try.func36, Try.ntmps36
    go_wp2_with (at_builtin; refine step_appendB rfl (.tmp 5) (.tmp 6) rfl eltB w.heap.size _ [] rfl _ _ _ l rfl HO.out HN.out HK.out (by rw [← HN.out]; simp; omega) (by simp) ?_; intro v' w' h1 h2)
    go_ret
    exact ⟨_, rfl, by simpa using h1, (below_alloc _).trans h2⟩
set_option maxRecDepth 100000 in
set_option maxHeartbeats 400000 in
theorem low_any (x n : Nat) (hx : x < 18446744073709551616) (hn : n ≤ 1000) (w : World) :
    Calls Try.prog 34 #[.int .u64 (x : Int), .int .i64 (n : Int)] w (RetB 5 w (lowB x n)) := by
  go_enter Try.func34, Try.ntmps34
  go_wp2
  go_loopw [0, 5, 7] (fun s v i wr => ∃ k : Nat, ∃ y : Nat, k ≤ n ∧ y < 18446744073709551616 ∧ i = .int .i64 k ∧ s = .int .u64 y ∧ y = x / 256 ^ k ∧ OwnB wr w.heap.size 5 v (lowB x k) ∧ Below w.heap.size w wr) (fun _ _ i _ => n - (intOf i).toNat)
  case atStart => exact ⟨0, x, by omega, hx, rfl, rfl, by simp, OwnB.nil _ _ _, Below.refl _ _⟩
  case round =>
    obtain ⟨k, y, hk, hy, rfl, rfl, hyk, ho, hb⟩ := hrel
    have HO := Lib.hid ho
    have HB := Lib.hid hb
    have HY := Lib.hid hyk
    clear ho hb hyk
    by_cases hlt : k < n
    · have HC := Lib.hid (rd_byte (w := wr) y ((y : Int) % 256) 5 rfl)
      have HL : Hid (lowB x k ++ [UInt8.ofNat y] = lowB x (k + 1)) := by show _ = _; rw [lowB_snoc, ← HY.out]
      have HL2 := Lib.hid (lowB_length k x)
      go_wp2_with (at_builtin; refine step_appendB rfl (.tmp 9) (.tmp 12) rfl eltB w.heap.size _ (lowB x k) rfl _ _ _ [UInt8.ofNat y] rfl (HO.out.kept (below_alloc _) (Nat.le_refl _)) rfl HC.out (by rw [HL2.out]; simp; omega) (by have := HB.out.size; simp; omega) ?_; intro v' w' h1 h2)
      have h3 := HB.out.trans (((Below.refl _ wr).alloc HB.out.size _).trans h2)
      rw [HL.out] at h1
      have H1 := Lib.hid h1
      have H3 := Lib.hid h3
      clear h1 h2 h3
      go_wp2
      go_roundw
      case rel => exact ⟨k + 1, y / 256, by omega, by omega, by go_num, by go_num, by rw [HY.out, Nat.div_div_eq_div_mul, Nat.pow_succ], H1.out, H3.out⟩
      case measure => simp [intOf]; omega
    · obtain rfl : k = n := by omega
      go_wp2
      go_ret
      exact ⟨_, rfl, HO.out, HB.out⟩
theorem backward_any (w : World) (a : Option Addr) (n cap : Nat) : Calls Try.prog 60 #[.slice a n cap] w fun e w' => e = .returned (.func (.func 61) #[] #[.pointer (some ⟨w.heap.size, 0, none⟩)]) ∧ w' = w.alloc (.cells #[.slice a n cap] 41) := by
  go_enter Try.func60, Try.ntmps60
  go_wp2
  go_ret
  exact ⟨rfl, rfl⟩
theorem rdB_keep {W W' : World} {X : Nat → Prop} {a : Option Addr} {l : List UInt8} (h : RdB W a l) (hk : KeepC X W W') (hx : ∀ b off, a = some ⟨b, off, none⟩ → 0 < l.length → ¬ X b) : RdB W' a l := by
  by_cases h0 : 0 < l.length
  · exact Rd.keepC h hk (fun b off ha _ => hx b off ha h0)
  · exact .inl (by rw [List.eq_nil_of_length_eq_zero (by omega : l.length = 0)]; rfl)
set_option maxRecDepth 100000 in
set_option maxHeartbeats 4000000 in
theorem backward_stops (w : World) (B : Nat) (a : Option Addr) (n cap : Nat) (l : List UInt8) (hn : Hid (n = l.length)) (hb : n ≤ 2000000) (hbox : w.cell? ⟨B, 0, none⟩ = some (.slice a n cap)) (hl : RdB w a l)
    (X : Nat → Prop) (hXB : ¬ X B) (hXa : ∀ b off, a = some ⟨b, off, none⟩ → 0 < l.length → ¬ X b) :
    Stops Try.prog 61 #[.pointer (some ⟨B, 0, none⟩)] X (fun k args _ => ∃ x : UInt8, l[n - 1 - k]? = some x ∧ args = #[.int .i64 ((n - 1 - k : Nat) : Int), .int .u8 (x.toNat : Int)]) l.length w := by
  intro lp J Jx W hW hJ hJx hY h0
  refine callsIn_of_wp Try.func61 rfl trivial ?_ rfl
  simp only [Try.ntmps61, List.size_toArray, List.length_cons, List.length_nil, Nat.reduceAdd, Nat.reduceSub, Array.replicate_succ, Array.replicate_zero, List.push_toArray, List.append_toArray, List.nil_append, List.cons_append]
  have hbl : B < w.heap.size := World.block_lt_of_cell? w _ hbox
  have hbox1 : W.cell? ⟨B, 0, none⟩ = some (.slice a n cap) := (hW.cell (p := ⟨B, 0, none⟩) hbl).trans hbox
  have HBX := Lib.hid hbox1
  have HL := Lib.hid (hl.mono hW)
  have HXA := Lib.hid hXa
  have HXB := Lib.hid hXB
  have HY := Lib.hid hY
  have H0 := Lib.hid h0
  clear hbl hXa hXB hJ hJx hY hbox hl h0 hW
  gi_wp2
  gi_loopw [3] (fun p wr => ∃ k : Nat, k ≤ n ∧ p = .int .i64 ((n : Int) - 1 - (k : Int)) ∧ J k wr ∧ KeepC X W wr) (fun p _ => (intOf p + 1).toNat)
  case atStart => exact ⟨0, Nat.zero_le _, by simp, H0.out, KeepC.refl _ _⟩
  case round =>
    obtain ⟨k, hk, rfl, hJk, hkc⟩ := hrel
    have HJK := Lib.hid hJk
    have HKC := Lib.hid hkc
    clear hJk hkc hbox1
    by_cases hlt : k < n
    · obtain ⟨q, hq⟩ : ∃ q : Nat, n - 1 - k = q := ⟨_, rfl⟩
      have hqi : (n : Int) - 1 - (k : Int) = (q : Int) := by omega
      have hkl : q < l.length := by rw [← hn.out]; omega
      have hbx := HKC.out.cell HBX.out HXB.out
      obtain ⟨b2, off, rfl, hlt2, hcell⟩ := (rdB_keep HL.out HKC.out HXA.out).at (by omega)
      have c0 := hcell q hkl
      obtain ⟨x, hx⟩ : ∃ x, l[q] = x := ⟨_, rfl⟩
      rw [hx] at c0
      obtain ⟨fn, tmps, assign, body, hy, hR⟩ := HY.out k #[.int .i64 (q : Int), .int .u8 (x.toNat : Int)] wr (by rw [← hn.out]; exact hlt) ⟨x, by rw [hq, ← hx]; exact List.getElem?_eq_getElem hkl, by rw [hq]⟩ HKC.out HJK.out
      have HR := Lib.hid hR
      have hb0 : (0 : Int) ≤ (q : Int) := by omega
      have hb1 : (q : Int) < (n : Int) := by omega
      rw [hqi]
      clear hcell hx hR
      gi_wp2_with fail
      refine HR.out.mono ?_
      rintro e W3 (⟨rfl, hJ3, hk3⟩ | ⟨rfl, hJx3⟩)
      · have HJ3 := Lib.hid hJ3
        have HK3 := Lib.hid (HKC.out.trans hk3)
        clear hJ3 hk3 c0 hy hbx
        gi_wp2
        go_roundw
        case rel => exact ⟨k + 1, by omega, by go_num, HJ3.out, HK3.out⟩
        case measure => first | (simp [intOf]; done) | (simp [intOf]; omega)
      · have HJ3 := Lib.hid hJx3
        clear hJx3 c0 hy hbx
        gi_wp2
        exact bodyPost_ret (results_none rfl _ _ _) rfl ⟨⟨_, rfl⟩, .inr ⟨k, by rw [← hn.out]; exact hlt, HJ3.out⟩⟩
    · obtain rfl : k = n := by omega
      have hneg : (k : Int) - 1 - (k : Int) = -1 := by omega
      rw [hneg]
      gi_wp2
      go_end0
      exact ⟨⟨_, rfl⟩, .inl (hn.out ▸ HJK.out)⟩
end Go.Proofs.Ytmbpacpkabbcgaa
