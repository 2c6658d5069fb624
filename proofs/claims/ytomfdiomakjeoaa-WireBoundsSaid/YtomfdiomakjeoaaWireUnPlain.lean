/- Words that are packed are read as they were; words that are read are packed in as many bytes or fewer: plain Lean. And lexiconlaw17.same. -/
import Derived.Test.YtomfdiomakjeoaaWireUnpack
namespace Go.Proofs.Ytomfdiomakjeoaa
open Go.RowKit

theorem vgo_vput (x : Nat) : ∀ (i acc m : Nat) (r : List UInt8), i ≤ 9 → m = 128 ^ i → m * x < 18446744073709551616 → vgo i acc m (vput x ++ r) = some (acc + m * x, i + (vput x).length) := by
  induction x using Nat.strongRecOn with
  | _ x ih =>
    intro i acc m r hi hm hlt
    have h9 : i = 9 → m = 9223372036854775808 := fun h => by rw [hm, h]
    by_cases hx : x < 128
    · rw [vput_lt hx, List.singleton_append, vgo]
      have hb : (UInt8.ofNat x).toNat = x := by rw [UInt8.toNat_ofNat']; exact Nat.mod_eq_of_lt (by show x < 256; omega)
      rw [hb, if_neg (by rintro ⟨h1, h2⟩; rw [h9 h1] at hlt; omega), if_pos hx]
      rfl
    · rw [vput_ge hx, List.cons_append, vgo]
      have hb : (UInt8.ofNat (128 + x % 128)).toNat = 128 + x % 128 := by rw [UInt8.toNat_ofNat']; exact Nat.mod_eq_of_lt (by show _ < 256; omega)
      have hn9 : i ≠ 9 := by intro h; rw [h9 h] at hlt; omega
      have hdm : m * 128 * (x / 128) + m * (x % 128) = m * x := by
        rw [Nat.mul_assoc, ← Nat.mul_add, Nat.div_add_mod]
      rw [hb, if_neg (by omega), if_neg (by omega), show (128 + x % 128) % 128 = x % 128 by omega,
        ih (x / 128) (by omega) (i + 1) (acc + m * (x % 128)) (m * 128) r (by omega) (by rw [hm, Nat.pow_succ]) (by omega)]
      congr 2
      · omega
      · rw [List.length_cons]; omega
theorem vtake_vput (x : Nat) (hx : x < 18446744073709551616) (r : List UInt8) : vtake (vput x ++ r) = some (x, (vput x).length) := by
  have := vgo_vput x 0 0 1 r (by omega) rfl (by omega)
  simpa [vtake] using this
theorem vgo_lt (l : List UInt8) : ∀ (i acc m : Nat), m = 128 ^ i → acc < m → ∀ p, vgo i acc m l = some p → p.1 < 128 ^ p.2 ∧ 0 < p.2 := by
  induction l with
  | nil => intro i acc m _ _ p h; simp [vgo] at h
  | cons c r ih =>
    intro i acc m hm hacc p h
    rw [vgo] at h
    split at h
    · cases h
    · split at h
      · rename_i h2
        obtain rfl : p = _ := (Option.some.inj h).symm
        refine ⟨?_, by simp⟩
        show acc + m * c.toNat < 128 ^ (i + 1)
        have : m * (c.toNat + 1) ≤ m * 128 := Nat.mul_le_mul_left _ h2
        rw [Nat.pow_succ, ← hm]
        rw [Nat.mul_succ] at this
        omega
      · have hlt : c.toNat % 128 < 128 := Nat.mod_lt _ (by decide)
        have hb : m * (c.toNat % 128 + 1) ≤ m * 128 := Nat.mul_le_mul_left _ hlt
        rw [Nat.mul_succ] at hb
        exact ih (i + 1) _ _ (by rw [hm, Nat.pow_succ]) (by omega) p h
theorem vput_len_take {l : List UInt8} {x k : Nat} (h : vtake l = some (x, k)) : (vput x).length ≤ k := by
  have h1 := vgo_lt l 0 0 1 rfl (by omega) _ h
  obtain ⟨k', rfl⟩ : ∃ k', k = k' + 1 := ⟨k - 1, by have := h1.2; dsimp only at this; omega⟩
  exact vput_len k' x h1.1
theorem wordB_pos (t : Int) (x : Nat) : 0 < (wordB t x).length := by
  unfold wordB
  split
  · by_cases hx : x < 128
    · rw [vput_lt hx]; simp
    · rw [vput_ge hx]; simp
  · rw [lowB_length]; split <;> omega
theorem rdWord_wordB {t : Int} {x : Nat} (ht : t = 0 ∨ t = 1 ∨ t = 5) (hx : x < 18446744073709551616) (hf : fitB t x = true) (r : List UInt8) : rdWord t (wordB t x ++ r) = some (x, (wordB t x).length) := by
  unfold rdWord wordB
  rcases ht with rfl | rfl | rfl
  · rw [if_pos rfl, if_pos rfl]; exact vtake_vput x hx r
  · simp only [show ¬ (1 : Int) = 0 by decide, if_false, if_true]
    rw [lowB_length, if_neg (by rw [List.length_append, lowB_length]; omega), List.take_left' (lowB_length 8 x), leB_lowB 8 x (by exact hx)]
  · have hx32 : x < 256 ^ 4 := by
      unfold fitB at hf
      simp at hf
      omega
    simp only [show ¬ (5 : Int) = 0 by decide, show ¬ (5 : Int) = 1 by decide, if_false]
    rw [lowB_length, if_neg (by rw [List.length_append, lowB_length]; omega), List.take_left' (lowB_length 4 x), leB_lowB 4 x hx32]
theorem unAll_wordsB {t : Int} (ht : t = 0 ∨ t = 1 ∨ t = 5) (l : List Nat) : ∀ n, (wordsB t l).length < n → (∀ x ∈ l, x < 18446744073709551616) → l.all (fitB t) = true → unAll t n (wordsB t l) = some l := by
  induction l with
  | nil => intro n hn _ _; obtain ⟨m, rfl⟩ : ∃ k, n = k + 1 := ⟨n - 1, by omega⟩; exact unAll_nil t m
  | cons x r ih =>
    intro n hn hx hf
    have hw : wordsB t (x :: r) = wordB t x ++ wordsB t r := rfl
    have hp := wordB_pos t x
    rw [hw] at hn ⊢
    rw [List.length_append] at hn
    obtain ⟨m, rfl⟩ : ∃ k, n = k + 1 := ⟨n - 1, by omega⟩
    rw [List.all_cons, Bool.and_eq_true] at hf
    rw [unAll_cons (by intro e; have := congrArg List.length e; rw [List.length_append, List.length_nil] at this; omega), rdWord_wordB ht (hx x (by simp)) hf.1]
    dsimp only
    rw [List.drop_left' rfl, ih m (by omega) (fun y hy => hx y (by simp [hy])) hf.2]
    rfl
theorem unAll_short {t : Int} (ht : t = 0 ∨ t = 1 ∨ t = 5) (n : Nat) : ∀ (b : List UInt8) (k : List Nat), unAll t n b = some k → k.all (fitB t) = true ∧ (∀ x ∈ k, x < 18446744073709551616) ∧ (wordsB t k).length ≤ b.length := by
  induction n with
  | zero => intro b k h; simp [unAll] at h
  | succ n ih =>
    intro b k h
    by_cases hb : b = []
    · subst hb
      rw [unAll_nil] at h
      obtain rfl := Option.some.inj h
      exact ⟨rfl, by simp, by simp [wordsB]⟩
    · rw [unAll_cons hb] at h
      cases hr : rdWord t b with
      | none => rw [hr] at h; cases h
      | some p =>
        obtain ⟨x, j⟩ := p
        rw [hr] at h
        dsimp only at h
        obtain ⟨k', hk', rfl⟩ := Option.map_eq_some_iff.1 h
        obtain ⟨h1, h2, h3⟩ := ih _ _ hk'
        have hp := rdWord_pos hr
        rw [List.length_drop] at h3
        have hlen : (wordB t x).length ≤ j ∧ fitB t x = true := by
          unfold rdWord at hr
          unfold wordB fitB
          rcases ht with rfl | rfl | rfl
          · rw [if_pos rfl] at hr ⊢
            exact ⟨vput_len_take hr, rfl⟩
          · simp only [show ¬ (1 : Int) = 0 by decide, if_false, if_true] at hr ⊢
            rw [lowB_length]
            split at hr
            · cases hr
            · obtain ⟨_, rfl⟩ := Prod.mk.injEq _ _ _ _ ▸ Option.some.inj hr
              exact ⟨Nat.le_refl _, rfl⟩
          · simp only [show ¬ (5 : Int) = 0 by decide, show ¬ (5 : Int) = 1 by decide, if_false] at hr ⊢
            rw [lowB_length]
            split at hr
            · cases hr
            · obtain ⟨rfl, rfl⟩ := Prod.mk.injEq _ _ _ _ ▸ Option.some.inj hr
              have hlt := leB_lt (b.take 4)
              have hlt2 : (256 : Nat) ^ (b.take 4).length ≤ 256 ^ 4 := Nat.pow_le_pow_right (by decide) (by rw [List.length_take]; omega)
              refine ⟨Nat.le_refl _, ?_⟩
              simp
              omega
        refine ⟨by rw [List.all_cons, hlen.2, h1]; rfl, ?_, ?_⟩
        · intro y hy
          rcases List.mem_cons.1 hy with rfl | hy
          · exact hp.2.2
          · exact h2 y hy
        · show (wordB t x ++ wordsB t k').length ≤ _
          rw [List.length_append]
          omega
theorem packOf_err {t : Int} {l : List Nat} (h : (packOf t l).2 ≠ 0) : (packOf t l).1 = [] := by
  unfold packOf at h ⊢
  split at h
  · rename_i h1
    rw [if_pos h1]
    split at h
    · exact absurd rfl h
    · rename_i h2; rw [if_neg h2]
  · rename_i h1; rw [if_neg h1]
theorem unpackOf_err {t : Int} {l : List UInt8} (h : (unpackOf t l).2 ≠ 0) : (unpackOf t l).1 = [] := by
  unfold unpackOf at h ⊢
  split at h
  · rename_i h1; rw [if_pos h1]
  · rename_i h1
    rw [if_neg h1]
    split at h
    · rename_i h2
      rw [if_pos h2]
      split at h
      · rfl
      · exact absurd rfl h
    · rename_i h2; rw [if_neg h2]
theorem packed_back {t : Int} {l : List Nat} (hx : ∀ x ∈ l, x < 18446744073709551616) (h : (packOf t l).2 = 0) : unpackOf t (packOf t l).1 = (l, 0) := by
  unfold packOf at h ⊢
  by_cases h1 : (t = 0 ∨ t = 1 ∨ t = 5) ∧ l.all (fitB t) = true
  · rw [if_pos h1] at h ⊢
    by_cases h2 : (wordsB t l).length ≤ 1048576
    · rw [if_pos h2]
      unfold unpackOf
      dsimp only
      rw [if_neg (by omega), if_pos h1.1, unAll_wordsB h1.1 l _ (by omega) hx h1.2]
    · rw [if_neg h2] at h; cases h
  · rw [if_neg h1] at h; cases h
theorem unpacked_short {t : Int} {b : List UInt8} (h : (unpackOf t b).2 = 0) :
    (∀ x ∈ (unpackOf t b).1, x < 18446744073709551616) ∧ (packOf t (unpackOf t b).1).2 = 0 ∧ (packOf t (unpackOf t b).1).1.length ≤ b.length := by
  unfold unpackOf at h ⊢
  by_cases hl : 1048576 < b.length
  · rw [if_pos hl] at h; cases h
  · rw [if_neg hl] at h ⊢
    by_cases ht : t = 0 ∨ t = 1 ∨ t = 5
    · rw [if_pos ht] at h ⊢
      cases hu : unAll t (b.length + 1) b with
      | none => rw [hu] at h; cases h
      | some k =>
        obtain ⟨h1, h2, h3⟩ := unAll_short ht _ _ _ hu
        dsimp only
        refine ⟨h2, ?_⟩
        unfold packOf
        rw [if_pos ⟨ht, h1⟩, if_pos (by omega)]
        exact ⟨rfl, h3⟩
    · rw [if_neg ht] at h; cases h

set_option maxRecDepth 100000 in
set_option maxHeartbeats 400000 in
theorem same_any (a a2 : Option Addr) (l l2 : List Nat) (n n2 cap cap2 : Nat) (w : World) (hn : Hid (n = l.length)) (hn2 : Hid (n2 = l2.length)) (hc : n ≤ 1000000000) (hc2 : n2 ≤ 1000000000) (hl : RdU w a l) (hl2 : RdU w a2 l2) :
    Calls Try.prog 35 #[.slice a n cap, .slice a2 n2 cap2] w fun e w' => e = .returned (.bool (decide (l = l2))) ∧ Below w.heap.size w w' := by
  have HL := Lib.hid hl
  have HL2 := Lib.hid hl2
  clear hl hl2
  by_cases hnn : n = n2
  · subst hnn
    obtain ⟨r, hr⟩ : ∃ r, decide (l = l2) = r := ⟨_, rfl⟩
    rw [hr]
    have HR := Lib.hid hr
    clear hr
    go_enter Try.func35, Try.ntmps35
    go_wp2
    go_loopw [5] (fun i wr => Below w.heap.size w wr ∧ ∃ k : Nat, k ≤ n ∧ i = .int .i64 k ∧ l.take k = l2.take k) (fun i _ => n - (intOf i).toNat)
    case atStart => exact ⟨Below.refl _ _, 0, Nat.zero_le _, rfl, by simp⟩
    case round =>
      obtain ⟨hb, k, hk, rfl, htk⟩ := hrel
      have HB := Lib.hid hb
      have HTK := Lib.hid htk
      clear hb htk
      by_cases hkn : k < n
      · have hkl : k < l.length := by rw [← hn.out]; omega
        have hkl2 : k < l2.length := by rw [← hn2.out]; omega
        obtain ⟨b1, o1, rfl, hlt1, hcell1⟩ := HL.out.at (by omega)
        obtain ⟨b2, o2, rfl, hlt2, hcell2⟩ := HL2.out.at (by omega)
        have h1 := HB.out.cell (p := ⟨b1, o1 + k, none⟩) hlt1 |>.trans (hcell1 k hkl)
        have h2 := HB.out.cell (p := ⟨b2, o2 + k, none⟩) hlt2 |>.trans (hcell2 k hkl2)
        have HS1 := Lib.hid (List.take_succ_eq_append_getElem hkl)
        have HS2 := Lib.hid (List.take_succ_eq_append_getElem hkl2)
        obtain ⟨x, hx⟩ : ∃ x, l[k] = x := ⟨_, rfl⟩
        obtain ⟨y, hy⟩ : ∃ y, l2[k] = y := ⟨_, rfl⟩
        rw [hx] at h1
        rw [hy] at h2
        have HX := Lib.hid hx
        have HY := Lib.hid hy
        clear hcell1 hcell2 hx hy
        have hb1 : (k : Int) < (n : Int) := by omega
        by_cases hxy : x = y
        · subst hxy
          go_wp2_with fail
          go_quiet (fail)
          go_wp2
          refine ⟨⟨drewN_below HB.out _, k + 1, by omega, by go_num, ?_⟩, by simp [intOf]; omega⟩
          rw [HS1.out, HS2.out, HTK.out, HX.out, HY.out]
        · have hxyb : ((x : Int) != (y : Int)) = true := by simp; omega
          have hf : Hid (r = false) := by
            show _ = _
            rw [← HR.out]
            refine decide_eq_false fun e => hxy ?_
            rw [← HX.out, ← HY.out]
            subst e
            rfl
          go_wp2_with fail
          go_quiet (fail)
          go_wp2
          go_ret
          rw [hf.out]
          exact ⟨rfl, drewN_below HB.out _⟩
      · obtain rfl : k = n := by omega
        have ht : Hid (r = true) := by
          show _ = _
          rw [← HR.out]
          refine decide_eq_true ?_
          have h := HTK.out
          rw [hn.out, List.take_length] at h
          rw [h, ← hn.out, hn2.out, List.take_length]
        go_wp2
        go_ret
        rw [ht.out]
        exact ⟨rfl, HB.out⟩
  · have hne : l ≠ l2 := fun e => hnn (by rw [hn.out, hn2.out, e])
    rw [decide_eq_false hne]
    have hnb : ((n : Int) != (n2 : Int)) = true := by simp; omega
    go_enter Try.func35, Try.ntmps35
    go_wp2
    go_ret
    exact ⟨rfl, Below.refl _ _⟩
end Go.Proofs.Ytomfdiomakjeoaa
