/- Two lists of batches, one as bytes, one as strings: are they the same? cost, right. -/
import Derived.Test.YtmbpacpkabbcgaaWlIter
namespace Go.Proofs.Ytmbpacpkabbcgaa
open Go.RowKit

def strV (b : List UInt8) : Value := .string (str b)
theorem convS (a : Option Addr) (l : List UInt8) (n c : Nat) (S : ByteArray) (hn : n = l.length) (hS : str l = S) (w : World) (h : RdB w a l) : (convert 41 9 (.slice a n c)).run Try.prog w = .ok (.string S) w := by
  subst hS
  exact run_str (P := Try.prog) w 41 9 5 a n c l Try.underlying41 Try.underlying5 Try.underlying9 hn h
theorem str_eqb (l l2 : List UInt8) : ((str l).toList == (str l2).toList) = decide (l = l2) := by
  rw [str_toList, str_toList]
  by_cases e : l = l2
  · rw [decide_eq_true e, e]; simp
  · rw [decide_eq_false e]; simpa using e
set_option maxRecDepth 100000 in
set_option maxHeartbeats 2000000 in
theorem wsame_any (w : World) (base : Nat) (va : Value) (bs : List (List UInt8)) (hB : Bats w base va bs) (hn : bs.length ≤ 1000000) (a : Option Addr) (cs : List (List UInt8)) (m cap : Nat) (hm : m = cs.length) (hm2 : m ≤ 1000000) (hw : Rd w a (cs.map strV)) :
    Calls Try.prog 16 #[va, .slice a m cap] w fun e w' => e = .returned (.bool (decide (bs = cs))) ∧ Below w.heap.size w w' := by
  obtain ⟨av, cv, rfl, hat⟩ := hB.at2
  obtain ⟨n, hnb⟩ : ∃ n, bs.length = n := ⟨_, rfl⟩
  obtain ⟨R, hR⟩ : ∃ R, decide (bs = cs) = R := ⟨_, rfl⟩
  rw [hnb] at hn ⊢
  rw [hR]
  have HR : Hid (R = true ↔ bs = cs) := by show _ ↔ _; rw [← hR]; simp
  have HM := Lib.hid hm
  have HN := Lib.hid hnb
  have HAT := Lib.hid hat
  have HW := Lib.hid hw
  clear hat hR hnb hw hB hm
  by_cases hne : m = n
  · subst hne
    go_enter Try.func16, Try.ntmps16
    go_wp2
    go_loopw [5] (fun i wr => ∃ k : Nat, k ≤ m ∧ i = .int .i64 k ∧ bs.take k = cs.take k ∧ Below w.heap.size w wr) (fun i _ => m - (intOf i).toNat)
    case atStart => exact ⟨0, Nat.zero_le _, rfl, rfl, Below.refl _ _⟩
    case round =>
      obtain ⟨k, hk, rfl, hall, hb⟩ := hrel
      have HALL := Lib.hid hall
      have HB := Lib.hid hb
      clear hall hb
      by_cases hkn : k < m
      · have hkb : k < bs.length := by rw [HN.out]; exact hkn
        have hkc : k < cs.length := by rw [← HM.out]; exact hkn
        obtain ⟨hbk, ho, xa, xc, rfl, -, hlt, hc, hr, -⟩ := HAT.out k hkb
        obtain ⟨b2, o2, rfl, hlt2, hcell⟩ := HW.out.resolve_left (by intro e; have := congrArg List.length e; simp only [List.length_map, List.length_nil] at this; omega)
        have hc2 := hcell k (by simpa using hkc)
        rw [List.getElem_map] at hc2
        have hT1 : bs.take (k + 1) = bs.take k ++ [bs[k]] := (List.take_append_getElem hkb).symm
        have hT2 : cs.take (k + 1) = cs.take k ++ [cs[k]] := (List.take_append_getElem hkc).symm
        have HG1 : Hid (bs[k]? = some bs[k]) := List.getElem?_eq_getElem hkb
        have HG2 : Hid (cs[k]? = some cs[k]) := List.getElem?_eq_getElem hkc
        obtain ⟨x, hx⟩ : ∃ x, bs[k] = x := ⟨_, rfl⟩
        obtain ⟨y, hy⟩ : ∃ x, cs[k] = x := ⟨_, rfl⟩
        rw [hx] at hc hr hT1 HG1
        rw [hy] at hc2 hT2 HG2
        have HT1 := Lib.hid hT1
        have HT2 := Lib.hid hT2
        have c1 := cell_later HB.out hlt hc
        have c2 := cell_later HB.out hlt2 hc2
        obtain ⟨SX, hSX⟩ : ∃ S, str x = S := ⟨_, rfl⟩
        obtain ⟨SY, hSY⟩ : ∃ S, str y = S := ⟨_, rfl⟩
        have he := str_eqb x y
        unfold strV at c2
        rw [hSX, hSY] at he
        rw [hSY] at c2
        obtain ⟨lx, hlx⟩ : ∃ z, x.length = z := ⟨_, rfl⟩
        have hcv : ∀ nq, (convert 41 9 (.slice xa lx xc)).run Try.prog (wr.drewN nq) = .ok (.string SX) (wr.drewN nq) := fun nq => convS xa x lx xc SX hlx.symm hSX _ (hr.mono (drewN_below HB.out nq))
        rw [hlx] at c1
        have hb1 : (k : Int) < (m : Int) := by omega
        clear hcell hc hc2 hr hx hy hT1 hT2 hlx hSX hSY
        by_cases hxy : x = y
        · have HXY := Lib.hid hxy
          rw [decide_eq_true hxy] at he
          clear hxy
          go_wp2_with fail
          go_quiet (fail)
          go_wp2
          refine ⟨⟨k + 1, by omega, by go_num, ?_, drewN_below HB.out _⟩, by simp [intOf]; omega⟩
          rw [HT1.out, HT2.out, HALL.out, HXY.out]
        · have HXY := Lib.hid hxy
          rw [decide_eq_false hxy] at he
          clear hxy
          go_wp2_with fail
          go_quiet (fail)
          go_wp2
          go_ret
          have hRf : R = false := by
            cases R with
            | false => rfl
            | true => exact absurd (Option.some.inj (by rw [← HG1.out, ← HG2.out, HR.out.1 rfl])) HXY.out
          exact ⟨by rw [hRf]; rfl, drewN_below HB.out _⟩
      · obtain rfl : k = m := by omega
        go_wp2
        go_ret
        have h := HALL.out
        rw [List.take_of_length_le (by rw [HN.out]; exact Nat.le_refl _), List.take_of_length_le (by rw [← HM.out]; exact Nat.le_refl _)] at h
        exact ⟨by rw [HR.out.2 h]; rfl, HB.out⟩
  · have hb : ((n : Int) != (m : Int)) = true := by simp; omega
    have hRf : Hid (R = false) := by
      show _ = _
      cases R with
      | false => rfl
      | true =>
        have := HR.out.1 rfl
        rw [this] at HN
        exact absurd (HM.out.trans HN.out) hne
    go_enter Try.func16, Try.ntmps16
    go_wp2
    go_ret
    exact ⟨by rw [hRf.out]; rfl, Below.refl _ _⟩
theorem cost_any (w : World) (n : Nat) (hn : n ≤ 1000000) : Calls Try.prog 13 #[.int .i64 (n : Int)] w fun e w' => e = .returned (.int .i64 (((n + 491) / 488 : Nat) : Int)) ∧ w' = w := by
  have hd : ((n : Int) + 4 + 487).tdiv 488 = (((n + 491) / 488 : Nat) : Int) := by rw [Int.tdiv_eq_ediv_of_nonneg (by omega)]; omega
  go_enter Try.func13, Try.ntmps13
  go_wp2
  go_ret
  first | exact ⟨rfl, rfl⟩ | exact ⟨by rw [hd], rfl⟩
end Go.Proofs.Ytmbpacpkabbcgaa
