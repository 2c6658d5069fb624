/- What crc.Open hands back: the bytes ahead of their sum, in new memory, or an error. -/
import Derived.Test.YtiebcdobcnjmgaaCrcSeal
import Derived.BigQuiet
namespace Go.Proofs.Ytiebcdobcnjmgaa
open Go.RowKit

/-- A call that hands back new bytes that may be written, and an error's number. -/
def RetOpen (w : World) (r : List UInt8 × Nat) (e : Ending) (w' : World) : Prop := ∃ v, e = .returned (.tuple #[v, .int .i64 (r.2 : Int)]) ∧ OwnW w' w.heap.size v (r.1.map bv) ∧ Below w.heap.size w w'

set_option maxRecDepth 100000 in
set_option maxHeartbeats 400000 in
theorem open_any (a : Option Addr) (l : List UInt8) (n cap : Nat) (w : World) (hn : n = l.length) (hb : n ≤ 1000000) (hc : n ≤ cap) (hl : RdB w a l) :
    Calls Try.prog 15 #[.slice a n cap] w (RetOpen w (opened l)) := by
  have HL := Lib.hid hl
  clear hl
  by_cases h4 : n < 4
  · have HO := Lib.hid (opened_short (l := l) (by omega))
    clear hn
    go_enter Try.func15, Try.ntmps15
    go_wp2
    go_step3
    go_wp2
    rw [Exit.noGoto_ret]
    go_ret2
    rw [HO.out]
    exact ⟨_, rfl, ⟨none, 0, rfl, Nat.le_refl _, .inl rfl⟩, Below.refl _ _⟩
  · obtain ⟨k, hk⟩ : ∃ k, n = k + 4 := ⟨n - 4, by omega⟩
    subst hk
    have HN := Lib.hid hn
    clear hn
    have hs : ((k : Int) + 4 - 4) = (k : Int) := by omega
    have hl2 : (l.take k).length = k := by rw [List.length_take, ← HN.out]; omega
    have HL2 := Lib.hid hl2
    clear hl2
    go_enter Try.func15, Try.ntmps15
    go_wp2
    go_step3
    go_wp2_with fail
    refine (seal_any a (l.take k) k cap w HL2.out.symm (by omega) (HL.out.take k)).mono ?_
    rintro e w1 ⟨v, rfl, h1, h2⟩
    generalize hq : l.take k ++ lowB (sum32 (l.take k)) 4 = q at *
    have hql : q.length = k + 4 := by rw [← hq, List.length_append, HL2.out, lowB_length]
    have hq0 : q.take k = l.take k := by rw [← hq, List.take_append_of_le_length (by rw [HL2.out]; exact Nat.le_refl _), List.take_of_length_le (by rw [HL2.out]; exact Nat.le_refl _)]
    have hyes : q = l → opened l = (l.take k, 0) := fun e => by
      have e4 : l.length - 4 = k := by rw [← HN.out]; omega
      have := opened_yes (l := l) (by rw [← HN.out]; omega) (by rw [e4, hq, e])
      rwa [e4] at this
    have hno : q ≠ l → opened l = ([], 110) := fun e => by
      have e4 : l.length - 4 = k := by rw [← HN.out]; omega
      exact opened_no (l := l) (by rw [← HN.out]; omega) (by rw [e4, hq]; exact e)
    obtain ⟨av, cv, rfl, hcv, hr⟩ := h1.rd
    have HW := Lib.hid (OwnW.of_own h1)
    have HQ := Lib.hid hr
    have HQL := Lib.hid hql
    have HQ0 := Lib.hid hq0
    have HY := Lib.hid hyes
    have HNO := Lib.hid hno
    have HB := Lib.hid h2
    have HL1 := Lib.hid (HL.out.mono h2)
    rw [hql] at hcv
    clear h1 hr hq hq0 hyes hno h2
    go_wp2_with fail
    apply wp_label
    go_wp2_with fail
    go_loopw [6, 7] (fun t i wr => ∃ m : Nat, k ≤ m ∧ m ≤ k + 4 ∧ t = .bool true ∧ i = .int .i64 (m : Int) ∧ q.take m = l.take m ∧ Below w1.heap.size w1 wr) (fun _ i _ => k + 4 - (intOf i).toNat)
    case atStart => exact ⟨k, Nat.le_refl _, by omega, rfl, rfl, HQ0.out, Below.refl _ _⟩
    case round =>
      obtain ⟨m, hm0, hm, rfl, rfl, hjt, hbr⟩ := hrel
      have HJ := Lib.hid hjt
      have HBR := Lib.hid hbr
      clear hjt hbr
      by_cases hlt : m < k + 4
      · have hmq : m < q.length := by rw [HQL.out]; exact hlt
        have hml : m < l.length := by rw [← HN.out]; exact hlt
        obtain ⟨b1, o1, rfl, hb1, hc1⟩ := RdB.at (HQ.out.mono HBR.out) (by omega)
        obtain ⟨b2, o2, rfl, hb2, hc2⟩ := RdB.at (HL1.out.mono HBR.out) (by omega)
        have hx := hc1 m hmq
        have hy := hc2 m hml
        clear hc1 hc2
        by_cases heq : q[m] = l[m]
        · have HS : Hid (q.take (m + 1) = l.take (m + 1)) := by
            show _ = _
            rw [take_snoc q m hmq, take_snoc l m hml, HJ.out, heq]
          rw [heq] at hx
          clear heq
          generalize l[m] = y at *
          go_wp2
          go_quiet (fail)
          go_wp2
          go_roundw
          case rel => exact ⟨m + 1, by omega, by omega, rfl, by go_num, HS.out, drewN_below HBR.out _⟩
          case measure => simp [intOf]; omega
        · have hne : ((q[m].toNat : Int) != (l[m].toNat : Int)) = true := by
            simp only [bne_iff_ne, ne_eq, Int.natCast_inj]
            exact fun e => heq (UInt8.toNat_inj.1 e)
          have HO := Lib.hid (HNO.out (fun e => heq (by simp only [e])))
          clear heq
          generalize q[m] = x at *
          generalize l[m] = y at *
          go_wp2
          go_quiet (fail)
          go_wp2
          rw [Exit.noGoto_ret]
          go_ret2
          rw [HO.out]
          exact ⟨_, rfl, ⟨none, 0, rfl, Nat.le_refl _, .inl rfl⟩, below_trans HB.out (drewN_below HBR.out _)⟩
      · obtain rfl : m = k + 4 := by omega
        have HO := Lib.hid (HY.out (by
          have := HJ.out
          rwa [List.take_of_length_le (by rw [HQL.out]; exact Nat.le_refl _), List.take_of_length_le (by rw [HN.out]; exact Nat.le_refl _)] at this))
        go_wp2
        rw [Exit.noGoto_ret]
        go_ret2
        rw [HO.out]
        refine ⟨_, rfl, ?_, below_trans HB.out HBR.out⟩
        have h := (HW.out.kept HBR.out (Nat.le_refl _)).take k k (by omega) (Nat.le_refl _)
        rw [← List.map_take, HQ0.out] at h
        exact h
end Go.Proofs.Ytiebcdobcnjmgaa
