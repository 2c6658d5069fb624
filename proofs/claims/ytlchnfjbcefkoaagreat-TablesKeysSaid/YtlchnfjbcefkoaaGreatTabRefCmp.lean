/- The document's Compare of keys. -/
import Derived.Test.YtlchnfjbcefkoaaGreatTabKey
namespace Go.Proofs.YtlchnfjbcefkoaaGreat
open Go.RowKit

theorem cmpK_step {ps qs : List Pt} {k : Nat} (h : k < ps.length) (h2 : k < qs.length) : cmpK (ps.drop k) (qs.drop k) = if cmpP ps[k] qs[k] = 0 then cmpK (ps.drop (k + 1)) (qs.drop (k + 1)) else cmpP ps[k] qs[k] := by
  rw [List.drop_eq_getElem_cons h, List.drop_eq_getElem_cons h2, cmpK]
theorem cmpK_end {ps qs : List Pt} {k : Nat} (h1 : k ≤ ps.length) (h2 : k ≤ qs.length) (h : k = ps.length ∨ k = qs.length) : cmpK (ps.drop k) (qs.drop k) = if ps.length < qs.length then -1 else if qs.length < ps.length then 1 else 0 := by
  rcases h with rfl | rfl
  · rw [List.drop_length]
    cases hd : qs.drop ps.length with
    | nil => have := congrArg List.length hd; simp at this; rw [if_neg (by omega), if_neg (by omega)]; rfl
    | cons q r => have := congrArg List.length hd; simp at this; rw [if_pos (by omega)]; rfl
  · rw [List.drop_length]
    cases hd : ps.drop qs.length with
    | nil => have := congrArg List.length hd; simp at this; rw [if_neg (by omega), if_neg (by omega)]; rfl
    | cons q r => have := congrArg List.length hd; simp at this; rw [if_neg (by omega), if_pos (by omega)]; rfl
theorem cells_at {w wr : World} {b off : Nat} {ps : List Pt} (hlt : b < w.heap.size) (hcell : ∀ k (hk : k < ps.length) j v, (ptC ps[k])[j]? = some v → w.cell? ((⟨b, off + k * 3, none⟩ : Addr).add j) = some v) (hb : Below w.heap.size w wr) (k : Nat) (hk : k < ps.length) :
    wr.cell? ⟨b, off + k * 3, none⟩ = some (.string (str ps[k].s)) ∧ wr.cell? ⟨b, off + k * 3 + 1, none⟩ = some (.int .i64 ps[k].n) ∧ wr.cell? ⟨b, off + k * 3 + 2, none⟩ = some (.bool ps[k].is) := by
  have hA : ∀ j, (⟨b, off + k * 3, none⟩ : Addr).add j = ⟨b, off + k * 3 + j, none⟩ := fun j => by unfold Addr.add; split <;> simp_all
  have H : ∀ j v, (ptC ps[k])[j]? = some v → wr.cell? ⟨b, off + k * 3 + j, none⟩ = some v := fun j v h => by
    rw [← hA]
    exact (hb.cell (p := (⟨b, off + k * 3, none⟩ : Addr).add j) (by rw [hA]; exact hlt)).trans (hcell k hk j v h)
  exact ⟨H 0 _ rfl, H 1 _ rfl, H 2 _ rfl⟩

set_option maxRecDepth 100000 in
set_option maxHeartbeats 40000000 in
theorem refcompare_any (a a2 : Option Addr) (ps qs : List Pt) (n cap n2 cap2 : Nat) (w : World) (hn : Hid (n = ps.length)) (hn2 : Hid (n2 = qs.length)) (_hc : n ≤ cap) (_hc2 : n2 ≤ cap2) (hm : n ≤ 1000000) (hm2 : n2 ≤ 1000000) (hl : RdP w a ps) (hl2 : RdP w a2 qs) :
    Calls Tryz.prog 8 #[.slice a n cap, .slice a2 n2 cap2] w fun e w' => e = .returned (.int .i64 (cmpK ps qs)) ∧ Below w.heap.size w w' := by
  have HL := Lib.hid hl
  have HL2 := Lib.hid hl2
  clear hl hl2
  obtain ⟨R, hR⟩ : ∃ R, cmpK ps qs = R := ⟨_, rfl⟩
  rw [hR]
  have HR := Lib.hid hR
  clear hR
  go_enter Tryz.func8, Tryz.ntmps8
  go_wp2
  go_loopw [5] (fun i wr => ∃ k : Nat, k ≤ n ∧ k ≤ n2 ∧ i = .int .i64 (k : Int) ∧ Below w.heap.size w wr ∧ cmpK (ps.drop k) (qs.drop k) = R) (fun i _ => n - (intOf i).toNat)
  case atStart => exact ⟨0, Nat.zero_le _, Nat.zero_le _, rfl, Below.refl _ _, HR.out⟩
  case round =>
    obtain ⟨k, hk, hk2, rfl, hb, hd⟩ := hrel
    have HB := Lib.hid hb
    have HD := Lib.hid hd
    clear hb hd HR
    by_cases hboth : k < n ∧ k < n2
    · obtain ⟨hkn, hkn2⟩ := hboth
      have hkl : k < ps.length := by rw [← hn.out]; exact hkn
      have hkl2 : k < qs.length := by rw [← hn2.out]; exact hkn2
      obtain ⟨b1, o1, rfl, hlt1, hcell1⟩ := HL.out.at (by omega)
      obtain ⟨b2, o2, rfl, hlt2, hcell2⟩ := HL2.out.at (by omega)
      obtain ⟨c0, c1, c2⟩ := cells_at hlt1 hcell1 HB.out k hkl
      obtain ⟨d0, d1, d2⟩ := cells_at hlt2 hcell2 HB.out k hkl2
      have hst := cmpK_step hkl hkl2
      obtain ⟨⟨s, x, is⟩, hp⟩ : ∃ p, ps[k] = p := ⟨_, rfl⟩
      obtain ⟨⟨s2, x2, is2⟩, hq⟩ : ∃ p, qs[k] = p := ⟨_, rfl⟩
      rw [hp] at c0 c1 c2 hst
      rw [hq] at d0 d1 d2 hst
      rw [HD.out] at hst
      dsimp only at c0 c1 c2 d0 d1 d2
      obtain ⟨S, hS⟩ : ∃ S, str s = S := ⟨_, rfl⟩
      obtain ⟨S2, hS2⟩ : ∃ S, str s2 = S := ⟨_, rfl⟩
      rw [hS] at c0
      rw [hS2] at d0
      have HSL : Hid (S.toList = s) := by show _ = _; rw [← hS, str_toList]
      have HSL2 : Hid (S2.toList = s2) := by show _ = _; rw [← hS2, str_toList]
      have HST := Lib.hid hst
      clear hcell1 hcell2 hp hq hS hS2 hkl hkl2 hst
      cases is with
      | true =>
        cases is2 with
        | true =>
          rcases cmpN_in x x2 with ⟨hv, hlt⟩ | ⟨hv, rfl⟩ | ⟨hv, hgt⟩
          · have HV : Hid (R = -1) := by have := HST.out; simp only [cmpP, if_true] at this; rw [hv] at this; exact this
            clear hv
            go_wp2_with fail
            go_quiet (fail)
            go_wp2
            go_ret
            rw [HV.out]
            first | exact ⟨rfl, drewN_below HB.out _⟩ | exact ⟨rfl, drewN_below (drewN_below HB.out _) _⟩
          · have HV : Hid (cmpK (ps.drop (k + 1)) (qs.drop (k + 1)) = R) := by have := HST.out; simp only [cmpP, if_true] at this; rw [hv] at this; exact this.symm
            clear hv
            have hxx : ¬ x < x := by omega
            go_wp2_with fail
            go_quiet (fail)
            go_wp2_with fail
            go_quiet (fail)
            go_wp2
            go_roundw
            case rel => exact ⟨k + 1, by omega, by omega, by go_num, drewN_below HB.out _, HV.out⟩
            case measure => simp [intOf]; omega
          · have HV : Hid (R = 1) := by have := HST.out; simp only [cmpP, if_true] at this; rw [hv] at this; exact this
            clear hv
            have hb1 : decide (x < x2) = false := decide_eq_false (by omega)
            have hb2 : decide (x2 < x) = true := decide_eq_true hgt
            clear hgt
            go_wp2_with fail
            go_quiet (fail)
            go_wp2_with fail
            go_quiet (fail)
            go_wp2
            go_ret
            rw [HV.out]
            first | exact ⟨rfl, drewN_below HB.out _⟩ | exact ⟨rfl, drewN_below (drewN_below HB.out _) _⟩
        | false =>
          have HV : Hid (R = -1) := HST.out
          go_wp2
          go_ret
          rw [HV.out]
          exact ⟨rfl, HB.out⟩
      | false =>
        cases is2 with
        | true =>
          have HV : Hid (R = 1) := HST.out
          go_wp2
          go_ret
          rw [HV.out]
          exact ⟨rfl, HB.out⟩
        | false =>
          rcases cmpL_in s s2 with ⟨hv, hlt⟩ | ⟨hv, he⟩ | ⟨hv, hgt⟩
          · have HV : Hid (R = -1) := by have := HST.out; simp only [cmpP, Bool.false_eq_true, if_false] at this; rw [hv] at this; exact this
            clear hv
            have hlt1 : Op.bytesLess S.toList S2.toList = true := by rw [HSL.out, HSL2.out]; exact hlt
            go_wp2_with fail
            go_quiet (fail)
            go_wp2
            go_ret
            rw [HV.out]
            first | exact ⟨rfl, drewN_below HB.out _⟩ | exact ⟨rfl, drewN_below (drewN_below HB.out _) _⟩
          · have HV : Hid (cmpK (ps.drop (k + 1)) (qs.drop (k + 1)) = R) := by have := HST.out; simp only [cmpP, Bool.false_eq_true, if_false] at this; rw [hv] at this; exact this.symm
            clear hv
            have hlt1 : Op.bytesLess S.toList S2.toList = false := by rw [HSL.out, HSL2.out, he]; exact bl_irrefl _
            have heq1 : (S.toList == S2.toList) = true := by rw [HSL.out, HSL2.out, he]; simp
            go_wp2_with fail
            go_quiet (fail)
            go_wp2_with fail
            go_quiet (fail)
            go_wp2
            go_roundw
            case rel => exact ⟨k + 1, by omega, by omega, by go_num, drewN_below HB.out _, HV.out⟩
            case measure => simp [intOf]; omega
          · have HV : Hid (R = 1) := by have := HST.out; simp only [cmpP, Bool.false_eq_true, if_false] at this; rw [hv] at this; exact this
            clear hv
            have hlt1 : Op.bytesLess S.toList S2.toList = false := by rw [HSL.out, HSL2.out]; exact bl_asymm _ _ hgt
            have heq1 : (S.toList == S2.toList) = false := by
              rw [HSL.out, HSL2.out]
              have hne : s ≠ s2 := fun e => by rw [e, bl_irrefl] at hgt; cases hgt
              simp [hne]
            go_wp2_with fail
            go_quiet (fail)
            go_wp2_with fail
            go_quiet (fail)
            go_wp2
            go_ret
            rw [HV.out]
            first | exact ⟨rfl, drewN_below HB.out _⟩ | exact ⟨rfl, drewN_below (drewN_below HB.out _) _⟩
    · have hend := cmpK_end (ps := ps) (qs := qs) (k := k) (by rw [← hn.out]; exact hk) (by rw [← hn2.out]; exact hk2) (by rw [← hn.out, ← hn2.out]; omega)
      rw [← hn.out, ← hn2.out, HD.out] at hend
      have HE := Lib.hid hend
      clear hend
      rcases Nat.lt_trichotomy n n2 with hlt | rfl | hgt
      · have HV : Hid (R = -1) := by show _ = _; rw [HE.out, if_pos hlt]
        have hk3 : k = n := by omega
        go_wp2
        go_ret
        rw [HV.out]
        exact ⟨rfl, HB.out⟩
      · have HV : Hid (R = 0) := by show _ = _; rw [HE.out, if_neg (by omega), if_neg (by omega)]
        have hk3 : k = n := by omega
        go_wp2
        go_ret
        rw [HV.out]
        exact ⟨rfl, HB.out⟩
      · have HV : Hid (R = 1) := by show _ = _; rw [HE.out, if_neg (by omega), if_pos hgt]
        have hk3 : k = n2 := by omega
        go_wp2
        go_ret
        rw [HV.out]
        exact ⟨rfl, HB.out⟩
end Go.Proofs.YtlchnfjbcefkoaaGreat
