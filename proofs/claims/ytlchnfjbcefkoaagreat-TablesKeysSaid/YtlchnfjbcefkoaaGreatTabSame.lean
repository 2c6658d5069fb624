/- sameKey of the law: are two keys the same? -/
import Derived.Test.YtlchnfjbcefkoaaGreatTabRefCmp
import Derived.Laws.StructEq
namespace Go.Proofs.YtlchnfjbcefkoaaGreat
open Go.RowKit

theorem neq_pt (S S2 : ByteArray) (x x2 : Int) (i i2 : Bool) (w : World) : (binOp .neq 42 (.agg #[.string S, .int .i64 x, .bool i]) (.agg #[.string S2, .int .i64 x2, .bool i2])).run Tryz.prog w = .ok (.bool (!((S.toList == S2.toList) && ((x == x2) && (i == i2))))) w := by
  have hS : Tryz.prog.underlying 42 = some (.struct (Tryz.prog.fieldsOf 42)) := by kernel_rfl
  have hp : Tryz.prog.stoodInHeld 42 = false := by kernel_rfl
  rw [run_neq_struct, show (10000 : Nat) = 9999 + 1 from rfl, run_equalIn_agg w 9999 _ _ _ hS hp]
  have u9 := Tryz.underlying9
  have u2 := Tryz.underlying2
  have u4 := Tryz.underlying4
  simp only [Program.fieldsOf, Tryz.underlying42]
  cases h1 : (S.toList == S2.toList) <;> cases h2 : (x == x2) <;> cases h3 : (i == i2) <;> go_simp
theorem pt_ext {p q : Pt} (h1 : p.s = q.s) (h2 : p.n = q.n) (h3 : p.is = q.is) : p = q := by
  cases p; cases q; simp_all
set_option maxRecDepth 100000 in
set_option maxHeartbeats 1000000 in
theorem samekey_any (a a2 : Option Addr) (ps qs : List Pt) (n cap n2 cap2 : Nat) (w : World) (hn : Hid (n = ps.length)) (hn2 : Hid (n2 = qs.length)) (hm : n ≤ 1000000) (hl : RdP w a ps) (hl2 : RdP w a2 qs) (R : Bool) (hR : Hid (R = true ↔ ps = qs)) :
    Calls Tryz.prog 11 #[.slice a n cap, .slice a2 n2 cap2] w fun e w' => e = .returned (.bool R) ∧ Below w.heap.size w w' := by
  have HL := Lib.hid hl
  have HL2 := Lib.hid hl2
  clear hl hl2
  by_cases hnn : n = n2
  · subst hnn
    go_enter Tryz.func11, Tryz.ntmps11
    go_wp2
    go_loopw [5] (fun i wr => Below w.heap.size w wr ∧ ∃ k : Nat, k ≤ n ∧ i = .int .i64 k ∧ ps.take k = qs.take k) (fun i _ => n - (intOf i).toNat)
    case atStart => exact ⟨Below.refl _ _, 0, Nat.zero_le _, rfl, by simp⟩
    case round =>
      obtain ⟨hb, k, hk, rfl, htk⟩ := hrel
      have HB := Lib.hid hb
      have HTK := Lib.hid htk
      clear hb htk
      by_cases hkn : k < n
      · have hkl : k < ps.length := by rw [← hn.out]; omega
        have hkl2 : k < qs.length := by rw [← hn2.out]; omega
        obtain ⟨b1, o1, rfl, hlt1, hcell1⟩ := HL.out.at (by omega)
        obtain ⟨b2, o2, rfl, hlt2, hcell2⟩ := HL2.out.at (by omega)
        have HS1 := Lib.hid (List.take_succ_eq_append_getElem hkl)
        have HS2 := Lib.hid (List.take_succ_eq_append_getElem hkl2)
        obtain ⟨c0, c1, c2⟩ := cells_at hlt1 hcell1 HB.out k hkl
        obtain ⟨d0, d1, d2⟩ := cells_at hlt2 hcell2 HB.out k hkl2
        obtain ⟨p, hp⟩ : ∃ x, ps[k] = x := ⟨_, rfl⟩
        obtain ⟨q, hq⟩ : ∃ y, qs[k] = y := ⟨_, rfl⟩
        rw [hp] at c0 c1 c2
        rw [hq] at d0 d1 d2
        have HX := Lib.hid hp
        have HY := Lib.hid hq
        obtain ⟨S, hS⟩ : ∃ S, str p.s = S := ⟨_, rfl⟩
        obtain ⟨S2, hS2⟩ : ∃ S, str q.s = S := ⟨_, rfl⟩
        rw [hS] at c0
        rw [hS2] at d0
        have hneq := neq_pt S S2 p.n q.n p.is q.is
        obtain ⟨r, hr, hrq⟩ : ∃ r, (!((S.toList == S2.toList) && ((p.n == q.n) && (p.is == q.is)))) = r ∧ (r = false ↔ p = q) := by
          refine ⟨_, rfl, ?_⟩
          rw [← hS, ← hS2, str_toList, str_toList]
          constructor
          · intro h
            simp only [Bool.not_eq_eq_eq_not, Bool.not_false, Bool.and_eq_true, beq_iff_eq] at h
            exact pt_ext h.1 h.2.1 h.2.2
          · intro e; subst e; simp
        rw [hr] at hneq
        obtain ⟨x1, hx1⟩ : ∃ x, p.n = x := ⟨_, rfl⟩
        obtain ⟨x2, hx2⟩ : ∃ x, q.n = x := ⟨_, rfl⟩
        obtain ⟨i1, hi1⟩ : ∃ x, p.is = x := ⟨_, rfl⟩
        obtain ⟨i2, hi2⟩ : ∃ x, q.is = x := ⟨_, rfl⟩
        rw [hx1, hx2, hi1, hi2] at hneq
        rw [hx1] at c1
        rw [hi1] at c2
        rw [hx2] at d1
        rw [hi2] at d2
        clear hcell1 hcell2 hp hq hr hS hS2 hx1 hx2 hi1 hi2
        have hb1 : (k : Int) < (n : Int) := by omega
        cases r with
        | false =>
          have HPQ := Lib.hid (hrq.1 rfl)
          clear hrq
          go_wp2_with fail
          go_quiet (fail)
          go_wp2
          refine ⟨⟨drewN_below HB.out _, k + 1, by omega, by go_num, ?_⟩, by simp [intOf]; omega⟩
          rw [HS1.out, HS2.out, HTK.out, HX.out, HY.out, HPQ.out]
        | true =>
          have HR0 : Hid (R = false) := by
            show _ = _
            cases R with
            | false => rfl
            | true =>
              have h := hR.out.1 rfl
              have h2 : p = q := by rw [← HX.out, ← HY.out]; subst h; rfl
              have h3 := hrq.2 h2
              cases h3
          clear hrq
          go_wp2_with fail
          go_quiet (fail)
          go_wp2
          go_ret
          rw [HR0.out]
          exact ⟨rfl, drewN_below HB.out _⟩
      · have hk3 : k = n := by omega
        subst hk3
        have HR1 : Hid (R = true) := by
          refine hR.out.2 ?_
          have h := HTK.out
          rw [hn.out, List.take_length] at h
          rw [h, ← hn.out, hn2.out, List.take_length]
        go_wp2
        go_ret
        rw [HR1.out]
        exact ⟨rfl, HB.out⟩
  · have hne : ps ≠ qs := fun e => hnn (by rw [hn.out, hn2.out, e])
    have HNE : Hid (R = false) := by
      show _ = _
      cases R with
      | false => rfl
      | true => exact absurd (hR.out.1 rfl) hne
    go_enter Tryz.func11, Tryz.ntmps11
    go_wp2
    go_ret
    rw [HNE.out]
    exact ⟨rfl, Below.refl _ _⟩
end Go.Proofs.YtlchnfjbcefkoaaGreat
