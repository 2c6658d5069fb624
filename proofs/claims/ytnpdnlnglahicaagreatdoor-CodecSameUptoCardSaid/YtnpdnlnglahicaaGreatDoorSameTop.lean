/- Two lists of fields that are not known are held against each other: slices.Equal, and the document's Same. / Lists of values are held against each other, where values of their depth are (slices.EqualFunc). / Fields are held against each other, where values of the depth of theirs are (slices.EqualFunc and its function), and so are values. / protocodec.Same tells whether two values of a message are the same. -/
import Derived.Test.YtnpdnlnglahicaaGreatDoorPv
import Derived.Test.YtnpdnlnglahicaaGreatDoorProg
import Derived.BigQuiet
namespace Go.Proofs.YtnpdnlnglahicaaGreatDoor
open Go.RowKit

theorem neq_fd (x0 x1 x2 y0 y1 y2 : Int) (S S2 : ByteArray) (w : World) : (binOp .neq 46 (.agg #[.int .i64 x0, .int .i64 x1, .int .u64 x2, .string S]) (.agg #[.int .i64 y0, .int .i64 y1, .int .u64 y2, .string S2])).run Tryz.prog w = .ok (.bool (!((x0 == y0) && ((x1 == y1) && ((x2 == y2) && (S.toList == S2.toList)))))) w := by
  have hS : Tryz.prog.underlying 46 = some (.struct (Tryz.prog.fieldsOf 46)) := by kernel_rfl
  have hp : Tryz.prog.stoodInHeld 46 = false := by kernel_rfl
  rw [run_neq_struct, show (10000 : Nat) = 9999 + 1 from rfl, run_equalIn_agg w 9999 _ _ _ hS hp]
  have u3 := Tryz.underlying3
  have u38 := Tryz.underlying44
  have u22 := Tryz.underlying22
  have u9 := Tryz.underlying9
  simp only [Program.fieldsOf, Tryz.underlying46]
  cases h0 : (x0 == y0) <;> cases h1 : (x1 == y1) <;> cases h2 : (x2 == y2) <;> cases h3 : (S.toList == S2.toList) <;> go_simp
theorem fd_ext {p q : Fd} (h0 : p.num = q.num) (h1 : p.typ = q.typ) (h2 : p.word = q.word) (h3 : p.bytes = q.bytes) : p = q := by
  cases p; cases q; simp_all
theorem fd_test (p q : Fd) (S S2 : ByteArray) (hS : str p.bytes = S) (hS2 : str q.bytes = S2) : (!((p.num == q.num) && ((p.typ == q.typ) && ((p.word == q.word) && (S.toList == S2.toList))))) = false ↔ p = q := by
  rw [← hS, ← hS2, str_toList, str_toList]
  constructor
  · intro h
    simp only [Bool.not_eq_eq_eq_not, Bool.not_false, Bool.and_eq_true, beq_iff_eq] at h
    exact fd_ext h.1 h.2.1 h.2.2.1 h.2.2.2
  · intro e; subst e; simp
set_option maxRecDepth 100000 in
set_option maxHeartbeats 1000000 in
theorem restsame_any (a a2 : Option Addr) (ps qs : List Fd) (n cap n2 cap2 : Nat) (w : World) (hn : Hid (n = ps.length)) (hn2 : Hid (n2 = qs.length)) (hm : n ≤ 9223372036854775807) (hl : RdF w a ps) (hl2 : RdF w a2 qs) (R : Bool) (hR : Hid (R = true ↔ ps = qs)) :
    Calls Tryz.prog 17 #[.slice a n cap, .slice a2 n2 cap2] w fun e w' => e = .returned (.bool R) ∧ Below w.heap.size w w' := by
  have HL := Lib.hid hl
  have HL2 := Lib.hid hl2
  clear hl hl2
  by_cases hnn : n = n2
  · subst hnn
    go_enter Tryz.func17, Tryz.ntmps17
    go_wp2
    go_loopw [5] (fun i wr => Below w.heap.size w wr ∧ ∃ k : Nat, k ≤ n ∧ i = .int .i64 k ∧ ps.take k = qs.take k) (fun i _ => n - (intOf i).toNat)
    case atStart => exact ⟨Below.refl _ _, 0, Nat.zero_le _, rfl, by simp⟩
    case round =>
      obtain ⟨hb, k, hk, rfl, htk⟩ := hrel
      have HB := Lib.hid hb
      have HTK := Lib.hid htk
      clear hb htk
      by_cases hkn : k < n
      · have hkl : k < ps.length := by rw [← hn.out]; omega
        have hkl2 : k < qs.length := by rw [← hn2.out]; omega
        obtain ⟨b1, o1, rfl, hlt1, hcell1⟩ := HL.out.resolve_left (by intro e; rw [e] at hkl; simp at hkl)
        obtain ⟨b2, o2, rfl, hlt2, hcell2⟩ := HL2.out.resolve_left (by intro e; rw [e] at hkl2; simp at hkl2)
        have HS1 := Lib.hid (List.take_succ_eq_append_getElem hkl)
        have HS2 := Lib.hid (List.take_succ_eq_append_getElem hkl2)
        obtain ⟨c0, c1, c2, c3⟩ := (hcell1 k hkl).later HB.out hlt1
        obtain ⟨d0, d1, d2, d3⟩ := (hcell2 k hkl2).later HB.out hlt2
        obtain ⟨p, hp⟩ : ∃ x, ps[k] = x := ⟨_, rfl⟩
        obtain ⟨q, hq⟩ : ∃ y, qs[k] = y := ⟨_, rfl⟩
        rw [hp] at c0 c1 c2 c3
        rw [hq] at d0 d1 d2 d3
        have HX := Lib.hid hp
        have HY := Lib.hid hq
        obtain ⟨S, hS⟩ : ∃ S, str p.bytes = S := ⟨_, rfl⟩
        obtain ⟨S2, hS2⟩ : ∃ S, str q.bytes = S := ⟨_, rfl⟩
        rw [hS] at c3
        rw [hS2] at d3
        have hneq := neq_fd p.num p.typ p.word q.num q.typ q.word S S2
        obtain ⟨r, hr, hrq⟩ : ∃ r, (!((p.num == q.num) && ((p.typ == q.typ) && ((p.word == q.word) && (S.toList == S2.toList))))) = r ∧ (r = false ↔ p = q) := ⟨_, rfl, fd_test p q S S2 hS hS2⟩
        rw [hr] at hneq
        obtain ⟨x1, hx1⟩ : ∃ x, p.num = x := ⟨_, rfl⟩
        obtain ⟨x2, hx2⟩ : ∃ x, q.num = x := ⟨_, rfl⟩
        obtain ⟨y1, hy1⟩ : ∃ x, p.typ = x := ⟨_, rfl⟩
        obtain ⟨y2, hy2⟩ : ∃ x, q.typ = x := ⟨_, rfl⟩
        obtain ⟨z1, hz1⟩ : ∃ x, p.word = x := ⟨_, rfl⟩
        obtain ⟨z2, hz2⟩ : ∃ x, q.word = x := ⟨_, rfl⟩
        rw [hx1, hx2, hy1, hy2, hz1, hz2] at hneq
        rw [hx1] at c0
        rw [hy1] at c1
        rw [hz1] at c2
        rw [hx2] at d0
        rw [hy2] at d1
        rw [hz2] at d2
        clear hcell1 hcell2 hp hq hr hS hS2 hx1 hx2 hy1 hy2 hz1 hz2
        have hb1 : (k : Int) < (n : Int) := by omega
        cases r with
        | false =>
          have HPQ := Lib.hid (hrq.1 rfl)
          clear hrq
          go_wp2_with fail
          go_quiet (fail)
          go_wp2
          refine ⟨⟨drewN_below HB.out _, k + 1, by omega, by go_num, ?_⟩, by simp [intOf]; omega⟩
          rw [HS1.out, HS2.out, HTK.out, HX.out, HY.out, HPQ.out]
        | true =>
          have HR0 : Hid (R = false) := by
            show _ = _
            cases R with
            | false => rfl
            | true =>
              have h := hR.out.1 rfl
              have h2 : p = q := by rw [← HX.out, ← HY.out]; subst h; rfl
              have h3 := hrq.2 h2
              cases h3
          clear hrq
          go_wp2_with fail
          go_quiet (fail)
          go_wp2
          go_ret
          rw [HR0.out]
          exact ⟨rfl, drewN_below HB.out _⟩
      · have hk3 : k = n := by omega
        subst hk3
        have HR1 : Hid (R = true) := by
          refine hR.out.2 ?_
          have h := HTK.out
          rw [hn.out, List.take_length] at h
          rw [h, ← hn.out, hn2.out, List.take_length]
        go_wp2
        go_ret
        rw [HR1.out]
        exact ⟨rfl, HB.out⟩
  · have hne : ps ≠ qs := fun e => hnn (by rw [hn.out, hn2.out, e])
    have HNE : Hid (R = false) := by
      show _ = _
      cases R with
      | false => rfl
      | true => exact absurd (hR.out.1 rfl) hne
    go_enter Tryz.func17, Tryz.ntmps17
    go_wp2
    go_ret
    rw [HNE.out]
    exact ⟨rfl, Below.refl _ _⟩
set_option maxRecDepth 100000 in
set_option maxHeartbeats 1000000 in
theorem restequal_any (a a2 : Option Addr) (ps qs : List Fd) (n cap n2 cap2 : Nat) (w : World) (hn : Hid (n = ps.length)) (hn2 : Hid (n2 = qs.length)) (hm : n ≤ 9223372036854775807) (hl : RdF w a ps) (hl2 : RdF w a2 qs) (R : Bool) (hR : Hid (R = true ↔ ps = qs)) :
    Calls Tryz.prog 13 #[.slice a n cap, .slice a2 n2 cap2] w fun e w' => e = .returned (.bool R) ∧ Below w.heap.size w w' := by
  have HL := Lib.hid hl
  have HL2 := Lib.hid hl2
  clear hl hl2
  by_cases hnn : n = n2
  · subst hnn
    go_enter Tryz.func13, Tryz.ntmps13
    go_wp2
    go_loopw [13] (fun i wr => Below w.heap.size w wr ∧ ∃ k : Nat, k ≤ n ∧ i = .int .i64 k ∧ ps.take k = qs.take k) (fun i _ => n - (intOf i).toNat)
    case atStart => exact ⟨Below.refl _ _, 0, Nat.zero_le _, rfl, by simp⟩
    case round =>
      obtain ⟨hb, k, hk, rfl, htk⟩ := hrel
      have HB := Lib.hid hb
      have HTK := Lib.hid htk
      clear hb htk
      by_cases hkn : k < n
      · have hkl : k < ps.length := by rw [← hn.out]; omega
        have hkl2 : k < qs.length := by rw [← hn2.out]; omega
        obtain ⟨b1, o1, rfl, hlt1, hcell1⟩ := HL.out.resolve_left (by intro e; rw [e] at hkl; simp at hkl)
        obtain ⟨b2, o2, rfl, hlt2, hcell2⟩ := HL2.out.resolve_left (by intro e; rw [e] at hkl2; simp at hkl2)
        have HS1 := Lib.hid (List.take_succ_eq_append_getElem hkl)
        have HS2 := Lib.hid (List.take_succ_eq_append_getElem hkl2)
        obtain ⟨c0, c1, c2, c3⟩ := (hcell1 k hkl).later HB.out hlt1
        obtain ⟨d0, d1, d2, d3⟩ := (hcell2 k hkl2).later HB.out hlt2
        obtain ⟨p, hp⟩ : ∃ x, ps[k] = x := ⟨_, rfl⟩
        obtain ⟨q, hq⟩ : ∃ y, qs[k] = y := ⟨_, rfl⟩
        rw [hp] at c0 c1 c2 c3
        rw [hq] at d0 d1 d2 d3
        have HX := Lib.hid hp
        have HY := Lib.hid hq
        obtain ⟨S, hS⟩ : ∃ S, str p.bytes = S := ⟨_, rfl⟩
        obtain ⟨S2, hS2⟩ : ∃ S, str q.bytes = S := ⟨_, rfl⟩
        rw [hS] at c3
        rw [hS2] at d3
        have hneq := neq_fd p.num p.typ p.word q.num q.typ q.word S S2
        obtain ⟨r, hr, hrq⟩ : ∃ r, (!((p.num == q.num) && ((p.typ == q.typ) && ((p.word == q.word) && (S.toList == S2.toList))))) = r ∧ (r = false ↔ p = q) := ⟨_, rfl, fd_test p q S S2 hS hS2⟩
        rw [hr] at hneq
        obtain ⟨x1, hx1⟩ : ∃ x, p.num = x := ⟨_, rfl⟩
        obtain ⟨x2, hx2⟩ : ∃ x, q.num = x := ⟨_, rfl⟩
        obtain ⟨y1, hy1⟩ : ∃ x, p.typ = x := ⟨_, rfl⟩
        obtain ⟨y2, hy2⟩ : ∃ x, q.typ = x := ⟨_, rfl⟩
        obtain ⟨z1, hz1⟩ : ∃ x, p.word = x := ⟨_, rfl⟩
        obtain ⟨z2, hz2⟩ : ∃ x, q.word = x := ⟨_, rfl⟩
        rw [hx1, hx2, hy1, hy2, hz1, hz2] at hneq
        rw [hx1] at c0
        rw [hy1] at c1
        rw [hz1] at c2
        rw [hx2] at d0
        rw [hy2] at d1
        rw [hz2] at d2
        clear hcell1 hcell2 hp hq hr hS hS2 hx1 hx2 hy1 hy2 hz1 hz2
        have hb1 : (k : Int) < (n : Int) := by omega
        cases r with
        | false =>
          have HPQ := Lib.hid (hrq.1 rfl)
          clear hrq
          go_wp2_with fail
          go_quiet (fail)
          go_wp2
          refine ⟨⟨drewN_below HB.out _, k + 1, by omega, by go_num, ?_⟩, by simp [intOf]; omega⟩
          rw [HS1.out, HS2.out, HTK.out, HX.out, HY.out, HPQ.out]
        | true =>
          have HR0 : Hid (R = false) := by
            show _ = _
            cases R with
            | false => rfl
            | true =>
              have h := hR.out.1 rfl
              have h2 : p = q := by rw [← HX.out, ← HY.out]; subst h; rfl
              have h3 := hrq.2 h2
              cases h3
          clear hrq
          go_wp2_with fail
          go_quiet (fail)
          go_wp2
          go_ret
          rw [HR0.out]
          exact ⟨rfl, drewN_below HB.out _⟩
      · have hk3 : k = n := by omega
        subst hk3
        have HR1 : Hid (R = true) := by
          refine hR.out.2 ?_
          have h := HTK.out
          rw [hn.out, List.take_length] at h
          rw [h, ← hn.out, hn2.out, List.take_length]
        go_wp2
        go_ret
        rw [HR1.out]
        exact ⟨rfl, HB.out⟩
  · have hne : ps ≠ qs := fun e => hnn (by rw [hn.out, hn2.out, e])
    have HNE : Hid (R = false) := by
      show _ = _
      cases R with
      | false => rfl
      | true => exact absurd (hR.out.1 rfl) hne
    go_enter Tryz.func13, Tryz.ntmps13
    go_wp2
    go_ret
    rw [HNE.out]
    exact ⟨rfl, Below.refl _ _⟩
end Go.Proofs.YtnpdnlnglahicaaGreatDoor
namespace Go.Proofs.YtnpdnlnglahicaaGreatDoor
open Go.RowKit

theorem same_bit (p : Prop) : ∃ r : Bool, r = true ↔ p := by
  classical
  exact ⟨decide p, by simp⟩
/-- A function tells whether two values of a depth are the same. -/
def SameOk (F : FuncId) (d : Nat) : Prop := ∀ (t u : PVT d) (v x : Value) (w : World) (R : Bool), RdT w d v t → RdT w d x u → (R = true ↔ t = u) → Calls Tryz.prog F #[v, x] w fun e w' => e = .returned (.bool R) ∧ Below w.heap.size w w'
theorem below_two (w : World) (o p : Obj) : Below w.heap.size w ((w.alloc o).alloc p) := below_trans (below_alloc o) ((below_alloc p))
theorem aggV : Agg Tryz.prog 26 4 := ⟨⟨_, Tryz.underlying26⟩, by kernel_rfl⟩
theorem take_eq {α : Type} {l m : List α} {k : Nat} (h1 : k < l.length) (h2 : k < m.length) (h : l.take k = m.take k) (e : l[k] = m[k]) : l.take (k + 1) = m.take (k + 1) := by
  rw [List.take_succ_eq_append_getElem h1, List.take_succ_eq_append_getElem h2, h, e]
set_option maxRecDepth 100000 in
set_option maxHeartbeats 1000000 in
theorem eqfV_any (d : Nat) (IH : Hid (SameOk 6 d)) (a a2 : Option Addr) (l m : List (PVT d)) (n c n2 c2 : Nat) (w : World) (h1 : Hid (LstAt w (Body w d) (wdT d) (txT d) a n c l)) (h2 : Hid (LstAt w (Body w d) (wdT d) (txT d) a2 n2 c2 m)) (R : Bool) (hR : Hid (R = true ↔ l = m)) :
    Calls Tryz.prog 16 #[.slice a n c, .slice a2 n2 c2, .func (.func 6) #[] #[]] w fun e w' => e = .returned (.bool R) ∧ Below w.heap.size w w' := by
  have hn := h1.out.1
  have hc := h1.out.2.1
  have hc9 := h1.out.2.2.1
  have hn2 := h2.out.1
  by_cases hnn : n = n2
  · subst hnn
    have HN := Lib.hid hn
    have HN2 := Lib.hid hn2
    clear hn hn2
    go_enter Tryz.func16, Tryz.ntmps16
    go_wp2
    go_loopw [17] (fun i wr => Below w.heap.size w wr ∧ ∃ k : Nat, k ≤ n ∧ i = .int .i64 k ∧ l.take k = m.take k) (fun i _ => n - (intOf i).toNat)
    case atStart => exact ⟨Below.refl _ _, 0, Nat.zero_le _, rfl, by simp⟩
    case round =>
      obtain ⟨hb, k, hk, rfl, htk⟩ := hrel
      have HB := Lib.hid hb
      have HTK := Lib.hid htk
      clear hb htk
      by_cases hkn : k < n
      · have hkl : k < l.length := by rw [← HN.out]; exact hkn
        have hkm : k < m.length := by rw [← HN2.out]; exact hkn
        obtain ⟨b1, o1, rfl, hlt1, hcell1⟩ := h1.out.2.2.2.resolve_left (by intro e; rw [e] at hkl; simp at hkl)
        obtain ⟨b2, o2, rfl, hlt2, hcell2⟩ := h2.out.2.2.2.resolve_left (by intro e; rw [e] at hkm; simp at hkm)
        obtain ⟨g1, k1, B1⟩ := hcell1 k hkl
        obtain ⟨g2, k2, B2⟩ := hcell2 k hkm
        have B1 := Lib.hid (B1.later HB.out)
        have B2 := Lib.hid (B2.later HB.out)
        obtain ⟨c0, c1, c2', c3⟩ := k1.later HB.out hlt1
        obtain ⟨d0, d1, d2, d3⟩ := k2.later HB.out hlt2
        have HTE := Lib.hid (fun e => take_eq hkl hkm HTK.out e)
        obtain ⟨r, hr⟩ := same_bit (l[k] = m[k])
        have HRR := Lib.hid hr
        obtain ⟨t, ht⟩ : ∃ t, l[k] = t := ⟨_, rfl⟩
        obtain ⟨u, hu⟩ : ∃ u, m[k] = u := ⟨_, rfl⟩
        rw [ht] at c0 c1 B1
        rw [hu] at d0 d1 B2
        have HT := Lib.hid ht
        have HU := Lib.hid hu
        have V1 : Hid (∀ w', Below wr.heap.size wr w' → RdT w' d (.agg #[.int .u64 (wdT d t), .string (str (txT d t)), .slice g1.a g1.n g1.c, .slice g1.a2 g1.n2 g1.c2]) t) := fun w' hb => ⟨g1, rfl, B1.out.later hb⟩
        have V2 : Hid (∀ w', Below wr.heap.size wr w' → RdT w' d (.agg #[.int .u64 (wdT d u), .string (str (txT d u)), .slice g2.a g2.n g2.c, .slice g2.a2 g2.n2 g2.c2]) u) := fun w' hb => ⟨g2, rfl, B2.out.later hb⟩
        obtain ⟨x0, e0⟩ : ∃ x, wdT d t = x := ⟨_, rfl⟩
        obtain ⟨x1, e1⟩ : ∃ x, str (txT d t) = x := ⟨_, rfl⟩
        obtain ⟨y0, e2⟩ : ∃ x, wdT d u = x := ⟨_, rfl⟩
        obtain ⟨y1, e3⟩ : ∃ x, str (txT d u) = x := ⟨_, rfl⟩
        obtain ⟨p1, p2, p3, p4, p5, p6⟩ := g1
        obtain ⟨q1, q2, q3, q4, q5, q6⟩ := g2
        dsimp only at c0 c1 c2' c3 d0 d1 d2 d3 V1 V2
        rw [e0] at c0 V1
        rw [e1] at c1 V1
        rw [e2] at d0 V2
        rw [e3] at d1 V2
        clear e0 e1 e2 e3 ht hu hr hcell1 hcell2 k1 k2 B1 B2
        have hb1 : (k : Int) < (n : Int) := by omega
        have hs1 : b1 < wr.heap.size := Nat.lt_of_lt_of_le hlt1 HB.out.size
        have hs2 : b2 < wr.heap.size := Nat.lt_of_lt_of_le hlt2 HB.out.size
        go_wp2_with fail
        refine (IH.out t u _ _ _ r (V1.out _ (below_two _ _ _)) (V2.out _ (below_two _ _ _)) (by rw [← HT.out, ← HU.out]; exact HRR.out)).mono ?_
        rintro _ w1 ⟨rfl, hbw⟩
        have HB1 := Lib.hid (HB.out.trans ((below_trans (below_two _ _ _) hbw).mono HB.out.size))
        clear hbw c0 c1 c2' c3 d0 d1 d2 d3
        cases r with
        | true =>
          have HK := Lib.hid (HTE.out (HRR.out.1 rfl))
          clear HRR
          go_wp2
          exact ⟨⟨HB1.out, k + 1, by omega, by go_num, HK.out⟩, by simp [intOf]; omega⟩
        | false =>
          have HR0 : Hid (R = false) := by
            show _ = _
            cases R with
            | false => rfl
            | true =>
              have h := hR.out.1 rfl
              have h2 := HRR.out.2 (by subst h; rfl)
              cases h2
          clear HRR
          go_wp2
          go_ret
          rw [HR0.out]
          exact ⟨rfl, HB1.out⟩
      · have hk3 : k = n := by omega
        subst hk3
        have HR1 : Hid (R = true) := by
          refine hR.out.2 ?_
          have h := HTK.out
          rw [HN.out, List.take_length] at h
          rw [h, ← HN.out, HN2.out, List.take_length]
        go_wp2
        go_ret
        rw [HR1.out]
        exact ⟨rfl, HB.out⟩
  · have hne : l ≠ m := fun e => hnn (by rw [hn, hn2, e])
    have HNE : Hid (R = false) := by
      show _ = _
      cases R with
      | false => rfl
      | true => exact absurd (hR.out.1 rfl) hne
    go_enter Tryz.func16, Tryz.ntmps16
    go_wp2
    go_ret
    rw [HNE.out]
    exact ⟨rfl, Below.refl _ _⟩
end Go.Proofs.YtnpdnlnglahicaaGreatDoor
namespace Go.Proofs.YtnpdnlnglahicaaGreatDoor
open Go.RowKit

theorem ent_ext {α : Type} {p q : Int × List α} (h1 : p.1 = q.1) (h2 : p.2 = q.2) : p = q := by
  cases p; cases q; simp_all
set_option maxRecDepth 100000 in
set_option maxHeartbeats 1000000 in
theorem ent_any (d : Nat) (IH : Hid (SameOk 6 d)) (x y : Int) (a a2 : Option Addr) (l m : List (PVT d)) (n c n2 c2 : Nat) (w : World) (h1 : Hid (LstAt w (Body w d) (wdT d) (txT d) a n c l)) (h2 : Hid (LstAt w (Body w d) (wdT d) (txT d) a2 n2 c2 m)) (R : Bool) (hR : Hid (R = true ↔ x = y ∧ l = m)) :
    Calls Tryz.prog 15 #[.agg #[.int .i64 x, .slice a n c], .agg #[.int .i64 y, .slice a2 n2 c2]] w fun e w' => e = .returned (.bool R) ∧ Below w.heap.size w w' := by
  by_cases hxy : x = y
  · subst hxy
    go_enter Tryz.func15, Tryz.ntmps15
    go_wp2_with fail
    refine (eqfV_any d IH a a2 l m n c n2 c2 _ (Lib.hid (h1.out.later (below_two _ _ _) fun _ _ k => k.later (below_two _ _ _) d _ _)) (Lib.hid (h2.out.later (below_two _ _ _) fun _ _ k => k.later (below_two _ _ _) d _ _)) R (Lib.hid (by rw [hR.out]; simp))).mono ?_
    rintro _ w1 ⟨rfl, hbw⟩
    have HB := Lib.hid (below_trans (below_two _ _ _) hbw)
    clear hbw
    go_wp2_with fail
    all_goals go_ret
    all_goals exact ⟨rfl, HB.out⟩
  · have HNE : Hid (R = false) := by
      show _ = _
      cases R with
      | false => rfl
      | true => exact absurd (hR.out.1 rfl).1 hxy
    have hbx : (x == y) = false := by simpa using hxy
    go_enter Tryz.func15, Tryz.ntmps15
    go_wp2_with fail
    all_goals go_ret
    all_goals rw [HNE.out]
    all_goals exact ⟨rfl, below_two _ _ _⟩
set_option maxRecDepth 100000 in
set_option maxHeartbeats 1000000 in
theorem eqfE_any (d : Nat) (IH : Hid (SameOk 6 d)) (a a2 : Option Addr) (l m : List (Int × List (PVT d))) (n c n2 c2 : Nat) (w : World) (hn : n = l.length) (hn2 : n2 = m.length) (_hc : n ≤ c) (_hc9 : c ≤ 9223372036854775807) (h1 : Hid (RowsAt w a 2 l fun b o e => EntAt w (Body w d) (wdT d) (txT d) b o e)) (h2 : Hid (RowsAt w a2 2 m fun b o e => EntAt w (Body w d) (wdT d) (txT d) b o e)) (R : Bool) (hR : Hid (R = true ↔ l = m)) :
    Calls Tryz.prog 14 #[.slice a n c, .slice a2 n2 c2, .func (.func 15) #[] #[]] w fun e w' => e = .returned (.bool R) ∧ Below w.heap.size w w' := by
  by_cases hnn : n = n2
  · subst hnn
    have HN := Lib.hid hn
    have HN2 := Lib.hid hn2
    clear hn hn2
    go_enter Tryz.func14, Tryz.ntmps14
    go_wp2
    go_loopw [17] (fun i wr => Below w.heap.size w wr ∧ ∃ k : Nat, k ≤ n ∧ i = .int .i64 k ∧ l.take k = m.take k) (fun i _ => n - (intOf i).toNat)
    case atStart => exact ⟨Below.refl _ _, 0, Nat.zero_le _, rfl, by simp⟩
    case round =>
      obtain ⟨hb, k, hk, rfl, htk⟩ := hrel
      have HB := Lib.hid hb
      have HTK := Lib.hid htk
      clear hb htk
      by_cases hkn : k < n
      · have hkl : k < l.length := by rw [← HN.out]; exact hkn
        have hkm : k < m.length := by rw [← HN2.out]; exact hkn
        obtain ⟨b1, o1, rfl, hlt1, hcell1⟩ := h1.out.resolve_left (by intro e; rw [e] at hkl; simp at hkl)
        obtain ⟨b2, o2, rfl, hlt2, hcell2⟩ := h2.out.resolve_left (by intro e; rw [e] at hkm; simp at hkm)
        obtain ⟨p1, p2, p3, c0, c1, B1⟩ := (hcell1 k hkl).later HB.out (fun _ _ k => k.later HB.out d _ _) hlt1
        obtain ⟨q1, q2, q3, d0, d1, B2⟩ := (hcell2 k hkm).later HB.out (fun _ _ k => k.later HB.out d _ _) hlt2
        have HTE := Lib.hid (fun e => take_eq hkl hkm HTK.out e)
        obtain ⟨r, hr⟩ := same_bit (l[k] = m[k])
        have HRR := Lib.hid hr
        have hr2 : r = true ↔ l[k].1 = m[k].1 ∧ l[k].2 = m[k].2 := by rw [hr]; exact ⟨fun e => by rw [e]; exact ⟨rfl, rfl⟩, fun e => ent_ext e.1 e.2⟩
        have HR2 := Lib.hid hr2
        have B1 := Lib.hid B1
        have B2 := Lib.hid B2
        obtain ⟨x0, e0⟩ : ∃ x, l[k].1 = x := ⟨_, rfl⟩
        obtain ⟨y0, e2⟩ : ∃ x, m[k].1 = x := ⟨_, rfl⟩
        rw [e0] at c0 HR2
        rw [e2] at d0 HR2
        clear e0 e2 hr hr2 hcell1 hcell2
        have hb1 : (k : Int) < (n : Int) := by omega
        have hs1 : b1 < wr.heap.size := Nat.lt_of_lt_of_le hlt1 HB.out.size
        have hs2 : b2 < wr.heap.size := Nat.lt_of_lt_of_le hlt2 HB.out.size
        go_wp2_with fail
        refine (ent_any d IH x0 y0 p1 q1 l[k].2 m[k].2 p2 p3 q2 q3 _ (Lib.hid (B1.out.later (below_two _ _ _) fun _ _ k => k.later (below_two _ _ _) d _ _)) (Lib.hid (B2.out.later (below_two _ _ _) fun _ _ k => k.later (below_two _ _ _) d _ _)) r HR2).mono ?_
        rintro _ w1 ⟨rfl, hbw⟩
        have HB1 := Lib.hid (HB.out.trans ((below_trans (below_two _ _ _) hbw).mono HB.out.size))
        clear hbw c0 c1 d0 d1
        cases r with
        | true =>
          have HK := Lib.hid (HTE.out (HRR.out.1 rfl))
          clear HRR HR2
          go_wp2
          exact ⟨⟨HB1.out, k + 1, by omega, by go_num, HK.out⟩, by simp [intOf]; omega⟩
        | false =>
          have HR0 : Hid (R = false) := by
            show _ = _
            cases R with
            | false => rfl
            | true =>
              have h := hR.out.1 rfl
              have h2 := HRR.out.2 (by subst h; rfl)
              cases h2
          clear HRR HR2
          go_wp2
          go_ret
          rw [HR0.out]
          exact ⟨rfl, HB1.out⟩
      · have hk3 : k = n := by omega
        subst hk3
        have HR1 : Hid (R = true) := by
          refine hR.out.2 ?_
          have h := HTK.out
          rw [HN.out, List.take_length] at h
          rw [h, ← HN.out, HN2.out, List.take_length]
        go_wp2
        go_ret
        rw [HR1.out]
        exact ⟨rfl, HB.out⟩
  · have hne : l ≠ m := fun e => hnn (by rw [hn, hn2, e])
    have HNE : Hid (R = false) := by
      show _ = _
      cases R with
      | false => rfl
      | true => exact absurd (hR.out.1 rfl) hne
    go_enter Tryz.func14, Tryz.ntmps14
    go_wp2
    go_ret
    rw [HNE.out]
    exact ⟨rfl, Below.refl _ _⟩
theorem pn_ext {α : Type} {p q : PN α} (h0 : p.word = q.word) (h1 : p.text = q.text) (h2 : p.fields = q.fields) (h3 : p.rest = q.rest) : p = q := by
  cases p; cases q; simp_all
theorem pn_eq {α : Type} {p q : PN α} : p = q ↔ p.word = q.word ∧ p.text = q.text ∧ p.rest = q.rest ∧ p.fields = q.fields :=
  ⟨fun e => by rw [e]; exact ⟨rfl, rfl, rfl, rfl⟩, fun ⟨a, b, c, d⟩ => pn_ext a b d c⟩
end Go.Proofs.YtnpdnlnglahicaaGreatDoor
namespace Go.Proofs.YtnpdnlnglahicaaGreatDoor
open Go.RowKit

theorem strl_ne {a b : List UInt8} (h : a ≠ b) : ((str a).toList == (str b).toList) = false := by
  rw [str_toList, str_toList]
  simpa using h
/-- Two boxes that were made, later. -/
theorem box_two {w w1 : World} (cs1 cs2 : Array Value) (t1 t2 : TypeId) (hb : Below ((w.alloc (.cells cs1 t1)).alloc (.cells cs2 t2)).heap.size ((w.alloc (.cells cs1 t1)).alloc (.cells cs2 t2)) w1) : RowAt w1 w.heap.size t1 cs1 ∧ RowAt w1 (w.heap.size + 1) t2 cs2 := by
  have h1 := ((RowAt.new w t1 cs1).below (below_alloc (.cells cs2 t2))).below hb
  have h2 := (RowAt.new (w.alloc (.cells cs1 t1)) t2 cs2).below hb
  rw [show (w.alloc (.cells cs1 t1)).heap.size = w.heap.size + 1 by simp] at h2
  exact ⟨h1, h2⟩
set_option maxRecDepth 100000 in
set_option maxHeartbeats 1000000 in
theorem same_step (d : Nat) (IH : Hid (SameOk 6 d)) : SameOk 6 (d + 1) := by
  intro t u v x w R ht hu hR
  obtain ⟨⟨p1, p2, p3, p4, p5, p6⟩, rfl, m1, m2, m3, m4, m5, m6, m7, m8⟩ := ht
  obtain ⟨⟨q1, q2, q3, q4, q5, q6⟩, rfl, n1, n2, n3, n4, n5, n6, n7, n8⟩ := hu
  dsimp only at m1 m2 m3 m4 m5 m6 m7 m8 n1 n2 n3 n4 n5 n6 n7 n8
  have hR : R = true ↔ PN.word t = PN.word u ∧ PN.text t = PN.text u ∧ PN.rest t = PN.rest u ∧ PN.fields t = PN.fields u := by rw [hR]; exact pn_eq
  have HR := Lib.hid hR
  have M7 := Lib.hid m7
  have M8 := Lib.hid m8
  have N7 := Lib.hid n7
  have N8 := Lib.hid n8
  have M1 := Lib.hid m1
  have M4 := Lib.hid m4
  have N1 := Lib.hid n1
  have N4 := Lib.hid n4
  show Calls _ _ #[.agg #[.int .u64 (PN.word t), .string (str (PN.text t)), .slice p1 p2 p3, .slice p4 p5 p6], .agg #[.int .u64 (PN.word u), .string (str (PN.text u)), .slice q1 q2 q3, .slice q4 q5 q6]] _ _
  have hno : ∀ P : Prop, (R = true → P) → ¬ P → R = false := fun P h k => by
    cases R with
    | false => rfl
    | true => exact absurd (h rfl) k
  have HNO := Lib.hid hno
  obtain ⟨x0, e0⟩ : ∃ x, PN.word t = x := ⟨_, rfl⟩
  obtain ⟨y0, e2⟩ : ∃ x, PN.word u = x := ⟨_, rfl⟩
  have hSS : PN.text t ≠ PN.text u → ((str (PN.text t)).toList == (str (PN.text u)).toList) = false := fun h => strl_ne h
  obtain ⟨T1, e1⟩ : ∃ x, PN.text t = x := ⟨_, rfl⟩
  obtain ⟨T2, e3⟩ : ∃ x, PN.text u = x := ⟨_, rfl⟩
  rw [e0, e2, e1, e3] at HR
  rw [e1, e3] at hSS
  rw [e0, e1, e2, e3]
  clear hR hno m1 m4 m7 m8 n1 n4 n7 n8 e0 e1 e2 e3
  by_cases hxy : x0 = y0
  · subst hxy
    by_cases hT : T1 = T2
    · subst hT
      obtain ⟨S, hS⟩ : ∃ S, str T1 = S := ⟨_, rfl⟩
      rw [hS]
      clear hS hSS
      obtain ⟨r, hr⟩ := same_bit (PN.rest t = PN.rest u)
      cases r with
      | true =>
        have HRE : Hid (PN.rest t = PN.rest u) := hr.1 rfl
        clear hr
        have HRF : Hid (R = true ↔ PN.fields t = PN.fields u) := by
          have h := HRE.out
          show _ ↔ _
          rw [HR.out]
          exact ⟨fun k => k.2.2.2, fun k => ⟨rfl, rfl, h, k⟩⟩
        go_enter Tryz.func6, Tryz.ntmps6
        go_wp2_with fail
        refine (restequal_any p4 q4 (PN.rest t) (PN.rest u) p5 p6 q5 q6 _ M4 N4 (by omega) (M7.out.later (below_two _ _ _)) (N7.out.later (below_two _ _ _)) true (Lib.hid ⟨fun _ => HRE.out, fun _ => rfl⟩)).mono ?_
        rintro _ w1 ⟨rfl, hbw⟩
        have HB := Lib.hid (below_trans (below_two _ _ _) hbw)
        obtain ⟨r1, r2⟩ := box_two _ _ _ _ hbw
        have a2 : w1.cell? ⟨w.heap.size, 2, none⟩ = some (.slice p1 p2 p3) := r1.cell 2
        have b2 : w1.cell? ⟨w.heap.size + 1, 2, none⟩ = some (.slice q1 q2 q3) := r2.cell 2
        clear hbw r1 r2
        go_wp2_with fail
        refine (eqfE_any d IH p1 q1 (PN.fields t) (PN.fields u) p2 p3 q2 q3 _ M1.out N1.out (by omega) (by omega) (Lib.hid (M8.out.imp HB.out.size fun _ _ _ hlt k => k.later HB.out (fun _ _ k => k.later HB.out d _ _) hlt)) (Lib.hid (N8.out.imp HB.out.size fun _ _ _ hlt k => k.later HB.out (fun _ _ k => k.later HB.out d _ _) hlt)) R HRF).mono ?_
        rintro _ w2 ⟨rfl, hbw⟩
        have HB2 := Lib.hid (below_trans HB.out hbw)
        clear hbw
        go_wp2_with fail
        all_goals go_ret
        all_goals exact ⟨rfl, HB2.out⟩
      | false =>
        have HRN : Hid (¬ PN.rest t = PN.rest u) := fun h => by have := hr.2 h; cases this
        clear hr
        have HR0 : Hid (R = false) := HNO.out _ (fun k => (HR.out.1 k).2.2.1) HRN.out
        go_enter Tryz.func6, Tryz.ntmps6
        go_wp2_with fail
        refine (restequal_any p4 q4 (PN.rest t) (PN.rest u) p5 p6 q5 q6 _ M4 N4 (by omega) (M7.out.later (below_two _ _ _)) (N7.out.later (below_two _ _ _)) false (Lib.hid ⟨(fun h => by cases h), (fun h => absurd h HRN.out)⟩)).mono ?_
        rintro _ w1 ⟨rfl, hbw⟩
        have HB := Lib.hid (below_trans (below_two _ _ _) hbw)
        clear hbw
        go_wp2_with fail
        all_goals go_ret
        all_goals rw [HR0.out]
        all_goals exact ⟨rfl, HB.out⟩
    · have HR0 : Hid (R = false) := HNO.out _ (fun k => (HR.out.1 k).2.1) hT
      have hS := hSS hT
      obtain ⟨S, hS1⟩ : ∃ S, str T1 = S := ⟨_, rfl⟩
      obtain ⟨S2, hS2⟩ : ∃ S, str T2 = S := ⟨_, rfl⟩
      rw [hS1, hS2] at hS
      rw [hS1, hS2]
      clear hS1 hS2 hSS hT
      go_enter Tryz.func6, Tryz.ntmps6
      go_wp2_with fail
      all_goals go_ret
      all_goals rw [HR0.out]
      all_goals exact ⟨rfl, below_two _ _ _⟩
  · have HR0 : Hid (R = false) := HNO.out _ (fun k => (HR.out.1 k).1) hxy
    have hbx : (x0 == y0) = false := by simpa using hxy
    obtain ⟨S, hS1⟩ : ∃ S, str T1 = S := ⟨_, rfl⟩
    obtain ⟨S2, hS2⟩ : ∃ S, str T2 = S := ⟨_, rfl⟩
    rw [hS1, hS2]
    clear hS1 hS2 hSS hxy
    go_enter Tryz.func6, Tryz.ntmps6
    go_wp2_with fail
    all_goals go_ret
    all_goals rw [HR0.out]
    all_goals exact ⟨rfl, below_two _ _ _⟩
theorem same_all : ∀ d, SameOk 6 d
  | 0 => fun _ _ _ _ _ _ ⟨_, _, h⟩ => h.elim
  | d + 1 => same_step d (Lib.hid (same_all d))
end Go.Proofs.YtnpdnlnglahicaaGreatDoor
