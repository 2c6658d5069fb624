/- lexiconlaw18.size ends, and answers a number, for every value; small answers. -/
import Derived.Test.YtnpdnlnglahicaaGreatDoorSameTop
namespace Go.Proofs.YtnpdnlnglahicaaGreatDoor
open Go.RowKit

def SizeOk (d : Nat) : Prop := ∀ (t : PVT d) (v : Value) (left : Int) (w : World), RdT w d v t → Calls Tryz.prog 8 #[v, .int .i64 left] w fun e w' => (∃ z : Int, e = .returned (.int .i64 z)) ∧ Below w.heap.size w w'
set_option maxRecDepth 100000 in
set_option maxHeartbeats 1000000 in
theorem size_step (d : Nat) (IH : Hid (SizeOk d)) : SizeOk (d + 1) := by
  intro t v left w ht
  obtain ⟨⟨p1, p2, p3, p4, p5, p6⟩, rfl, m1, m2, m3, m4, m5, m6, m7, m8⟩ := ht
  dsimp only at m1 m2 m3 m4 m5 m6 m7 m8
  show Calls _ _ #[.agg #[.int .u64 (PN.word t), .string (str (PN.text t)), .slice p1 p2 p3, .slice p4 p5 p6], .int .i64 left] _ _
  obtain ⟨x0, e0⟩ : ∃ x, PN.word t = x := ⟨_, rfl⟩
  obtain ⟨S, e1⟩ : ∃ x, str (PN.text t) = x := ⟨_, rfl⟩
  rw [e0, e1]
  obtain ⟨fs, e2⟩ : ∃ x, PN.fields t = x := ⟨_, rfl⟩
  obtain ⟨rs, e3⟩ : ∃ x, PN.rest t = x := ⟨_, rfl⟩
  rw [e3] at m4 m7
  rw [e2] at m1 m8
  clear e0 e1 e2 e3
  have M1 := Lib.hid m1
  have M4 := Lib.hid m4
  have M7 := Lib.hid m7
  have M8 := Lib.hid m8
  clear m1 m4 m7 m8
  go_enter Tryz.func8, Tryz.ntmps8
  go_wp2
  obtain ⟨W0, hW0⟩ : ∃ W, w.alloc (.cells #[.int .u64 x0, .string S, .slice p1 p2 p3, .slice p4 p5 p6] 26) = W := ⟨_, rfl⟩
  have HB0 : Hid (Below w.heap.size w W0) := by rw [← hW0]; exact below_alloc _
  have R0 : RowAt W0 w.heap.size 26 #[.int .u64 x0, .string S, .slice p1 p2 p3, .slice p4 p5 p6] := by rw [← hW0]; exact RowAt.new _ _ _
  have R0 := Lib.hid R0
  have k2 : W0.cell? ⟨w.heap.size, 2, none⟩ = some (.slice p1 p2 p3) := R0.out.cell 2
  have k3 : W0.cell? ⟨w.heap.size, 3, none⟩ = some (.slice p4 p5 p6) := R0.out.cell 3
  rw [hW0]
  clear hW0
  go_loopw [5, 6] (fun n i wr => wr = W0 ∧ (∃ z : Int, n = .int .i64 z) ∧ ∃ k : Nat, k ≤ p5 ∧ i = .int .i64 k) (fun _ i _ => p5 - (intOf i).toNat)
  case atStart => exact ⟨rfl, ⟨_, rfl⟩, 0, Nat.zero_le _, rfl⟩
  case round =>
    obtain ⟨rfl, ⟨z, rfl⟩, k, hk, rfl⟩ := hrel
    by_cases hkn : k < p5
    · have hkl : k < rs.length := by rw [← M4.out]; exact hkn
      obtain ⟨b1, o1, rfl, hlt1, hcell1⟩ := M7.out.resolve_left (by intro e; rw [e] at hkl; simp at hkl)
      obtain ⟨_, _, _, d3⟩ := (hcell1 k hkl).later HB0.out hlt1
      obtain ⟨s, hs⟩ : ∃ s, str rs[k].bytes = s := ⟨_, rfl⟩
      rw [hs] at d3
      clear hcell1 hs
      have hb1 : (k : Int) < (p5 : Int) := by omega
      go_wp2_with fail
      exact ⟨⟨trivial, ⟨_, rfl⟩, k + 1, by omega, by go_num⟩, by simp [intOf]; omega⟩
    · obtain rfl : k = p5 := by omega
      clear hkn
      obtain ⟨W1, rfl⟩ : ∃ W, W = wr := ⟨_, rfl⟩
      go_wp2
      go_loopw [5, 7] (fun n i w2 => Below W1.heap.size W1 w2 ∧ (∃ z : Int, n = .int .i64 z) ∧ ∃ k : Nat, k ≤ p2 ∧ i = .int .i64 k) (fun _ i _ => p2 - (intOf i).toNat)
      case atStart => exact ⟨Below.refl _ _, ⟨_, rfl⟩, 0, Nat.zero_le _, rfl⟩
      case round =>
        obtain ⟨hb, ⟨z2, rfl⟩, i, hi, rfl⟩ := hrel
        have HB2 := Lib.hid hb
        clear hb k3
        obtain ⟨W2, rfl⟩ : ∃ W, W = wr := ⟨_, rfl⟩
        have e2 : W2.cell? ⟨w.heap.size, 2, none⟩ = some (.slice p1 p2 p3) := (HB2.out.cell (p := ⟨w.heap.size, 2, none⟩) R0.out.lt).trans k2
        by_cases hin : i < p2
        · by_cases hz : z2 ≤ left
          · have hil : i < fs.length := by rw [← M1.out]; exact hin
            obtain ⟨b1, o1, rfl, hlt1, hcell1⟩ := M8.out.resolve_left (by intro e; rw [e] at hil; simp at hil)
            have HBw := Lib.hid (below_trans HB0.out HB2.out)
            obtain ⟨q1, q2, q3, c0, c1, L⟩ := (hcell1 i hil).later HBw.out (fun _ _ k => k.later HBw.out d _ _) hlt1
            have L := Lib.hid L
            have L1 := L.out.1
            have L2 := L.out.2.1
            have L3 := L.out.2.2.1
            have hs1 : b1 < W2.heap.size := Nat.lt_of_lt_of_le hlt1 HBw.out.size
            have hs0 : w.heap.size < W2.heap.size := Nat.lt_of_lt_of_le R0.out.lt HB2.out.size
            clear hcell1 c0
            have hb1 : (i : Int) < (p2 : Int) := by omega
            go_wp2
            go_loopw [5, 8] (fun n j w3 => Below W2.heap.size W2 w3 ∧ (∃ z : Int, n = .int .i64 z) ∧ ∃ k : Nat, k ≤ q2 ∧ j = .int .i64 k) (fun _ j _ => q2 - (intOf j).toNat)
            case atStart => exact ⟨Below.refl _ _, ⟨_, rfl⟩, 0, Nat.zero_le _, rfl⟩
            case round =>
              obtain ⟨hb, ⟨z3, rfl⟩, j, hj, rfl⟩ := hrel
              have HB3 := Lib.hid hb
              clear hb
              have e3 : wr.cell? ⟨w.heap.size, 2, none⟩ = some (.slice (some ⟨b1, o1, none⟩) p2 p3) := (HB3.out.cell (p := ⟨w.heap.size, 2, none⟩) hs0).trans e2
              have d1 : wr.cell? ⟨b1, o1 + i * 2 + 1, none⟩ = some (.slice q1 q2 q3) := (HB3.out.cell (p := ⟨b1, o1 + i * 2 + 1, none⟩) hs1).trans c1
              by_cases hjn : j < q2
              · by_cases hz3 : z3 ≤ left
                · have hjl : j < fs[i].2.length := by rw [← L1]; exact hjn
                  obtain ⟨b4, o4, rfl, hlt4, hcell4⟩ := L.out.2.2.2.resolve_left (by intro e; rw [e] at hjl; simp at hjl)
                  obtain ⟨g, kk, B⟩ := hcell4 j hjl
                  obtain ⟨f0, f1, f2, f3⟩ := kk.later HB3.out hlt4
                  have B := Lib.hid (B.later HB3.out)
                  obtain ⟨u, hu⟩ : ∃ u, fs[i].2[j] = u := ⟨_, rfl⟩
                  rw [hu] at f0 f1 B
                  have V : Hid (RdT wr d (.agg #[.int .u64 (wdT d u), .string (str (txT d u)), .slice g.a g.n g.c, .slice g.a2 g.n2 g.c2]) u) := ⟨g, rfl, B.out⟩
                  obtain ⟨v0, ev0⟩ : ∃ x, wdT d u = x := ⟨_, rfl⟩
                  obtain ⟨v1, ev1⟩ : ∃ x, str (txT d u) = x := ⟨_, rfl⟩
                  obtain ⟨g1, g2, g3, g4, g5, g6⟩ := g
                  dsimp only at f0 f1 f2 f3 V
                  rw [ev0] at f0 V
                  rw [ev1] at f1 V
                  clear hcell4 kk B hu ev0 ev1
                  have hb4 : (j : Int) < (q2 : Int) := by omega
                  go_wp2_with fail
                  refine (IH.out _ _ _ _ V.out).mono ?_
                  rintro _ w4 ⟨⟨z4, rfl⟩, hb5⟩
                  have HB5 := Lib.hid (below_trans HB3.out hb5)
                  clear hb5 e3 d1 f0 f1 f2 f3
                  go_wp2
                  exact ⟨⟨HB5.out, ⟨_, rfl⟩, j + 1, by omega, by go_num⟩, by simp [intOf]; omega⟩
                · go_wp2
                  exact ⟨⟨below_trans HB2.out HB3.out, ⟨_, rfl⟩, i + 1, by omega, by go_num⟩, by simp [intOf]; omega⟩
              · obtain rfl : j = q2 := by omega
                go_wp2
                exact ⟨⟨below_trans HB2.out HB3.out, ⟨_, rfl⟩, i + 1, by omega, by go_num⟩, by simp [intOf]; omega⟩
          · go_wp2
            go_ret
            exact ⟨⟨_, rfl⟩, below_trans HB0.out HB2.out⟩
        · obtain rfl : i = p2 := by omega
          go_wp2
          go_ret
          exact ⟨⟨_, rfl⟩, below_trans HB0.out HB2.out⟩
theorem size_all : ∀ d, SizeOk d
  | 0 => fun _ _ _ _ ⟨_, _, h⟩ => h.elim
  | d + 1 => size_step d (Lib.hid (size_all d))
end Go.Proofs.YtnpdnlnglahicaaGreatDoor
