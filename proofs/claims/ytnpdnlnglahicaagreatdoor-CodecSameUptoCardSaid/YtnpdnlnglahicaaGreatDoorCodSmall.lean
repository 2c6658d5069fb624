/- CodecSame answers true for any two values; lexiconlaw18.small answers. -/
import Derived.Test.YtnpdnlnglahicaaGreatDoorSize
import Derived.Test.YtnpdnlnglahicaaGreatDoorRefSame
import Derived.Test.YtnpdnlnglahicaaGreatDoorCodWorks
import Derived.Deep.RegionHeldLaw
namespace Go.Proofs.YtnpdnlnglahicaaGreatDoor
open Go.RowKit

set_option maxRecDepth 100000 in
set_option maxHeartbeats 1000000 in
theorem small_any (d : Nat) (t u : PVT d) (h1 h2 : Hd) (b : Nat) (w : World) (B1 : Hid (Body w d h1 t)) (B2 : Hid (Body w d h2 u))
    (R : RowAt w b 26 (hdV (wdT d t) (txT d t) h1 ++ hdV (wdT d u) (txT d u) h2)) :
    Calls Tryz.prog 4 #[.slice (some ⟨b, 0, none⟩) 2 2] w fun e w' => (∃ r, e = .returned (.bool r)) ∧ Below w.heap.size w w' := by
  have hlt := R.lt
  obtain ⟨x0, e0⟩ : ∃ x, wdT d t = x := ⟨_, rfl⟩
  obtain ⟨x1, e1⟩ : ∃ x, str (txT d t) = x := ⟨_, rfl⟩
  obtain ⟨y0, e2⟩ : ∃ x, wdT d u = x := ⟨_, rfl⟩
  obtain ⟨y1, e3⟩ : ∃ x, str (txT d u) = x := ⟨_, rfl⟩
  have V1 : Hid (∀ w', Below w.heap.size w w' → RdT w' d (.agg #[.int .u64 x0, .string x1, .slice h1.a h1.n h1.c, .slice h1.a2 h1.n2 h1.c2]) t) := fun w' hb => ⟨h1, by rw [← e0, ← e1]; rfl, B1.out.later hb d _ _⟩
  have V2 : Hid (∀ w', Below w.heap.size w w' → RdT w' d (.agg #[.int .u64 y0, .string y1, .slice h2.a h2.n h2.c, .slice h2.a2 h2.n2 h2.c2]) u) := fun w' hb => ⟨h2, by rw [← e2, ← e3]; rfl, B2.out.later hb d _ _⟩
  obtain ⟨p1, p2, p3, p4, p5, p6⟩ := h1
  obtain ⟨q1, q2, q3, q4, q5, q6⟩ := h2
  have R : RowAt w b 26 #[.int .u64 x0, .string x1, .slice p1 p2 p3, .slice p4 p5 p6, .int .u64 y0, .string y1, .slice q1 q2 q3, .slice q4 q5 q6] := by
    rw [← e0, ← e1, ← e2, ← e3]; exact R
  dsimp only at V1 V2
  clear B1 B2 e0 e1 e2 e3
  have HR := Lib.hid R
  clear R
  go_enter Tryz.func4, Tryz.ntmps4
  go_wp2
  go_loopw [3] (fun i wr => Below w.heap.size w wr ∧ ∃ k : Nat, k ≤ 2 ∧ i = .int .i64 k) (fun i _ => 2 - (intOf i).toNat)
  case atStart => exact ⟨Below.refl _ _, 0, Nat.zero_le _, rfl⟩
  case round =>
    obtain ⟨hb, k, hk, rfl⟩ := hrel
    have HB := Lib.hid hb
    clear hb
    have HRR := HR.out.below HB.out
    have c0 : wr.cell? ⟨b, 0, none⟩ = some (.int .u64 x0) := HRR.cell 0
    have c1 : wr.cell? ⟨b, 1, none⟩ = some (.string x1) := HRR.cell 1
    have c2 : wr.cell? ⟨b, 2, none⟩ = some (.slice p1 p2 p3) := HRR.cell 2
    have c3 : wr.cell? ⟨b, 3, none⟩ = some (.slice p4 p5 p6) := HRR.cell 3
    have c4 : wr.cell? ⟨b, 4, none⟩ = some (.int .u64 y0) := HRR.cell 4
    have c5 : wr.cell? ⟨b, 5, none⟩ = some (.string y1) := HRR.cell 5
    have c6 : wr.cell? ⟨b, 6, none⟩ = some (.slice q1 q2 q3) := HRR.cell 6
    have c7 : wr.cell? ⟨b, 7, none⟩ = some (.slice q4 q5 q6) := HRR.cell 7
    clear HRR
    match k, hk with
    | 0, _ =>
      go_wp2_with fail
      refine (size_all d t _ _ _ (V1.out _ HB.out)).mono ?_
      rintro _ w1 ⟨⟨z, rfl⟩, hbw⟩
      have HB1 := Lib.hid (below_trans HB.out hbw)
      clear hbw c0 c1 c2 c3 c4 c5 c6 c7
      by_cases hz : 20000 < z
      · go_wp2
        go_ret
        exact ⟨⟨_, rfl⟩, HB1.out⟩
      · go_wp2
        exact ⟨⟨HB1.out, 1, by omega, rfl⟩, by simp [intOf]⟩
    | 1, _ =>
      go_wp2_with fail
      refine (size_all d u _ _ _ (V2.out _ HB.out)).mono ?_
      rintro _ w1 ⟨⟨z, rfl⟩, hbw⟩
      have HB1 := Lib.hid (below_trans HB.out hbw)
      clear hbw c0 c1 c2 c3 c4 c5 c6 c7
      by_cases hz : 20000 < z
      · go_wp2
        go_ret
        exact ⟨⟨_, rfl⟩, HB1.out⟩
      · go_wp2
        exact ⟨⟨HB1.out, 2, by omega, rfl⟩, by simp [intOf]⟩
    | 2, _ =>
      go_wp2
      go_ret
      exact ⟨⟨_, rfl⟩, HB.out⟩
theorem box_three (w : World) (cs1 cs2 cs3 : Array Value) (t : TypeId) : Below w.heap.size w (((w.alloc (.cells cs1 t)).alloc (.cells cs2 t)).alloc (.cells cs3 t)) ∧ RowAt (((w.alloc (.cells cs1 t)).alloc (.cells cs2 t)).alloc (.cells cs3 t)) w.heap.size t cs1 ∧ RowAt (((w.alloc (.cells cs1 t)).alloc (.cells cs2 t)).alloc (.cells cs3 t)) (w.heap.size + 1) t cs2 ∧ RowAt (((w.alloc (.cells cs1 t)).alloc (.cells cs2 t)).alloc (.cells cs3 t)) (w.heap.size + 1 + 1) t cs3 := by
  obtain ⟨h1, h2⟩ := box_two (w := w) cs1 cs2 t t (below_alloc (.cells cs3 t))
  have h3 := RowAt.new ((w.alloc (.cells cs1 t)).alloc (.cells cs2 t)) t cs3
  rw [show ((w.alloc (.cells cs1 t)).alloc (.cells cs2 t)).heap.size = w.heap.size + 1 + 1 by simp] at h3
  exact ⟨below_trans (below_two w _ _) (below_alloc _), h1, h2, h3⟩
theorem held8 {w0 W w2 : World} {b c : Nat} {v0 v1 v2 v3 v4 v5 v6 v7 : Value} (h : (W.cell? ⟨b, 0, none⟩ = some v0 ∧ W.cell? ⟨b, 1, none⟩ = some v1 ∧ W.cell? ⟨b, 2, none⟩ = some v2 ∧ W.cell? ⟨b, 3, none⟩ = some v3 ∧ W.cell? ⟨c, 0, none⟩ = some v4 ∧ W.cell? ⟨c, 1, none⟩ = some v5 ∧ W.cell? ⟨c, 2, none⟩ = some v6 ∧ W.cell? ⟨c, 3, none⟩ = some v7) ∧ Below w0.heap.size w0 W) (hb : Below W.heap.size W w2) :
    (w2.cell? ⟨b, 0, none⟩ = some v0 ∧ w2.cell? ⟨b, 1, none⟩ = some v1 ∧ w2.cell? ⟨b, 2, none⟩ = some v2 ∧ w2.cell? ⟨b, 3, none⟩ = some v3 ∧ w2.cell? ⟨c, 0, none⟩ = some v4 ∧ w2.cell? ⟨c, 1, none⟩ = some v5 ∧ w2.cell? ⟨c, 2, none⟩ = some v6 ∧ w2.cell? ⟨c, 3, none⟩ = some v7) ∧ Below w0.heap.size w0 w2 :=
  have k : ∀ {p : Addr} {v : Value}, W.cell? p = some v → w2.cell? p = some v := fun h => (hb.cell (World.block_lt_of_cell? W _ h)).trans h
  ⟨⟨k h.1.1, k h.1.2.1, k h.1.2.2.1, k h.1.2.2.2.1, k h.1.2.2.2.2.1, k h.1.2.2.2.2.2.1, k h.1.2.2.2.2.2.2.1, k h.1.2.2.2.2.2.2.2⟩, below_trans h.2 hb⟩
set_option maxRecDepth 100000 in
set_option maxHeartbeats 4000000 in
theorem codecsame_any (d : Nat) (t u : PVT d) (v x : Value) (w : World) (ht : RdT w d v t) (hu : RdT w d x u) :
    Calls Tryz.prog 3 #[v, x] w fun e w' => e = .returned (.bool true) ∧ Below w.heap.size w w' := by
  have HT := Lib.hid ht
  have HU := Lib.hid hu
  obtain ⟨h1, rfl, B1⟩ := ht
  obtain ⟨h2, rfl, B2⟩ := hu
  obtain ⟨r1, hr1⟩ := same_bit (t = u)
  have hr2 : r1 = true ↔ u = t := by rw [hr1]; exact ⟨fun e => e.symm, fun e => e.symm⟩
  obtain ⟨VA, hVA⟩ : ∃ V, Value.agg (hdV (wdT d t) (txT d t) h1) = V := ⟨_, rfl⟩
  obtain ⟨VB, hVB⟩ : ∃ V, Value.agg (hdV (wdT d u) (txT d u) h2) = V := ⟨_, rfl⟩
  rw [hVA] at HT
  rw [hVB] at HU
  have P1 : Hid (∀ W, Below w.heap.size w W → Calls Tryz.prog 6 #[VA, VB] W fun e w' => e = .returned (.bool r1) ∧ Below W.heap.size W w') := fun W hb => same_all d t u _ _ W r1 (HT.out.later hb) (HU.out.later hb) hr1
  have P2 : Hid (∀ W, Below w.heap.size w W → Calls Tryz.prog 7 #[VA, VB] W fun e w' => e = .returned (.bool r1) ∧ Below W.heap.size W w') := fun W hb => refsame_all d t u _ _ W r1 (HT.out.later hb) (HU.out.later hb) hr1
  have P3 : Hid (∀ W, Below w.heap.size w W → Calls Tryz.prog 6 #[VB, VA] W fun e w' => e = .returned (.bool r1) ∧ Below W.heap.size W w') := fun W hb => same_all d u t _ _ W r1 (HU.out.later hb) (HT.out.later hb) hr2
  have P4 : Hid (∀ W, Below w.heap.size w W → Calls Tryz.prog 7 #[VB, VA] W fun e w' => e = .returned (.bool r1) ∧ Below W.heap.size W w') := fun W hb => refsame_all d u t _ _ W r1 (HU.out.later hb) (HT.out.later hb) hr2
  have P5 : Hid (∀ W, Below w.heap.size w W → Calls Tryz.prog 6 #[VA, VA] W fun e w' => e = .returned (.bool true) ∧ Below W.heap.size W w') := fun W hb => same_all d t t _ _ W true (HT.out.later hb) (HT.out.later hb) (by simp)
  have P6 : Hid (∀ (b : Nat) (W : World), Below w.heap.size w W → RowAt W b 26 (hdV (wdT d t) (txT d t) h1 ++ hdV (wdT d u) (txT d u) h2) → Calls Tryz.prog 4 #[.slice (some ⟨b, 0, none⟩) 2 2] W fun e w' => (∃ r, e = .returned (.bool r)) ∧ Below W.heap.size W w') := fun b W hb R => small_any d t u h1 h2 b W (B1.later hb d _ _) (B2.later hb d _ _) R
  obtain ⟨x0, e0⟩ : ∃ x, wdT d t = x := ⟨_, rfl⟩
  obtain ⟨x1, e1⟩ : ∃ x, str (txT d t) = x := ⟨_, rfl⟩
  obtain ⟨y0, e2⟩ : ∃ x, wdT d u = x := ⟨_, rfl⟩
  obtain ⟨y1, e3⟩ : ∃ x, str (txT d u) = x := ⟨_, rfl⟩
  obtain ⟨p1, p2, p3, p4, p5, p6⟩ := h1
  obtain ⟨q1, q2, q3, q4, q5, q6⟩ := h2
  have hVA : Value.agg #[.int .u64 x0, .string x1, .slice p1 p2 p3, .slice p4 p5 p6] = VA := by rw [← hVA, ← e0, ← e1]; rfl
  have hVB : Value.agg #[.int .u64 y0, .string y1, .slice q1 q2 q3, .slice q4 q5 q6] = VB := by rw [← hVB, ← e2, ← e3]; rfl
  have P6 : Hid (∀ (b : Nat) (W : World), Below w.heap.size w W → RowAt W b 26 #[.int .u64 x0, .string x1, .slice p1 p2 p3, .slice p4 p5 p6, .int .u64 y0, .string y1, .slice q1 q2 q3, .slice q4 q5 q6] → Calls Tryz.prog 4 #[.slice (some ⟨b, 0, none⟩) 2 2] W fun e w' => (∃ r, e = .returned (.bool r)) ∧ Below W.heap.size W w') := fun b W hb R => P6.out b W hb (by rw [← e0, ← e1, ← e2, ← e3] at R; exact R)
  rw [← hVA, ← hVB] at P1 P2 P3 P4
  rw [← hVA] at P5
  show Calls _ _ #[.agg #[.int .u64 (wdT d t), .string (str (txT d t)), .slice p1 p2 p3, .slice p4 p5 p6], .agg #[.int .u64 (wdT d u), .string (str (txT d u)), .slice q1 q2 q3, .slice q4 q5 q6]] _ _
  rw [e0, e1, e2, e3]
  clear HT HU B1 B2 hr1 hr2 hVA hVB e0 e1 e2 e3
  obtain ⟨K, hK⟩ : ∃ K : Ending → World → Prop, (fun e w' => e = .returned (.bool true) ∧ Below w.heap.size w w') = K := ⟨_, rfl⟩
  have HK : Hid (∀ w', Below w.heap.size w w' → K (.returned (.bool true)) w') := fun w' hb => by rw [← hK]; exact ⟨rfl, hb⟩
  rw [hK]
  clear hK
  go_enter Tryz.func3, Tryz.ntmps3
  go_wp2_with fail
  obtain ⟨hB, hR1, hR2, hR3⟩ := box_three w #[.int .u64 x0, .string x1, .slice p1 p2 p3, .slice p4 p5 p6] #[.int .u64 y0, .string y1, .slice q1 q2 q3, .slice q4 q5 q6] #[.int .u64 x0, .string x1, .slice p1 p2 p3, .slice p4 p5 p6, .int .u64 y0, .string y1, .slice q1 q2 q3, .slice q4 q5 q6] 26
  refine (P6.out (w.heap.size + 1 + 1) _ hB hR3).mono ?_
  rintro _ w1 ⟨⟨r, rfl⟩, hbw⟩
  have hB1 := below_trans hB hbw
  have HB1 := Lib.hid hB1
  have R1 := hR1.below hbw
  have R2 := hR2.below hbw
  have hk1 : (w1.drew.cell? ⟨w.heap.size, 0, none⟩ = some (.int .u64 x0) ∧ w1.drew.cell? ⟨w.heap.size, 1, none⟩ = some (.string x1) ∧ w1.drew.cell? ⟨w.heap.size, 2, none⟩ = some (.slice p1 p2 p3) ∧ w1.drew.cell? ⟨w.heap.size, 3, none⟩ = some (.slice p4 p5 p6) ∧ w1.drew.cell? ⟨w.heap.size + 1, 0, none⟩ = some (.int .u64 y0) ∧ w1.drew.cell? ⟨w.heap.size + 1, 1, none⟩ = some (.string y1) ∧ w1.drew.cell? ⟨w.heap.size + 1, 2, none⟩ = some (.slice q1 q2 q3) ∧ w1.drew.cell? ⟨w.heap.size + 1, 3, none⟩ = some (.slice q4 q5 q6)) ∧ Below w.heap.size w w1.drew := ⟨⟨R1.cell 0, R1.cell 1, R1.cell 2, R1.cell 3, R2.cell 0, R2.cell 1, R2.cell 2, R2.cell 3⟩, hB1.drew⟩
  clear hB hbw R1 R2 hR1 hR2 hR3 hB1
  cases r with
  | false =>
    clear hk1
    go_wp2_with fail
    refine (works_any _).mono ?_
    rintro _ w2 ⟨rfl, hbw⟩
    have HB2 := Lib.hid (below_trans HB1.out hbw)
    clear hbw
    go_wp2_with fail
    all_goals (try go_ret)
    all_goals exact HK.out _ HB2.out
  | true =>
    cases r1 with
    | true =>
      go_wp2_with fail
      go_region_held (fun w' => (w'.cell? ⟨w.heap.size, 0, none⟩ = some (.int .u64 x0) ∧ w'.cell? ⟨w.heap.size, 1, none⟩ = some (.string x1) ∧ w'.cell? ⟨w.heap.size, 2, none⟩ = some (.slice p1 p2 p3) ∧ w'.cell? ⟨w.heap.size, 3, none⟩ = some (.slice p4 p5 p6) ∧ w'.cell? ⟨w.heap.size + 1, 0, none⟩ = some (.int .u64 y0) ∧ w'.cell? ⟨w.heap.size + 1, 1, none⟩ = some (.string y1) ∧ w'.cell? ⟨w.heap.size + 1, 2, none⟩ = some (.slice q1 q2 q3) ∧ w'.cell? ⟨w.heap.size + 1, 3, none⟩ = some (.slice q4 q5 q6)) ∧ Below w.heap.size w w') (first | assumption) (first
        | (go_simp; go_at_call 5; refine (works_any w6).mono ?_; rintro e w7 ⟨rfl, hb7⟩; have hk7 : (w7.cell? ⟨w.heap.size, 0, none⟩ = some (.int .u64 x0) ∧ w7.cell? ⟨w.heap.size, 1, none⟩ = some (.string x1) ∧ w7.cell? ⟨w.heap.size, 2, none⟩ = some (.slice p1 p2 p3) ∧ w7.cell? ⟨w.heap.size, 3, none⟩ = some (.slice p4 p5 p6) ∧ w7.cell? ⟨w.heap.size + 1, 0, none⟩ = some (.int .u64 y0) ∧ w7.cell? ⟨w.heap.size + 1, 1, none⟩ = some (.string y1) ∧ w7.cell? ⟨w.heap.size + 1, 2, none⟩ = some (.slice q1 q2 q3) ∧ w7.cell? ⟨w.heap.size + 1, 3, none⟩ = some (.slice q4 q5 q6)) ∧ Below w.heap.size w w7 := held8 hk6 hb7; clear hb7)
        | (go_simp; go_at_call 6; refine (P5.out w5 hk5.2).mono ?_; rintro e w6 ⟨rfl, hb6⟩; have hk6 : (w6.cell? ⟨w.heap.size, 0, none⟩ = some (.int .u64 x0) ∧ w6.cell? ⟨w.heap.size, 1, none⟩ = some (.string x1) ∧ w6.cell? ⟨w.heap.size, 2, none⟩ = some (.slice p1 p2 p3) ∧ w6.cell? ⟨w.heap.size, 3, none⟩ = some (.slice p4 p5 p6) ∧ w6.cell? ⟨w.heap.size + 1, 0, none⟩ = some (.int .u64 y0) ∧ w6.cell? ⟨w.heap.size + 1, 1, none⟩ = some (.string y1) ∧ w6.cell? ⟨w.heap.size + 1, 2, none⟩ = some (.slice q1 q2 q3) ∧ w6.cell? ⟨w.heap.size + 1, 3, none⟩ = some (.slice q4 q5 q6)) ∧ Below w.heap.size w w6 := held8 hk5 hb6; clear hb6)
        | (go_simp; go_at_call 7; refine (P2.out w4 hk4.2).mono ?_; rintro e w5 ⟨rfl, hb5⟩; have hk5 : (w5.cell? ⟨w.heap.size, 0, none⟩ = some (.int .u64 x0) ∧ w5.cell? ⟨w.heap.size, 1, none⟩ = some (.string x1) ∧ w5.cell? ⟨w.heap.size, 2, none⟩ = some (.slice p1 p2 p3) ∧ w5.cell? ⟨w.heap.size, 3, none⟩ = some (.slice p4 p5 p6) ∧ w5.cell? ⟨w.heap.size + 1, 0, none⟩ = some (.int .u64 y0) ∧ w5.cell? ⟨w.heap.size + 1, 1, none⟩ = some (.string y1) ∧ w5.cell? ⟨w.heap.size + 1, 2, none⟩ = some (.slice q1 q2 q3) ∧ w5.cell? ⟨w.heap.size + 1, 3, none⟩ = some (.slice q4 q5 q6)) ∧ Below w.heap.size w w5 := held8 hk4 hb5; clear hb5)
        | (go_simp; go_at_call 6; refine (P3.out w3 hk3.2).mono ?_; rintro e w4 ⟨rfl, hb4⟩; have hk4 : (w4.cell? ⟨w.heap.size, 0, none⟩ = some (.int .u64 x0) ∧ w4.cell? ⟨w.heap.size, 1, none⟩ = some (.string x1) ∧ w4.cell? ⟨w.heap.size, 2, none⟩ = some (.slice p1 p2 p3) ∧ w4.cell? ⟨w.heap.size, 3, none⟩ = some (.slice p4 p5 p6) ∧ w4.cell? ⟨w.heap.size + 1, 0, none⟩ = some (.int .u64 y0) ∧ w4.cell? ⟨w.heap.size + 1, 1, none⟩ = some (.string y1) ∧ w4.cell? ⟨w.heap.size + 1, 2, none⟩ = some (.slice q1 q2 q3) ∧ w4.cell? ⟨w.heap.size + 1, 3, none⟩ = some (.slice q4 q5 q6)) ∧ Below w.heap.size w w4 := held8 hk3 hb4; clear hb4)
        | (go_simp; go_at_call 7; refine (P2.out w2 hk2.2).mono ?_; rintro e w3 ⟨rfl, hb3⟩; have hk3 : (w3.cell? ⟨w.heap.size, 0, none⟩ = some (.int .u64 x0) ∧ w3.cell? ⟨w.heap.size, 1, none⟩ = some (.string x1) ∧ w3.cell? ⟨w.heap.size, 2, none⟩ = some (.slice p1 p2 p3) ∧ w3.cell? ⟨w.heap.size, 3, none⟩ = some (.slice p4 p5 p6) ∧ w3.cell? ⟨w.heap.size + 1, 0, none⟩ = some (.int .u64 y0) ∧ w3.cell? ⟨w.heap.size + 1, 1, none⟩ = some (.string y1) ∧ w3.cell? ⟨w.heap.size + 1, 2, none⟩ = some (.slice q1 q2 q3) ∧ w3.cell? ⟨w.heap.size + 1, 3, none⟩ = some (.slice q4 q5 q6)) ∧ Below w.heap.size w w3 := held8 hk2 hb3; clear hb3)
        | (go_simp; go_at_call 6; refine (P1.out w1.drew hk1.2).mono ?_; rintro e w2 ⟨rfl, hb2⟩; have hk2 : (w2.cell? ⟨w.heap.size, 0, none⟩ = some (.int .u64 x0) ∧ w2.cell? ⟨w.heap.size, 1, none⟩ = some (.string x1) ∧ w2.cell? ⟨w.heap.size, 2, none⟩ = some (.slice p1 p2 p3) ∧ w2.cell? ⟨w.heap.size, 3, none⟩ = some (.slice p4 p5 p6) ∧ w2.cell? ⟨w.heap.size + 1, 0, none⟩ = some (.int .u64 y0) ∧ w2.cell? ⟨w.heap.size + 1, 1, none⟩ = some (.string y1) ∧ w2.cell? ⟨w.heap.size + 1, 2, none⟩ = some (.slice q1 q2 q3) ∧ w2.cell? ⟨w.heap.size + 1, 3, none⟩ = some (.slice q4 q5 q6)) ∧ Below w.heap.size w w2 := held8 hk1 hb2; clear hb2))
      all_goals (go_wp2_with fail)
      all_goals (try go_ret)
      all_goals exact HK.out _ hk7.2
    | false =>
      go_wp2_with fail
      go_region_held (fun w' => (w'.cell? ⟨w.heap.size, 0, none⟩ = some (.int .u64 x0) ∧ w'.cell? ⟨w.heap.size, 1, none⟩ = some (.string x1) ∧ w'.cell? ⟨w.heap.size, 2, none⟩ = some (.slice p1 p2 p3) ∧ w'.cell? ⟨w.heap.size, 3, none⟩ = some (.slice p4 p5 p6) ∧ w'.cell? ⟨w.heap.size + 1, 0, none⟩ = some (.int .u64 y0) ∧ w'.cell? ⟨w.heap.size + 1, 1, none⟩ = some (.string y1) ∧ w'.cell? ⟨w.heap.size + 1, 2, none⟩ = some (.slice q1 q2 q3) ∧ w'.cell? ⟨w.heap.size + 1, 3, none⟩ = some (.slice q4 q5 q6)) ∧ Below w.heap.size w w') (first | assumption) (first
        | (go_simp; go_at_call 5; refine (works_any w6).mono ?_; rintro e w7 ⟨rfl, hb7⟩; have hk7 : (w7.cell? ⟨w.heap.size, 0, none⟩ = some (.int .u64 x0) ∧ w7.cell? ⟨w.heap.size, 1, none⟩ = some (.string x1) ∧ w7.cell? ⟨w.heap.size, 2, none⟩ = some (.slice p1 p2 p3) ∧ w7.cell? ⟨w.heap.size, 3, none⟩ = some (.slice p4 p5 p6) ∧ w7.cell? ⟨w.heap.size + 1, 0, none⟩ = some (.int .u64 y0) ∧ w7.cell? ⟨w.heap.size + 1, 1, none⟩ = some (.string y1) ∧ w7.cell? ⟨w.heap.size + 1, 2, none⟩ = some (.slice q1 q2 q3) ∧ w7.cell? ⟨w.heap.size + 1, 3, none⟩ = some (.slice q4 q5 q6)) ∧ Below w.heap.size w w7 := held8 hk6 hb7; clear hb7)
        | (go_simp; go_at_call 6; refine (P5.out w5 hk5.2).mono ?_; rintro e w6 ⟨rfl, hb6⟩; have hk6 : (w6.cell? ⟨w.heap.size, 0, none⟩ = some (.int .u64 x0) ∧ w6.cell? ⟨w.heap.size, 1, none⟩ = some (.string x1) ∧ w6.cell? ⟨w.heap.size, 2, none⟩ = some (.slice p1 p2 p3) ∧ w6.cell? ⟨w.heap.size, 3, none⟩ = some (.slice p4 p5 p6) ∧ w6.cell? ⟨w.heap.size + 1, 0, none⟩ = some (.int .u64 y0) ∧ w6.cell? ⟨w.heap.size + 1, 1, none⟩ = some (.string y1) ∧ w6.cell? ⟨w.heap.size + 1, 2, none⟩ = some (.slice q1 q2 q3) ∧ w6.cell? ⟨w.heap.size + 1, 3, none⟩ = some (.slice q4 q5 q6)) ∧ Below w.heap.size w w6 := held8 hk5 hb6; clear hb6)
        | (go_simp; go_at_call 7; refine (P2.out w4 hk4.2).mono ?_; rintro e w5 ⟨rfl, hb5⟩; have hk5 : (w5.cell? ⟨w.heap.size, 0, none⟩ = some (.int .u64 x0) ∧ w5.cell? ⟨w.heap.size, 1, none⟩ = some (.string x1) ∧ w5.cell? ⟨w.heap.size, 2, none⟩ = some (.slice p1 p2 p3) ∧ w5.cell? ⟨w.heap.size, 3, none⟩ = some (.slice p4 p5 p6) ∧ w5.cell? ⟨w.heap.size + 1, 0, none⟩ = some (.int .u64 y0) ∧ w5.cell? ⟨w.heap.size + 1, 1, none⟩ = some (.string y1) ∧ w5.cell? ⟨w.heap.size + 1, 2, none⟩ = some (.slice q1 q2 q3) ∧ w5.cell? ⟨w.heap.size + 1, 3, none⟩ = some (.slice q4 q5 q6)) ∧ Below w.heap.size w w5 := held8 hk4 hb5; clear hb5)
        | (go_simp; go_at_call 6; refine (P3.out w3 hk3.2).mono ?_; rintro e w4 ⟨rfl, hb4⟩; have hk4 : (w4.cell? ⟨w.heap.size, 0, none⟩ = some (.int .u64 x0) ∧ w4.cell? ⟨w.heap.size, 1, none⟩ = some (.string x1) ∧ w4.cell? ⟨w.heap.size, 2, none⟩ = some (.slice p1 p2 p3) ∧ w4.cell? ⟨w.heap.size, 3, none⟩ = some (.slice p4 p5 p6) ∧ w4.cell? ⟨w.heap.size + 1, 0, none⟩ = some (.int .u64 y0) ∧ w4.cell? ⟨w.heap.size + 1, 1, none⟩ = some (.string y1) ∧ w4.cell? ⟨w.heap.size + 1, 2, none⟩ = some (.slice q1 q2 q3) ∧ w4.cell? ⟨w.heap.size + 1, 3, none⟩ = some (.slice q4 q5 q6)) ∧ Below w.heap.size w w4 := held8 hk3 hb4; clear hb4)
        | (go_simp; go_at_call 7; refine (P2.out w2 hk2.2).mono ?_; rintro e w3 ⟨rfl, hb3⟩; have hk3 : (w3.cell? ⟨w.heap.size, 0, none⟩ = some (.int .u64 x0) ∧ w3.cell? ⟨w.heap.size, 1, none⟩ = some (.string x1) ∧ w3.cell? ⟨w.heap.size, 2, none⟩ = some (.slice p1 p2 p3) ∧ w3.cell? ⟨w.heap.size, 3, none⟩ = some (.slice p4 p5 p6) ∧ w3.cell? ⟨w.heap.size + 1, 0, none⟩ = some (.int .u64 y0) ∧ w3.cell? ⟨w.heap.size + 1, 1, none⟩ = some (.string y1) ∧ w3.cell? ⟨w.heap.size + 1, 2, none⟩ = some (.slice q1 q2 q3) ∧ w3.cell? ⟨w.heap.size + 1, 3, none⟩ = some (.slice q4 q5 q6)) ∧ Below w.heap.size w w3 := held8 hk2 hb3; clear hb3)
        | (go_simp; go_at_call 6; refine (P1.out w1.drew hk1.2).mono ?_; rintro e w2 ⟨rfl, hb2⟩; have hk2 : (w2.cell? ⟨w.heap.size, 0, none⟩ = some (.int .u64 x0) ∧ w2.cell? ⟨w.heap.size, 1, none⟩ = some (.string x1) ∧ w2.cell? ⟨w.heap.size, 2, none⟩ = some (.slice p1 p2 p3) ∧ w2.cell? ⟨w.heap.size, 3, none⟩ = some (.slice p4 p5 p6) ∧ w2.cell? ⟨w.heap.size + 1, 0, none⟩ = some (.int .u64 y0) ∧ w2.cell? ⟨w.heap.size + 1, 1, none⟩ = some (.string y1) ∧ w2.cell? ⟨w.heap.size + 1, 2, none⟩ = some (.slice q1 q2 q3) ∧ w2.cell? ⟨w.heap.size + 1, 3, none⟩ = some (.slice q4 q5 q6)) ∧ Below w.heap.size w w2 := held8 hk1 hb2; clear hb2))
      all_goals (go_wp2_with fail)
      all_goals (try go_ret)
      all_goals exact HK.out _ hk7.2
end Go.Proofs.YtnpdnlnglahicaaGreatDoor
