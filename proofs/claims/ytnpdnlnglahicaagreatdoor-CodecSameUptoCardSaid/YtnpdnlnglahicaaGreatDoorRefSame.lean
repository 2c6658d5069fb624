/- The document's Same (lexiconref18) tells whether two values of a message are the same. -/
import Derived.Test.YtnpdnlnglahicaaGreatDoorSameTop
import Derived.Deep.RegionHeldLaw
namespace Go.Proofs.YtnpdnlnglahicaaGreatDoor
open Go.RowKit

theorem cell_new {w : World} {p : Addr} {v : Value} (h : w.cell? p = some v) (o : Obj) : (w.alloc o).cell? p = some v :=
  ((Below.refl w.heap.size w).alloc (Nat.le_refl _) o).cell (World.block_lt_of_cell? w _ h) |>.trans h
theorem six_a {w : World} {p1 p2 p3 p4 p5 p6 : Addr} {v1 v2 v3 v4 v5 v6 : Value} (h : w.cell? p1 = some v1 ∧ w.cell? p2 = some v2 ∧ w.cell? p3 = some v3 ∧ w.cell? p4 = some v4 ∧ w.cell? p5 = some v5 ∧ w.cell? p6 = some v6) (o : Obj) :
    (w.alloc o).drew.cell? p1 = some v1 ∧ (w.alloc o).drew.cell? p2 = some v2 ∧ (w.alloc o).drew.cell? p3 = some v3 ∧ (w.alloc o).drew.cell? p4 = some v4 ∧ (w.alloc o).drew.cell? p5 = some v5 ∧ (w.alloc o).drew.cell? p6 = some v6 :=
  ⟨cell_new h.1 o, cell_new h.2.1 o, cell_new h.2.2.1 o, cell_new h.2.2.2.1 o, cell_new h.2.2.2.2.1 o, cell_new h.2.2.2.2.2 o⟩
theorem six_b {w : World} {p1 p2 p3 p4 p5 p6 : Addr} {v1 v2 v3 v4 v5 v6 : Value} (h : w.cell? p1 = some v1 ∧ w.cell? p2 = some v2 ∧ w.cell? p3 = some v3 ∧ w.cell? p4 = some v4 ∧ w.cell? p5 = some v5 ∧ w.cell? p6 = some v6) (o o' : Obj) :
    ((w.alloc o).alloc o').drew.cell? p1 = some v1 ∧ ((w.alloc o).alloc o').drew.cell? p2 = some v2 ∧ ((w.alloc o).alloc o').drew.cell? p3 = some v3 ∧ ((w.alloc o).alloc o').drew.cell? p4 = some v4 ∧ ((w.alloc o).alloc o').drew.cell? p5 = some v5 ∧ ((w.alloc o).alloc o').drew.cell? p6 = some v6 :=
  six_a (w := w.alloc o) (six_a h o) o'
theorem ten_later {w w' : World} {p1 p2 p3 p4 p5 p6 p7 p8 p9 p10 : Addr} {v1 v2 v3 v4 v5 v6 v7 v8 v9 v10 : Value} (h : w.cell? p1 = some v1 ∧ w.cell? p2 = some v2 ∧ w.cell? p3 = some v3 ∧ w.cell? p4 = some v4 ∧ w.cell? p5 = some v5 ∧ w.cell? p6 = some v6 ∧ w.cell? p7 = some v7 ∧ w.cell? p8 = some v8 ∧ w.cell? p9 = some v9 ∧ w.cell? p10 = some v10) (hb : Below w.heap.size w w') :
    w'.cell? p1 = some v1 ∧ w'.cell? p2 = some v2 ∧ w'.cell? p3 = some v3 ∧ w'.cell? p4 = some v4 ∧ w'.cell? p5 = some v5 ∧ w'.cell? p6 = some v6 ∧ w'.cell? p7 = some v7 ∧ w'.cell? p8 = some v8 ∧ w'.cell? p9 = some v9 ∧ w'.cell? p10 = some v10 :=
  have k : ∀ {p : Addr} {v : Value}, w.cell? p = some v → w'.cell? p = some v := fun h => (hb.cell (World.block_lt_of_cell? w _ h)).trans h
  ⟨k h.1, k h.2.1, k h.2.2.1, k h.2.2.2.1, k h.2.2.2.2.1, k h.2.2.2.2.2.1, k h.2.2.2.2.2.2.1, k h.2.2.2.2.2.2.2.1, k h.2.2.2.2.2.2.2.2.1, k h.2.2.2.2.2.2.2.2.2⟩
theorem two_ent (w : World) (cs ds : Array Value) (t : TypeId) : RowAt ((w.alloc (.cells cs t)).alloc (.cells ds t)).drew w.heap.size t cs ∧ RowAt ((w.alloc (.cells cs t)).alloc (.cells ds t)).drew (w.heap.size + 1) t ds ∧ Below w.heap.size w ((w.alloc (.cells cs t)).alloc (.cells ds t)).drew := by
  obtain ⟨h1, h2⟩ := box_two (w := w) cs ds t t (Below.refl _ _)
  exact ⟨h1, h2, (below_two w _ _).drew⟩
set_option maxRecDepth 100000 in
set_option maxHeartbeats 4000000 in
theorem refsame_step (d : Nat) (IH : Hid (SameOk 7 d)) : SameOk 7 (d + 1) := by
  intro t u v x w R ht hu hR
  obtain ⟨⟨p1, p2, p3, p4, p5, p6⟩, rfl, m1, m2, m3, m4, m5, m6, m7, m8⟩ := ht
  obtain ⟨⟨q1, q2, q3, q4, q5, q6⟩, rfl, n1, n2, n3, n4, n5, n6, n7, n8⟩ := hu
  dsimp only at m1 m2 m3 m4 m5 m6 m7 m8 n1 n2 n3 n4 n5 n6 n7 n8
  have hR : R = true ↔ PN.word t = PN.word u ∧ PN.text t = PN.text u ∧ PN.rest t = PN.rest u ∧ PN.fields t = PN.fields u := by rw [hR]; exact pn_eq
  have HR := Lib.hid hR
  show Calls _ _ #[.agg #[.int .u64 (PN.word t), .string (str (PN.text t)), .slice p1 p2 p3, .slice p4 p5 p6], .agg #[.int .u64 (PN.word u), .string (str (PN.text u)), .slice q1 q2 q3, .slice q4 q5 q6]] _ _
  have hno : ∀ P : Prop, (R = true → P) → ¬ P → R = false := fun P h k => by
    cases R with
    | false => rfl
    | true => exact absurd (h rfl) k
  have HNO := Lib.hid hno
  obtain ⟨x0, e0⟩ : ∃ x, PN.word t = x := ⟨_, rfl⟩
  obtain ⟨y0, e2⟩ : ∃ x, PN.word u = x := ⟨_, rfl⟩
  have hSS : PN.text t ≠ PN.text u → ((str (PN.text t)).toList == (str (PN.text u)).toList) = false := fun h => strl_ne h
  obtain ⟨T1, e1⟩ : ∃ x, PN.text t = x := ⟨_, rfl⟩
  obtain ⟨T2, e3⟩ : ∃ x, PN.text u = x := ⟨_, rfl⟩
  obtain ⟨fs, e4⟩ : ∃ x, PN.fields t = x := ⟨_, rfl⟩
  obtain ⟨gs, e5⟩ : ∃ x, PN.fields u = x := ⟨_, rfl⟩
  obtain ⟨rs, e6⟩ : ∃ x, PN.rest t = x := ⟨_, rfl⟩
  obtain ⟨ss, e7⟩ : ∃ x, PN.rest u = x := ⟨_, rfl⟩
  rw [e0, e2, e1, e3, e4, e5, e6, e7] at HR
  rw [e1, e3] at hSS
  rw [e0, e1, e2, e3]
  rw [e4] at m1 m8
  rw [e5] at n1 n8
  rw [e6] at m4 m7
  rw [e7] at n4 n7
  have M7 := Lib.hid m7
  have M8 := Lib.hid m8
  have N7 := Lib.hid n7
  have N8 := Lib.hid n8
  have M1 := Lib.hid m1
  have M4 := Lib.hid m4
  have N1 := Lib.hid n1
  have N4 := Lib.hid n4
  clear hR hno m1 m4 m7 m8 n1 n4 n7 n8 e0 e1 e2 e3 e4 e5 e6 e7
  by_cases hxy : x0 = y0
  · subst hxy
    by_cases hT : T1 = T2
    · subst hT
      obtain ⟨S, hS⟩ : ∃ S, str T1 = S := ⟨_, rfl⟩
      rw [hS]
      clear hS hSS
      by_cases hpq : p2 = q2
      · subst hpq
        obtain ⟨r, hr⟩ := same_bit (rs = ss)
        cases r with
        | true =>
          have HRE : Hid (rs = ss) := hr.1 rfl
          clear hr
          have HRF : Hid (R = true ↔ fs = gs) := by
            have h := HRE.out
            show _ ↔ _
            rw [HR.out]
            exact ⟨fun k => k.2.2.2, fun k => ⟨rfl, rfl, h, k⟩⟩
          go_enter Tryz.func7, Tryz.ntmps7
          go_wp2_with fail
          refine (restsame_any p4 q4 rs ss p5 p6 q5 q6 _ M4 N4 (by omega) (M7.out.later (below_two _ _ _)) (N7.out.later (below_two _ _ _)) true (Lib.hid ⟨fun _ => HRE.out, fun _ => rfl⟩)).mono ?_
          rintro _ w1 ⟨rfl, hbw⟩
          have HB := Lib.hid (below_trans (below_two _ _ _) hbw)
          obtain ⟨r1, r2⟩ := box_two _ _ _ _ hbw
          have a2 : w1.cell? ⟨w.heap.size, 2, none⟩ = some (.slice p1 p2 p3) := r1.cell 2
          have b2 : w1.cell? ⟨w.heap.size + 1, 2, none⟩ = some (.slice q1 p2 q3) := r2.cell 2
          have hl1 := r1.lt
          have hl2 := r2.lt
          clear hbw r1 r2
          go_wp2_with fail
          go_loopw [5] (fun i wr => Below w1.heap.size w1 wr ∧ ∃ k : Nat, k ≤ p2 ∧ i = .int .i64 k ∧ fs.take k = gs.take k) (fun i _ => p2 - (intOf i).toNat)
          case atStart => exact ⟨Below.refl _ _, 0, Nat.zero_le _, rfl, by simp⟩
          case round =>
            obtain ⟨hb, k, hk, rfl, htk⟩ := hrel
            have HB1 := Lib.hid hb
            have HTK := Lib.hid htk
            have HBW := Lib.hid (below_trans HB.out hb)
            clear hb htk
            obtain ⟨W2, rfl⟩ : ∃ W, W = wr := ⟨_, rfl⟩
            have a3 : W2.cell? ⟨w.heap.size, 2, none⟩ = some (.slice p1 p2 p3) := (HB1.out.cell (p := ⟨w.heap.size, 2, none⟩) hl1).trans a2
            have b3 : W2.cell? ⟨w.heap.size + 1, 2, none⟩ = some (.slice q1 p2 q3) := (HB1.out.cell (p := ⟨w.heap.size + 1, 2, none⟩) hl2).trans b2
            by_cases hkn : k < p2
            · have hkl : k < fs.length := by rw [← M1.out]; exact hkn
              have hkm : k < gs.length := by rw [← N1.out]; exact hkn
              obtain ⟨b1, o1, rfl, hlt1, hcell1⟩ := M8.out.resolve_left (by intro e; rw [e] at hkl; simp at hkl)
              obtain ⟨b9, o9, rfl, hlt9, hcell9⟩ := N8.out.resolve_left (by intro e; rw [e] at hkm; simp at hkm)
              obtain ⟨s1, s2, s3, c0, c1, L1⟩ := (hcell1 k hkl).later HBW.out (fun _ _ k => k.later HBW.out d _ _) hlt1
              obtain ⟨z1, z2, z3, d0, d1, L9⟩ := (hcell9 k hkm).later HBW.out (fun _ _ k => k.later HBW.out d _ _) hlt9
              have HTE := Lib.hid (fun e => take_eq hkl hkm HTK.out e)
              have HL1 := Lib.hid L1
              have HL9 := Lib.hid L9
              obtain ⟨⟨f1, f2⟩, hf⟩ : ∃ f, fs[k] = f := ⟨_, rfl⟩
              obtain ⟨⟨g1, g2⟩, hg⟩ : ∃ f, gs[k] = f := ⟨_, rfl⟩
              have HNE : Hid (¬ (f1 = g1 ∧ f2 = g2) → R = false) := fun h => HNO.out _ HRF.out.1 fun e => h (by
                subst e
                rw [hf] at hg
                cases hg
                exact ⟨rfl, rfl⟩)
              have HYE : Hid (f1 = g1 → f2 = g2 → fs.take (k + 1) = gs.take (k + 1)) := fun e1 e2 => HTE.out (by rw [hf, hg, e1, e2])
              rw [hf] at c0 HL1
              rw [hg] at d0 HL9
              dsimp only at c0 d0 HL1 HL9
              have hb1 : (k : Int) < (p2 : Int) := by omega
              clear hcell1 hcell9 L1 L9 hf hg HTE HTK
              have hS0 : W2.cell? ⟨w.heap.size, 2, none⟩ = some (.slice (some ⟨b1, o1, none⟩) p2 p3) ∧ W2.cell? ⟨w.heap.size + 1, 2, none⟩ = some (.slice (some ⟨b9, o9, none⟩) p2 q3) ∧ W2.cell? ⟨b1, o1 + k * 2, none⟩ = some (.int .i64 f1) ∧ W2.cell? ⟨b1, o1 + k * 2 + 1, none⟩ = some (.slice s1 s2 s3) ∧ W2.cell? ⟨b9, o9 + k * 2, none⟩ = some (.int .i64 g1) ∧ W2.cell? ⟨b9, o9 + k * 2 + 1, none⟩ = some (.slice z1 z2 z3) := ⟨a3, b3, c0, c1, d0, d1⟩
              go_wp2_with fail
              clear a3 b3 c0 c1 d0 d1
              go_region_held (fun w' => w'.cell? ⟨w.heap.size, 2, none⟩ = some (.slice (some ⟨b1, o1, none⟩) p2 p3) ∧ w'.cell? ⟨w.heap.size + 1, 2, none⟩ = some (.slice (some ⟨b9, o9, none⟩) p2 q3) ∧ w'.cell? ⟨b1, o1 + k * 2, none⟩ = some (.int .i64 f1) ∧ w'.cell? ⟨b1, o1 + k * 2 + 1, none⟩ = some (.slice s1 s2 s3) ∧ w'.cell? ⟨b9, o9 + k * 2, none⟩ = some (.int .i64 g1) ∧ w'.cell? ⟨b9, o9 + k * 2 + 1, none⟩ = some (.slice z1 z2 z3)) (first | exact hS0 | exact six_a hS0 _ | exact six_b hS0 _ _ | assumption) (fail)
              all_goals clear hS0
              · obtain ⟨hx, hy, hb9⟩ := two_ent W2 #[.int .i64 f1, .slice s1 s2 s3] #[.int .i64 g1, .slice z1 z2 z3] 43
                obtain ⟨W9, hW9⟩ : ∃ W, ((W2.alloc (.cells #[.int .i64 f1, .slice s1 s2 s3] 43)).alloc (.cells #[.int .i64 g1, .slice z1 z2 z3] 43)).drew = W := ⟨_, rfl⟩
                rename_i hh
                clear hh
                rw [hW9] at hx hy hb9 ⊢
                have HB9 := Lib.hid hb9
                clear hW9 hb9
                obtain ⟨by_, hby⟩ : ∃ b, W2.heap.size + 1 = b := ⟨_, rfl⟩
                obtain ⟨bx, hbx⟩ : ∃ b, W2.heap.size = b := ⟨_, rfl⟩
                rw [hby] at hy ⊢
                rw [hbx] at hx ⊢
                clear hbx hby
                have e0 : W9.cell? ⟨bx, 0, none⟩ = some (.int .i64 f1) := hx.cell 0
                have e1 : W9.cell? ⟨bx, 1, none⟩ = some (.slice s1 s2 s3) := hx.cell 1
                have e2 : W9.cell? ⟨by_, 0, none⟩ = some (.int .i64 g1) := hy.cell 0
                have e3 : W9.cell? ⟨by_, 1, none⟩ = some (.slice z1 z2 z3) := hy.cell 1
                have hlx := hx.lt
                have hly := hy.lt
                have HBX := Lib.hid (below_trans HB1.out HB9.out)
                have HBZ := Lib.hid (below_trans HB.out HBX.out)
                clear hx hy
                have L1 := HL1.out.1
                have L2 := HL1.out.2.1
                have L3 := HL1.out.2.2.1
                have L4 := HL9.out.1
                have L5 := HL9.out.2.1
                have L6 := HL9.out.2.2.1
                by_cases hfg : f1 = g1
                · subst hfg
                  by_cases hsz : s2 = z2
                  · subst hsz
                    go_wp2_with fail
                    go_loopw [8] (fun i wr => Below W9.heap.size W9 wr ∧ ∃ j : Nat, j ≤ s2 ∧ i = .int .i64 j ∧ f2.take j = g2.take j) (fun i _ => s2 - (intOf i).toNat)
                    case atStart => exact ⟨Below.refl _ _, 0, Nat.zero_le _, rfl, by simp⟩
                    case round =>
                      obtain ⟨hb, j, hj, rfl, htj⟩ := hrel
                      have HB10 := Lib.hid hb
                      have HTJ := Lib.hid htj
                      clear hb htj
                      have HB12 := Lib.hid (below_trans HB9.out HB10.out)
                      have e11 : wr.cell? ⟨bx, 1, none⟩ = some (.slice s1 s2 s3) := (HB10.out.cell (p := ⟨bx, 1, none⟩) hlx).trans e1
                      have e13 : wr.cell? ⟨by_, 1, none⟩ = some (.slice z1 s2 z3) := (HB10.out.cell (p := ⟨by_, 1, none⟩) hly).trans e3
                      by_cases hjn : j < s2
                      · have hjl : j < f2.length := by rw [← L1]; exact hjn
                        have hjm : j < g2.length := by rw [← L4]; exact hjn
                        obtain ⟨b4, o4, rfl, hlt4, hcell4⟩ := HL1.out.2.2.2.resolve_left (by intro e; rw [e] at hjl; simp at hjl)
                        obtain ⟨b5, o5, rfl, hlt5, hcell5⟩ := HL9.out.2.2.2.resolve_left (by intro e; rw [e] at hjm; simp at hjm)
                        obtain ⟨g4, kk4, B4⟩ := hcell4 j hjl
                        obtain ⟨g5, kk5, B5⟩ := hcell5 j hjm
                        obtain ⟨r0, r1, r2, r3⟩ := kk4.later HB12.out hlt4
                        obtain ⟨t0, t1, t2, t3⟩ := kk5.later HB12.out hlt5
                        have B4 := Lib.hid (B4.later HB12.out)
                        have B5 := Lib.hid (B5.later HB12.out)
                        have HTE2 := Lib.hid (fun e => take_eq hjl hjm HTJ.out e)
                        obtain ⟨r, hr⟩ := same_bit (f2[j] = g2[j])
                        have HNJ : Hid (r = false → R = false) := fun h => HNE.out fun e => by
                          have h2 := e.2
                          subst h2
                          have := hr.2 rfl
                          rw [h] at this
                          cases this
                        have HYJ : Hid (r = true → f2.take (j + 1) = g2.take (j + 1)) := fun h => HTE2.out (hr.1 h)
                        obtain ⟨a4, ha4⟩ : ∃ t, f2[j] = t := ⟨_, rfl⟩
                        obtain ⟨a5, ha5⟩ : ∃ t, g2[j] = t := ⟨_, rfl⟩
                        rw [ha4, ha5] at hr
                        rw [ha4] at r0 r1 B4
                        rw [ha5] at t0 t1 B5
                        have HRJ := Lib.hid hr
                        have V1 : Hid (∀ w', Below wr.heap.size wr w' → RdT w' d (.agg #[.int .u64 (wdT d a4), .string (str (txT d a4)), .slice g4.a g4.n g4.c, .slice g4.a2 g4.n2 g4.c2]) a4) := fun w' hb => ⟨g4, rfl, B4.out.later hb⟩
                        have V2 : Hid (∀ w', Below wr.heap.size wr w' → RdT w' d (.agg #[.int .u64 (wdT d a5), .string (str (txT d a5)), .slice g5.a g5.n g5.c, .slice g5.a2 g5.n2 g5.c2]) a5) := fun w' hb => ⟨g5, rfl, B5.out.later hb⟩
                        obtain ⟨v0, ev0⟩ : ∃ x, wdT d a4 = x := ⟨_, rfl⟩
                        obtain ⟨v1, ev1⟩ : ∃ x, str (txT d a4) = x := ⟨_, rfl⟩
                        obtain ⟨y0, ey0⟩ : ∃ x, wdT d a5 = x := ⟨_, rfl⟩
                        obtain ⟨y1, ey1⟩ : ∃ x, str (txT d a5) = x := ⟨_, rfl⟩
                        obtain ⟨h1, h2, h3, h4, h5, h6⟩ := g4
                        obtain ⟨i1, i2, i3, i4, i5, i6⟩ := g5
                        dsimp only at r0 r1 r2 r3 t0 t1 t2 t3 V1 V2
                        rw [ev0] at r0 V1
                        rw [ev1] at r1 V1
                        rw [ey0] at t0 V2
                        rw [ey1] at t1 V2
                        clear hcell4 hcell5 kk4 kk5 B4 B5 ha4 ha5 ev0 ev1 ey0 ey1 hr HTE2
                        have hb4 : (j : Int) < (s2 : Int) := by omega
                        have hk2 : wr.drew.cell? ⟨bx, 1, none⟩ = some (.slice (some ⟨b4, o4, none⟩) s2 s3) ∧ wr.drew.cell? ⟨by_, 1, none⟩ = some (.slice (some ⟨b5, o5, none⟩) s2 z3) ∧ wr.drew.cell? ⟨b4, o4 + j * 4, none⟩ = some (.int .u64 v0) ∧ wr.drew.cell? ⟨b4, o4 + j * 4 + 1, none⟩ = some (.string v1) ∧ wr.drew.cell? ⟨b4, o4 + j * 4 + 2, none⟩ = some (.slice h1 h2 h3) ∧ wr.drew.cell? ⟨b4, o4 + j * 4 + 3, none⟩ = some (.slice h4 h5 h6) ∧ wr.drew.cell? ⟨b5, o5 + j * 4, none⟩ = some (.int .u64 y0) ∧ wr.drew.cell? ⟨b5, o5 + j * 4 + 1, none⟩ = some (.string y1) ∧ wr.drew.cell? ⟨b5, o5 + j * 4 + 2, none⟩ = some (.slice i1 i2 i3) ∧ wr.drew.cell? ⟨b5, o5 + j * 4 + 3, none⟩ = some (.slice i4 i5 i6) := ⟨e11, e13, r0, r1, r2, r3, t0, t1, t2, t3⟩
                        go_wp2_with fail
                        clear e11 e13 r0 r1 r2 r3 t0 t1 t2 t3
                        go_region_held (fun w' => w'.cell? ⟨bx, 1, none⟩ = some (.slice (some ⟨b4, o4, none⟩) s2 s3) ∧ w'.cell? ⟨by_, 1, none⟩ = some (.slice (some ⟨b5, o5, none⟩) s2 z3) ∧ w'.cell? ⟨b4, o4 + j * 4, none⟩ = some (.int .u64 v0) ∧ w'.cell? ⟨b4, o4 + j * 4 + 1, none⟩ = some (.string v1) ∧ w'.cell? ⟨b4, o4 + j * 4 + 2, none⟩ = some (.slice h1 h2 h3) ∧ w'.cell? ⟨b4, o4 + j * 4 + 3, none⟩ = some (.slice h4 h5 h6) ∧ w'.cell? ⟨b5, o5 + j * 4, none⟩ = some (.int .u64 y0) ∧ w'.cell? ⟨b5, o5 + j * 4 + 1, none⟩ = some (.string y1) ∧ w'.cell? ⟨b5, o5 + j * 4 + 2, none⟩ = some (.slice i1 i2 i3) ∧ w'.cell? ⟨b5, o5 + j * 4 + 3, none⟩ = some (.slice i4 i5 i6)) (first | assumption) (first
                          | (go_simp; go_at_call 7; refine (IH.out a4 a5 _ _ wr.drew r (V1.out _ (Below.refl _ _).drew) (V2.out _ (Below.refl _ _).drew) HRJ.out).mono ?_; rintro e w3 ⟨rfl, hb3⟩; have HB13 := Lib.hid hb3; have hk3 : w3.cell? ⟨bx, 1, none⟩ = some (.slice (some ⟨b4, o4, none⟩) s2 s3) ∧ w3.cell? ⟨by_, 1, none⟩ = some (.slice (some ⟨b5, o5, none⟩) s2 z3) ∧ w3.cell? ⟨b4, o4 + j * 4, none⟩ = some (.int .u64 v0) ∧ w3.cell? ⟨b4, o4 + j * 4 + 1, none⟩ = some (.string v1) ∧ w3.cell? ⟨b4, o4 + j * 4 + 2, none⟩ = some (.slice h1 h2 h3) ∧ w3.cell? ⟨b4, o4 + j * 4 + 3, none⟩ = some (.slice h4 h5 h6) ∧ w3.cell? ⟨b5, o5 + j * 4, none⟩ = some (.int .u64 y0) ∧ w3.cell? ⟨b5, o5 + j * 4 + 1, none⟩ = some (.string y1) ∧ w3.cell? ⟨b5, o5 + j * 4 + 2, none⟩ = some (.slice i1 i2 i3) ∧ w3.cell? ⟨b5, o5 + j * 4 + 3, none⟩ = some (.slice i4 i5 i6) := ten_later hk2 hb3; clear hb3))
                        rename_i hh
                        clear hh hk2 hk3
                        have HBQ := Lib.hid (below_trans HB10.out ((Below.refl wr.heap.size wr).drew.trans HB13.out))
                        cases r with
                        | true =>
                          have HK := Lib.hid (HYJ.out rfl)
                          clear HYJ HNJ HRJ
                          go_wp2
                          exact ⟨⟨HBQ.out, j + 1, by omega, by go_num, HK.out⟩, by simp [intOf]; omega⟩
                        | false =>
                          have HR0 : Hid (R = false) := HNJ.out rfl
                          clear HYJ HNJ HRJ
                          go_wp2
                          go_ret
                          rw [HR0.out]
                          exact ⟨rfl, below_trans HBZ.out HBQ.out⟩
                      · have hjj : j = s2 := by omega
                        subst hjj
                        have HFG : Hid (f2 = g2) := by
                          have h := HTJ.out
                          rw [L1, List.take_length] at h
                          show _ = _
                          rw [h, ← L1, L4, List.take_length]
                        have HK : Hid (fs.take (k + 1) = gs.take (k + 1)) := by first | exact HYE.out rfl HFG.out | exact HYE.out trivial HFG.out
                        go_wp2
                        exact ⟨⟨below_trans HB1.out HB12.out, k + 1, by omega, by go_num, HK.out⟩, by simp [intOf]; omega⟩
                  · have HR0 : Hid (R = false) := HNE.out fun e => hsz (by rw [L1, L4, e.2])
                    go_wp2_with fail
                    go_ret
                    rw [HR0.out]
                    exact ⟨rfl, HBZ.out⟩
                · have HR0 : Hid (R = false) := HNE.out fun e => hfg e.1
                  have hbf : (f1 == g1) = false := by simpa using hfg
                  go_wp2_with fail
                  go_ret
                  rw [HR0.out]
                  exact ⟨rfl, HBZ.out⟩
              · obtain ⟨hy, hx, hb9⟩ := two_ent W2 #[.int .i64 g1, .slice z1 z2 z3] #[.int .i64 f1, .slice s1 s2 s3] 43
                obtain ⟨W9, hW9⟩ : ∃ W, ((W2.alloc (.cells #[.int .i64 g1, .slice z1 z2 z3] 43)).alloc (.cells #[.int .i64 f1, .slice s1 s2 s3] 43)).drew = W := ⟨_, rfl⟩
                rename_i hh
                clear hh
                rw [hW9] at hx hy hb9 ⊢
                have HB9 := Lib.hid hb9
                clear hW9 hb9
                obtain ⟨bx, hbx⟩ : ∃ b, W2.heap.size + 1 = b := ⟨_, rfl⟩
                obtain ⟨by_, hby⟩ : ∃ b, W2.heap.size = b := ⟨_, rfl⟩
                rw [hbx] at hx ⊢
                rw [hby] at hy ⊢
                clear hbx hby
                have e0 : W9.cell? ⟨bx, 0, none⟩ = some (.int .i64 f1) := hx.cell 0
                have e1 : W9.cell? ⟨bx, 1, none⟩ = some (.slice s1 s2 s3) := hx.cell 1
                have e2 : W9.cell? ⟨by_, 0, none⟩ = some (.int .i64 g1) := hy.cell 0
                have e3 : W9.cell? ⟨by_, 1, none⟩ = some (.slice z1 z2 z3) := hy.cell 1
                have hlx := hx.lt
                have hly := hy.lt
                have HBX := Lib.hid (below_trans HB1.out HB9.out)
                have HBZ := Lib.hid (below_trans HB.out HBX.out)
                clear hx hy
                have L1 := HL1.out.1
                have L2 := HL1.out.2.1
                have L3 := HL1.out.2.2.1
                have L4 := HL9.out.1
                have L5 := HL9.out.2.1
                have L6 := HL9.out.2.2.1
                by_cases hfg : f1 = g1
                · subst hfg
                  by_cases hsz : s2 = z2
                  · subst hsz
                    go_wp2_with fail
                    go_loopw [8] (fun i wr => Below W9.heap.size W9 wr ∧ ∃ j : Nat, j ≤ s2 ∧ i = .int .i64 j ∧ f2.take j = g2.take j) (fun i _ => s2 - (intOf i).toNat)
                    case atStart => exact ⟨Below.refl _ _, 0, Nat.zero_le _, rfl, by simp⟩
                    case round =>
                      obtain ⟨hb, j, hj, rfl, htj⟩ := hrel
                      have HB10 := Lib.hid hb
                      have HTJ := Lib.hid htj
                      clear hb htj
                      have HB12 := Lib.hid (below_trans HB9.out HB10.out)
                      have e11 : wr.cell? ⟨bx, 1, none⟩ = some (.slice s1 s2 s3) := (HB10.out.cell (p := ⟨bx, 1, none⟩) hlx).trans e1
                      have e13 : wr.cell? ⟨by_, 1, none⟩ = some (.slice z1 s2 z3) := (HB10.out.cell (p := ⟨by_, 1, none⟩) hly).trans e3
                      by_cases hjn : j < s2
                      · have hjl : j < f2.length := by rw [← L1]; exact hjn
                        have hjm : j < g2.length := by rw [← L4]; exact hjn
                        obtain ⟨b4, o4, rfl, hlt4, hcell4⟩ := HL1.out.2.2.2.resolve_left (by intro e; rw [e] at hjl; simp at hjl)
                        obtain ⟨b5, o5, rfl, hlt5, hcell5⟩ := HL9.out.2.2.2.resolve_left (by intro e; rw [e] at hjm; simp at hjm)
                        obtain ⟨g4, kk4, B4⟩ := hcell4 j hjl
                        obtain ⟨g5, kk5, B5⟩ := hcell5 j hjm
                        obtain ⟨r0, r1, r2, r3⟩ := kk4.later HB12.out hlt4
                        obtain ⟨t0, t1, t2, t3⟩ := kk5.later HB12.out hlt5
                        have B4 := Lib.hid (B4.later HB12.out)
                        have B5 := Lib.hid (B5.later HB12.out)
                        have HTE2 := Lib.hid (fun e => take_eq hjl hjm HTJ.out e)
                        obtain ⟨r, hr⟩ := same_bit (f2[j] = g2[j])
                        have HNJ : Hid (r = false → R = false) := fun h => HNE.out fun e => by
                          have h2 := e.2
                          subst h2
                          have := hr.2 rfl
                          rw [h] at this
                          cases this
                        have HYJ : Hid (r = true → f2.take (j + 1) = g2.take (j + 1)) := fun h => HTE2.out (hr.1 h)
                        obtain ⟨a4, ha4⟩ : ∃ t, f2[j] = t := ⟨_, rfl⟩
                        obtain ⟨a5, ha5⟩ : ∃ t, g2[j] = t := ⟨_, rfl⟩
                        rw [ha4, ha5] at hr
                        rw [ha4] at r0 r1 B4
                        rw [ha5] at t0 t1 B5
                        have HRJ := Lib.hid hr
                        have V1 : Hid (∀ w', Below wr.heap.size wr w' → RdT w' d (.agg #[.int .u64 (wdT d a4), .string (str (txT d a4)), .slice g4.a g4.n g4.c, .slice g4.a2 g4.n2 g4.c2]) a4) := fun w' hb => ⟨g4, rfl, B4.out.later hb⟩
                        have V2 : Hid (∀ w', Below wr.heap.size wr w' → RdT w' d (.agg #[.int .u64 (wdT d a5), .string (str (txT d a5)), .slice g5.a g5.n g5.c, .slice g5.a2 g5.n2 g5.c2]) a5) := fun w' hb => ⟨g5, rfl, B5.out.later hb⟩
                        obtain ⟨v0, ev0⟩ : ∃ x, wdT d a4 = x := ⟨_, rfl⟩
                        obtain ⟨v1, ev1⟩ : ∃ x, str (txT d a4) = x := ⟨_, rfl⟩
                        obtain ⟨y0, ey0⟩ : ∃ x, wdT d a5 = x := ⟨_, rfl⟩
                        obtain ⟨y1, ey1⟩ : ∃ x, str (txT d a5) = x := ⟨_, rfl⟩
                        obtain ⟨h1, h2, h3, h4, h5, h6⟩ := g4
                        obtain ⟨i1, i2, i3, i4, i5, i6⟩ := g5
                        dsimp only at r0 r1 r2 r3 t0 t1 t2 t3 V1 V2
                        rw [ev0] at r0 V1
                        rw [ev1] at r1 V1
                        rw [ey0] at t0 V2
                        rw [ey1] at t1 V2
                        clear hcell4 hcell5 kk4 kk5 B4 B5 ha4 ha5 ev0 ev1 ey0 ey1 hr HTE2
                        have hb4 : (j : Int) < (s2 : Int) := by omega
                        have hk2 : wr.drew.cell? ⟨bx, 1, none⟩ = some (.slice (some ⟨b4, o4, none⟩) s2 s3) ∧ wr.drew.cell? ⟨by_, 1, none⟩ = some (.slice (some ⟨b5, o5, none⟩) s2 z3) ∧ wr.drew.cell? ⟨b4, o4 + j * 4, none⟩ = some (.int .u64 v0) ∧ wr.drew.cell? ⟨b4, o4 + j * 4 + 1, none⟩ = some (.string v1) ∧ wr.drew.cell? ⟨b4, o4 + j * 4 + 2, none⟩ = some (.slice h1 h2 h3) ∧ wr.drew.cell? ⟨b4, o4 + j * 4 + 3, none⟩ = some (.slice h4 h5 h6) ∧ wr.drew.cell? ⟨b5, o5 + j * 4, none⟩ = some (.int .u64 y0) ∧ wr.drew.cell? ⟨b5, o5 + j * 4 + 1, none⟩ = some (.string y1) ∧ wr.drew.cell? ⟨b5, o5 + j * 4 + 2, none⟩ = some (.slice i1 i2 i3) ∧ wr.drew.cell? ⟨b5, o5 + j * 4 + 3, none⟩ = some (.slice i4 i5 i6) := ⟨e11, e13, r0, r1, r2, r3, t0, t1, t2, t3⟩
                        go_wp2_with fail
                        clear e11 e13 r0 r1 r2 r3 t0 t1 t2 t3
                        go_region_held (fun w' => w'.cell? ⟨bx, 1, none⟩ = some (.slice (some ⟨b4, o4, none⟩) s2 s3) ∧ w'.cell? ⟨by_, 1, none⟩ = some (.slice (some ⟨b5, o5, none⟩) s2 z3) ∧ w'.cell? ⟨b4, o4 + j * 4, none⟩ = some (.int .u64 v0) ∧ w'.cell? ⟨b4, o4 + j * 4 + 1, none⟩ = some (.string v1) ∧ w'.cell? ⟨b4, o4 + j * 4 + 2, none⟩ = some (.slice h1 h2 h3) ∧ w'.cell? ⟨b4, o4 + j * 4 + 3, none⟩ = some (.slice h4 h5 h6) ∧ w'.cell? ⟨b5, o5 + j * 4, none⟩ = some (.int .u64 y0) ∧ w'.cell? ⟨b5, o5 + j * 4 + 1, none⟩ = some (.string y1) ∧ w'.cell? ⟨b5, o5 + j * 4 + 2, none⟩ = some (.slice i1 i2 i3) ∧ w'.cell? ⟨b5, o5 + j * 4 + 3, none⟩ = some (.slice i4 i5 i6)) (first | assumption) (first
                          | (go_simp; go_at_call 7; refine (IH.out a4 a5 _ _ wr.drew r (V1.out _ (Below.refl _ _).drew) (V2.out _ (Below.refl _ _).drew) HRJ.out).mono ?_; rintro e w3 ⟨rfl, hb3⟩; have HB13 := Lib.hid hb3; have hk3 : w3.cell? ⟨bx, 1, none⟩ = some (.slice (some ⟨b4, o4, none⟩) s2 s3) ∧ w3.cell? ⟨by_, 1, none⟩ = some (.slice (some ⟨b5, o5, none⟩) s2 z3) ∧ w3.cell? ⟨b4, o4 + j * 4, none⟩ = some (.int .u64 v0) ∧ w3.cell? ⟨b4, o4 + j * 4 + 1, none⟩ = some (.string v1) ∧ w3.cell? ⟨b4, o4 + j * 4 + 2, none⟩ = some (.slice h1 h2 h3) ∧ w3.cell? ⟨b4, o4 + j * 4 + 3, none⟩ = some (.slice h4 h5 h6) ∧ w3.cell? ⟨b5, o5 + j * 4, none⟩ = some (.int .u64 y0) ∧ w3.cell? ⟨b5, o5 + j * 4 + 1, none⟩ = some (.string y1) ∧ w3.cell? ⟨b5, o5 + j * 4 + 2, none⟩ = some (.slice i1 i2 i3) ∧ w3.cell? ⟨b5, o5 + j * 4 + 3, none⟩ = some (.slice i4 i5 i6) := ten_later hk2 hb3; clear hb3))
                        rename_i hh
                        clear hh hk2 hk3
                        have HBQ := Lib.hid (below_trans HB10.out ((Below.refl wr.heap.size wr).drew.trans HB13.out))
                        cases r with
                        | true =>
                          have HK := Lib.hid (HYJ.out rfl)
                          clear HYJ HNJ HRJ
                          go_wp2
                          exact ⟨⟨HBQ.out, j + 1, by omega, by go_num, HK.out⟩, by simp [intOf]; omega⟩
                        | false =>
                          have HR0 : Hid (R = false) := HNJ.out rfl
                          clear HYJ HNJ HRJ
                          go_wp2
                          go_ret
                          rw [HR0.out]
                          exact ⟨rfl, below_trans HBZ.out HBQ.out⟩
                      · have hjj : j = s2 := by omega
                        subst hjj
                        have HFG : Hid (f2 = g2) := by
                          have h := HTJ.out
                          rw [L1, List.take_length] at h
                          show _ = _
                          rw [h, ← L1, L4, List.take_length]
                        have HK : Hid (fs.take (k + 1) = gs.take (k + 1)) := by first | exact HYE.out rfl HFG.out | exact HYE.out trivial HFG.out
                        go_wp2
                        exact ⟨⟨below_trans HB1.out HB12.out, k + 1, by omega, by go_num, HK.out⟩, by simp [intOf]; omega⟩
                  · have HR0 : Hid (R = false) := HNE.out fun e => hsz (by rw [L1, L4, e.2])
                    go_wp2_with fail
                    go_ret
                    rw [HR0.out]
                    exact ⟨rfl, HBZ.out⟩
                · have HR0 : Hid (R = false) := HNE.out fun e => hfg e.1
                  have hbf : (f1 == g1) = false := by simpa using hfg
                  go_wp2_with fail
                  go_ret
                  rw [HR0.out]
                  exact ⟨rfl, HBZ.out⟩
            · have hk3 : k = p2 := by omega
              subst hk3
              have HR1 : Hid (R = true) := by
                refine HRF.out.2 ?_
                have h := HTK.out
                rw [M1.out, List.take_length] at h
                rw [h, ← M1.out, N1.out, List.take_length]
              go_wp2
              go_ret
              rw [HR1.out]
              exact ⟨rfl, HBW.out⟩
        | false =>
          have HRN : Hid (¬ rs = ss) := fun h => by have := hr.2 h; cases this
          clear hr
          have HR0 : Hid (R = false) := HNO.out _ (fun k => (HR.out.1 k).2.2.1) HRN.out
          go_enter Tryz.func7, Tryz.ntmps7
          go_wp2_with fail
          refine (restsame_any p4 q4 rs ss p5 p6 q5 q6 _ M4 N4 (by omega) (M7.out.later (below_two _ _ _)) (N7.out.later (below_two _ _ _)) false (Lib.hid ⟨(fun h => by cases h), (fun h => absurd h HRN.out)⟩)).mono ?_
          rintro _ w1 ⟨rfl, hbw⟩
          have HB := Lib.hid (below_trans (below_two _ _ _) hbw)
          clear hbw
          go_wp2_with fail
          all_goals go_ret
          all_goals rw [HR0.out]
          all_goals exact ⟨rfl, HB.out⟩
      · have HR0 : Hid (R = false) := HNO.out _ (fun k => (HR.out.1 k).2.2.2) fun e => hpq (by rw [M1.out, N1.out, e])
        have hbi : ((p2 : Int) == (q2 : Int)) = false := by simp only [beq_eq_false_iff_ne, ne_eq]; omega
        go_enter Tryz.func7, Tryz.ntmps7
        go_wp2_with fail
        all_goals go_ret
        all_goals rw [HR0.out]
        all_goals exact ⟨rfl, below_two _ _ _⟩
    · have HR0 : Hid (R = false) := HNO.out _ (fun k => (HR.out.1 k).2.1) hT
      have hS := hSS hT
      obtain ⟨S, hS1⟩ : ∃ S, str T1 = S := ⟨_, rfl⟩
      obtain ⟨S2, hS2⟩ : ∃ S, str T2 = S := ⟨_, rfl⟩
      rw [hS1, hS2] at hS
      rw [hS1, hS2]
      clear hS1 hS2 hSS hT
      go_enter Tryz.func7, Tryz.ntmps7
      go_wp2_with fail
      all_goals go_ret
      all_goals rw [HR0.out]
      all_goals exact ⟨rfl, below_two _ _ _⟩
  · have HR0 : Hid (R = false) := HNO.out _ (fun k => (HR.out.1 k).1) hxy
    have hbx : (x0 == y0) = false := by simpa using hxy
    obtain ⟨S, hS1⟩ : ∃ S, str T1 = S := ⟨_, rfl⟩
    obtain ⟨S2, hS2⟩ : ∃ S, str T2 = S := ⟨_, rfl⟩
    rw [hS1, hS2]
    clear hS1 hS2 hSS
    go_enter Tryz.func7, Tryz.ntmps7
    go_wp2_with fail
    all_goals go_ret
    all_goals rw [HR0.out]
    all_goals exact ⟨rfl, below_two _ _ _⟩
theorem refsame_all : ∀ d, SameOk 7 d
  | 0 => fun _ _ _ _ _ _ ⟨_, _, h⟩ => h.elim
  | d + 1 => refsame_step d (Lib.hid (refsame_all d))
end Go.Proofs.YtnpdnlnglahicaaGreatDoor
