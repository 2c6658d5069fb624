/- tables.Compare of keys: the whole. -/
import Derived.Test.YtlchnfjbcefkoaaGreatTabCmp
import Derived.WalkMore
namespace Go.Proofs.YtlchnfjbcefkoaaGreat
open Go.RowKit

theorem cell_new {w : World} {p : Addr} {v : Value} (h : w.cell? p = some v) (o : Obj) : (w.alloc o).cell? p = some v :=
  ((Below.refl w.heap.size w).alloc (Nat.le_refl _) o).cell (World.block_lt_of_cell? w _ h) |>.trans h
theorem six_a {w : World} {p1 p2 p3 p4 p5 p6 : Addr} {v1 v2 v3 v4 v5 v6 : Value} (h : w.cell? p1 = some v1 ∧ w.cell? p2 = some v2 ∧ w.cell? p3 = some v3 ∧ w.cell? p4 = some v4 ∧ w.cell? p5 = some v5 ∧ w.cell? p6 = some v6) (o : Obj) :
    (w.alloc o).drew.cell? p1 = some v1 ∧ (w.alloc o).drew.cell? p2 = some v2 ∧ (w.alloc o).drew.cell? p3 = some v3 ∧ (w.alloc o).drew.cell? p4 = some v4 ∧ (w.alloc o).drew.cell? p5 = some v5 ∧ (w.alloc o).drew.cell? p6 = some v6 :=
  ⟨cell_new h.1 o, cell_new h.2.1 o, cell_new h.2.2.1 o, cell_new h.2.2.2.1 o, cell_new h.2.2.2.2.1 o, cell_new h.2.2.2.2.2 o⟩
theorem six_b {w : World} {p1 p2 p3 p4 p5 p6 : Addr} {v1 v2 v3 v4 v5 v6 : Value} (h : w.cell? p1 = some v1 ∧ w.cell? p2 = some v2 ∧ w.cell? p3 = some v3 ∧ w.cell? p4 = some v4 ∧ w.cell? p5 = some v5 ∧ w.cell? p6 = some v6) (o o' : Obj) :
    ((w.alloc o).alloc o').drew.cell? p1 = some v1 ∧ ((w.alloc o).alloc o').drew.cell? p2 = some v2 ∧ ((w.alloc o).alloc o').drew.cell? p3 = some v3 ∧ ((w.alloc o).alloc o').drew.cell? p4 = some v4 ∧ ((w.alloc o).alloc o').drew.cell? p5 = some v5 ∧ ((w.alloc o).alloc o').drew.cell? p6 = some v6 :=
  six_a (w := w.alloc o) (six_a h o) o'
/-- Two boxes with parts. -/
theorem two_boxes {w w' : World} {bx by_ : Nat} {S S2 : ByteArray} {x x2 : Int} {i i2 : Bool} (h : w.cell? ⟨bx, 0, none⟩ = some (.string S) ∧ w.cell? ⟨bx, 1, none⟩ = some (.int .i64 x) ∧ w.cell? ⟨bx, 2, none⟩ = some (.bool i) ∧ w.cell? ⟨by_, 0, none⟩ = some (.string S2) ∧ w.cell? ⟨by_, 1, none⟩ = some (.int .i64 x2) ∧ w.cell? ⟨by_, 2, none⟩ = some (.bool i2)) (hb : Below w.heap.size w w') :
    w'.cell? ⟨bx, 0, none⟩ = some (.string S) ∧ w'.cell? ⟨bx, 1, none⟩ = some (.int .i64 x) ∧ w'.cell? ⟨bx, 2, none⟩ = some (.bool i) ∧ w'.cell? ⟨by_, 0, none⟩ = some (.string S2) ∧ w'.cell? ⟨by_, 1, none⟩ = some (.int .i64 x2) ∧ w'.cell? ⟨by_, 2, none⟩ = some (.bool i2) :=
  have k : ∀ {p : Addr} {v : Value}, w.cell? p = some v → w'.cell? p = some v := fun h => (hb.cell (World.block_lt_of_cell? w _ h)).trans h
  ⟨k h.1, k h.2.1, k h.2.2.1, k h.2.2.2.1, k h.2.2.2.2.1, k h.2.2.2.2.2⟩
theorem boxes_xy (w : World) (S S2 : ByteArray) (x x2 : Int) (i i2 : Bool) (W : World) (hW : W = ((w.alloc (.cells #[.string S, .int .i64 x, .bool i] 42)).alloc (.cells #[.string S2, .int .i64 x2, .bool i2] 42)).drew) :
    (W.cell? ⟨w.heap.size, 0, none⟩ = some (.string S) ∧ W.cell? ⟨w.heap.size, 1, none⟩ = some (.int .i64 x) ∧ W.cell? ⟨w.heap.size, 2, none⟩ = some (.bool i) ∧ W.cell? ⟨w.heap.size + 1, 0, none⟩ = some (.string S2) ∧ W.cell? ⟨w.heap.size + 1, 1, none⟩ = some (.int .i64 x2) ∧ W.cell? ⟨w.heap.size + 1, 2, none⟩ = some (.bool i2)) ∧ Below w.heap.size w W := by
  subst hW
  have h1 : RowAt ((w.alloc (.cells #[.string S, .int .i64 x, .bool i] 42)).alloc (.cells #[.string S2, .int .i64 x2, .bool i2] 42)) w.heap.size 42 #[.string S, .int .i64 x, .bool i] := (RowAt.new _ _ _).below (below_alloc _)
  have h2 : RowAt ((w.alloc (.cells #[.string S, .int .i64 x, .bool i] 42)).alloc (.cells #[.string S2, .int .i64 x2, .bool i2] 42)) (w.heap.size + 1) 42 #[.string S2, .int .i64 x2, .bool i2] := by
    have := RowAt.new (w.alloc (.cells #[.string S, .int .i64 x, .bool i] 42)) 42 #[.string S2, .int .i64 x2, .bool i2]
    rwa [World.size_alloc] at this
  exact ⟨⟨h1.cells3.1, h1.cells3.2.1, h1.cells3.2.2, h2.cells3.1, h2.cells3.2.1, h2.cells3.2.2⟩, (below_trans (below_alloc _) (below_alloc _)).drew⟩
set_option maxRecDepth 100000 in
set_option maxHeartbeats 4000000 in
theorem compare_any (a a2 : Option Addr) (ps qs : List Pt) (n cap n2 cap2 : Nat) (w : World) (hn : Hid (n = ps.length)) (hn2 : Hid (n2 = qs.length)) (hm : n ≤ 1000000) (hm2 : n2 ≤ 1000000) (hl : RdP w a ps) (hl2 : RdP w a2 qs) :
    Calls Tryz.prog 9 #[.slice a n cap, .slice a2 n2 cap2] w fun e w' => e = .returned (.int .i64 (cmpK ps qs)) ∧ Below w.heap.size w w' := by
  have HL := Lib.hid hl
  have HL2 := Lib.hid hl2
  clear hl hl2
  obtain ⟨R, hR⟩ : ∃ R, cmpK ps qs = R := ⟨_, rfl⟩
  rw [hR]
  have HR := Lib.hid hR
  clear hR
  obtain ⟨m, hmin⟩ : ∃ m, min n n2 = m := ⟨_, rfl⟩
  go_enter Tryz.func9, Tryz.ntmps9
  go_wp2
  go_step3
  go_wp2
  go_step3
  go_wp2
  rw [show min (n : Int) (n2 : Int) = (m : Int) by omega]
  have hm1 : m ≤ n := by omega
  have hm3 : m ≤ n2 := by omega
  have hm4 : m = n ∨ m = n2 := by omega
  clear hmin
  go_loopw [5, 15] (fun o i wr => ∃ k : Nat, k ≤ m ∧ o = .int .i64 0 ∧ i = .int .i64 (k : Int) ∧ Below w.heap.size w wr ∧ cmpK (ps.drop k) (qs.drop k) = R) (fun _ i _ => m - (intOf i).toNat)
  case atStart => exact ⟨0, Nat.zero_le _, rfl, rfl, Below.refl _ _, HR.out⟩
  case round =>
    obtain ⟨k, hk, rfl, rfl, hb, hd⟩ := hrel
    have HB := Lib.hid hb
    have HD := Lib.hid hd
    clear hb hd HR
    by_cases hkm : k < m
    · have hkl : k < ps.length := by rw [← hn.out]; omega
      have hkl2 : k < qs.length := by rw [← hn2.out]; omega
      obtain ⟨b1, o1, rfl, hlt1, hcell1⟩ := HL.out.at (by omega)
      obtain ⟨b2, o2, rfl, hlt2, hcell2⟩ := HL2.out.at (by omega)
      obtain ⟨c0, c1, c2⟩ := cells_at hlt1 hcell1 HB.out k hkl
      obtain ⟨d0, d1, d2⟩ := cells_at hlt2 hcell2 HB.out k hkl2
      have hst := cmpK_step hkl hkl2
      obtain ⟨⟨s, x, is⟩, hp⟩ : ∃ p, ps[k] = p := ⟨_, rfl⟩
      obtain ⟨⟨s2, x2, is2⟩, hq⟩ : ∃ p, qs[k] = p := ⟨_, rfl⟩
      rw [hp] at c0 c1 c2 hst
      rw [hq] at d0 d1 d2 hst
      rw [HD.out] at hst
      dsimp only at c0 c1 c2 d0 d1 d2
      obtain ⟨S, hS⟩ : ∃ S, str s = S := ⟨_, rfl⟩
      obtain ⟨S2, hS2⟩ : ∃ S, str s2 = S := ⟨_, rfl⟩
      rw [hS] at c0
      rw [hS2] at d0
      have HS := Lib.hid hS
      have HS2 := Lib.hid hS2
      have HST := Lib.hid hst
      have hs9 := HB.out.size
      clear hcell1 hcell2 hp hq hS hS2 hkl hkl2 hst
      go_wp2_with fail
      have hS0 : wr.cell? ⟨b1, o1 + k * 3, none⟩ = some (.string S) ∧ wr.cell? ⟨b1, o1 + k * 3 + 1, none⟩ = some (.int .i64 x) ∧ wr.cell? ⟨b1, o1 + k * 3 + 2, none⟩ = some (.bool is) ∧ wr.cell? ⟨b2, o2 + k * 3, none⟩ = some (.string S2) ∧ wr.cell? ⟨b2, o2 + k * 3 + 1, none⟩ = some (.int .i64 x2) ∧ wr.cell? ⟨b2, o2 + k * 3 + 2, none⟩ = some (.bool is2) := ⟨c0, c1, c2, d0, d1, d2⟩
      have hkn1 : k < n := by omega
      have hkn2 : k < n2 := by omega
      have HK := Lib.hid (And.intro hkm (And.intro hm1 (And.intro hm3 (And.intro hm4 (And.intro hm hm2)))))
      clear c0 c1 c2 d0 d1 d2 hk hkm hm1 hm3 hm4 hm hm2 hlt1 hlt2
      go_region_held (fun w' => w'.cell? ⟨b1, o1 + k * 3, none⟩ = some (.string S) ∧ w'.cell? ⟨b1, o1 + k * 3 + 1, none⟩ = some (.int .i64 x) ∧ w'.cell? ⟨b1, o1 + k * 3 + 2, none⟩ = some (.bool is) ∧ w'.cell? ⟨b2, o2 + k * 3, none⟩ = some (.string S2) ∧ w'.cell? ⟨b2, o2 + k * 3 + 1, none⟩ = some (.int .i64 x2) ∧ w'.cell? ⟨b2, o2 + k * 3 + 2, none⟩ = some (.bool is2)) (first | exact hS0 | exact six_a hS0 _ | exact six_b hS0 _ _ | assumption) (fail)
      all_goals clear hS0
      · obtain ⟨W9, hW9⟩ : ∃ W, ((wr.alloc (.cells #[.string S, .int .i64 x, .bool is] 42)).alloc (.cells #[.string S2, .int .i64 x2, .bool is2] 42)).drew = W := ⟨_, rfl⟩
        obtain ⟨hcells, hb9⟩ := boxes_xy wr S S2 x x2 is is2 W9 hW9.symm
        rw [hW9]
        obtain ⟨bx, hbx⟩ : ∃ b, wr.heap.size = b := ⟨_, rfl⟩
        obtain ⟨by_, hby⟩ : ∃ b, wr.heap.size + 1 = b := ⟨_, rfl⟩
        have hB9 := HB.out.trans (hb9.mono hs9)
        rw [hby, hbx] at hcells ⊢
        rename_i hh
        clear hh hW9 hb9 hbx hby hs9
        cases is with
        | true =>
         cases is2 with
         | true =>
          have hk2 : (W9.drew.cell? ⟨bx, 0, none⟩ = some (.string S) ∧ W9.drew.cell? ⟨bx, 1, none⟩ = some (.int .i64 x) ∧ W9.drew.cell? ⟨bx, 2, none⟩ = some (.bool true) ∧ W9.drew.cell? ⟨by_, 0, none⟩ = some (.string S2) ∧ W9.drew.cell? ⟨by_, 1, none⟩ = some (.int .i64 x2) ∧ W9.drew.cell? ⟨by_, 2, none⟩ = some (.bool true)) ∧ Below w.heap.size w W9.drew := ⟨hcells, hB9.drew⟩
          have hkv : cmpN (kindP true) (kindP true) = 0 := rfl
          go_wp2_with fail
          go_region_held (fun w' => (w'.cell? ⟨bx, 0, none⟩ = some (.string S) ∧ w'.cell? ⟨bx, 1, none⟩ = some (.int .i64 x) ∧ w'.cell? ⟨bx, 2, none⟩ = some (.bool true) ∧ w'.cell? ⟨by_, 0, none⟩ = some (.string S2) ∧ w'.cell? ⟨by_, 1, none⟩ = some (.int .i64 x2) ∧ w'.cell? ⟨by_, 2, none⟩ = some (.bool true)) ∧ Below w.heap.size w w') (first | assumption) (first
            | (go_simp; go_at_call 19; refine (kind_any S x true W9.drew).mono ?_; rintro e w3 ⟨rfl, hb3⟩; have hk3 : (w3.cell? ⟨bx, 0, none⟩ = some (.string S) ∧ w3.cell? ⟨bx, 1, none⟩ = some (.int .i64 x) ∧ w3.cell? ⟨bx, 2, none⟩ = some (.bool true) ∧ w3.cell? ⟨by_, 0, none⟩ = some (.string S2) ∧ w3.cell? ⟨by_, 1, none⟩ = some (.int .i64 x2) ∧ w3.cell? ⟨by_, 2, none⟩ = some (.bool true)) ∧ Below w.heap.size w w3 := ⟨two_boxes hk2.1 hb3, hk2.2.trans (hb3.mono hk2.2.size)⟩; clear hb3)
            | (go_simp; go_at_call 19; refine (kind_any S2 x2 true w3).mono ?_; rintro e w4 ⟨rfl, hb4⟩; have hk4 : (w4.cell? ⟨bx, 0, none⟩ = some (.string S) ∧ w4.cell? ⟨bx, 1, none⟩ = some (.int .i64 x) ∧ w4.cell? ⟨bx, 2, none⟩ = some (.bool true) ∧ w4.cell? ⟨by_, 0, none⟩ = some (.string S2) ∧ w4.cell? ⟨by_, 1, none⟩ = some (.int .i64 x2) ∧ w4.cell? ⟨by_, 2, none⟩ = some (.bool true)) ∧ Below w.heap.size w w4 := ⟨two_boxes hk3.1 hb4, hk3.2.trans (hb4.mono hk3.2.size)⟩; clear hb4)
            | (go_simp; go_at_call 20; refine (cmpI_any _ _ _).mono ?_; rintro e w5 ⟨rfl, hw5⟩; subst hw5))
          have hk5 := hk4
          obtain ⟨⟨e0, e1, e2, f0, f1, f2⟩, hB5⟩ := hk5
          have HB5 := Lib.hid hB5
          clear hk2 hk3 hk4 hB5
          clear hkv
          rcases cmpN_in x x2 with ⟨hv, hlt⟩ | ⟨hv, he⟩ | ⟨hv, hgt⟩
          · have HV : Hid (R = -1) := by have := HST.out; simp only [cmpP, if_true] at this; rw [hv] at this; exact this
            clear hlt
            go_wp2_with (first
              | (go_at_call 21; refine (cmpL_any _ _ _).mono ?_; rintro e w6 ⟨rfl, hw6⟩; subst hw6)
              | (go_at_call 22; refine (cmpS_any s s2 S S2 HS.out HS2.out _).mono ?_; rintro e w6 ⟨rfl, hw6⟩; subst hw6)
              | (go_at_call 20; refine (cmpI_any _ _ _).mono ?_; rintro e w6 ⟨rfl, hw6⟩; subst hw6)
              | (go_at_call 23; refine (or_any _ _ _ _ (RowAt.new _ _ _)).mono ?_; rintro e _ ⟨rfl, rfl⟩))
            rw [Exit.noGoto_ret]
            go_ret
            exact ⟨by rw [HV.out]; rfl, HB5.out.alloc HB5.out.size _⟩
          · have HV : Hid (cmpK (ps.drop (k + 1)) (qs.drop (k + 1)) = R) := by have := HST.out; simp only [cmpP, if_true] at this; rw [hv] at this; exact this.symm
            clear he
            obtain ⟨hkm, hm1, hm3, hm4, hm, hm2⟩ := HK.out
            go_wp2_with (first
              | (go_at_call 21; refine (cmpL_any _ _ _).mono ?_; rintro e w6 ⟨rfl, hw6⟩; subst hw6)
              | (go_at_call 22; refine (cmpS_any s s2 S S2 HS.out HS2.out _).mono ?_; rintro e w6 ⟨rfl, hw6⟩; subst hw6)
              | (go_at_call 20; refine (cmpI_any _ _ _).mono ?_; rintro e w6 ⟨rfl, hw6⟩; subst hw6)
              | (go_at_call 23; refine (or_any _ _ _ _ (RowAt.new _ _ _)).mono ?_; rintro e _ ⟨rfl, rfl⟩))
            go_roundw
            case rel => exact ⟨k + 1, by omega, rfl, by go_num, HB5.out, HV.out⟩
            case measure => simp [intOf]; omega
          · have HV : Hid (R = 1) := by have := HST.out; simp only [cmpP, if_true] at this; rw [hv] at this; exact this
            clear hgt
            go_wp2_with (first
              | (go_at_call 21; refine (cmpL_any _ _ _).mono ?_; rintro e w6 ⟨rfl, hw6⟩; subst hw6)
              | (go_at_call 22; refine (cmpS_any s s2 S S2 HS.out HS2.out _).mono ?_; rintro e w6 ⟨rfl, hw6⟩; subst hw6)
              | (go_at_call 20; refine (cmpI_any _ _ _).mono ?_; rintro e w6 ⟨rfl, hw6⟩; subst hw6)
              | (go_at_call 23; refine (or_any _ _ _ _ (RowAt.new _ _ _)).mono ?_; rintro e _ ⟨rfl, rfl⟩))
            rw [Exit.noGoto_ret]
            go_ret
            exact ⟨by rw [HV.out]; rfl, HB5.out.alloc HB5.out.size _⟩
         | false =>
          have hk2 : (W9.drew.cell? ⟨bx, 0, none⟩ = some (.string S) ∧ W9.drew.cell? ⟨bx, 1, none⟩ = some (.int .i64 x) ∧ W9.drew.cell? ⟨bx, 2, none⟩ = some (.bool true) ∧ W9.drew.cell? ⟨by_, 0, none⟩ = some (.string S2) ∧ W9.drew.cell? ⟨by_, 1, none⟩ = some (.int .i64 x2) ∧ W9.drew.cell? ⟨by_, 2, none⟩ = some (.bool false)) ∧ Below w.heap.size w W9.drew := ⟨hcells, hB9.drew⟩
          have hkv : cmpN (kindP true) (kindP false) = -1 := rfl
          go_wp2_with fail
          go_region_held (fun w' => (w'.cell? ⟨bx, 0, none⟩ = some (.string S) ∧ w'.cell? ⟨bx, 1, none⟩ = some (.int .i64 x) ∧ w'.cell? ⟨bx, 2, none⟩ = some (.bool true) ∧ w'.cell? ⟨by_, 0, none⟩ = some (.string S2) ∧ w'.cell? ⟨by_, 1, none⟩ = some (.int .i64 x2) ∧ w'.cell? ⟨by_, 2, none⟩ = some (.bool false)) ∧ Below w.heap.size w w') (first | assumption) (first
            | (go_simp; go_at_call 19; refine (kind_any S x true W9.drew).mono ?_; rintro e w3 ⟨rfl, hb3⟩; have hk3 : (w3.cell? ⟨bx, 0, none⟩ = some (.string S) ∧ w3.cell? ⟨bx, 1, none⟩ = some (.int .i64 x) ∧ w3.cell? ⟨bx, 2, none⟩ = some (.bool true) ∧ w3.cell? ⟨by_, 0, none⟩ = some (.string S2) ∧ w3.cell? ⟨by_, 1, none⟩ = some (.int .i64 x2) ∧ w3.cell? ⟨by_, 2, none⟩ = some (.bool false)) ∧ Below w.heap.size w w3 := ⟨two_boxes hk2.1 hb3, hk2.2.trans (hb3.mono hk2.2.size)⟩; clear hb3)
            | (go_simp; go_at_call 19; refine (kind_any S2 x2 false w3).mono ?_; rintro e w4 ⟨rfl, hb4⟩; have hk4 : (w4.cell? ⟨bx, 0, none⟩ = some (.string S) ∧ w4.cell? ⟨bx, 1, none⟩ = some (.int .i64 x) ∧ w4.cell? ⟨bx, 2, none⟩ = some (.bool true) ∧ w4.cell? ⟨by_, 0, none⟩ = some (.string S2) ∧ w4.cell? ⟨by_, 1, none⟩ = some (.int .i64 x2) ∧ w4.cell? ⟨by_, 2, none⟩ = some (.bool false)) ∧ Below w.heap.size w w4 := ⟨two_boxes hk3.1 hb4, hk3.2.trans (hb4.mono hk3.2.size)⟩; clear hb4)
            | (go_simp; go_at_call 20; refine (cmpI_any _ _ _).mono ?_; rintro e w5 ⟨rfl, hw5⟩; subst hw5))
          have hk5 := hk4
          obtain ⟨⟨e0, e1, e2, f0, f1, f2⟩, hB5⟩ := hk5
          have HB5 := Lib.hid hB5
          clear hk2 hk3 hk4 hB5
          clear hkv
          have HV : Hid (R = -1) := HST.out
          go_wp2_with (first
            | (go_at_call 21; refine (cmpL_any _ _ _).mono ?_; rintro e w6 ⟨rfl, hw6⟩; subst hw6)
            | (go_at_call 22; refine (cmpS_any s s2 S S2 HS.out HS2.out _).mono ?_; rintro e w6 ⟨rfl, hw6⟩; subst hw6)
            | (go_at_call 20; refine (cmpI_any _ _ _).mono ?_; rintro e w6 ⟨rfl, hw6⟩; subst hw6)
            | (go_at_call 23; refine (or_any _ _ _ _ (RowAt.new _ _ _)).mono ?_; rintro e _ ⟨rfl, rfl⟩))
          rw [Exit.noGoto_ret]
          go_ret
          exact ⟨by rw [HV.out]; rfl, HB5.out.alloc HB5.out.size _⟩
        | false =>
         cases is2 with
         | true =>
          have hk2 : (W9.drew.cell? ⟨bx, 0, none⟩ = some (.string S) ∧ W9.drew.cell? ⟨bx, 1, none⟩ = some (.int .i64 x) ∧ W9.drew.cell? ⟨bx, 2, none⟩ = some (.bool false) ∧ W9.drew.cell? ⟨by_, 0, none⟩ = some (.string S2) ∧ W9.drew.cell? ⟨by_, 1, none⟩ = some (.int .i64 x2) ∧ W9.drew.cell? ⟨by_, 2, none⟩ = some (.bool true)) ∧ Below w.heap.size w W9.drew := ⟨hcells, hB9.drew⟩
          have hkv : cmpN (kindP false) (kindP true) = 1 := rfl
          go_wp2_with fail
          go_region_held (fun w' => (w'.cell? ⟨bx, 0, none⟩ = some (.string S) ∧ w'.cell? ⟨bx, 1, none⟩ = some (.int .i64 x) ∧ w'.cell? ⟨bx, 2, none⟩ = some (.bool false) ∧ w'.cell? ⟨by_, 0, none⟩ = some (.string S2) ∧ w'.cell? ⟨by_, 1, none⟩ = some (.int .i64 x2) ∧ w'.cell? ⟨by_, 2, none⟩ = some (.bool true)) ∧ Below w.heap.size w w') (first | assumption) (first
            | (go_simp; go_at_call 19; refine (kind_any S x false W9.drew).mono ?_; rintro e w3 ⟨rfl, hb3⟩; have hk3 : (w3.cell? ⟨bx, 0, none⟩ = some (.string S) ∧ w3.cell? ⟨bx, 1, none⟩ = some (.int .i64 x) ∧ w3.cell? ⟨bx, 2, none⟩ = some (.bool false) ∧ w3.cell? ⟨by_, 0, none⟩ = some (.string S2) ∧ w3.cell? ⟨by_, 1, none⟩ = some (.int .i64 x2) ∧ w3.cell? ⟨by_, 2, none⟩ = some (.bool true)) ∧ Below w.heap.size w w3 := ⟨two_boxes hk2.1 hb3, hk2.2.trans (hb3.mono hk2.2.size)⟩; clear hb3)
            | (go_simp; go_at_call 19; refine (kind_any S2 x2 true w3).mono ?_; rintro e w4 ⟨rfl, hb4⟩; have hk4 : (w4.cell? ⟨bx, 0, none⟩ = some (.string S) ∧ w4.cell? ⟨bx, 1, none⟩ = some (.int .i64 x) ∧ w4.cell? ⟨bx, 2, none⟩ = some (.bool false) ∧ w4.cell? ⟨by_, 0, none⟩ = some (.string S2) ∧ w4.cell? ⟨by_, 1, none⟩ = some (.int .i64 x2) ∧ w4.cell? ⟨by_, 2, none⟩ = some (.bool true)) ∧ Below w.heap.size w w4 := ⟨two_boxes hk3.1 hb4, hk3.2.trans (hb4.mono hk3.2.size)⟩; clear hb4)
            | (go_simp; go_at_call 20; refine (cmpI_any _ _ _).mono ?_; rintro e w5 ⟨rfl, hw5⟩; subst hw5))
          have hk5 := hk4
          obtain ⟨⟨e0, e1, e2, f0, f1, f2⟩, hB5⟩ := hk5
          have HB5 := Lib.hid hB5
          clear hk2 hk3 hk4 hB5
          clear hkv
          have HV : Hid (R = 1) := HST.out
          go_wp2_with (first
            | (go_at_call 21; refine (cmpL_any _ _ _).mono ?_; rintro e w6 ⟨rfl, hw6⟩; subst hw6)
            | (go_at_call 22; refine (cmpS_any s s2 S S2 HS.out HS2.out _).mono ?_; rintro e w6 ⟨rfl, hw6⟩; subst hw6)
            | (go_at_call 20; refine (cmpI_any _ _ _).mono ?_; rintro e w6 ⟨rfl, hw6⟩; subst hw6)
            | (go_at_call 23; refine (or_any _ _ _ _ (RowAt.new _ _ _)).mono ?_; rintro e _ ⟨rfl, rfl⟩))
          rw [Exit.noGoto_ret]
          go_ret
          exact ⟨by rw [HV.out]; rfl, HB5.out.alloc HB5.out.size _⟩
         | false =>
          have hk2 : (W9.drew.cell? ⟨bx, 0, none⟩ = some (.string S) ∧ W9.drew.cell? ⟨bx, 1, none⟩ = some (.int .i64 x) ∧ W9.drew.cell? ⟨bx, 2, none⟩ = some (.bool false) ∧ W9.drew.cell? ⟨by_, 0, none⟩ = some (.string S2) ∧ W9.drew.cell? ⟨by_, 1, none⟩ = some (.int .i64 x2) ∧ W9.drew.cell? ⟨by_, 2, none⟩ = some (.bool false)) ∧ Below w.heap.size w W9.drew := ⟨hcells, hB9.drew⟩
          have hkv : cmpN (kindP false) (kindP false) = 0 := rfl
          go_wp2_with fail
          go_region_held (fun w' => (w'.cell? ⟨bx, 0, none⟩ = some (.string S) ∧ w'.cell? ⟨bx, 1, none⟩ = some (.int .i64 x) ∧ w'.cell? ⟨bx, 2, none⟩ = some (.bool false) ∧ w'.cell? ⟨by_, 0, none⟩ = some (.string S2) ∧ w'.cell? ⟨by_, 1, none⟩ = some (.int .i64 x2) ∧ w'.cell? ⟨by_, 2, none⟩ = some (.bool false)) ∧ Below w.heap.size w w') (first | assumption) (first
            | (go_simp; go_at_call 19; refine (kind_any S x false W9.drew).mono ?_; rintro e w3 ⟨rfl, hb3⟩; have hk3 : (w3.cell? ⟨bx, 0, none⟩ = some (.string S) ∧ w3.cell? ⟨bx, 1, none⟩ = some (.int .i64 x) ∧ w3.cell? ⟨bx, 2, none⟩ = some (.bool false) ∧ w3.cell? ⟨by_, 0, none⟩ = some (.string S2) ∧ w3.cell? ⟨by_, 1, none⟩ = some (.int .i64 x2) ∧ w3.cell? ⟨by_, 2, none⟩ = some (.bool false)) ∧ Below w.heap.size w w3 := ⟨two_boxes hk2.1 hb3, hk2.2.trans (hb3.mono hk2.2.size)⟩; clear hb3)
            | (go_simp; go_at_call 19; refine (kind_any S2 x2 false w3).mono ?_; rintro e w4 ⟨rfl, hb4⟩; have hk4 : (w4.cell? ⟨bx, 0, none⟩ = some (.string S) ∧ w4.cell? ⟨bx, 1, none⟩ = some (.int .i64 x) ∧ w4.cell? ⟨bx, 2, none⟩ = some (.bool false) ∧ w4.cell? ⟨by_, 0, none⟩ = some (.string S2) ∧ w4.cell? ⟨by_, 1, none⟩ = some (.int .i64 x2) ∧ w4.cell? ⟨by_, 2, none⟩ = some (.bool false)) ∧ Below w.heap.size w w4 := ⟨two_boxes hk3.1 hb4, hk3.2.trans (hb4.mono hk3.2.size)⟩; clear hb4)
            | (go_simp; go_at_call 20; refine (cmpI_any _ _ _).mono ?_; rintro e w5 ⟨rfl, hw5⟩; subst hw5))
          have hk5 := hk4
          obtain ⟨⟨e0, e1, e2, f0, f1, f2⟩, hB5⟩ := hk5
          have HB5 := Lib.hid hB5
          clear hk2 hk3 hk4 hB5
          clear hkv
          rcases cmpL_in s s2 with ⟨hv, hlt⟩ | ⟨hv, he⟩ | ⟨hv, hgt⟩
          · have HV : Hid (R = -1) := by have := HST.out; simp only [cmpP, Bool.false_eq_true, if_false] at this; rw [hv] at this; exact this
            clear hlt
            go_wp2_with (first
              | (go_at_call 21; refine (cmpL_any _ _ _).mono ?_; rintro e w6 ⟨rfl, hw6⟩; subst hw6)
              | (go_at_call 22; refine (cmpS_any s s2 S S2 HS.out HS2.out _).mono ?_; rintro e w6 ⟨rfl, hw6⟩; subst hw6)
              | (go_at_call 20; refine (cmpI_any _ _ _).mono ?_; rintro e w6 ⟨rfl, hw6⟩; subst hw6)
              | (go_at_call 23; refine (or_any _ _ _ _ (RowAt.new _ _ _)).mono ?_; rintro e _ ⟨rfl, rfl⟩))
            rw [Exit.noGoto_ret]
            go_ret
            exact ⟨by rw [HV.out]; rfl, HB5.out.alloc HB5.out.size _⟩
          · have HV : Hid (cmpK (ps.drop (k + 1)) (qs.drop (k + 1)) = R) := by have := HST.out; simp only [cmpP, Bool.false_eq_true, if_false] at this; rw [hv] at this; exact this.symm
            clear he
            obtain ⟨hkm, hm1, hm3, hm4, hm, hm2⟩ := HK.out
            go_wp2_with (first
              | (go_at_call 21; refine (cmpL_any _ _ _).mono ?_; rintro e w6 ⟨rfl, hw6⟩; subst hw6)
              | (go_at_call 22; refine (cmpS_any s s2 S S2 HS.out HS2.out _).mono ?_; rintro e w6 ⟨rfl, hw6⟩; subst hw6)
              | (go_at_call 20; refine (cmpI_any _ _ _).mono ?_; rintro e w6 ⟨rfl, hw6⟩; subst hw6)
              | (go_at_call 23; refine (or_any _ _ _ _ (RowAt.new _ _ _)).mono ?_; rintro e _ ⟨rfl, rfl⟩))
            go_roundw
            case rel => exact ⟨k + 1, by omega, rfl, by go_num, HB5.out, HV.out⟩
            case measure => simp [intOf]; omega
          · have HV : Hid (R = 1) := by have := HST.out; simp only [cmpP, Bool.false_eq_true, if_false] at this; rw [hv] at this; exact this
            clear hgt
            go_wp2_with (first
              | (go_at_call 21; refine (cmpL_any _ _ _).mono ?_; rintro e w6 ⟨rfl, hw6⟩; subst hw6)
              | (go_at_call 22; refine (cmpS_any s s2 S S2 HS.out HS2.out _).mono ?_; rintro e w6 ⟨rfl, hw6⟩; subst hw6)
              | (go_at_call 20; refine (cmpI_any _ _ _).mono ?_; rintro e w6 ⟨rfl, hw6⟩; subst hw6)
              | (go_at_call 23; refine (or_any _ _ _ _ (RowAt.new _ _ _)).mono ?_; rintro e _ ⟨rfl, rfl⟩))
            rw [Exit.noGoto_ret]
            go_ret
            exact ⟨by rw [HV.out]; rfl, HB5.out.alloc HB5.out.size _⟩
      · obtain ⟨W9, hW9⟩ : ∃ W, ((wr.alloc (.cells #[.string S2, .int .i64 x2, .bool is2] 42)).alloc (.cells #[.string S, .int .i64 x, .bool is] 42)).drew = W := ⟨_, rfl⟩
        obtain ⟨⟨q1, q2, q3, q4, q5, q6⟩, hb9⟩ := boxes_xy wr S2 S x2 x is2 is W9 hW9.symm
        have hcells := And.intro q4 (And.intro q5 (And.intro q6 (And.intro q1 (And.intro q2 q3))))
        clear q1 q2 q3 q4 q5 q6
        rw [hW9]
        obtain ⟨by_, hby⟩ : ∃ b, wr.heap.size = b := ⟨_, rfl⟩
        obtain ⟨bx, hbx⟩ : ∃ b, wr.heap.size + 1 = b := ⟨_, rfl⟩
        have hB9 := HB.out.trans (hb9.mono hs9)
        rw [hbx, hby] at hcells ⊢
        rename_i hh
        clear hh hW9 hb9 hbx hby hs9
        cases is with
        | true =>
         cases is2 with
         | true =>
          have hk2 : (W9.drew.cell? ⟨bx, 0, none⟩ = some (.string S) ∧ W9.drew.cell? ⟨bx, 1, none⟩ = some (.int .i64 x) ∧ W9.drew.cell? ⟨bx, 2, none⟩ = some (.bool true) ∧ W9.drew.cell? ⟨by_, 0, none⟩ = some (.string S2) ∧ W9.drew.cell? ⟨by_, 1, none⟩ = some (.int .i64 x2) ∧ W9.drew.cell? ⟨by_, 2, none⟩ = some (.bool true)) ∧ Below w.heap.size w W9.drew := ⟨hcells, hB9.drew⟩
          have hkv : cmpN (kindP true) (kindP true) = 0 := rfl
          go_wp2_with fail
          go_region_held (fun w' => (w'.cell? ⟨bx, 0, none⟩ = some (.string S) ∧ w'.cell? ⟨bx, 1, none⟩ = some (.int .i64 x) ∧ w'.cell? ⟨bx, 2, none⟩ = some (.bool true) ∧ w'.cell? ⟨by_, 0, none⟩ = some (.string S2) ∧ w'.cell? ⟨by_, 1, none⟩ = some (.int .i64 x2) ∧ w'.cell? ⟨by_, 2, none⟩ = some (.bool true)) ∧ Below w.heap.size w w') (first | assumption) (first
            | (go_simp; go_at_call 19; refine (kind_any S x true W9.drew).mono ?_; rintro e w3 ⟨rfl, hb3⟩; have hk3 : (w3.cell? ⟨bx, 0, none⟩ = some (.string S) ∧ w3.cell? ⟨bx, 1, none⟩ = some (.int .i64 x) ∧ w3.cell? ⟨bx, 2, none⟩ = some (.bool true) ∧ w3.cell? ⟨by_, 0, none⟩ = some (.string S2) ∧ w3.cell? ⟨by_, 1, none⟩ = some (.int .i64 x2) ∧ w3.cell? ⟨by_, 2, none⟩ = some (.bool true)) ∧ Below w.heap.size w w3 := ⟨two_boxes hk2.1 hb3, hk2.2.trans (hb3.mono hk2.2.size)⟩; clear hb3)
            | (go_simp; go_at_call 19; refine (kind_any S2 x2 true w3).mono ?_; rintro e w4 ⟨rfl, hb4⟩; have hk4 : (w4.cell? ⟨bx, 0, none⟩ = some (.string S) ∧ w4.cell? ⟨bx, 1, none⟩ = some (.int .i64 x) ∧ w4.cell? ⟨bx, 2, none⟩ = some (.bool true) ∧ w4.cell? ⟨by_, 0, none⟩ = some (.string S2) ∧ w4.cell? ⟨by_, 1, none⟩ = some (.int .i64 x2) ∧ w4.cell? ⟨by_, 2, none⟩ = some (.bool true)) ∧ Below w.heap.size w w4 := ⟨two_boxes hk3.1 hb4, hk3.2.trans (hb4.mono hk3.2.size)⟩; clear hb4)
            | (go_simp; go_at_call 20; refine (cmpI_any _ _ _).mono ?_; rintro e w5 ⟨rfl, hw5⟩; subst hw5))
          have hk5 := hk4
          obtain ⟨⟨e0, e1, e2, f0, f1, f2⟩, hB5⟩ := hk5
          have HB5 := Lib.hid hB5
          clear hk2 hk3 hk4 hB5
          clear hkv
          rcases cmpN_in x x2 with ⟨hv, hlt⟩ | ⟨hv, he⟩ | ⟨hv, hgt⟩
          · have HV : Hid (R = -1) := by have := HST.out; simp only [cmpP, if_true] at this; rw [hv] at this; exact this
            clear hlt
            go_wp2_with (first
              | (go_at_call 21; refine (cmpL_any _ _ _).mono ?_; rintro e w6 ⟨rfl, hw6⟩; subst hw6)
              | (go_at_call 22; refine (cmpS_any s s2 S S2 HS.out HS2.out _).mono ?_; rintro e w6 ⟨rfl, hw6⟩; subst hw6)
              | (go_at_call 20; refine (cmpI_any _ _ _).mono ?_; rintro e w6 ⟨rfl, hw6⟩; subst hw6)
              | (go_at_call 23; refine (or_any _ _ _ _ (RowAt.new _ _ _)).mono ?_; rintro e _ ⟨rfl, rfl⟩))
            rw [Exit.noGoto_ret]
            go_ret
            exact ⟨by rw [HV.out]; rfl, HB5.out.alloc HB5.out.size _⟩
          · have HV : Hid (cmpK (ps.drop (k + 1)) (qs.drop (k + 1)) = R) := by have := HST.out; simp only [cmpP, if_true] at this; rw [hv] at this; exact this.symm
            clear he
            obtain ⟨hkm, hm1, hm3, hm4, hm, hm2⟩ := HK.out
            go_wp2_with (first
              | (go_at_call 21; refine (cmpL_any _ _ _).mono ?_; rintro e w6 ⟨rfl, hw6⟩; subst hw6)
              | (go_at_call 22; refine (cmpS_any s s2 S S2 HS.out HS2.out _).mono ?_; rintro e w6 ⟨rfl, hw6⟩; subst hw6)
              | (go_at_call 20; refine (cmpI_any _ _ _).mono ?_; rintro e w6 ⟨rfl, hw6⟩; subst hw6)
              | (go_at_call 23; refine (or_any _ _ _ _ (RowAt.new _ _ _)).mono ?_; rintro e _ ⟨rfl, rfl⟩))
            go_roundw
            case rel => exact ⟨k + 1, by omega, rfl, by go_num, HB5.out, HV.out⟩
            case measure => simp [intOf]; omega
          · have HV : Hid (R = 1) := by have := HST.out; simp only [cmpP, if_true] at this; rw [hv] at this; exact this
            clear hgt
            go_wp2_with (first
              | (go_at_call 21; refine (cmpL_any _ _ _).mono ?_; rintro e w6 ⟨rfl, hw6⟩; subst hw6)
              | (go_at_call 22; refine (cmpS_any s s2 S S2 HS.out HS2.out _).mono ?_; rintro e w6 ⟨rfl, hw6⟩; subst hw6)
              | (go_at_call 20; refine (cmpI_any _ _ _).mono ?_; rintro e w6 ⟨rfl, hw6⟩; subst hw6)
              | (go_at_call 23; refine (or_any _ _ _ _ (RowAt.new _ _ _)).mono ?_; rintro e _ ⟨rfl, rfl⟩))
            rw [Exit.noGoto_ret]
            go_ret
            exact ⟨by rw [HV.out]; rfl, HB5.out.alloc HB5.out.size _⟩
         | false =>
          have hk2 : (W9.drew.cell? ⟨bx, 0, none⟩ = some (.string S) ∧ W9.drew.cell? ⟨bx, 1, none⟩ = some (.int .i64 x) ∧ W9.drew.cell? ⟨bx, 2, none⟩ = some (.bool true) ∧ W9.drew.cell? ⟨by_, 0, none⟩ = some (.string S2) ∧ W9.drew.cell? ⟨by_, 1, none⟩ = some (.int .i64 x2) ∧ W9.drew.cell? ⟨by_, 2, none⟩ = some (.bool false)) ∧ Below w.heap.size w W9.drew := ⟨hcells, hB9.drew⟩
          have hkv : cmpN (kindP true) (kindP false) = -1 := rfl
          go_wp2_with fail
          go_region_held (fun w' => (w'.cell? ⟨bx, 0, none⟩ = some (.string S) ∧ w'.cell? ⟨bx, 1, none⟩ = some (.int .i64 x) ∧ w'.cell? ⟨bx, 2, none⟩ = some (.bool true) ∧ w'.cell? ⟨by_, 0, none⟩ = some (.string S2) ∧ w'.cell? ⟨by_, 1, none⟩ = some (.int .i64 x2) ∧ w'.cell? ⟨by_, 2, none⟩ = some (.bool false)) ∧ Below w.heap.size w w') (first | assumption) (first
            | (go_simp; go_at_call 19; refine (kind_any S x true W9.drew).mono ?_; rintro e w3 ⟨rfl, hb3⟩; have hk3 : (w3.cell? ⟨bx, 0, none⟩ = some (.string S) ∧ w3.cell? ⟨bx, 1, none⟩ = some (.int .i64 x) ∧ w3.cell? ⟨bx, 2, none⟩ = some (.bool true) ∧ w3.cell? ⟨by_, 0, none⟩ = some (.string S2) ∧ w3.cell? ⟨by_, 1, none⟩ = some (.int .i64 x2) ∧ w3.cell? ⟨by_, 2, none⟩ = some (.bool false)) ∧ Below w.heap.size w w3 := ⟨two_boxes hk2.1 hb3, hk2.2.trans (hb3.mono hk2.2.size)⟩; clear hb3)
            | (go_simp; go_at_call 19; refine (kind_any S2 x2 false w3).mono ?_; rintro e w4 ⟨rfl, hb4⟩; have hk4 : (w4.cell? ⟨bx, 0, none⟩ = some (.string S) ∧ w4.cell? ⟨bx, 1, none⟩ = some (.int .i64 x) ∧ w4.cell? ⟨bx, 2, none⟩ = some (.bool true) ∧ w4.cell? ⟨by_, 0, none⟩ = some (.string S2) ∧ w4.cell? ⟨by_, 1, none⟩ = some (.int .i64 x2) ∧ w4.cell? ⟨by_, 2, none⟩ = some (.bool false)) ∧ Below w.heap.size w w4 := ⟨two_boxes hk3.1 hb4, hk3.2.trans (hb4.mono hk3.2.size)⟩; clear hb4)
            | (go_simp; go_at_call 20; refine (cmpI_any _ _ _).mono ?_; rintro e w5 ⟨rfl, hw5⟩; subst hw5))
          have hk5 := hk4
          obtain ⟨⟨e0, e1, e2, f0, f1, f2⟩, hB5⟩ := hk5
          have HB5 := Lib.hid hB5
          clear hk2 hk3 hk4 hB5
          clear hkv
          have HV : Hid (R = -1) := HST.out
          go_wp2_with (first
            | (go_at_call 21; refine (cmpL_any _ _ _).mono ?_; rintro e w6 ⟨rfl, hw6⟩; subst hw6)
            | (go_at_call 22; refine (cmpS_any s s2 S S2 HS.out HS2.out _).mono ?_; rintro e w6 ⟨rfl, hw6⟩; subst hw6)
            | (go_at_call 20; refine (cmpI_any _ _ _).mono ?_; rintro e w6 ⟨rfl, hw6⟩; subst hw6)
            | (go_at_call 23; refine (or_any _ _ _ _ (RowAt.new _ _ _)).mono ?_; rintro e _ ⟨rfl, rfl⟩))
          rw [Exit.noGoto_ret]
          go_ret
          exact ⟨by rw [HV.out]; rfl, HB5.out.alloc HB5.out.size _⟩
        | false =>
         cases is2 with
         | true =>
          have hk2 : (W9.drew.cell? ⟨bx, 0, none⟩ = some (.string S) ∧ W9.drew.cell? ⟨bx, 1, none⟩ = some (.int .i64 x) ∧ W9.drew.cell? ⟨bx, 2, none⟩ = some (.bool false) ∧ W9.drew.cell? ⟨by_, 0, none⟩ = some (.string S2) ∧ W9.drew.cell? ⟨by_, 1, none⟩ = some (.int .i64 x2) ∧ W9.drew.cell? ⟨by_, 2, none⟩ = some (.bool true)) ∧ Below w.heap.size w W9.drew := ⟨hcells, hB9.drew⟩
          have hkv : cmpN (kindP false) (kindP true) = 1 := rfl
          go_wp2_with fail
          go_region_held (fun w' => (w'.cell? ⟨bx, 0, none⟩ = some (.string S) ∧ w'.cell? ⟨bx, 1, none⟩ = some (.int .i64 x) ∧ w'.cell? ⟨bx, 2, none⟩ = some (.bool false) ∧ w'.cell? ⟨by_, 0, none⟩ = some (.string S2) ∧ w'.cell? ⟨by_, 1, none⟩ = some (.int .i64 x2) ∧ w'.cell? ⟨by_, 2, none⟩ = some (.bool true)) ∧ Below w.heap.size w w') (first | assumption) (first
            | (go_simp; go_at_call 19; refine (kind_any S x false W9.drew).mono ?_; rintro e w3 ⟨rfl, hb3⟩; have hk3 : (w3.cell? ⟨bx, 0, none⟩ = some (.string S) ∧ w3.cell? ⟨bx, 1, none⟩ = some (.int .i64 x) ∧ w3.cell? ⟨bx, 2, none⟩ = some (.bool false) ∧ w3.cell? ⟨by_, 0, none⟩ = some (.string S2) ∧ w3.cell? ⟨by_, 1, none⟩ = some (.int .i64 x2) ∧ w3.cell? ⟨by_, 2, none⟩ = some (.bool true)) ∧ Below w.heap.size w w3 := ⟨two_boxes hk2.1 hb3, hk2.2.trans (hb3.mono hk2.2.size)⟩; clear hb3)
            | (go_simp; go_at_call 19; refine (kind_any S2 x2 true w3).mono ?_; rintro e w4 ⟨rfl, hb4⟩; have hk4 : (w4.cell? ⟨bx, 0, none⟩ = some (.string S) ∧ w4.cell? ⟨bx, 1, none⟩ = some (.int .i64 x) ∧ w4.cell? ⟨bx, 2, none⟩ = some (.bool false) ∧ w4.cell? ⟨by_, 0, none⟩ = some (.string S2) ∧ w4.cell? ⟨by_, 1, none⟩ = some (.int .i64 x2) ∧ w4.cell? ⟨by_, 2, none⟩ = some (.bool true)) ∧ Below w.heap.size w w4 := ⟨two_boxes hk3.1 hb4, hk3.2.trans (hb4.mono hk3.2.size)⟩; clear hb4)
            | (go_simp; go_at_call 20; refine (cmpI_any _ _ _).mono ?_; rintro e w5 ⟨rfl, hw5⟩; subst hw5))
          have hk5 := hk4
          obtain ⟨⟨e0, e1, e2, f0, f1, f2⟩, hB5⟩ := hk5
          have HB5 := Lib.hid hB5
          clear hk2 hk3 hk4 hB5
          clear hkv
          have HV : Hid (R = 1) := HST.out
          go_wp2_with (first
            | (go_at_call 21; refine (cmpL_any _ _ _).mono ?_; rintro e w6 ⟨rfl, hw6⟩; subst hw6)
            | (go_at_call 22; refine (cmpS_any s s2 S S2 HS.out HS2.out _).mono ?_; rintro e w6 ⟨rfl, hw6⟩; subst hw6)
            | (go_at_call 20; refine (cmpI_any _ _ _).mono ?_; rintro e w6 ⟨rfl, hw6⟩; subst hw6)
            | (go_at_call 23; refine (or_any _ _ _ _ (RowAt.new _ _ _)).mono ?_; rintro e _ ⟨rfl, rfl⟩))
          rw [Exit.noGoto_ret]
          go_ret
          exact ⟨by rw [HV.out]; rfl, HB5.out.alloc HB5.out.size _⟩
         | false =>
          have hk2 : (W9.drew.cell? ⟨bx, 0, none⟩ = some (.string S) ∧ W9.drew.cell? ⟨bx, 1, none⟩ = some (.int .i64 x) ∧ W9.drew.cell? ⟨bx, 2, none⟩ = some (.bool false) ∧ W9.drew.cell? ⟨by_, 0, none⟩ = some (.string S2) ∧ W9.drew.cell? ⟨by_, 1, none⟩ = some (.int .i64 x2) ∧ W9.drew.cell? ⟨by_, 2, none⟩ = some (.bool false)) ∧ Below w.heap.size w W9.drew := ⟨hcells, hB9.drew⟩
          have hkv : cmpN (kindP false) (kindP false) = 0 := rfl
          go_wp2_with fail
          go_region_held (fun w' => (w'.cell? ⟨bx, 0, none⟩ = some (.string S) ∧ w'.cell? ⟨bx, 1, none⟩ = some (.int .i64 x) ∧ w'.cell? ⟨bx, 2, none⟩ = some (.bool false) ∧ w'.cell? ⟨by_, 0, none⟩ = some (.string S2) ∧ w'.cell? ⟨by_, 1, none⟩ = some (.int .i64 x2) ∧ w'.cell? ⟨by_, 2, none⟩ = some (.bool false)) ∧ Below w.heap.size w w') (first | assumption) (first
            | (go_simp; go_at_call 19; refine (kind_any S x false W9.drew).mono ?_; rintro e w3 ⟨rfl, hb3⟩; have hk3 : (w3.cell? ⟨bx, 0, none⟩ = some (.string S) ∧ w3.cell? ⟨bx, 1, none⟩ = some (.int .i64 x) ∧ w3.cell? ⟨bx, 2, none⟩ = some (.bool false) ∧ w3.cell? ⟨by_, 0, none⟩ = some (.string S2) ∧ w3.cell? ⟨by_, 1, none⟩ = some (.int .i64 x2) ∧ w3.cell? ⟨by_, 2, none⟩ = some (.bool false)) ∧ Below w.heap.size w w3 := ⟨two_boxes hk2.1 hb3, hk2.2.trans (hb3.mono hk2.2.size)⟩; clear hb3)
            | (go_simp; go_at_call 19; refine (kind_any S2 x2 false w3).mono ?_; rintro e w4 ⟨rfl, hb4⟩; have hk4 : (w4.cell? ⟨bx, 0, none⟩ = some (.string S) ∧ w4.cell? ⟨bx, 1, none⟩ = some (.int .i64 x) ∧ w4.cell? ⟨bx, 2, none⟩ = some (.bool false) ∧ w4.cell? ⟨by_, 0, none⟩ = some (.string S2) ∧ w4.cell? ⟨by_, 1, none⟩ = some (.int .i64 x2) ∧ w4.cell? ⟨by_, 2, none⟩ = some (.bool false)) ∧ Below w.heap.size w w4 := ⟨two_boxes hk3.1 hb4, hk3.2.trans (hb4.mono hk3.2.size)⟩; clear hb4)
            | (go_simp; go_at_call 20; refine (cmpI_any _ _ _).mono ?_; rintro e w5 ⟨rfl, hw5⟩; subst hw5))
          have hk5 := hk4
          obtain ⟨⟨e0, e1, e2, f0, f1, f2⟩, hB5⟩ := hk5
          have HB5 := Lib.hid hB5
          clear hk2 hk3 hk4 hB5
          clear hkv
          rcases cmpL_in s s2 with ⟨hv, hlt⟩ | ⟨hv, he⟩ | ⟨hv, hgt⟩
          · have HV : Hid (R = -1) := by have := HST.out; simp only [cmpP, Bool.false_eq_true, if_false] at this; rw [hv] at this; exact this
            clear hlt
            go_wp2_with (first
              | (go_at_call 21; refine (cmpL_any _ _ _).mono ?_; rintro e w6 ⟨rfl, hw6⟩; subst hw6)
              | (go_at_call 22; refine (cmpS_any s s2 S S2 HS.out HS2.out _).mono ?_; rintro e w6 ⟨rfl, hw6⟩; subst hw6)
              | (go_at_call 20; refine (cmpI_any _ _ _).mono ?_; rintro e w6 ⟨rfl, hw6⟩; subst hw6)
              | (go_at_call 23; refine (or_any _ _ _ _ (RowAt.new _ _ _)).mono ?_; rintro e _ ⟨rfl, rfl⟩))
            rw [Exit.noGoto_ret]
            go_ret
            exact ⟨by rw [HV.out]; rfl, HB5.out.alloc HB5.out.size _⟩
          · have HV : Hid (cmpK (ps.drop (k + 1)) (qs.drop (k + 1)) = R) := by have := HST.out; simp only [cmpP, Bool.false_eq_true, if_false] at this; rw [hv] at this; exact this.symm
            clear he
            obtain ⟨hkm, hm1, hm3, hm4, hm, hm2⟩ := HK.out
            go_wp2_with (first
              | (go_at_call 21; refine (cmpL_any _ _ _).mono ?_; rintro e w6 ⟨rfl, hw6⟩; subst hw6)
              | (go_at_call 22; refine (cmpS_any s s2 S S2 HS.out HS2.out _).mono ?_; rintro e w6 ⟨rfl, hw6⟩; subst hw6)
              | (go_at_call 20; refine (cmpI_any _ _ _).mono ?_; rintro e w6 ⟨rfl, hw6⟩; subst hw6)
              | (go_at_call 23; refine (or_any _ _ _ _ (RowAt.new _ _ _)).mono ?_; rintro e _ ⟨rfl, rfl⟩))
            go_roundw
            case rel => exact ⟨k + 1, by omega, rfl, by go_num, HB5.out, HV.out⟩
            case measure => simp [intOf]; omega
          · have HV : Hid (R = 1) := by have := HST.out; simp only [cmpP, Bool.false_eq_true, if_false] at this; rw [hv] at this; exact this
            clear hgt
            go_wp2_with (first
              | (go_at_call 21; refine (cmpL_any _ _ _).mono ?_; rintro e w6 ⟨rfl, hw6⟩; subst hw6)
              | (go_at_call 22; refine (cmpS_any s s2 S S2 HS.out HS2.out _).mono ?_; rintro e w6 ⟨rfl, hw6⟩; subst hw6)
              | (go_at_call 20; refine (cmpI_any _ _ _).mono ?_; rintro e w6 ⟨rfl, hw6⟩; subst hw6)
              | (go_at_call 23; refine (or_any _ _ _ _ (RowAt.new _ _ _)).mono ?_; rintro e _ ⟨rfl, rfl⟩))
            rw [Exit.noGoto_ret]
            go_ret
            exact ⟨by rw [HV.out]; rfl, HB5.out.alloc HB5.out.size _⟩
    · have hk3 : k = m := by omega
      subst hk3
      have hend := cmpK_end (ps := ps) (qs := qs) (k := k) (by rw [← hn.out]; exact hm1) (by rw [← hn2.out]; exact hm3) (by rw [← hn.out, ← hn2.out]; exact hm4)
      rw [← hn.out, ← hn2.out, HD.out] at hend
      have HV : Hid (R = cmpN (n : Int) (n2 : Int)) := by
        show _ = _
        rw [hend]
        unfold cmpN
        rcases Nat.lt_trichotomy n n2 with h1 | h1 | h1
        · rw [if_pos h1, if_pos (show (n : Int) < (n2 : Int) by omega)]
        · rw [if_neg (show ¬ n < n2 by omega), if_neg (show ¬ n2 < n by omega), if_neg (show ¬ (n : Int) < (n2 : Int) by omega), if_neg (show ¬ (n2 : Int) < (n : Int) by omega)]
        · rw [if_neg (show ¬ n < n2 by omega), if_pos h1, if_neg (show ¬ (n : Int) < (n2 : Int) by omega), if_pos (show (n2 : Int) < (n : Int) by omega)]
      clear hend
      go_wp2_with (first
        | (go_at_call 21; refine (cmpL_any _ _ _).mono ?_; rintro e w6 ⟨rfl, hw6⟩; subst hw6)
        | (go_at_call 22; refine (cmpS_any s s2 S S2 HS.out HS2.out _).mono ?_; rintro e w6 ⟨rfl, hw6⟩; subst hw6)
        | (go_at_call 20; refine (cmpI_any _ _ _).mono ?_; rintro e w6 ⟨rfl, hw6⟩; subst hw6)
        | (go_at_call 23; refine (or_any _ _ _ _ (RowAt.new _ _ _)).mono ?_; rintro e _ ⟨rfl, rfl⟩))
      rw [Exit.noGoto_ret]
      go_ret
      exact ⟨by rw [HV.out]; rfl, HB.out.alloc HB.out.size _⟩
end Go.Proofs.YtlchnfjbcefkoaaGreat
