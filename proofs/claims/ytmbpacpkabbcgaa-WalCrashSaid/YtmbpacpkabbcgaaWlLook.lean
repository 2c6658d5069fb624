/- wal.look: what a log is on a disk. -/
import Derived.Test.YtmbpacpkabbcgaaWlBat
import Derived.WalkMore
namespace Go.Proofs.Ytmbpacpkabbcgaa
open Go.RowKit

/-- The batches are read: what stands. -/
structure LInv (w5 wr : World) (g d : Nat) (from_ : Int) (n run base : Nat) (allv : Value) (used : Nat) (bs : List (List UInt8)) : Prop where
  keep : KeepA (fun y => y = g + 1) w5 wr
  row : LgRow wr (g + 1) d from_ n run base allv used false
  bats : Bats wr w5.heap.size allv bs
theorem LInv.later {w5 wr w' : World} {g d : Nat} {from_ : Int} {n run base : Nat} {allv : Value} {used : Nat} {bs : List (List UInt8)} (h : LInv w5 wr g d from_ n run base allv used bs) (hb : Below wr.heap.size wr w') : LInv w5 w' g d from_ n run base allv used bs :=
  ⟨h.keep.trans (KeepA.of_below hb), RowAt.below h.row hb, h.bats.later hb⟩
theorem LInv.grown {w5 wr w9 w10 : World} {g d : Nat} {from_ : Int} {n run base : Nat} {allv : Value} {used : Nat} {bs : List (List UInt8)} (h : LInv w5 wr g d from_ n run base allv used bs) (hg : g + 1 < w5.heap.size) (hb : Below wr.heap.size wr w9)
    (hgr : w9.grownBy w10 allv.ownBlock) : LgRow w10 (g + 1) d from_ n run base allv used false :=
  RowAt.grown (RowAt.below h.row hb) hgr (fun g' hg' e => by have := (h.bats.lt g' hg').1; omega)
theorem LInv.grownK {w5 wr w9 w10 : World} {g d : Nat} {from_ : Int} {n run base : Nat} {allv : Value} {used : Nat} {bs : List (List UInt8)} (h : LInv w5 wr g d from_ n run base allv used bs) (hb : Below wr.heap.size wr w9)
    (hgr : w9.grownBy w10 allv.ownBlock) : KeepA (fun y => y = g + 1) w5 w10 := (h.keep.trans (KeepA.of_below hb)).trans2 (keep_grownO hgr) (fun y hy e => by have := (h.bats.lt y e).1; omega)
theorem Bats.sl {w : World} {base : Nat} {v : Value} {bs : List (List UInt8)} (h : Bats w base v bs) : ∃ a n c, v = .slice a n c := by
  obtain ⟨xs, -, ho, -⟩ := h
  obtain ⟨a, c, hv, -, -⟩ := Rd.of_own ho
  exact ⟨a, _, c, hv⟩
theorem LInv.push {w5 wr w9 w10 : World} {g d : Nat} {from_ : Int} {n run base : Nat} {allv v10 : Value} {used : Nat} {bs bs2 : List (List UInt8)} (h : LInv w5 wr g d from_ n run base allv used bs) (hg : g + 1 < w5.heap.size) (hb : Below wr.heap.size wr w9)
    (hgr : w9.grownBy w10 allv.ownBlock) (hB : Bats w10 w5.heap.size v10 bs2) (j : Nat) : LInv w5 ((w10.setCell ⟨g + 1, 5, none⟩ v10).setCell ⟨g + 1, 6, none⟩ (.int .i64 (j : Int))) g d from_ n run base v10 j bs2 := by
  have hr10 := h.grown hg hb hgr
  have hk10 : KeepA (fun y => y = g + 1) w5 w10 := (h.keep.trans (KeepA.of_below hb)).trans2 (keep_grownO hgr) (fun y hy e => by have := (h.bats.lt y e).1; omega)
  have hset : KeepA (fun y => y = g + 1) w10 ((w10.setCell ⟨g + 1, 5, none⟩ v10).setCell ⟨g + 1, 6, none⟩ (.int .i64 (j : Int))) := ((KeepA.refl (fun y => y = g + 1) w10).setCell (a := ⟨g + 1, 5, none⟩) rfl).setCell (a := ⟨g + 1, 6, none⟩) rfl
  refine ⟨hk10.trans hset, ?_, hB.keep hset (fun gg h1 _ e => by omega)⟩
  exact (RowAt.set hr10 5 v10).set 6 (.int .i64 (j : Int))
set_option maxRecDepth 100000 in
theorem look_no (w : World) (S : Nat → Prop) (b : Nat) (D : DK) (F : Nat) (from_ n : Int) (h : DkS w S b D F) (hno : ¬ askW D.size from_ n = 0) :
    Calls Try.prog 29 #[.pointer (some ⟨b, 0, none⟩), .int .i64 from_, .int .i64 n] w fun e w' => e = .returned (.tuple #[.pointer none, .int .i64 (askW D.size from_ n)]) ∧ Below w.heap.size w w' := by
  have HA := Lib.hid (fun w h => asked_s w S b D F from_ n h)
  obtain ⟨r, hr⟩ : ∃ r, askW D.size from_ n = r := ⟨_, rfl⟩
  rw [hr] at HA hno ⊢
  have hb : (r != 0) = true := by simpa using hno
  have HD := Lib.hid (h.later (below_alloc (.cells #[.int .i64 n] 3)))
  clear h hr
  go_enter Try.func29, Try.ntmps29
  go_wp2
  go_step3
  go_wp2_with fail
  refine (HA.out _ HD.out).mono ?_
  rintro _ w1 ⟨rfl, rfl⟩
  go_wp2
  rw [Exit.noGoto_ret]
  go_ret2
  exact ⟨rfl, below_alloc _⟩
set_option maxRecDepth 100000 in
set_option maxHeartbeats 4000000 in
theorem look_any (w : World) (S : Nat → Prop) (b : Nat) (D : DK) (F : Nat) (from_ : Int) (n : Nat) (h : DkS w S b D F) (hok : askW D.size from_ (n : Int) = 0) (hp : D.pcs.length ≤ 900000) :
    Calls Try.prog 29 #[.pointer (some ⟨b, 0, none⟩), .int .i64 from_, .int .i64 (n : Int)] w (LookPost w b from_ n (lookP (laid D.last D.pcs) from_ n)) := by
  have HA := Lib.hid (fun w h => asked_s w S b D F from_ n h)
  rw [hok] at HA
  have hz := h.sizes
  obtain ⟨hn4, hf0, hfs⟩ : 4 ≤ n ∧ 0 ≤ from_ ∧ from_ + (n : Int) ≤ D.size := by
    unfold askW at hok
    split at hok
    · cases hok
    · split at hok
      · cases hok
      · omega
  have hsec := h.sec
  have hps := h.psec
  obtain ⟨L, hL⟩ : ∃ L, laid D.last D.pcs = L := ⟨_, rfl⟩
  rw [hL]
  have hLl : ∀ k, (L k).length = 512 := by rw [← hL]; exact laid_len hsec _ fun p hp => (hps p hp).2.2
  obtain ⟨g, hg⟩ : ∃ x, w.heap.size = x := ⟨_, rfl⟩
  have hbl := h.blt.1
  rw [hg] at hbl
  have HRD := Lib.hid (fun (w : World) (at_ : Int) (k : Nat) (hh : DkS w S b D F) h1 h2 => read_any w 0 b D F at_ k hh.isDk (by omega) h1 h2)
  rw [hL] at HRD
  have HD := Lib.hid h
  have HL := Lib.hid hL
  have HLL := Lib.hid hLl
  clear h hok hsec hps hL hLl
  go_enter Try.func29, Try.ntmps29
  obtain ⟨W0, hW0⟩ : ∃ x, w.alloc (.cells #[.int .i64 (n : Int)] 3) = x := ⟨_, rfl⟩
  have HN0 : Hid (RowAt W0 g 3 #[.int .i64 (n : Int)]) := by rw [← hW0, ← hg]; exact RowAt.new _ _ _
  have hb0 : Below w.heap.size w W0 := by rw [← hW0]; exact below_alloc _
  have hW0s : W0.heap.size = g + 1 := by rw [← hW0, ← hg]; simp
  have HD0 := Lib.hid (HD.out.later hb0)
  have HB0 := Lib.hid hb0
  have n0 := HN0.out.cell 0
  simp only [List.getElem?_toArray, List.getElem?_cons_zero] at n0
  clear hb0
  go_wp2
  go_step3
  go_wp2_with fail
  clear hW0
  refine (HA.out _ HD0.out).mono ?_
  rintro _ w1 ⟨rfl, rfl⟩
  go_upto_region 6 with fail
  obtain ⟨W2, hW2⟩ : ∃ x, (w1.alloc (.cells #[.pointer (some ⟨b, 0, none⟩), .int .i64 from_, .int .i64 (n : Int), .int .u64 0, .int .u64 0, .slice none 0 0, .int .i64 0, .bool false] 75)).alloc (.cells #[.pointer (some ⟨g + 1, 0, none⟩)] 33) = x := ⟨_, rfl⟩
  have HI2 : Hid (HInv w W2 g b from_ n 0 0 (.slice none 0 0) 0) := by
    have hbb := below_trans (below_alloc (w := w1) (.cells #[.pointer (some ⟨b, 0, none⟩), .int .i64 from_, .int .i64 (n : Int), .int .u64 0, .int .u64 0, .slice none 0 0, .int .i64 0, .bool false] 75)) (below_alloc (.cells #[.pointer (some ⟨g + 1, 0, none⟩)] 33))
    rw [← hW2]
    refine ⟨?_, RowAt.below HN0.out hbb, ?_, ?_⟩
    · have h1 := HB0.out
      rw [hg] at h1
      exact h1.trans (hbb.mono (by omega))
    · have h1 := RowAt.new (w1.alloc (.cells #[.pointer (some ⟨b, 0, none⟩), .int .i64 from_, .int .i64 (n : Int), .int .u64 0, .int .u64 0, .slice none 0 0, .int .i64 0, .bool false] 75)) 33 #[.pointer (some ⟨g + 1, 0, none⟩)]
      rw [World.size_alloc, hW0s] at h1
      exact h1
    · have h1 := RowAt.below (RowAt.new w1 75 #[.pointer (some ⟨b, 0, none⟩), .int .i64 from_, .int .i64 (n : Int), .int .u64 0, .int .u64 0, .slice none 0 0, .int .i64 0, .bool false]) (below_alloc (.cells #[.pointer (some ⟨g + 1, 0, none⟩)] 33))
      rw [hW0s] at h1
      exact h1
  rw [show g + 1 + 1 = g + 2 from rfl]
  rw [hW2]
  clear hW2 n0
  go_wp2
  go_loopw [43] (fun i wr => ∃ k : Nat, k ≤ 2 ∧ i = .int .i64 k ∧ HInv w wr g b from_ n (headsP L from_ k).1 (headsP L from_ k).2 (.slice none 0 0) 0) (fun i _ => 2 - (intOf i).toNat)
  case atStart => exact ⟨0, by omega, rfl, HI2.out⟩
  case round =>
    clear HI2
    obtain ⟨k, hk, rfl, hinv⟩ := hrel
    have HINV := Lib.hid hinv
    by_cases hk2 : k < 2
    · have hbw : Below w.heap.size w wr := by rw [hg]; exact hinv.bel
      have hk2I : (k : Int) < 2 := by omega
      have haw : IntKind.i64.wrap (from_ + (k : Int)) = from_ + (k : Int) := IntWalk.i64_in _ (by omega)
      obtain ⟨s, hs⟩ : ∃ s, L (from_ + (k : Int)) = s := ⟨_, rfl⟩
      have hsl : s.length = 512 := by rw [← hs]; exact HLL.out _
      have HR1 : Hid (Calls Try.prog 51 #[.pointer (some ⟨b, 0, none⟩), .int .i64 (from_ + (k : Int)), .int .i64 1] wr fun e w' => (∃ v, e = .returned (.tuple #[v, .int .i64 0]) ∧ OwnB w' wr.heap.size 5 v s) ∧ Below wr.heap.size wr w') := by
        have h := HRD.out wr (from_ + (k : Int)) 1 (HD.out.later hbw) (by omega) (by omega)
        rw [flatS_one, hs] at h
        exact h
      obtain ⟨c, hc⟩ : ∃ c, headsP L from_ k = c := ⟨_, rfl⟩
      have hst : headsP L from_ (k + 1) = hdStep s k c := by rw [← hc, ← hs]; rfl
      have hclt := headsP_lt HLL.out from_ k
      rw [hc] at hinv hclt HINV
      have HST := Lib.hid hst
      clear hst hs hbw hinv hc
      go_wp2_with fail
      refine HR1.out.mono ?_
      rintro _ w3 ⟨⟨v, rfl, hv⟩, hb3⟩
      obtain ⟨a, cp, hv2, hcp, hrd⟩ := OwnB.rd hv
      rw [hsl] at hv2 hcp
      obtain ⟨sb, so, rfl, -, -⟩ := hrd.at (by omega)
      subst hv2
      have HI3 := Lib.hid (HINV.out.later hb3)
      have HRD3 := Lib.hid hrd
      have hc8 : (8 : Int) ≤ (cp : Int) := by omega
      have hc504 : (504 : Int) ≤ (cp : Int) := by omega
      have hc16 : (16 : Int) ≤ (cp : Int) := by omega
      have hn8 : ¬ cp = 8 := by omega
      have hn504 : ¬ cp = 504 := by omega
      have hn16 : ¬ cp = 16 := by omega
      have HV1 := Lib.hid (fun (w' : World) (hb : Below w3.heap.size w3 w') (c : Nat) => value_any w' (some ⟨sb, so, none⟩) (s.take 8) 8 c (by rw [List.length_take]; omega) (by omega) (by have := (hrd.mono hb).sub 0 8; simpa using this))
      have HV2 := Lib.hid (fun (w' : World) (hb : Below w3.heap.size w3 w') (c : Nat) => value_any w' (some ⟨sb, so + 504, none⟩) (s.drop 504) 8 c (by rw [List.length_drop]; omega) (by omega) (by have := (hrd.mono hb).sub 504 8; rw [List.take_of_length_le (by rw [List.length_drop]; omega)] at this; exact this))
      have HV3 := Lib.hid (fun (w' : World) (hb : Below w3.heap.size w3 w') (c : Nat) => value_any w' (some ⟨sb, so + 8, none⟩) ((s.drop 8).take 8) 8 c (by rw [List.length_take, List.length_drop]; omega) (by omega) ((hrd.mono hb).sub 8 8))
      obtain ⟨r, hr⟩ : ∃ r, leB (s.take 8) = r := ⟨_, rfl⟩
      obtain ⟨q, hq⟩ : ∃ q, leB (s.drop 504) = q := ⟨_, rfl⟩
      obtain ⟨bs, hbs⟩ : ∃ q, leB ((s.drop 8).take 8) = q := ⟨_, rfl⟩
      rw [hr] at HV1
      rw [hq] at HV2
      rw [hbs] at HV3
      have hrl : r < 18446744073709551616 := by rw [← hr]; exact leB8_lt (by rw [List.length_take]; omega)
      have hbl2 : bs < 18446744073709551616 := by rw [← hbs]; exact leB8_lt (by rw [List.length_take]; omega)
      have hstep : hdStep s k c = if decide (c.1 < r) && (decide (r < 4611686018427387904) && ((r % 2 == k) && ((r == q) && decide (bs ≤ r)))) then (r, bs) else c := by unfold hdStep hdOk; rw [hr, hq, hbs]
      have HSTEP := Lib.hid hstep
      clear hv hb3 hrd hr hq hbs hstep hsl
      go_wp2_with fail
      refine (HV1.out w3 (Below.refl _ _) _).mono ?_
      rintro _ w4 ⟨rfl, hb4⟩
      have HB4 := Lib.hid hb4
      have HI4 := Lib.hid (HI3.out.later hb4)
      clear hb4
      have p0 := HI4.out.ptr.cell 0
      have p3 := HI4.out.row.cell 3
      simp only [List.getElem?_toArray, List.getElem?_cons_zero, List.getElem?_cons_succ] at p0 p3
      obtain ⟨cr, cb⟩ := c
      dsimp only at p3 hclt
      have c1I : ((cr : Int) < (r : Int)) = (cr < r) := by simp
      by_cases c1 : cr < r
      rotate_left
      · have c1I : ¬ (cr : Int) < (r : Int) := by omega
        go_wp2
        refine ⟨⟨k + 1, by omega, by go_num, ?_⟩, by simp [intOf]; omega⟩
        rw [HST.out, HSTEP.out, if_neg (fun h => by simp only [Bool.and_eq_true, decide_eq_true_eq, beq_iff_eq] at h; omega)]
        exact HI4.out
      have c1I : (cr : Int) < (r : Int) := by omega
      by_cases c2 : r < 4611686018427387904
      rotate_left
      · have c2I : decide ((r : Int) < 4611686018427387904) = false := decide_eq_false (by omega)
        have c2N : decide (r < 4611686018427387904) = false := decide_eq_false c2
        have C2 := Lib.hid c2
        clear c2
        go_wp2
        have c2 := C2.out
        refine ⟨⟨k + 1, by omega, by go_num, ?_⟩, by simp [intOf]; omega⟩
        rw [HST.out, HSTEP.out, if_neg (fun h => by simp only [Bool.and_eq_true, decide_eq_true_eq, beq_iff_eq] at h; omega)]
        exact HI4.out
      have c2I : (r : Int) < 4611686018427387904 := by omega
      have hkw : IntKind.u64.wrap (k : Int) = (k : Int) := IntWalk.u64_in _ ⟨by omega, by omega⟩
      by_cases c3 : r % 2 = k
      rotate_left
      · have c3I : ¬ (r : Int) % 2 = (k : Int) := by omega
        go_wp2
        refine ⟨⟨k + 1, by omega, by go_num, ?_⟩, by simp [intOf]; omega⟩
        rw [HST.out, HSTEP.out, if_neg (fun h => by simp only [Bool.and_eq_true, decide_eq_true_eq, beq_iff_eq] at h; omega)]
        exact HI4.out
      have c3I : (r : Int) % 2 = (k : Int) := by omega
      go_wp2_with fail
      refine (HV2.out w4 HB4.out _).mono ?_
      rintro _ w5 ⟨rfl, hb5⟩
      have HB5 := Lib.hid (HB4.out.trans (hb5.mono HB4.out.size))
      have HI5 := Lib.hid (HI4.out.later hb5)
      clear hb5 p0 p3
      by_cases c4 : r = q
      rotate_left
      · have c4I : ¬ (r : Int) = (q : Int) := by omega
        go_wp2
        refine ⟨⟨k + 1, by omega, by go_num, ?_⟩, by simp [intOf]; omega⟩
        rw [HST.out, HSTEP.out, if_neg (fun h => by simp only [Bool.and_eq_true, decide_eq_true_eq, beq_iff_eq] at h; omega)]
        exact HI5.out
      subst c4
      go_wp2_with fail
      refine (HV3.out w5 HB5.out _).mono ?_
      rintro _ w6 ⟨rfl, hb6⟩
      have HB6 := Lib.hid (HB5.out.trans (hb6.mono HB5.out.size))
      have HI6 := Lib.hid (HI5.out.later hb6)
      clear hb6
      by_cases c5 : bs ≤ r
      rotate_left
      · have c5I : ¬ (bs : Int) ≤ (r : Int) := by omega
        go_wp2
        refine ⟨⟨k + 1, by omega, by go_num, ?_⟩, by simp [intOf]; omega⟩
        rw [HST.out, HSTEP.out, if_neg (fun h => by simp only [Bool.and_eq_true, decide_eq_true_eq, beq_iff_eq] at h; omega)]
        exact HI6.out
      have c5I : (bs : Int) ≤ (r : Int) := by omega
      go_wp2
      have p0 := HI6.out.ptr.cell 0
      have p3 := HI6.out.row.cell 3
      have p4 := HI6.out.row.cell 4
      simp only [List.getElem?_toArray, List.getElem?_cons_zero, List.getElem?_cons_succ] at p0 p3 p4
      have HB6d := Lib.hid (show Below w3.heap.size w3 w6.drew from drewN_below HB6.out 1)
      have hk1 : w6.drew.cell? ⟨g + 2, 0, none⟩ = some (.pointer (some ⟨g + 1, 0, none⟩)) ∧ w6.drew.cell? ⟨g + 1, 3, none⟩ = some (.int .u64 (cr : Int)) ∧ w6.drew.cell? ⟨g + 1, 4, none⟩ = some (.int .u64 (cb : Int)) := ⟨p0, p3, p4⟩
      have hgs : g + 2 < w6.drew.heap.size := HI6.out.ptr.lt
      clear p0 p3 p4
      refine wp_region_held_drew (S := fun w' => w'.cell? ⟨g + 2, 0, none⟩ = some (.pointer (some ⟨g + 1, 0, none⟩))) (by kernel_rfl) hk1.1 (fun hHeld => ?_)
      refine wpAnyH_take (i := 0) (v := ?_) rfl (by kernel_rfl) (by kernel_rfl) (by kernel_rfl) (fun _ _ _ h => h) (Or.inl ⟨by rfl, ?_⟩) hHeld ?_
      rotate_left
      · intro w' hS'
        (try dsimp only at hS')
        go_simp
        try with_reducible rfl
      try simp only [List.getElem_toArray, List.getElem_cons_succ, List.getElem_cons_zero, Act.put, List.setIfInBounds_toArray, List.set_cons_zero, List.set_cons_succ]
      refine wpAnyH_take (i := 1) (v := ?_) rfl (by kernel_rfl) (by kernel_rfl) (by kernel_rfl) (fun _ _ _ h => h) (Or.inl ⟨by rfl, ?_⟩) hHeld ?_
      rotate_left
      · intro w' hS'
        (try dsimp only at hS')
        go_simp
        try with_reducible rfl
      try simp only [List.getElem_toArray, List.getElem_cons_succ, List.getElem_cons_zero, Act.put, List.setIfInBounds_toArray, List.set_cons_zero, List.set_cons_succ]
      refine wpAnyH_take (i := 2) (v := ?_) rfl (by kernel_rfl) (by kernel_rfl) (by kernel_rfl) (fun _ _ _ h => h) (Or.inl ⟨by rfl, ?_⟩) hHeld ?_
      rotate_left
      · intro w' hS'
        (try dsimp only at hS')
        go_simp
        try with_reducible rfl
      try simp only [List.getElem_toArray, List.getElem_cons_succ, List.getElem_cons_zero, Act.put, List.setIfInBounds_toArray, List.set_cons_zero, List.set_cons_succ]
      refine wpAnyH_take (i := 3) (v := ?_) rfl (by kernel_rfl) (by kernel_rfl) (by kernel_rfl) (fun _ _ _ h => h) (Or.inl ⟨by rfl, ?_⟩) hHeld ?_
      rotate_left
      · intro w' hS'
        (try dsimp only at hS')
        go_simp
        try with_reducible rfl
      try simp only [List.getElem_toArray, List.getElem_cons_succ, List.getElem_cons_zero, Act.put, List.setIfInBounds_toArray, List.set_cons_zero, List.set_cons_succ]
      refine wpAnyH_take (i := 4) (v := ?_) rfl (by kernel_rfl) (by kernel_rfl) (by kernel_rfl) (fun _ _ _ h => h) (Or.inl ⟨by rfl, ?_⟩) hHeld ?_
      rotate_left
      · intro w' hS'
        (try dsimp only at hS')
        go_simp
        try with_reducible rfl
      try simp only [List.getElem_toArray, List.getElem_cons_succ, List.getElem_cons_zero, Act.put, List.setIfInBounds_toArray, List.set_cons_zero, List.set_cons_succ]
      refine wpAnyH_ready (rs := [5]) (by kernel_rfl) (by simp) (AllReadyH.cons rfl (fun K hK => ?_) AllReadyH.nil)
      go_simp
      go_wp2_with (go_at_call 52; refine (HV3.out w6.drew HB6d.out _).mono ?_; rintro e w7 ⟨rfl, hb7⟩; have HB7 := Lib.hid hb7; have hk7 : w7.cell? ⟨g + 2, 0, none⟩ = some (.pointer (some ⟨g + 1, 0, none⟩)) := cell_later hb7 (by omega) hk1.1; have HI7 : Hid (HInv w w7 g b from_ n cr cb (.slice none 0 0) 0) := HI6.out.later (below_trans (drewN_below (Below.refl _ w6) 1) hb7); clear hb7)
      refine hK.out _ _ hk7 (fun hHeld => ?_)
      try simp only [List.getElem_toArray, List.getElem_cons_succ, List.getElem_cons_zero, Act.put, List.setIfInBounds_toArray, List.set_cons_zero, List.set_cons_succ]
      clear hK K
      refine wpAnyH_take (i := 6) (v := ?_) rfl (by kernel_rfl) (by kernel_rfl) (by kernel_rfl) (fun _ _ _ h => h) (Or.inl ⟨by rfl, ?_⟩) hHeld ?_
      rotate_left
      · intro w' hS'
        (try dsimp only at hS')
        go_simp
        try with_reducible rfl
      try simp only [List.getElem_toArray, List.getElem_cons_succ, List.getElem_cons_zero, Act.put, List.setIfInBounds_toArray, List.set_cons_zero, List.set_cons_succ]
      refine wpAnyH_take (i := 7) (v := ?_) rfl (by kernel_rfl) (by kernel_rfl) (by kernel_rfl) (fun _ _ _ h => h) (Or.inl ⟨by rfl, ?_⟩) hHeld ?_
      rotate_left
      · intro w' hS'
        (try dsimp only at hS')
        go_simp
        try with_reducible rfl
      try simp only [List.getElem_toArray, List.getElem_cons_succ, List.getElem_cons_zero, Act.put, List.setIfInBounds_toArray, List.set_cons_zero, List.set_cons_succ]
      have q3 := HI7.out.row.cell 3
      have z3 := HI7.out.row.frozen 3
      have q4 := HI7.out.row.cell 4
      have hP7 := HI7.out.put r bs
      simp only [List.getElem?_toArray, List.getElem?_cons_zero, List.getElem?_cons_succ] at q3 q4
      have q4' : (w7.setCell ⟨g + 1, 3, none⟩ (.int .u64 (r : Int))).cell? ⟨g + 1, 4, none⟩ = some (.int .u64 (cb : Int)) := (HI7.out.row.set 3 (.int .u64 (r : Int))).cell 4
      have z4' : (w7.setCell ⟨g + 1, 3, none⟩ (.int .u64 (r : Int))).frozen? ⟨g + 1, 4, none⟩ = false := (HI7.out.row.set 3 (.int .u64 (r : Int))).frozen 4
      have hk8 : (w7.setCell ⟨g + 1, 3, none⟩ (.int .u64 (r : Int))).cell? ⟨g + 2, 0, none⟩ = some (.pointer (some ⟨g + 1, 0, none⟩)) := (HI7.out.ptr.other (a := ⟨g + 1, 3, none⟩) (.int .u64 (r : Int)) (by simp)).cell 0
      have hk9 := (hP7.ptr).cell 0
      simp only [List.getElem?_toArray, List.getElem?_cons_zero, List.getElem?_cons_succ] at hk9
      refine wpAnyH_ready (rs := [8]) (by kernel_rfl) (by simp) (AllReadyH.cons rfl (fun K hK => ?_) AllReadyH.nil)
      go_simp
      refine hK.out _ _ hk8 (fun hHeld => ?_)
      try simp only [List.getElem_toArray, List.getElem_cons_succ, List.getElem_cons_zero, Act.put, List.setIfInBounds_toArray, List.set_cons_zero, List.set_cons_succ]
      clear hK K
      refine wpAnyH_take (i := 9) (v := ?_) rfl (by kernel_rfl) (by kernel_rfl) (by kernel_rfl) (fun _ _ _ h => h) (Or.inl ⟨by rfl, ?_⟩) hHeld ?_
      rotate_left
      · intro w' hS'
        (try dsimp only at hS')
        go_simp
        try with_reducible rfl
      try simp only [List.getElem_toArray, List.getElem_cons_succ, List.getElem_cons_zero, Act.put, List.setIfInBounds_toArray, List.set_cons_zero, List.set_cons_succ]
      refine wpAnyH_take (i := 10) (v := ?_) rfl (by kernel_rfl) (by kernel_rfl) (by kernel_rfl) (fun _ _ _ h => h) (Or.inl ⟨by rfl, ?_⟩) hHeld ?_
      rotate_left
      · intro w' hS'
        (try dsimp only at hS')
        go_simp
        try with_reducible rfl
      try simp only [List.getElem_toArray, List.getElem_cons_succ, List.getElem_cons_zero, Act.put, List.setIfInBounds_toArray, List.set_cons_zero, List.set_cons_succ]
      refine wpAnyH_ready (rs := [11]) (by kernel_rfl) (by simp) (AllReadyH.cons rfl (fun K hK => ?_) AllReadyH.nil)
      go_simp
      refine hK.out _ _ hk9 (fun hHeld => ?_)
      try simp only [List.getElem_toArray, List.getElem_cons_succ, List.getElem_cons_zero, Act.put, List.setIfInBounds_toArray, List.set_cons_zero, List.set_cons_succ]
      clear hK K
      refine wpAnyH_done (by kernel_rfl) ?_ _
      go_wp2
      refine ⟨⟨k + 1, by omega, by go_num, ?_⟩, by simp [intOf]; omega⟩
      rw [HST.out, HSTEP.out, if_pos (by simp only [Bool.and_eq_true, decide_eq_true_eq, beq_iff_eq]; exact ⟨c1, c2, c3, trivial, c5⟩)]
      exact hP7
    · have hk2' : k = 2 := by omega
      subst hk2'
      obtain ⟨⟨run, base⟩, hrb⟩ : ∃ x, headsP L from_ 2 = x := ⟨_, rfl⟩
      have HLT := Lib.hid (headsP_lt HLL.out from_ 2)
      rw [hrb] at hinv HINV HLT
      dsimp only at hinv HINV HLT
      have HRB := Lib.hid hrb
      have hbw : Below w.heap.size w wr := by rw [hg]; exact hinv.bel
      have HDr := Lib.hid (HD.out.later hbw)
      have HBw := Lib.hid hbw
      have p0 := hinv.ptr.cell 0
      have p3 := hinv.row.cell 3
      have n0 := hinv.box.cell 0
      simp only [List.getElem?_toArray, List.getElem?_cons_zero, List.getElem?_cons_succ] at p0 p3 n0
      clear hinv hrb hbw
      by_cases hr0 : run = 0
      · have HLP := Lib.hid (lookP_zero (n := n) HRB.out hr0)
        subst hr0
        go_wp2
        rw [Exit.noGoto_ret]
        go_ret2
        rw [HLP.out]
        exact ⟨HBw.out, rfl⟩
      have hr0I : ¬ (run : Int) = 0 := by omega
      have hfw : IntKind.i64.wrap (from_ + 2) = from_ + 2 := IntWalk.i64_in _ (by omega)
      have hnw : IntKind.i64.wrap ((n : Int) - 2) = ((n - 2 : Nat) : Int) := by rw [IntWalk.i64_in _ (by omega)]; omega
      obtain ⟨BY, hBY⟩ : ∃ x, bodyP L from_ n = x := ⟨_, rfl⟩
      have hBl : BY.length = (n - 2) * 512 := by rw [← hBY]; exact bodyP_len HLL.out _ _
      have HR1 : Hid (Calls Try.prog 51 #[.pointer (some ⟨b, 0, none⟩), .int .i64 (from_ + 2), .int .i64 ((n - 2 : Nat) : Int)] wr fun e w' => (∃ v, e = .returned (.tuple #[v, .int .i64 0]) ∧ OwnB w' wr.heap.size 5 v BY) ∧ Below wr.heap.size wr w') := by
        have h := HRD.out wr (from_ + 2) (n - 2) HDr.out (by omega) (by omega)
        rw [show flatS L (from_ + 2) (n - 2) = BY from hBY] at h
        exact h
      have HBYP := Lib.hid hBY
      have HBL := Lib.hid hBl
      clear hBY
      go_wp2_with fail
      refine HR1.out.mono ?_
      rintro _ w3 ⟨⟨v, rfl, hv⟩, hb3⟩
      obtain ⟨a, cp, hv2, hcp, hrd⟩ := OwnB.rd hv
      rw [hBl] at hv2 hcp
      obtain ⟨sb, so, rfl, -, -⟩ := hrd.at (by omega)
      subst hv2
      have hsb := (World.ownsRow.lt hv sb rfl).1
      have hptr := HINV.out.ptr.lt
      have HI3 := Lib.hid (HINV.out.later hb3)
      have HRD3 := Lib.hid hrd
      clear hv hb3 hrd p0 p3 n0 HINV HR1 HBw HDr
      obtain ⟨m, hm⟩ : ∃ x, (n - 2) * 512 = x := ⟨_, rfl⟩
      have HM := Lib.hid hm
      rw [hm] at hcp hBl ⊢
      clear hm HBL
      obtain ⟨x, hx⟩ : ∃ x, w3.heap.size = x := ⟨_, rfl⟩
      obtain ⟨W4, hW4⟩ : ∃ y, w3.alloc (.cells #[.slice (some ⟨sb, so, none⟩) m cp] 41) = y := ⟨_, rfl⟩
      have hb4 : Below w3.heap.size w3 W4 := by rw [← hW4]; exact below_alloc _
      have hxl : g + 2 < x := by rw [← hx]; exact HI3.out.ptr.lt
      have HX4 : Hid (RowAt W4 x 41 #[.slice (some ⟨sb, so, none⟩) m cp]) := by rw [← hW4, ← hx]; exact RowAt.new _ _ _
      have HI4 := Lib.hid (HI3.out.later hb4)
      have HRD4 := Lib.hid (HRD3.out.mono hb4)
      clear hb4
      go_wp2
      clear hW4 hx HI3 HRD3
      go_loopw [17] (fun i wr => ∃ (k o : Nat), k ≤ n - 2 ∧ o = k * 512 ∧ i = .int .i64 (o : Int) ∧ Below W4.heap.size W4 wr ∧ stale BY run k = false) (fun i _ => m - (intOf i).toNat)
      case atStart => exact ⟨0, 0, by omega, by omega, rfl, Below.refl _ _, rfl⟩
      case round =>
        obtain ⟨k, o, hk, ho, rfl, hbr, hst⟩ := hrel
        have HBR := Lib.hid hbr
        have HST := Lib.hid hst
        have HI5 := Lib.hid (HI4.out.later hbr)
        have HX5 := Lib.hid (RowAt.below HX4.out hbr)
        have x0 := HX5.out.cell 0
        have p0 := HI5.out.ptr.cell 0
        have p3 := HI5.out.row.cell 3
        simp only [List.getElem?_toArray, List.getElem?_cons_zero, List.getElem?_cons_succ] at x0 p0 p3
        have HO := Lib.hid ho
        have HMM := HM.out
        clear hst
        by_cases hkn : k < n - 2
        · have hom : o + 512 ≤ m := by omega
          have homI : (o : Int) < (m : Int) := by omega
          have ho5 : IntKind.i64.wrap ((o : Int) + 512) = ((o + 512 : Nat) : Int) := by rw [IntWalk.i64_in _ (by omega)]; omega
          have ho8 : IntKind.i64.wrap ((o : Int) + 8) = ((o + 8 : Nat) : Int) := by rw [IntWalk.i64_in _ (by omega)]; omega
          have hoc : o + 8 ≤ cp := by omega
          obtain ⟨s, hs⟩ : ∃ s, sec BY k = s := ⟨_, rfl⟩
          have hsl : s.length = 512 := by rw [← hs]; exact sec_len (by omega)
          have hrs : RdB W4 (some ⟨sb, so + o, none⟩) (s.take 8) := by
            have := HRD4.out.sub o 8
            rw [show s.take 8 = (BY.drop o).take 8 from by rw [← hs, sec, ← ho, List.take_take]; rfl]
            exact this
          obtain ⟨r, hr⟩ : ∃ r, leB (s.take 8) = r := ⟨_, rfl⟩
          have HV := Lib.hid (fun (w' : World) (hb : Below W4.heap.size W4 w') (c : Nat) => value_any w' (some ⟨sb, so + o, none⟩) (s.take 8) 8 c (by rw [List.length_take]; omega) (by omega) (hrs.mono hb))
          rw [hr] at HV
          have hrl : r < 18446744073709551616 := by rw [← hr]; exact leB8_lt (by rw [List.length_take]; omega)
          have hstep : stale BY run (k + 1) = (stale BY run k || decide (run < r)) := by rw [← hr, ← hs]; rfl
          have HSTEP := Lib.hid hstep
          have HK : Hid (∀ w', Below W4.heap.size W4 w' → w'.cell? ⟨x, 0, none⟩ = some (.slice (some ⟨sb, so, none⟩) m cp) ∧ w'.cell? ⟨g + 2, 0, none⟩ = some (.pointer (some ⟨g + 1, 0, none⟩)) ∧ w'.cell? ⟨g + 1, 3, none⟩ = some (.int .u64 (run : Int))) := fun w' hb =>
            ⟨(RowAt.below HX4.out hb).cell 0, (HI4.out.later hb).ptr.cell 0, (HI4.out.later hb).row.cell 3⟩
          clear hs hsl hrs hr hstep ho HMM
          have hbd : Below W4.heap.size W4 wr.drew := drewN_below hbr 1
          have HBD := Lib.hid hbd
          have hk1 := HK.out _ hbd
          clear hbr hbd
          go_wp2
          go_region_held (fun w' => w'.cell? ⟨x, 0, none⟩ = some (.slice (some ⟨sb, so, none⟩) m cp) ∧ w'.cell? ⟨g + 2, 0, none⟩ = some (.pointer (some ⟨g + 1, 0, none⟩)) ∧ w'.cell? ⟨g + 1, 3, none⟩ = some (.int .u64 (run : Int))) (first | assumption) (first
            | (go_simp; go_at_call 52; refine (HV.out wr.drew HBD.out _).mono ?_; rintro e w5 ⟨rfl, hb5⟩; have HB5 := Lib.hid (HBD.out.trans (hb5.mono HBD.out.size)); have hk5 := HK.out _ HB5.out; clear hb5))
          by_cases c1 : run < r
          · have c1I : (run : Int) < (r : Int) := by omega
            have HLP := Lib.hid (lookP_stale (n := n) HRB.out HBYP.out (stale_mono (m := k + 1) (by rw [HSTEP.out]; simp [c1]) (by omega)))
            go_wp2
            rw [Exit.noGoto_ret]
            go_ret2
            rw [HLP.out]
            exact ⟨HI4.out.bel.trans (HB5.out.mono (Nat.le_of_lt HI4.out.box.lt)) |> fun h => by rw [hg]; exact h, rfl⟩
          · have c1I : ¬ (run : Int) < (r : Int) := by omega
            go_wp2
            refine ⟨⟨k + 1, o + 512, by omega, by have := HO.out; omega, rfl, HB5.out, ?_⟩, by simp [intOf]; omega⟩
            rw [HSTEP.out, HST.out]
            simp [c1]
        · have hkn2 : k = n - 2 := by omega
          subst hkn2
          have homI : ¬ (o : Int) < (m : Int) := by omega
          have HRD5 := Lib.hid (HRD4.out.mono hbr)
          have HST5 := HST
          obtain ⟨P, hP⟩ : ∃ P, parse BY n base run (n + 1) 0 base [] = P := ⟨_, rfl⟩
          have HLP := Lib.hid (lookP_good HRB.out HBYP.out hr0 HST.out)
          rw [hP] at HLP
          have hg1 : g + 1 < wr.heap.size := HI5.out.row.lt
          have HSEC := Lib.hid (fun (w' : World) (hk : KeepA (fun y => y = g + 1) wr w') (allv : Value) (used : Nat) (hrow : LgRow w' (g + 1) b from_ n run base allv used false) (i : Nat) (hi : i ≤ 100000) =>
            sector_any w' g x (g + 2) (g + 1) n i sb so cp BY run base (hk.cell (HI5.out.box.cell 0) (by show ¬ g = g + 1; omega)) (by rw [HM.out]; exact hk.cell (HX5.out.cell 0) (by show ¬ x = g + 1; omega)) (hk.cell (HI5.out.ptr.cell 0) (by show ¬ g + 2 = g + 1; omega))
              (hrow.cell 3) (hrow.cell 4) (by omega) (by omega) hi (by rw [HM.out]; exact hBl) (by rw [HM.out]; exact hcp) (Rd.keepA HRD5.out hk (fun bb off he _ e => by cases he; omega)))
          have HEND : Hid (∀ (w' : World) (allv : Value) (used : Nat) (bs : List (List UInt8)), LInv wr w' g b from_ n run base allv used bs → (used, bs) = P → LookPost w b from_ n (lookP L from_ n) (.returned (.tuple #[.pointer (some ⟨g + 1, 0, none⟩), .int .i64 0])) w') := fun w' allv used bs h hp => by
            rw [HLP.out, ← hp]
            refine ⟨?_, g + 1, allv, rfl, by rw [hg]; omega, h.row, h.bats.down (by have := HI5.out.ptr.lt; omega)⟩
            rw [hg]
            exact HI5.out.bel.trans (h.keep.below (by omega) (fun k e => by omega))
          have HLI : Hid (LInv wr wr g b from_ n run base (.slice none 0 0) 0 []) := ⟨KeepA.refl _ _, HI5.out.row, Bats.nil _ _⟩
          have HPT : Hid (∀ w', KeepA (fun y => y = g + 1) wr w' → w'.cell? ⟨g + 2, 0, none⟩ = some (.pointer (some ⟨g + 1, 0, none⟩))) := fun w' hk => hk.cell (HI5.out.ptr.cell 0) (by show ¬ g + 2 = g + 1; omega)
          have HP := Lib.hid hP
          have p4 := HI5.out.row.cell 4
          have hbase64 := HLT.out.2
          simp only [List.getElem?_toArray, List.getElem?_cons_zero, List.getElem?_cons_succ] at p4
          clear HX4 HI4 HRD4 hbr hP HST HMM
          rename World => W5
          go_wp2
          go_step3
          go_wp2
          go_loopw [19] (fun i w' => ∃ (used least : Nat) (bs : List (List UInt8)) (allv : Value) (f : Nat), used ≤ n - 2 ∧ i = .int .u64 (least : Int) ∧ least < 18446744073709551616 ∧ n < used + f ∧ parse BY n base run f used least bs = P ∧ LInv W5 w' g b from_ n run base allv used bs ∧ bs.length ≤ used) (fun _ w' => n - (intOf ((w'.cell? ⟨g + 1, 6, none⟩).getD undef)).toNat)
          case atStart => exact ⟨0, base, [], _, n + 1, by omega, rfl, hbase64, by omega, HP.out, HLI.out, by simp⟩
          case round =>
            clear HLI
            obtain ⟨used, least, bs, allv, f, hu, rfl, hl64, hf, hparse, hli, hbs⟩ := hrel
            have HL := Lib.hid hli
            have p0 := HPT.out _ hli.keep
            have p6 := hli.row.cell 6
            simp only [List.getElem?_toArray, List.getElem?_cons_zero, List.getElem?_cons_succ] at p6
            have HSU := Lib.hid (HSEC.out wr hli.keep allv used hli.row used (by omega))
            have HPA := Lib.hid hparse
            obtain ⟨f, rfl⟩ : ∃ f', f = f' + 1 := ⟨f - 1, by omega⟩
            clear hli hparse
            go_wp2_with fail
            refine HSU.out.mono ?_
            rintro _ w6 ⟨⟨a, m6, c6, r, ok, rfl, hr64, hok, hdat⟩, hb6⟩
            have HL6 := Lib.hid (HL.out.later hb6)
            have HB6 := Lib.hid hb6
            have HOK := Lib.hid hok
            have HDAT := Lib.hid hdat
            have p0 := HPT.out _ HL6.out.keep
            clear hb6 hok hdat
            cases ok with
            | false =>
              go_wp2
              rw [Exit.noGoto_ret]
              go_ret2
              exact HEND.out _ _ _ _ HL6.out (by rw [← HPA.out, parse_stop (.inl HOK.out.symm)])
            | true =>
              obtain ⟨hr, hm6, hrd, hc6⟩ := HDAT.out rfl
              subst hm6
              have HRR := Lib.hid hr
              by_cases c1 : r < least
              · have c1I : (r : Int) < (least : Int) := by omega
                clear hr hrd
                go_wp2
                rw [Exit.noGoto_ret]
                go_ret2
                exact HEND.out _ _ _ _ HL6.out (by rw [← HPA.out, parse_stop (.inr (by rw [← HRR.out]; exact c1))])
              · have c1I : ¬ (r : Int) < (least : Int) := by omega
                have hdl : (dataOf BY used).length = 488 := by
                  have := HOK.out.symm
                  simp only [Bool.and_eq_true, decide_eq_true_eq] at this
                  have hmm := HM.out
                  unfold dataOf
                  rw [List.length_take, List.length_drop, sec_len (by omega)]
                  rfl
                obtain ⟨ab, ao, rfl, -, -⟩ := hrd.at (by omega)
                have HV := Lib.hid (fun (w' : World) (hb : Below w6.heap.size w6 w') (c : Nat) => value_any w' (some ⟨ab, ao, none⟩) ((dataOf BY used).take 4) 4 c (by rw [List.length_take]; omega) (by omega) (by have := (hrd.mono hb).sub 0 4; simpa using this))
                obtain ⟨y, hy⟩ : ∃ y, leB ((dataOf BY used).take 4) = y := ⟨_, rfl⟩
                have hy32 : y < 4294967296 := by
                  rw [← hy]
                  exact Nat.lt_of_lt_of_le (leB_lt _) (Nat.le_trans (Nat.pow_le_pow_right (by omega) (show ((dataOf BY used).take 4).length ≤ 4 by rw [List.length_take]; omega)) (by decide))
                obtain ⟨lg, hlg⟩ : ∃ z, y + 4 = z := ⟨_, rfl⟩
                have hlong : longOf BY used = lg := by unfold longOf; rw [hy, hlg]
                have HLONG := Lib.hid hlong
                rw [hy] at HV
                have hyw : IntKind.i64.wrap (y : Int) = (y : Int) := IntWalk.i64_in _ (by omega)
                have hyw4 : IntKind.i64.wrap ((y : Int) + 4) = (lg : Int) := by rw [IntWalk.i64_in _ (by omega)]; omega
                have hc64 : (4 : Int) ≤ (c6 : Int) := by omega
                clear hr hrd hy hdl hlong
                go_wp2_with fail
                refine (HV.out w6 (Below.refl _ _) _).mono ?_
                rintro _ W7 ⟨rfl, hb7⟩
                have HL7 := Lib.hid (HL6.out.later hb7)
                have HB7 := Lib.hid (below_trans HB6.out hb7)
                have p0 := HPT.out _ HL7.out.keep
                have p6 := HL7.out.row.cell 6
                simp only [List.getElem?_toArray, List.getElem?_cons_zero, List.getElem?_cons_succ] at p6
                clear hb7
                go_wp2
                obtain ⟨C, hC⟩ : ∃ C, coll BY n base run r lg (n - used) used [] = C := ⟨_, rfl⟩
                have HC0 := Lib.hid hC
                clear hC
                go_loopw [24, 25] (fun v i w' => ∃ (j : Nat) (acc : List UInt8), used ≤ j ∧ j ≤ n - 2 ∧ i = .int .i64 (j : Int) ∧ OwnB w' W7.heap.size 5 v acc ∧ Below W7.heap.size W7 w' ∧ acc.length = (j - used) * 488 ∧ coll BY n base run r lg (n - j) j acc = C) (fun _ i _ => n - (intOf i).toNat)
                case atStart => exact ⟨used, [], by omega, hu, rfl, OwnB.nil _ _ _, Below.refl _ _, by simp, HC0.out⟩
                case round =>
                  obtain ⟨j, acc, huj, hjn, rfl, hown, hbr, hacc, hcoll⟩ := hrel
                  have HOWN := Lib.hid hown
                  have HBR := Lib.hid hbr
                  have HCO := Lib.hid hcoll
                  have HACC := Lib.hid hacc
                  obtain ⟨av, cv, rfl, hcv, hrv⟩ := hown.rd
                  obtain ⟨la, hla⟩ : ∃ z, acc.length = z := ⟨_, rfl⟩
                  have HLA := Lib.hid hla
                  rw [hla] at hcv hacc HOWN ⊢
                  have HL8 := Lib.hid (HL7.out.later hbr)
                  have p0 := HPT.out _ HL8.out.keep
                  clear hown hbr hcoll hla
                  by_cases hlg2 : la < lg
                  · have hlgI : (la : Int) < (lg : Int) := by omega
                    have HSJ := Lib.hid (HSEC.out wr HL8.out.keep allv used HL8.out.row j (by omega))
                    clear hrv
                    go_wp2_with fail
                    refine HSJ.out.mono ?_
                    rintro _ w9 ⟨⟨a9, m9, c9, r9, ok9, rfl, hr964, hok9, hdat9⟩, hb9⟩
                    have HL9 := Lib.hid (HL8.out.later hb9)
                    have HB9 := Lib.hid hb9
                    have HOK9 := Lib.hid hok9
                    have HDAT9 := Lib.hid hdat9
                    have p0 := HPT.out _ HL9.out.keep
                    clear hb9 hok9 hdat9
                    cases ok9 with
                    | false =>
                      have HCN : Hid (C = none) := by rw [← HCO.out]; exact coll_no (by rw [HLA.out]; omega) (.inl HOK9.out.symm)
                      go_wp2
                      rw [Exit.noGoto_ret]
                      go_ret2
                      exact HEND.out _ _ _ _ HL9.out (by rw [← HPA.out, parse_cut (by rw [← HRR.out, HLONG.out, HC0.out, HCN.out])])
                    | true =>
                      obtain ⟨hr9, hm9, hrd9, hc9⟩ := HDAT9.out rfl
                      subst hm9
                      by_cases c2 : r9 = r
                      rotate_left
                      · have c2I : ¬ (r9 : Int) = (r : Int) := by omega
                        have HCN : Hid (C = none) := by rw [← HCO.out]; exact coll_no (by rw [HLA.out]; omega) (.inr (by rw [← hr9]; exact c2))
                        clear hr9 hrd9
                        go_wp2
                        rw [Exit.noGoto_ret]
                        go_ret2
                        exact HEND.out _ _ _ _ HL9.out (by rw [← HPA.out, parse_cut (by rw [← HRR.out, HLONG.out, HC0.out, HCN.out])])
                      subst c2
                      have hok9 := HOK9.out.symm
                      simp only [Bool.and_eq_true, decide_eq_true_eq] at hok9
                      have hjn2 := hok9.1
                      have hmm := HM.out
                      have hdl9 : (dataOf BY j).length = 488 := by
                        unfold dataOf
                        rw [List.length_take, List.length_drop, sec_len (by omega)]
                        rfl
                      have HRD9 := Lib.hid hrd9
                      have HR9 := Lib.hid hr9
                      have HDL9 := Lib.hid hdl9
                      have hfn : n - j = (n - (j + 1)) + 1 := by omega
                      have HCO2 : Hid (coll BY n base run r9 lg (n - (j + 1)) (j + 1) (acc ++ dataOf BY j) = C) := by
                        have h := HCO.out
                        rw [hfn, coll_yes (by rw [HLA.out]; omega) HOK9.out.symm HR9.out.symm] at h
                        exact h
                      have HO9 : Hid (OwnB w9 W7.heap.size 5 (.slice av la cv) acc) := HOWN.out.kept HB9.out (Nat.le_refl _)
                      have HB79 := Lib.hid (HBR.out.trans (HB9.out.mono HBR.out.size))
                      have hla2 : la ≤ 32000000 := by rw [hacc]; omega
                      clear hok9 hr9 hrd9 hdl9 hfn hacc hmm
                      go_wp2_with (at_builtin; refine step_appendB rfl (.tmp 181) (.tmp 182) rfl eltB W7.heap.size _ acc rfl _ _ _ (dataOf BY j) rfl HO9.out HDL9.out.symm HRD9.out (by rw [HLA.out, HDL9.out]; omega) HB79.out.size ?_; intro v10 w10 h1 h2; have HO10 := Lib.hid h1; have HB10 := Lib.hid (HB79.out.trans h2); clear h1 h2)
                      refine ⟨⟨j + 1, acc ++ dataOf BY j, by omega, by omega, by go_num, HO10.out, HB10.out, ?_, HCO2.out⟩, by simp [intOf]; omega⟩
                      rw [List.length_append, HACC.out, HDL9.out]
                      omega
                  · have hlgI : ¬ (la : Int) < (lg : Int) := by omega
                    have HCS : Hid (C = some (acc, j)) := by rw [← HCO.out]; exact coll_end (by rw [HLA.out]; omega)
                    have huj2 : used < j := by omega
                    obtain ⟨ob, oo, rfl, -, -⟩ := hrv.at (by rw [HLA.out]; omega)
                    have hob := World.ownsRow.lt HOWN.out ob rfl
                    have hlg4 : (4 : Int) ≤ (lg : Int) := by omega
                    have hlgc : (lg : Int) ≤ (cv : Int) := by omega
                    have hcv4 : ¬ cv = 4 := by omega
                    have hlgc2 : lg ≤ cv := by omega
                    have hlg42 : 4 ≤ lg := by omega
                    have HRV := Lib.hid hrv
                    have HB8d := Lib.hid (show Below wr.heap.size wr wr.drew from drewN_below (Below.refl _ wr) 1)
                    have HL8d := Lib.hid (HL8.out.later HB8d.out)
                    have q0 := HPT.out _ HL8d.out.keep
                    have q5 := HL8d.out.row.cell 5
                    simp only [List.getElem?_toArray, List.getElem?_cons_zero, List.getElem?_cons_succ] at q5
                    have hWs : W5.heap.size ≤ W7.heap.size := HL7.out.keep.size
                    have hg2 : g + 2 < W5.heap.size := HI5.out.ptr.lt
                    clear hrv hacc p6
                    obtain ⟨W9, hW9⟩ : ∃ y, (wr.alloc (.cells #[.slice (some ⟨ob, oo + 4, none⟩) (lg - 4) (cv - 4)] 41)).drew = y := ⟨_, rfl⟩
                    have hb9 : Below wr.heap.size wr W9 := by rw [← hW9]; exact drewN_below (below_alloc _) 1
                    have HR9 : Hid (RowAt W9 wr.heap.size 41 #[.slice (some ⟨ob, oo + 4, none⟩) (lg - 4) (cv - 4)]) := by rw [← hW9]; exact RowAt.new wr _ _
                    have HB9 := Lib.hid hb9
                    obtain ⟨l4, hl4⟩ : ∃ z, (acc.take lg).drop 4 = z := ⟨_, rfl⟩
                    have hl4l : l4.length = lg - 4 := by rw [← hl4, List.length_drop, List.length_take, HLA.out]; omega
                    have HRL : Hid (RdB W9 (some ⟨ob, oo + 4, none⟩) l4) := by
                      have h := (HRV.out.mono hb9).sub 4 (lg - 4)
                      rw [← hl4, List.drop_take]
                      exact h
                    have HL4 := Lib.hid hl4
                    have HL4L := Lib.hid hl4l
                    have q9 := HPT.out _ (HL8.out.later hb9).keep
                    have HHA : Hid (∀ ad, (some (⟨ob, oo + 4, none⟩ : Addr)) = some ad → W5.heap.size ≤ ad.block ∧ ad.block < W9.heap.size ∧ allv.ownBlock ≠ some ad.block) := fun ad he => by
                      cases he
                      refine ⟨by show _ ≤ ob; omega, by have := hb9.size; show ob < _; omega, fun e => ?_⟩
                      have h1 : ob < W7.heap.size := (HL7.out.bats.lt _ e).2
                      omega
                    have hW9s : W5.heap.size ≤ W9.heap.size := (HL8.out.later hb9).keep.size
                    clear hb9 hl4 hl4l
                    go_wp2
                    refine wp_region_held_drew (S := fun w' => w'.cell? ⟨g + 2, 0, none⟩ = some (.pointer (some ⟨g + 1, 0, none⟩))) (by kernel_rfl) q0 (fun hHeld => ?_)
                    refine wpAnyH_take (i := 0) (v := ?_) rfl (by kernel_rfl) (by kernel_rfl) (by kernel_rfl) (fun _ _ _ h => h) (Or.inl ⟨by rfl, ?_⟩) hHeld ?_
                    rotate_left
                    · intro w' hS'
                      (try dsimp only at hS')
                      go_simp
                      try with_reducible rfl
                    try simp only [List.getElem_toArray, List.getElem_cons_succ, List.getElem_cons_zero, Act.put, List.setIfInBounds_toArray, List.set_cons_zero, List.set_cons_succ]
                    refine wpAnyH_take (i := 1) (v := ?_) rfl (by kernel_rfl) (by kernel_rfl) (by kernel_rfl) (fun _ _ _ h => h) (Or.inl ⟨by rfl, ?_⟩) hHeld ?_
                    rotate_left
                    · intro w' hS'
                      (try dsimp only at hS')
                      go_simp
                      try with_reducible rfl
                    try simp only [List.getElem_toArray, List.getElem_cons_succ, List.getElem_cons_zero, Act.put, List.setIfInBounds_toArray, List.set_cons_zero, List.set_cons_succ]
                    refine wpAnyH_take (i := 2) (v := ?_) rfl (by kernel_rfl) (by kernel_rfl) (by kernel_rfl) (fun _ _ _ h => h) (Or.inl ⟨by rfl, ?_⟩) hHeld ?_
                    rotate_left
                    · intro w' hS'
                      (try dsimp only at hS')
                      go_simp
                      try with_reducible rfl
                    try simp only [List.getElem_toArray, List.getElem_cons_succ, List.getElem_cons_zero, Act.put, List.setIfInBounds_toArray, List.set_cons_zero, List.set_cons_succ]
                    refine wpAnyH_take (i := 3) (v := ?_) rfl (by kernel_rfl) (by kernel_rfl) (by kernel_rfl) (fun _ _ _ h => h) (Or.inl ⟨by rfl, ?_⟩) hHeld ?_
                    rotate_left
                    · intro w' hS'
                      (try dsimp only at hS')
                      go_simp
                      try with_reducible rfl
                    try simp only [List.getElem_toArray, List.getElem_cons_succ, List.getElem_cons_zero, Act.put, List.setIfInBounds_toArray, List.set_cons_zero, List.set_cons_succ]
                    refine wpAnyH_take (i := 5) (v := ?_) rfl (by kernel_rfl) (by kernel_rfl) (by kernel_rfl) (fun _ _ _ h => h) (Or.inl ⟨by rfl, ?_⟩) hHeld ?_
                    rotate_left
                    · intro w' hS'
                      (try dsimp only at hS')
                      go_simp
                      try with_reducible rfl
                    try simp only [List.getElem_toArray, List.getElem_cons_succ, List.getElem_cons_zero, Act.put, List.setIfInBounds_toArray, List.set_cons_zero, List.set_cons_succ]
                    refine wpAnyH_take (i := 6) (v := ?_) rfl (by kernel_rfl) (by kernel_rfl) (by kernel_rfl) (fun _ _ _ h => h) (Or.inl ⟨by rfl, ?_⟩) hHeld ?_
                    rotate_left
                    · intro w' hS'
                      (try dsimp only at hS')
                      go_simp
                      try with_reducible rfl
                    try simp only [List.getElem_toArray, List.getElem_cons_succ, List.getElem_cons_zero, Act.put, List.setIfInBounds_toArray, List.set_cons_zero, List.set_cons_succ]
                    refine wpAnyH_take (i := 7) (v := ?_) rfl (by kernel_rfl) (by kernel_rfl) (by kernel_rfl) (fun _ _ _ h => h) (Or.inl ⟨by rfl, ?_⟩) hHeld ?_
                    rotate_left
                    · intro w' hS'
                      (try dsimp only at hS')
                      go_simp
                      try with_reducible rfl
                    try simp only [List.getElem_toArray, List.getElem_cons_succ, List.getElem_cons_zero, Act.put, List.setIfInBounds_toArray, List.set_cons_zero, List.set_cons_succ]
                    refine wpAnyH_ready (rs := [4, 8]) (by kernel_rfl) (by simp) (AllReadyH.cons rfl (fun K hK => ?_) (AllReadyH.cons rfl (fun K hK => ?_) AllReadyH.nil))
                    · go_simp
                      refine hK.out _ _ q0 (fun hHeld => ?_)
                      try simp only [List.getElem_toArray, List.getElem_cons_succ, List.getElem_cons_zero, Act.put, List.setIfInBounds_toArray, List.set_cons_zero, List.set_cons_succ]
                      clear hK K
                      refine wpAnyH_ready (rs := [8]) (by kernel_rfl) (by simp) (AllReadyH.cons rfl (fun K hK => ?_) AllReadyH.nil)
                      go_simp
                      try rw [hW9]
                      refine hK.out _ _ q9 (fun hHeld => ?_)
                      try simp only [List.getElem_toArray, List.getElem_cons_succ, List.getElem_cons_zero, Act.put, List.setIfInBounds_toArray, List.set_cons_zero, List.set_cons_succ]
                      clear hK K
                      refine wpAnyH_ready (rs := [9]) (by kernel_rfl) (by simp) (AllReadyH.cons rfl (fun K hK => ?_) AllReadyH.nil)
                      rw [if_pos (by rfl)]
                      refine wp_pushV (.tmp 188) (.tmp 192) rfl W5.heap.size allv bs rfl wr.heap.size (some ⟨ob, oo + 4, none⟩) l4 (cv - 4) rfl (HL8.out.later HB9.out).bats (by rw [HL4L.out]; exact HR9.out) HRL.out HHA.out (by omega) hW9s ?_
                      intro v10 w10 k1 k2 k3
                      obtain ⟨va, vn, vc, rfl⟩ := k1.sl
                      have hkp := HL8.out.grownK HB9.out k2
                      have hr10 := HL8.out.grown (by omega) HB9.out k2
                      have HF := Lib.hid (HL8.out.push (by omega) HB9.out k2 k1 j)
                      have q10 := HPT.out _ hkp
                      have q5 := hr10.cell 5
                      have z5 := hr10.frozen 5
                      have hr11 := hr10.set 5 (.slice va vn vc)
                      have q11 : (w10.setCell ⟨g + 1, 5, none⟩ (.slice va vn vc)).cell? ⟨g + 2, 0, none⟩ = some (.pointer (some ⟨g + 1, 0, none⟩)) := HPT.out _ (hkp.setCell (a := ⟨g + 1, 5, none⟩) (X := fun y => y = g + 1) rfl)
                      have q6 := hr11.cell 6
                      have z6 := hr11.frozen 6
                      simp only [List.getElem?_toArray, List.getElem?_cons_zero, List.getElem?_cons_succ] at q5
                      have q6' : (w10.setCell ⟨g + 1, 5, none⟩ (.slice va vn vc)).cell? ⟨g + 1, 6, none⟩ = some (.int .i64 (used : Int)) := q6
                      clear q6 hr10 hr11 hkp k1 k2 k3
                      refine hK.out _ _ q10 (fun hHeld => ?_)
                      try simp only [List.getElem_toArray, List.getElem_cons_succ, List.getElem_cons_zero, Act.put, List.setIfInBounds_toArray, List.set_cons_zero, List.set_cons_succ]
                      clear hK K
                      refine wpAnyH_take (i := 10) (v := ?_) rfl (by kernel_rfl) (by kernel_rfl) (by kernel_rfl) (fun _ _ _ h => h) (Or.inl ⟨by rfl, ?_⟩) hHeld ?_
                      rotate_left
                      · intro w' hS'
                        (try dsimp only at hS')
                        go_simp
                        try with_reducible rfl
                      try simp only [List.getElem_toArray, List.getElem_cons_succ, List.getElem_cons_zero, Act.put, List.setIfInBounds_toArray, List.set_cons_zero, List.set_cons_succ]
                      refine wpAnyH_take (i := 11) (v := ?_) rfl (by kernel_rfl) (by kernel_rfl) (by kernel_rfl) (fun _ _ _ h => h) (Or.inl ⟨by rfl, ?_⟩) hHeld ?_
                      rotate_left
                      · intro w' hS'
                        (try dsimp only at hS')
                        go_simp
                        try with_reducible rfl
                      try simp only [List.getElem_toArray, List.getElem_cons_succ, List.getElem_cons_zero, Act.put, List.setIfInBounds_toArray, List.set_cons_zero, List.set_cons_succ]
                      refine wpAnyH_ready (rs := [12]) (by kernel_rfl) (by simp) (AllReadyH.cons rfl (fun K hK => ?_) AllReadyH.nil)
                      go_simp
                      refine hK.out _ _ q11 (fun hHeld => ?_)
                      try simp only [List.getElem_toArray, List.getElem_cons_succ, List.getElem_cons_zero, Act.put, List.setIfInBounds_toArray, List.set_cons_zero, List.set_cons_succ]
                      clear hK K
                      refine wpAnyH_done (by kernel_rfl) ?_ _
                      go_wp2
                      refine ⟨⟨j, r, bs ++ [l4], _, f, by omega, rfl, hr64, by omega, ?_, HF.out, by rw [List.length_append, List.length_singleton]; omega⟩, ?_⟩
                      · rw [← HPA.out, parse_more HOK.out.symm (by rw [← HRR.out]; omega) (by rw [← HRR.out, HLONG.out, HC0.out, HCS.out]), ← HRR.out, HLONG.out, HL4.out]
                      · have e1 := HL.out.row.cell 6
                        have e2 := HF.out.row.cell 6
                        simp only [List.getElem?_toArray, List.getElem?_cons_zero, List.getElem?_cons_succ] at e1 e2
                        rw [e1, e2]
                        simp [intOf]
                        omega
                    · go_simp
                      try rw [hW9]
                      have q59 := (HL8.out.later HB9.out).row.cell 5
                      simp only [List.getElem?_toArray, List.getElem?_cons_zero, List.getElem?_cons_succ] at q59
                      refine hK.out _ _ q9 (fun hHeld => ?_)
                      try simp only [List.getElem_toArray, List.getElem_cons_succ, List.getElem_cons_zero, Act.put, List.setIfInBounds_toArray, List.set_cons_zero, List.set_cons_succ]
                      clear hK K
                      refine wpAnyH_ready (rs := [4]) (by kernel_rfl) (by simp) (AllReadyH.cons rfl (fun K hK => ?_) AllReadyH.nil)
                      go_simp
                      refine hK.out _ _ q9 (fun hHeld => ?_)
                      try simp only [List.getElem_toArray, List.getElem_cons_succ, List.getElem_cons_zero, Act.put, List.setIfInBounds_toArray, List.set_cons_zero, List.set_cons_succ]
                      clear hK K
                      refine wpAnyH_ready (rs := [9]) (by kernel_rfl) (by simp) (AllReadyH.cons rfl (fun K hK => ?_) AllReadyH.nil)
                      rw [if_pos (by rfl)]
                      refine wp_pushV (.tmp 188) (.tmp 192) rfl W5.heap.size allv bs rfl wr.heap.size (some ⟨ob, oo + 4, none⟩) l4 (cv - 4) rfl (HL8.out.later HB9.out).bats (by rw [HL4L.out]; exact HR9.out) HRL.out HHA.out (by omega) hW9s ?_
                      intro v10 w10 k1 k2 k3
                      obtain ⟨va, vn, vc, rfl⟩ := k1.sl
                      have hkp := HL8.out.grownK HB9.out k2
                      have hr10 := HL8.out.grown (by omega) HB9.out k2
                      have HF := Lib.hid (HL8.out.push (by omega) HB9.out k2 k1 j)
                      have q10 := HPT.out _ hkp
                      have q5 := hr10.cell 5
                      have z5 := hr10.frozen 5
                      have hr11 := hr10.set 5 (.slice va vn vc)
                      have q11 : (w10.setCell ⟨g + 1, 5, none⟩ (.slice va vn vc)).cell? ⟨g + 2, 0, none⟩ = some (.pointer (some ⟨g + 1, 0, none⟩)) := HPT.out _ (hkp.setCell (a := ⟨g + 1, 5, none⟩) (X := fun y => y = g + 1) rfl)
                      have q6 := hr11.cell 6
                      have z6 := hr11.frozen 6
                      simp only [List.getElem?_toArray, List.getElem?_cons_zero, List.getElem?_cons_succ] at q5
                      have q6' : (w10.setCell ⟨g + 1, 5, none⟩ (.slice va vn vc)).cell? ⟨g + 1, 6, none⟩ = some (.int .i64 (used : Int)) := q6
                      clear q6 hr10 hr11 hkp k1 k2 k3
                      refine hK.out _ _ q10 (fun hHeld => ?_)
                      try simp only [List.getElem_toArray, List.getElem_cons_succ, List.getElem_cons_zero, Act.put, List.setIfInBounds_toArray, List.set_cons_zero, List.set_cons_succ]
                      clear hK K
                      refine wpAnyH_take (i := 10) (v := ?_) rfl (by kernel_rfl) (by kernel_rfl) (by kernel_rfl) (fun _ _ _ h => h) (Or.inl ⟨by rfl, ?_⟩) hHeld ?_
                      rotate_left
                      · intro w' hS'
                        (try dsimp only at hS')
                        go_simp
                        try with_reducible rfl
                      try simp only [List.getElem_toArray, List.getElem_cons_succ, List.getElem_cons_zero, Act.put, List.setIfInBounds_toArray, List.set_cons_zero, List.set_cons_succ]
                      refine wpAnyH_take (i := 11) (v := ?_) rfl (by kernel_rfl) (by kernel_rfl) (by kernel_rfl) (fun _ _ _ h => h) (Or.inl ⟨by rfl, ?_⟩) hHeld ?_
                      rotate_left
                      · intro w' hS'
                        (try dsimp only at hS')
                        go_simp
                        try with_reducible rfl
                      try simp only [List.getElem_toArray, List.getElem_cons_succ, List.getElem_cons_zero, Act.put, List.setIfInBounds_toArray, List.set_cons_zero, List.set_cons_succ]
                      refine wpAnyH_ready (rs := [12]) (by kernel_rfl) (by simp) (AllReadyH.cons rfl (fun K hK => ?_) AllReadyH.nil)
                      go_simp
                      refine hK.out _ _ q11 (fun hHeld => ?_)
                      try simp only [List.getElem_toArray, List.getElem_cons_succ, List.getElem_cons_zero, Act.put, List.setIfInBounds_toArray, List.set_cons_zero, List.set_cons_succ]
                      clear hK K
                      refine wpAnyH_done (by kernel_rfl) ?_ _
                      go_wp2
                      refine ⟨⟨j, r, bs ++ [l4], _, f, by omega, rfl, hr64, by omega, ?_, HF.out, by rw [List.length_append, List.length_singleton]; omega⟩, ?_⟩
                      · rw [← HPA.out, parse_more HOK.out.symm (by rw [← HRR.out]; omega) (by rw [← HRR.out, HLONG.out, HC0.out, HCS.out]), ← HRR.out, HLONG.out, HL4.out]
                      · have e1 := HL.out.row.cell 6
                        have e2 := HF.out.row.cell 6
                        simp only [List.getElem?_toArray, List.getElem?_cons_zero, List.getElem?_cons_succ] at e1 e2
                        rw [e1, e2]
                        simp [intOf]
                        omega
end Go.Proofs.Ytmbpacpkabbcgaa
