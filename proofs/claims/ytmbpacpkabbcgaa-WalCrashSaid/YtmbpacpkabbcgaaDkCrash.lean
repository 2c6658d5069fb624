/- (*disk.Disk).Crash. -/
import Derived.Test.YtmbpacpkabbcgaaDkCut
namespace Go.Proofs.Ytmbpacpkabbcgaa
open Go.RowKit

set_option maxRecDepth 100000 in
theorem crash_bad (w : World) (base b : Nat) (D : DK) (F : Nat) (hI : IsDk w base b D F) (a : Option Addr) (l : List Int) (n cap : Nat) (hn : n = l.length) (hnc : n ≤ cap) (hl : RdI w a l) (hn2 : n ≤ 1000000) (hall : l.all (fun x => decide (0 ≤ x)) = false) :
    Calls Try.prog 22 #[.pointer (some ⟨b, 0, none⟩), .slice a n cap] w fun e w' => e = .returned (.tuple #[.pointer none, .int .i64 2]) ∧ Below w.heap.size w w' := by
  obtain ⟨m, pv, fv, fl, st, h, hF⟩ := hI
  have HNO := Lib.hid (fun w hh => none_any w b D.size (.map (some m)) pv fv st hh h.size.1)
  have HD := Lib.hid h.hd
  have HNL := Lib.hid hn
  have HPK := Lib.hid (fun (w : World) hw => pickcontains_any a l n cap w HNL (by omega) hw)
  rw [hall] at HPK
  have HRI := Lib.hid hl
  obtain ⟨g, hg⟩ : ∃ x, w.heap.size = x := ⟨_, rfl⟩
  clear h hl hn hall
  go_enter Try.func22, Try.ntmps22
  go_wp2_with fail
  refine (HNO.out _ (RowAt.below HD.out (below_alloc _))).mono ?_
  rintro _ w1 ⟨rfl, rfl⟩
  go_wp2_with fail
  refine (HPK.out _ (RdI.later (below_alloc _) HRI.out)).mono ?_
  rintro _ w1 ⟨rfl, rfl⟩
  go_wp2_with fail
  go_ret2
  exact ⟨rfl, below_alloc _⟩
set_option maxRecDepth 100000 in
set_option maxHeartbeats 4000000 in
theorem crash_ok (w : World) (base b : Nat) (D : DK) (F : Nat) (hI : IsDk w base b D F) (a : Option Addr) (l : List Int) (n cap : Nat) (hn : n = l.length) (hnc : n ≤ cap) (hl : RdI w a l) (hp : D.pcs.length ≤ 1000000) (hn2 : n ≤ 1000000) (hrg : ∀ x ∈ l, x < 9223372036854775808) (hall : l.all (fun x => decide (0 ≤ x)) = true) :
    Calls Try.prog 22 #[.pointer (some ⟨b, 0, none⟩), .slice a n cap] w fun e w' =>
      (∃ b', e = .returned (.tuple #[.pointer (some ⟨b', 0, none⟩), .int .i64 0]) ∧ IsDk w' w.heap.size b' ⟨D.size, (crs D.last l D.pcs).1, []⟩ 0) ∧ Below w.heap.size w w' := by
  obtain ⟨m, pv, fv, fl, st, h, hF⟩ := hI
  obtain ⟨np, hnp⟩ : ∃ x, D.pcs.length = x := ⟨_, rfl⟩
  obtain ⟨pa, pc, hpv, hpc, hrd⟩ := Rd.of_own h.pcs
  rw [hnp] at hpv hpc hp
  subst hpv
  have HN := Lib.hid hnp
  have HRD := Lib.hid (show RdPc w pa D.pcs from hrd)
  clear hrd hnp
  have HNO := Lib.hid (fun w hh => none_any w b D.size (.map (some m)) (.slice pa np pc) fv st hh h.size.1)
  obtain ⟨es, cl, hm, hmi⟩ := h.map
  have HM := Lib.hid hm
  have HMI := Lib.hid hmi
  have HL := Lib.hid h.sec
  have H5 := Lib.hid h.psec
  have HS := Lib.hid h.size
  have HRG := Lib.hid (show ∀ x ∈ l, 0 ≤ x ∧ x < 9223372036854775808 from fun x hx => ⟨by have := List.all_eq_true.1 hall x hx; simpa using this, hrg x hx⟩)
  have HNL := Lib.hid hn
  obtain ⟨g, hg⟩ : ∃ x, w.heap.size = x := ⟨_, rfl⟩
  have hbs : b < w.heap.size := h.hd.lt
  have hms : m < w.heap.size := (Array.getElem?_eq_some_iff.1 hm).1
  have HPK := Lib.hid (fun (w : World) hw => pickcontains_any a l n cap w HNL (by omega) hw)
  rw [hall] at HPK
  have HRI := Lib.hid hl
  have HD := Lib.hid h.hd
  have hab : ∀ ad, a = some ad → l ≠ [] → ad.block < w.heap.size := fun ad ha hne => by
    rcases hl with h | ⟨b2, o2, h, hlt, _⟩
    · exact absurd (List.map_eq_nil_iff.1 h) hne
    · rw [ha] at h; cases h; exact hlt
  have HAB := Lib.hid hab
  clear h hm hmi hl hrg hn hall hab
  go_enter Try.func22, Try.ntmps22
  rw [hg]
  go_wp2_with fail
  obtain ⟨w1, hw1⟩ : ∃ x, w.alloc (.cells #[.slice a n cap] 57) = x := ⟨_, rfl⟩
  have HP1 : Hid (RowAt w1 g 57 #[.slice a n cap]) := by rw [← hw1, ← hg]; exact RowAt.new _ _ _
  have HB1 : Hid (Below g w w1) := by rw [← hw1, ← hg]; exact below_alloc _
  have hs1 : w1.heap.size = g + 1 := by rw [← hw1, ← hg]; simp
  have HB1' : Hid (Below w.heap.size w w1) := by rw [← hw1]; exact below_alloc _
  rw [hw1]
  clear hw1
  refine (HNO.out _ (RowAt.below HD.out HB1'.out)).mono ?_
  rintro _ w2 ⟨rfl, rfl⟩
  have hc1 : w2.cell? ⟨g, 0, none⟩ = some (.slice a n cap) := HP1.out.cell 0
  go_wp2_with fail
  refine (HPK.out _ (RdI.later HB1'.out HRI.out)).mono ?_
  rintro _ w1 ⟨rfl, rfl⟩
  clear hc1
  obtain ⟨c0, c1, c2, c3, c4⟩ := DkHd.cells (RowAt.below HD.out HB1'.out)
  have HM1 : Hid (w1.heap[m]? = some (.map es cl)) := (HB1'.out.block m hms).trans HM.out
  go_wp2
  have hk1 : w1.drew.cell? ⟨b, 0, none⟩ = some (.int .i64 (D.size : Int)) ∧ w1.drew.cell? ⟨b, 1, none⟩ = some (.map (some m)) := ⟨c0, c1⟩
  have HM1d : Hid (w1.drew.heap[m]? = some (.map es cl)) := HM1.out
  have hb1 : b < w1.drew.heap.size := Nat.lt_of_lt_of_le hbs (by have : w1.drew.heap.size = w1.heap.size := rfl; omega)
  obtain ⟨mo, hmo⟩ : ∃ x, w1.drew.heap.size = x := ⟨_, rfl⟩
  clear c0 c1 c2 c3 c4
  go_region_held_law (fun w' => w'.cell? ⟨b, 0, none⟩ = some (.int .i64 (D.size : Int)) ∧ w'.cell? ⟨b, 1, none⟩ = some (.map (some m))) (first | assumption | go_keep) (first
    | (go_at_call 38; refine (mapclone_any HM1d.out).mono ?_; rintro e w3 ⟨rfl, q1, q2, q3⟩; rw [hmo] at q1 q3 ⊢; have hk3 : w3.cell? ⟨b, 0, none⟩ = some (.int .i64 (D.size : Int)) ∧ w3.cell? ⟨b, 1, none⟩ = some (.map (some m)) := ⟨cell_later q2 hb1 hk1.1, cell_later q2 hb1 hk1.2⟩))
  obtain ⟨w4, hw4⟩ : ∃ x, w3.alloc (.cells #[.int .i64 (D.size : Int), .map (some mo), .slice none 0 0, .slice none 0 0, .int .i64 0] 71) = x := ⟨_, rfl⟩
  have HO4 : Hid (RowAt w4 (mo + 1) 71 #[.int .i64 (D.size : Int), .map (some mo), .slice none 0 0, .slice none 0 0, .int .i64 0]) := by rw [← hw4, ← q3]; exact RowAt.new _ _ _
  have hb34 : Below w3.heap.size w3 w4 := by rw [← hw4]; exact below_alloc _
  have hb14 : Below w1.drew.heap.size w1.drew w4 := below_trans q2 hb34
  have hs1d : w1.drew.heap.size = w1.heap.size := rfl
  have hb04 : Below g w w4 := (HB1.out.trans (drewN_below (Below.refl g w1) 1)).trans (hb14.mono (by omega))
  have hm4 : w4.heap[mo]? = some (.map es cl) := (hb34.block mo (by omega)).trans q1
  have hc4 : w4.cell? ⟨b, 2, none⟩ = some (.slice pa np pc) := (hb04.cell (p := ⟨b, 2, none⟩) (by dsimp only; omega)).trans (DkHd.cells HD.out).2.2.1
  have HI4 : Hid (CrsInv w w4 g mo D.size (crs D.last l (D.pcs.take 0))) := by
    refine ⟨hb04, ⟨a, n, cap, RowAt.below HP1.out (below_trans (drewN_below (Below.refl _ w1) 1) hb14), HNL.out, hnc, RdI.low hb04 HRI.out (by rw [← hg]; exact HAB.out), by rw [← hg]; exact HAB.out⟩, ⟨es, cl, hm4, HMI.out⟩, HO4.out⟩
  clear hm4 hb04 hb14 hb34 HO4
  rw [hw4]
  clear hw4 hk3 q1 q2 q3 hk1 HM1d
  go_wp2
  clear hc4
  go_loopw [35] (fun i wr => CrsInv w wr g mo D.size (crs D.last l (D.pcs.take (intOf i).toNat)) ∧ ∃ k : Nat, k ≤ np ∧ i = .int .i64 k) (fun i _ => np - (intOf i).toNat)
  case atStart => exact ⟨HI4.out, 0, Nat.zero_le _, rfl⟩
  case round =>
    clear HI4
    obtain ⟨hinv, k, hk, rfl⟩ := hrel
    rw [show (intOf (.int .i64 (k : Int))).toNat = k by simp [intOf]] at hinv
    obtain ⟨hbw, ⟨pa2, pn2, pc2, hp1, hp2, hp3, hp4, hp5⟩, ⟨es2, cl2, hm2, hmi2⟩, ho2⟩ := hinv
    by_cases hkn : k < np
    · have hkl : k < D.pcs.length := by rw [HN.out]; exact hkn
      obtain ⟨g2, o2, rfl, hg2, hrow⟩ := (RdPc.rows HRD.out fun p hp => (H5.out p hp).2.2).resolve_left (by intro e; rw [e] at hkl; simp at hkl)
      have hcell := hrow k hkl
      have hls := crs_succ D.last l hkl
      obtain ⟨p, hp'⟩ : ∃ p, D.pcs[k] = p := ⟨_, rfl⟩
      obtain ⟨hpp1, hpp2, hpp5⟩ := H5.out p (by rw [← hp']; exact List.getElem_mem hkl)
      rw [hp'] at hcell hls
      have HC : Hid (∀ i v, (pcC p)[i]? = some v → wr.cell? ((⟨g2, o2 + k * 513, none⟩ : Addr).add i) = some v) := fun i v hv => by
        rw [Addr.add_mid]
        refine (hbw.cell (p := ⟨g2, _, none⟩) (by dsimp only; omega)).trans (hcell i v ?_)
        rw [pcD_eq hpp5]; exact hv
      obtain ⟨T, hT⟩ : ∃ T, crs D.last l (D.pcs.take k) = T := ⟨_, rfl⟩
      have hTl : ∀ k, (T.1 k).length = 512 := by rw [← hT]; exact crs_len HL.out l _ fun p hp => (H5.out p (List.mem_of_mem_take hp)).2.2
      have hTp : ∀ x ∈ T.2, 0 ≤ x ∧ x < 9223372036854775808 := by rw [← hT]; exact crs_picks HRG.out
      rw [hT] at hp2 hp4 hp5 hmi2 hls
      have HLS := Lib.hid hls
      have HTL := Lib.hid hTl
      have HTP := Lib.hid hTp
      have HBW := Lib.hid hbw
      have HP1r := Lib.hid hp1
      have HP2 := Lib.hid hp2
      have HP4 := Lib.hid hp4
      have HP5 := Lib.hid hp5
      have HM2 := Lib.hid hm2
      have HMI2 := Lib.hid hmi2
      have HO2 := Lib.hid ho2
      have hmor : mo + 1 < wr.heap.size := ho2.lt
      have hAg : Agg Try.prog 87 (pcC p).length := by rw [pcC_len hpp5]; exact aggP
      obtain ⟨t1, t2, t3⟩ := piece_store hpp5
      clear hrow hcell hls hp' hT hTl hTp hbw hp1 hp2 hp4 hp5 hm2 hmi2 ho2 HPK HNO hg
      obtain ⟨bx, hbx⟩ : ∃ x, wr.heap.size = x := ⟨_, rfl⟩
      have hb1k : (k : Int) < (np : Int) := by omega
      obtain ⟨x, hx⟩ : ∃ x, p.1 = x := ⟨_, rfl⟩
      go_wp2_with (first
        | (refine step_loadCells rfl 87 (.tmp 37) rfl ⟨g2, o2 + k * 513, none⟩ rfl (pcC p) hAg HC.out ?_)
        | (refine step_allocZ rfl 87 rfl zeroP zero_piece ?_; intro w2 q1 q2 q3; rw [hbx] at q1 q3 ⊢)
        | (refine step_storeRow rfl 87 (.tmp 9) (.tmp 38) rfl rfl bx (pcC p).toArray rfl rfl 87 zeroP q1 t1.out t2.out t3.out ?_; intro w3 q4 q5; obtain ⟨r0, r1⟩ := q4.range; rw [hx] at r0))
      have hb3 : Below wr.heap.size wr w3 := below_grown q2 q5 (by omega) (by intro x hx; have := Option.some.inj hx; omega)
      have HB3 := Lib.hid (drewN_below hb3 1)
      obtain ⟨wd, hwd⟩ : ∃ z, w3.drew = z := ⟨_, rfl⟩
      have HB3 : Hid (Below wr.heap.size wr wd) := by rw [← hwd]; exact drewN_below hb3 1
      have HX3 : Hid (RowAt wd bx 87 (pcC p).toArray) := by rw [← hwd]; exact q4
      have hbxd : bx < wd.heap.size := HX3.out.lt
      have HO3 := Lib.hid (RowAt.below HO2.out HB3.out)
      have HM3 : Hid (wd.heap[mo]? = some (.map es2 cl2)) := (HB3.out.block mo (by omega)).trans HM2.out
      have hk1 : wd.cell? ⟨mo + 1, 1, none⟩ = some (.map (some mo)) ∧ wd.cell? ⟨bx, 0, none⟩ = some (.int .i64 x) ∧ wd.heap[mo]? = some (.map es2 cl2) := ⟨HO3.out.cell 1, by rw [← hwd]; exact r0, HM3.out⟩
      clear q1 q2 q3 q4 q5 r0 r1 hb3 t1 t2 t3 hAg HC
      refine wp_region_held_drew (S := fun w' => w'.cell? ⟨mo + 1, 1, none⟩ = some (.map (some mo)) ∧ w'.cell? ⟨bx, 0, none⟩ = some (.int .i64 x) ∧ w'.heap[mo]? = some (.map es2 cl2)) (by kernel_rfl) (by rw [hwd]; exact hk1) (fun hHeld => ?_)
      rw [hwd] at hHeld ⊢
      clear hwd
      refine wpAnyH_take (i := 0) (v := ?_) rfl (by kernel_rfl) (by kernel_rfl) (by kernel_rfl) (fun _ _ _ h => h) (Or.inl ⟨by rfl, ?_⟩) hHeld ?_
      rotate_left
      · intro w' hS'
        go_simp
        try with_reducible rfl
      simp only [List.getElem_toArray, List.getElem_cons_succ, List.getElem_cons_zero, Act.put, List.setIfInBounds_toArray, List.set_cons_zero, List.set_cons_succ]
      refine wpAnyH_take (i := 1) (v := ?_) rfl (by kernel_rfl) (by kernel_rfl) (by kernel_rfl) (fun _ _ _ h => h) (Or.inl ⟨by rfl, ?_⟩) hHeld ?_
      rotate_left
      · intro w' hS'
        go_simp
        try with_reducible rfl
      simp only [List.getElem_toArray, List.getElem_cons_succ, List.getElem_cons_zero, Act.put, List.setIfInBounds_toArray, List.set_cons_zero, List.set_cons_succ]
      refine wpAnyH_take (i := 2) (v := ?_) rfl (by kernel_rfl) (by kernel_rfl) (by kernel_rfl) (fun _ _ _ h => h) (Or.inl ⟨by rfl, ?_⟩) hHeld ?_
      rotate_left
      · intro w' hS'
        go_simp
        try with_reducible rfl
      simp only [List.getElem_toArray, List.getElem_cons_succ, List.getElem_cons_zero, Act.put, List.setIfInBounds_toArray, List.set_cons_zero, List.set_cons_succ]
      refine wpAnyH_take (i := 3) (v := ?_) rfl (by kernel_rfl) (by kernel_rfl) (by kernel_rfl) (fun _ _ _ h => h) (Or.inl ⟨by rfl, ?_⟩) hHeld ?_
      rotate_left
      · intro w' hS'
        go_simp
        try with_reducible rfl
      simp only [List.getElem_toArray, List.getElem_cons_succ, List.getElem_cons_zero, Act.put, List.setIfInBounds_toArray, List.set_cons_zero, List.set_cons_succ]
      refine wpAnyH_take (i := 4) (v := ?_) rfl (by kernel_rfl) (by kernel_rfl) (by kernel_rfl) (fun _ _ _ h => h) (Or.inl ⟨by rfl, ?_⟩) hHeld ?_
      rotate_left
      · intro w' hS'
        go_simp
        try with_reducible rfl
      simp only [List.getElem_toArray, List.getElem_cons_succ, List.getElem_cons_zero, Act.put, List.setIfInBounds_toArray, List.set_cons_zero, List.set_cons_succ]
      refine wpAnyH_take (i := 5) (v := ?_) rfl (by kernel_rfl) (by kernel_rfl) (by kernel_rfl) (fun _ _ _ h => h) (Or.inl ⟨by rfl, ?_⟩) hHeld ?_
      rotate_left
      · intro w' hS'
        go_simp
        try with_reducible rfl
      simp only [List.getElem_toArray, List.getElem_cons_succ, List.getElem_cons_zero, Act.put, List.setIfInBounds_toArray, List.set_cons_zero, List.set_cons_succ]
      refine wpAnyH_take (i := 6) (v := _) rfl (by kernel_rfl) (by kernel_rfl) (by kernel_rfl) (fun _ _ _ h => h) (yieldsIf_lookup (S := fun w' => w'.cell? ⟨mo + 1, 1, none⟩ = some (.map (some mo)) ∧ w'.cell? ⟨bx, 0, none⟩ = some (.int .i64 x) ∧ w'.heap[mo]? = some (.map es2 cl2)) (by rfl) (.tmp 42) (.tmp 44) rfl HMI2.out x rfl rfl (fun _ h => h.2.2)) hHeld ?_
      simp only [List.getElem_toArray, List.getElem_cons_succ, List.getElem_cons_zero, Act.put, List.setIfInBounds_toArray, List.set_cons_zero, List.set_cons_succ]
      obtain ⟨s, hs⟩ : ∃ s, T.1 x = s := ⟨_, rfl⟩
      have hs5 : s.length = 512 := by rw [← hs]; exact HTL.out x
      obtain ⟨t1, t2, t3⟩ := sec_store hs5
      rw [hs]
      obtain ⟨sx, hsx⟩ : ∃ x, wd.heap.size = x := ⟨_, rfl⟩
      refine wpAnyH_ready (rs := [7]) (by kernel_rfl) (by simp) (AllReadyH.cons rfl (fun K hK => ?_) AllReadyH.nil)
      rw [if_pos (by rfl)]
      refine wp_allocZ 84 rfl zeroS zero_sec ?_
      intro w5 q1 q2 q3
      rw [hsx] at q1 q3 ⊢
      have hk2 : w5.cell? ⟨mo + 1, 1, none⟩ = some (.map (some mo)) ∧ w5.cell? ⟨bx, 0, none⟩ = some (.int .i64 x) ∧ w5.heap[mo]? = some (.map es2 cl2) := ⟨cell_later q2 (by omega) hk1.1, cell_later q2 (by omega) hk1.2.1, (q2.block mo (by omega)).trans hk1.2.2⟩
      refine hK.out _ _ hk2 (fun hHeld => ?_)
      simp only [List.getElem_toArray, List.getElem_cons_succ, List.getElem_cons_zero, Act.put, List.setIfInBounds_toArray, List.set_cons_zero, List.set_cons_succ]
      clear hK K
      refine wpAnyH_ready (rs := [8]) (by kernel_rfl) (by simp) (AllReadyH.cons rfl (fun K hK => ?_) AllReadyH.nil)
      rw [if_pos (by rfl)]
      refine wp_storeRow 84 (.tmp 10) (.tmp 45) rfl sx (s.map bv).toArray rfl rfl 84 zeroS q1 t1.out t2.out t3.out ?_
      intro w6 q4 q5
      have hb6 : Below wd.heap.size wd w6 := below_grown q2 q5 (by omega) (by intro x hx; have := Option.some.inj hx; omega)
      have hk3 : w6.cell? ⟨mo + 1, 1, none⟩ = some (.map (some mo)) ∧ w6.cell? ⟨bx, 0, none⟩ = some (.int .i64 x) ∧ w6.heap[mo]? = some (.map es2 cl2) := ⟨cell_later hb6 (by omega) hk1.1, cell_later hb6 (by omega) hk1.2.1, (hb6.block mo (by omega)).trans hk1.2.2⟩
      refine hK.out _ _ hk3 (fun _ => ?_)
      simp only [List.getElem_toArray, List.getElem_cons_succ, List.getElem_cons_zero, Act.put, List.setIfInBounds_toArray, List.set_cons_zero, List.set_cons_succ]
      clear hK K
      refine wpAnyH_done (by kernel_rfl) ?_ _
      have HB6 := Lib.hid (below_trans HB3.out hb6)
      have HS6 : Hid (RowAt w6 sx 84 (s.map bv).toArray) := q4
      have hwr6 : wr.heap.size ≤ w6.heap.size := HB6.out.size
      have hgr : g < wr.heap.size := HP1r.out.lt
      obtain ⟨P, hP⟩ : ∃ P, T.2 = P := ⟨_, rfl⟩
      rw [hP] at HP2 HP4 HP5 HTP
      obtain ⟨q, hq⟩ : ∃ q, nextP P = q := ⟨_, rfl⟩
      have hqr : 0 ≤ q ∧ q < 9223372036854775808 := by
        cases P with
        | nil => rw [← hq]; simp [nextP]
        | cons y r => rw [← hq]; exact HTP.out y List.mem_cons_self
      have HQ := Lib.hid hq
      have HPP := Lib.hid hP
      have HSS := Lib.hid hs
      have HX := Lib.hid hx
      have H55 := Lib.hid hpp5
      have HX6 := Lib.hid (RowAt.below HX3.out hb6)
      have HG6 : Hid (Below g w w6) := HBW.out.trans (HB6.out.mono (Nat.le_of_lt hgr))
      have HNX : Hid (Calls Try.prog 45 #[.pointer (some ⟨g, 0, none⟩)] w6 fun e w' => e = .returned (.int .i64 q) ∧ (∃ a' n' cap', RowAt w' g 57 #[.slice a' n' cap'] ∧ n' = P.tail.length ∧ n' ≤ cap' ∧ RdI w' a' P.tail ∧ ∀ ad, a' = some ad → P.tail ≠ [] → ad.block < g) ∧ KeepA (fun k => k = g) w6 w') := by
        have := next_any g pa2 P pn2 pc2 w6 HP2.out hp3 (RdI.later HB6.out HP4.out) (RowAt.below HP1r.out HB6.out) HP5.out
        rw [hq] at this
        exact this
      have HO6 : Hid (RowAt w6 (mo + 1) 71 #[.int .i64 (D.size : Int), .map (some mo), .slice none 0 0, .slice none 0 0, .int .i64 0]) := RowAt.below HO3.out hb6
      have HM6 := Lib.hid hk3.2.2
      clear hk1 hk2 hk3 hb6 q1 q2 q3 q4 q5 hq hP hs hx hpp5 t1 t2 t3

      go_wp2_with fail
      refine HNX.out.mono ?_
      rintro _ w7 ⟨rfl, hbox, hk7⟩
      have HBOX := Lib.hid hbox
      have HK7 := Lib.hid hk7
      have hs7 : w6.heap.size ≤ w7.heap.size := hk7.size
      clear hbox hk7
      have hbxr : bx ≠ g := by omega
      have hgm : g < mo := by omega
      have hsxg : sx ≠ g := by omega
      have hbxm : bx ≠ mo := by omega
      have hsxm : sx ≠ mo := by omega
      have HX7 := Lib.hid (row_keep HK7.out HX6.out hbxr)
      have HS7 := Lib.hid (row_keep HK7.out HS6.out hsxg)
      have HO7 := Lib.hid (row_keep HK7.out HO6.out (by omega))
      have HM7 : Hid (w7.heap[mo]? = some (.map es2 cl2)) := (HK7.out.same mo (by omega) (by omega)).trans HM6.out
      have HG7 : Hid (Below g w w7) := HG6.out.trans (HK7.out.below (by omega) (by rintro x rfl; exact Nat.le_refl _))
      by_cases hq0 : q = 0
      · subst hq0
        have HBOXZ := HBOX
        have HBZ := HG7
        have HOZ := HO7
        have HMZ := HM7
        have HXZ := HX7
        have HSZ := HS7
        have HCUT := Lib.hid (cut_zero s p.2)
        have HCL := Lib.hid hs5
        clear hs5
        go_wp2
        obtain ⟨e8, hu8⟩ := und_sec
        have hc5 : (s).length = 512 := HCL.out
        have hi8 : (Try.prog.info? 84).map (·.size) = some ((s).map bv).length := by rw [List.length_map, hc5]; kernel_rfl
        have hk1 : w7.drew.cell? ⟨mo + 1, 1, none⟩ = some (.map (some mo)) ∧ w7.drew.cell? ⟨bx, 0, none⟩ = some (.int .i64 x) ∧ w7.drew.rangeAt sx 0 ((s).map bv) := ⟨HOZ.out.cell 1, by have := (RowAt.range HXZ.out).1; rw [HX.out] at this; exact this, fun j v hv => by rw [Nat.zero_add]; have := RowAt.cell (w := w7.drew) HSZ.out j; rw [this, List.getElem?_toArray]; exact hv⟩
        have HMZd : Hid (w7.drew.heap[mo]? = some (.map es2 cl2)) := HMZ.out
        go_region_held_law (fun w' => w'.cell? ⟨mo + 1, 1, none⟩ = some (.map (some mo)) ∧ w'.cell? ⟨bx, 0, none⟩ = some (.int .i64 x) ∧ w'.rangeAt sx 0 ((s).map bv)) (first | assumption) (first
          | (refine upon_update HMZd.out HMI2.out x (s) ?_; intro w9 es4 cl4 m1 m2 m3 m4; have hk2 : w9.cell? ⟨mo + 1, 1, none⟩ = some (.map (some mo)) ∧ w9.cell? ⟨bx, 0, none⟩ = some (.int .i64 x) ∧ w9.rangeAt sx 0 ((s).map bv) := ⟨m3.cell hk1.1 (by show ¬ mo + 1 = mo; omega), m3.cell hk1.2.1 hbxm, fun i v hv => m3.cell (hk1.2.2 i v hv) hsxm⟩))
        go_wp2
        refine ⟨⟨?_, k + 1, by omega, by go_num⟩, by simp [intOf]; omega⟩
        rw [show (intOf (.int .i64 ((k : Int) + 1))).toNat = k + 1 by simp [intOf], HLS.out]
        unfold crsStep
        rw [HPP.out, HQ.out, HX.out, HSS.out, HCUT.out]
        exact CrsInv.put HBZ.out HBOXZ.out HOZ.out hgm m1 m2 m3
      · by_cases hq1 : q = 1
        · subst hq1
          have r1 := (RowAt.range HX7.out).2
          have R1 := Lib.hid r1
          obtain ⟨e7, hu7⟩ := und_sec
          have H55' := H55.out
          have hi7 : (Try.prog.info? 84).map (·.size) = some (p.2.map bv).length := by rw [List.length_map, H55']; kernel_rfl
          obtain ⟨t1, t2, t3⟩ := sec_store H55.out
          obtain ⟨u1, u2, u3⟩ := sec_store hs5
          have HSL : Hid ((s.map bv).toArray.size = (p.2.map bv).toArray.size) := u2.out.symm.trans t2.out
          clear r1 H55'
          go_wp2_with (first
            | (refine wpList_load_mid rfl 84 (.tmp 60) rfl bx 1 rfl (p.2.map bv) _ R1.out hu7 rfl hi7 ?_)
            | (refine step_storeRow rfl 84 (.tmp 10) (.tmp 61) rfl rfl sx (p.2.map bv).toArray rfl rfl 84 (s.map bv).toArray HS7.out t1.out HSL.out t3.out ?_; intro w8 q4 q5))
          have hk8 := keep_grownO q5
          have hk8 : KeepA (fun k => k = sx) w7 w8 := hk8.mono fun k e => (Option.some.inj e).symm
          have hb8 : Below g w7 w8 := hk8.below (by omega) (by rintro x rfl; omega)
          have HBOXZ : Hid (∃ a' n' cap', RowAt w8 g 57 #[.slice a' n' cap'] ∧ n' = P.tail.length ∧ n' ≤ cap' ∧ RdI w8 a' P.tail ∧ ∀ ad, a' = some ad → P.tail ≠ [] → ad.block < g) := by
            obtain ⟨a9, n9, c9, b1, b2, b3, b4, b5⟩ := HBOX.out
            exact ⟨a9, n9, c9, row_keep hk8 b1 (by omega), b2, b3, RdI.low hb8 b4 b5, b5⟩
          have HBZ : Hid (Below g w w8) := HG7.out.trans hb8
          have HOZ := Lib.hid (row_keep hk8 HO7.out (by omega))
          have HMZ : Hid (w8.heap[mo]? = some (.map es2 cl2)) := (hk8.same mo (by omega) (by omega)).trans HM7.out
          have HXZ := Lib.hid (row_keep hk8 HX7.out (by omega))
          have HSZ : Hid (RowAt w8 sx 84 (p.2.map bv).toArray) := q4
          have HCUT := Lib.hid (cut_one s p.2)
          have HCL := H55
          clear hs5 q4 q5 hk8 hb8 hi7 hu7 t1 t2 t3 u1 u2 u3 HSL
          obtain ⟨e8, hu8⟩ := und_sec
          have hc5 : (p.2).length = 512 := HCL.out
          have hi8 : (Try.prog.info? 84).map (·.size) = some ((p.2).map bv).length := by rw [List.length_map, hc5]; kernel_rfl
          have hk1 : w8.drew.cell? ⟨mo + 1, 1, none⟩ = some (.map (some mo)) ∧ w8.drew.cell? ⟨bx, 0, none⟩ = some (.int .i64 x) ∧ w8.drew.rangeAt sx 0 ((p.2).map bv) := ⟨HOZ.out.cell 1, by have := (RowAt.range HXZ.out).1; rw [HX.out] at this; exact this, fun j v hv => by rw [Nat.zero_add]; have := RowAt.cell (w := w8.drew) HSZ.out j; rw [this, List.getElem?_toArray]; exact hv⟩
          have HMZd : Hid (w8.drew.heap[mo]? = some (.map es2 cl2)) := HMZ.out
          go_region_held_law (fun w' => w'.cell? ⟨mo + 1, 1, none⟩ = some (.map (some mo)) ∧ w'.cell? ⟨bx, 0, none⟩ = some (.int .i64 x) ∧ w'.rangeAt sx 0 ((p.2).map bv)) (first | assumption) (first
            | (refine upon_update HMZd.out HMI2.out x (p.2) ?_; intro w9 es4 cl4 m1 m2 m3 m4; have hk2 : w9.cell? ⟨mo + 1, 1, none⟩ = some (.map (some mo)) ∧ w9.cell? ⟨bx, 0, none⟩ = some (.int .i64 x) ∧ w9.rangeAt sx 0 ((p.2).map bv) := ⟨m3.cell hk1.1 (by show ¬ mo + 1 = mo; omega), m3.cell hk1.2.1 hbxm, fun i v hv => m3.cell (hk1.2.2 i v hv) hsxm⟩))
          go_wp2
          refine ⟨⟨?_, k + 1, by omega, by go_num⟩, by simp [intOf]; omega⟩
          rw [show (intOf (.int .i64 ((k : Int) + 1))).toNat = k + 1 by simp [intOf], HLS.out]
          unfold crsStep
          rw [HPP.out, HQ.out, HX.out, HSS.out, HCUT.out]
          exact CrsInv.put HBZ.out HBOXZ.out HOZ.out hgm m1 m2 m3
        · obtain ⟨cc, hcc⟩ : ∃ c, cut s p.2 q = c := ⟨_, rfl⟩
          have hcl : cc.length = 512 := by rw [← hcc]; exact cut_len hs5 H55.out q
          obtain ⟨kn, hkn2⟩ : ∃ c, keepN q = c := ⟨_, rfl⟩
          have hkn5 : kn < 512 := by rw [← hkn2]; unfold keepN; omega
          have hknI : (q - 2).tmod 512 = (kn : Int) := by rw [Int.tmod_eq_emod_of_nonneg (by omega), ← hkn2]; unfold keepN; omega
          have hqw : IntKind.i64.wrap (q - 2) = q - 2 := IntWalk.i64_in _ (by omega)
          have hsp := splice_cut hs5 H55.out hq0 hq1
          rw [hkn2, hcc] at hsp
          have HSP := Lib.hid hsp
          have HCUT := Lib.hid hcc
          have HCL := Lib.hid hcl
          have H55' := H55.out
          have HNL2 : Hid (((p.2.take kn).map bv).length = kn) := by show _ = _; rw [List.length_map, List.length_take, H55']; omega
          have HSL : Hid ((s.map bv).length = 512) := by show _ = _; rw [List.length_map, hs5]
          have HSD : Hid (RowAt w7.drew sx 84 (s.map bv).toArray) := HS7.out
          have HLC : Hid (∀ i v, ((p.2.take kn).map bv)[i]? = some v → w7.drew.cell? ((⟨bx, 1, none⟩ : Addr).add i) = some v) := fun i v hv => by
            rw [Addr.add_mid]
            refine (RowAt.range HX7.out).2 i v ?_
            rw [List.map_take, List.getElem?_take] at hv
            split at hv
            · exact hv
            · cases hv
          have H1V : Hid (∀ v ∈ (p.2.take kn).map bv, v.oneCell' = true) := bv_one _
          clear hsp hcc hcl hs5 hkn2 H55'
          go_wp2
          have hk0 : (0 : Int) ≤ (kn : Int) := by omega
          have hk1 : (kn : Int) ≤ 512 := by omega
          go_region_held_law (fun _ => True) (trivial) (first
            | (refine step_copyR rfl (.tmp 49) (.tmp 54) rfl sx 0 512 512 ⟨bx, 1, none⟩ kn 512 rfl rfl 84 (s.map bv) HSD.out ((p.2.take kn).map bv) (by rw [HNL2.out]; exact (Nat.min_eq_left (by omega)).symm) HLC.out (by rw [HNL2.out, HSL.out]; omega) H1V.out ?_; intro w8 q4 q5))
          have hk8 : KeepA (fun k => k = sx) w7 w8 := (KeepA.of_below (drewN_below (Below.refl _ w7) 1)).trans ((keep_grownO q5).mono fun k e => (Option.some.inj e).symm)
          have hb8 : Below g w7 w8 := hk8.below (by omega) (by rintro x rfl; omega)
          have HBOXZ : Hid (∃ a' n' cap', RowAt w8 g 57 #[.slice a' n' cap'] ∧ n' = P.tail.length ∧ n' ≤ cap' ∧ RdI w8 a' P.tail ∧ ∀ ad, a' = some ad → P.tail ≠ [] → ad.block < g) := by
            obtain ⟨a9, n9, c9, b1, b2, b3, b4, b5⟩ := HBOX.out
            exact ⟨a9, n9, c9, row_keep hk8 b1 (by omega), b2, b3, RdI.low hb8 b4 b5, b5⟩
          have HBZ : Hid (Below g w w8) := HG7.out.trans hb8
          have HOZ := Lib.hid (row_keep hk8 HO7.out (by omega))
          have HMZ : Hid (w8.heap[mo]? = some (.map es2 cl2)) := (hk8.same mo (by omega) (by omega)).trans HM7.out
          have HXZ := Lib.hid (row_keep hk8 HX7.out (by omega))
          have HSZ : Hid (RowAt w8 sx 84 (cc.map bv).toArray) := by rw [← HSP.out]; exact q4
          clear q4 q5 hk8 hb8
          go_wp2
          obtain ⟨e8, hu8⟩ := und_sec
          have hc5 : (cc).length = 512 := HCL.out
          have hi8 : (Try.prog.info? 84).map (·.size) = some ((cc).map bv).length := by rw [List.length_map, hc5]; kernel_rfl
          have hk1 : w8.drew.cell? ⟨mo + 1, 1, none⟩ = some (.map (some mo)) ∧ w8.drew.cell? ⟨bx, 0, none⟩ = some (.int .i64 x) ∧ w8.drew.rangeAt sx 0 ((cc).map bv) := ⟨HOZ.out.cell 1, by have := (RowAt.range HXZ.out).1; rw [HX.out] at this; exact this, fun j v hv => by rw [Nat.zero_add]; have := RowAt.cell (w := w8.drew) HSZ.out j; rw [this, List.getElem?_toArray]; exact hv⟩
          have HMZd : Hid (w8.drew.heap[mo]? = some (.map es2 cl2)) := HMZ.out
          go_region_held_law (fun w' => w'.cell? ⟨mo + 1, 1, none⟩ = some (.map (some mo)) ∧ w'.cell? ⟨bx, 0, none⟩ = some (.int .i64 x) ∧ w'.rangeAt sx 0 ((cc).map bv)) (first | assumption) (first
            | (refine upon_update HMZd.out HMI2.out x (cc) ?_; intro w9 es4 cl4 m1 m2 m3 m4; have hk2 : w9.cell? ⟨mo + 1, 1, none⟩ = some (.map (some mo)) ∧ w9.cell? ⟨bx, 0, none⟩ = some (.int .i64 x) ∧ w9.rangeAt sx 0 ((cc).map bv) := ⟨m3.cell hk1.1 (by show ¬ mo + 1 = mo; omega), m3.cell hk1.2.1 hbxm, fun i v hv => m3.cell (hk1.2.2 i v hv) hsxm⟩))
          go_wp2
          refine ⟨⟨?_, k + 1, by omega, by go_num⟩, by simp [intOf]; omega⟩
          rw [show (intOf (.int .i64 ((k : Int) + 1))).toNat = k + 1 by simp [intOf], HLS.out]
          unfold crsStep
          rw [HPP.out, HQ.out, HX.out, HSS.out, HCUT.out]
          exact CrsInv.put HBZ.out HBOXZ.out HOZ.out hgm m1 m2 m3
    · have hkk : k = np := by omega
      subst hkk
      rw [List.take_of_length_le (by rw [HN.out]; exact Nat.le_refl _)] at hp2 hp4 hp5 hmi2
      have HBW := Lib.hid hbw
      have HM2 := Lib.hid hm2
      have HMI2 := Lib.hid hmi2
      have HO2 := Lib.hid ho2
      have hmor : mo + 1 < wr.heap.size := ho2.lt
      clear hbw hm2 hmi2 ho2 hp1 hp2 hp4 hp5
      go_wp2_with fail
      go_ret2
      refine ⟨⟨mo + 1, rfl, mo, .slice none 0 0, .slice none 0 0, [], 0, ⟨HO2.out, by omega, by omega, by omega, ⟨es2, cl2, HM2.out, HMI2.out⟩, World.ownsRow_nil _ _ _ _, ⟨by simp [Value.ownBlock], by simp [Value.ownBlock]⟩, FtSl.nil _ _, fun g hg => (by cases hg), HS.out, crs_len HL.out l _ fun p hp => (H5.out p hp).2.2, fun p hp => (by cases hp)⟩, Nat.le_refl _⟩, HBW.out⟩
end Go.Proofs.Ytmbpacpkabbcgaa
