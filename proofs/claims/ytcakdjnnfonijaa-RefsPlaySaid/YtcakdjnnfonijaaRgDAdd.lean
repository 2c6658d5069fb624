/- Add of the document's graph. -/
import Derived.Test.YtcakdjnnfonijaaRgDRem
import Derived.Deep.DeepCutAuto
import Derived.Deep.CutBlock
namespace Go.Proofs.Ytcakdjnnfonijaa
open Go.RowKit

/-- Where a version is put. -/
noncomputable def insN (D : List (Rf × List Rf)) (v : Rf) : Nat := D.findIdx (fun x => !decide (cmpR x.1.1 v.1 x.1.2 v.2 < 0))
theorem insN_at {D : List (Rf × List Rf)} {v : Rf} {i : Nat} (hi : i < D.length) (h : ¬ cmpR D[i].1.1 v.1 D[i].1.2 v.2 < 0) (hb : ∀ k (hk : k < D.length), k < i → cmpR D[k].1.1 v.1 D[k].1.2 v.2 < 0) : insN D v = i := by
  unfold insN
  rw [List.findIdx_eq hi]
  exact ⟨by simpa using h, fun j hj => by simpa using hb j (by omega) hj⟩
theorem insN_end {D : List (Rf × List Rf)} {v : Rf} (hb : ∀ k (hk : k < D.length), cmpR D[k].1.1 v.1 D[k].1.2 v.2 < 0) : insN D v = D.length := by
  unfold insN
  rw [List.findIdx_eq_length]
  intro x hx
  obtain ⟨k, hk, rfl⟩ := List.mem_iff_getElem.1 hx
  simpa using hb k hk
noncomputable def insD (D : List (Rf × List Rf)) (v : Rf) (tg : List Rf) : List (Rf × List Rf) := D.take (insN D v) ++ (v, tg) :: D.drop (insN D v)
def DAddEnd (w : World) (U : Nat → Prop) (rb : Nat) (D : List (Rf × List Rf)) (v : Rf) (tg : List Rf) (e : Ending) (w' : World) : Prop :=
  e = .returned (.int .i64 (addR D v tg)) ∧ KeepA (fun k => k = rb) w w' ∧ (addR D v tg ≠ 0 → Below w.heap.size w w') ∧ (addR D v tg = 0 → DocS w' (fun k => U k ∨ Span w w' k) rb (insD D v tg))
set_option maxRecDepth 100000 in
set_option maxHeartbeats 8000000 in
theorem docadd_any (w : World) (U : Nat → Prop) (rb : Nat) (D : List (Rf × List Rf)) (h : DocS w U rb D) (hU : ¬ U rb) (hd : D.length ≤ 1000) (v : Rf) (a : Option Addr) (n cap : Nat) (tg : List Rf) (hl : tg.length = n) (hb : n ≤ 1000) (hr : RdRf w a tg) :
    Calls Try.prog 14 #[.pointer (some ⟨rb, 0, none⟩), .agg #[.string v.1, .int .i64 v.2], .slice a n cap] w (DAddEnd w U rb D v tg) := by
  obtain ⟨px, hpx⟩ : ∃ y, w.heap.size = y := ⟨_, rfl⟩
  obtain ⟨w1, hw1⟩ : ∃ y, w.alloc (.cells #[.string v.1, .int .i64 v.2] 25) = y := ⟨_, rfl⟩
  have hb1 : Below w.heap.size w w1 := by rw [← hw1]; exact below_alloc _
  have HP1 : Hid (RowAt w1 px 25 #[.string v.1, .int .i64 v.2]) := by rw [← hw1, ← hpx]; exact RowAt.new _ _ _
  have HB1 := Lib.hid hb1
  obtain ⟨gv, ls, hm⟩ := h
  have HM := Lib.hid hm
  have h1 : DocS w1 U rb D := ⟨gv, ls, hm.later hb1⟩
  have HRD := Lib.hid hr
  have HTL := Lib.hid hl
  obtain ⟨rr, hrr⟩ : ∃ b, rightR v = b := ⟨_, rfl⟩
  have HRR := Lib.hid hrr
  have HR : Hid (Calls Try.prog 33 #[.agg #[.string v.1, .int .i64 v.2]] w1 fun e w' => e = .returned (.bool rr) ∧ Below w1.heap.size w1 w') := by rw [← hrr]; exact docright_any v w1
  obtain ⟨e0, he0⟩ : ∃ e, tgt tg = e := ⟨_, rfl⟩
  have HE0 := Lib.hid he0
  have HTG : Hid (∀ W, Below w1.heap.size w1 W → Calls Try.prog 32 #[.slice a n cap] W fun e w' => e = .returned (.int .i64 e0) ∧ Below W.heap.size W w') := Lib.hid fun W hW => by rw [← he0]; exact doctgt_any a n cap tg W hl (by omega) (hr.later (below_trans hb1 hW))
  have HFI : Hid (∀ W, Below w1.heap.size w1 W → ∀ u : Rf, Calls Try.prog 12 #[.pointer (some ⟨rb, 0, none⟩), .agg #[.string u.1, .int .i64 u.2]] W fun e w' => e = .returned (.int .i64 (findR D u)) ∧ Below W.heap.size W w') := Lib.hid fun W hW u => docfind_any W U rb D (h1.later hW) hd u
  obtain ⟨K, hK⟩ : ∃ K, DAddEnd w U rb D v tg = K := ⟨_, rfl⟩
  have HKE : Hid (∀ z W, addR D v tg = z → z ≠ 0 → Below w1.heap.size w1 W → K (.returned (.int .i64 z)) W) := Lib.hid fun z W hz h0 hW => by
    rw [← hK]
    have hW := below_trans hb1 hW
    exact ⟨by rw [hz], KeepA.of_below hW, fun _ => hW, fun e => absurd (hz.symm.trans e) h0⟩
  have HKO : Hid (∀ W, addR D v tg = 0 → KeepA (fun k => k = rb) w W → DocS W (fun k => U k ∨ Span w W k) rb (insD D v tg) → K (.returned (.int .i64 0)) W) := Lib.hid fun W hz k1 k2 => by
    rw [← hK]
    exact ⟨by rw [hz], k1, fun e => absurd hz e, fun _ => k2⟩
  rw [hK]
  have HU := Lib.hid hU
  have HC1 : Hid (CellsAt w1 rfC px 0 v) := RowAt.rf HP1.out
  clear hb1 hK h1 hm hr hl hrr he0 hU
  go_enter Try.func14, Try.ntmps14
  cases rr with
  | false =>
    have HZ : Hid (addR D v tg = 2) := addR_arg HRR.out
    go_wp2_with (first
      | (refine step_loadRf rfl (.tmp 4) rfl HC1.out rfl ?_)
      | (go_at_call 33; refine HR.out.mono ?_; rintro _ w2 ⟨rfl, hb2⟩; have HB2 := Lib.hid hb2; clear hb2))
    exact HKE.out _ _ HZ.out (by decide) HB2.out
  | true =>
    by_cases he00 : e0 = 0
    · subst he00
      go_upto_region 6 with (first
        | (refine step_loadRf rfl (.tmp 4) rfl HC1.out rfl ?_)
        | (go_at_call 33; refine HR.out.mono ?_; rintro _ w2 ⟨rfl, hb2⟩; have HB2 := Lib.hid hb2; clear hb2)
        | (go_at_call 32; refine (HTG.out w2 HB2.out).mono ?_; rintro _ w3 ⟨rfl, hb3⟩; have HB3 := Lib.hid (below_trans HB2.out hb3); clear hb3))
      have HC3 : Hid (CellsAt w3 rfC px 0 v) := HC1.out.later HB3.out HP1.out.lt
      obtain ⟨i0, hi0⟩ : ∃ i, findR D v = i := ⟨_, rfl⟩
      have HI0 := Lib.hid hi0
      have HF0 : Hid (Calls Try.prog 12 #[.pointer (some ⟨rb, 0, none⟩), .agg #[.string v.1, .int .i64 v.2]] w3 fun e w' => e = .returned (.int .i64 i0) ∧ Below w3.heap.size w3 w') := by rw [← hi0]; exact HFI.out w3 HB3.out v
      clear hi0
      by_cases hneg : i0 < 0
      · have HV : Hid (memB v (D.map (·.1)) = false) := by
          rcases findR_in D v with ⟨-, e⟩ | ⟨i, hi, e1, -⟩
          · exact e
          · rw [HI0.out] at e1; omega
        have hge : ¬ i0 ≥ 0 := by omega
        go_upto_region 8 with (first
          | (refine step_loadRf rfl (.tmp 4) rfl HC3.out rfl ?_)
          | (go_at_call 12; refine HF0.out.mono ?_; rintro _ w4 ⟨rfl, hb4⟩; have HB4 := Lib.hid (below_trans HB3.out hb4); clear hb4))
        have HR4 : Hid (RdRf w4 a tg) := HRD.out.later (below_trans HB1.out HB4.out)
        go_upto_region 9 with fail
        go_loopw [8] (fun kv wr => ∃ k : Nat, kv = .int .i64 (k : Int) ∧ k ≤ n ∧ (∀ t ∈ tg.take k, memB t (D.map (·.1)) = true) ∧ Below w1.heap.size w1 wr) (fun kv _ => n - (intOf kv).toNat)
        case atStart => exact ⟨0, rfl, Nat.zero_le _, fun t ht => by simp at ht, HB4.out⟩
        case round =>
          obtain ⟨k, rfl, hk, hall, hbr⟩ := hrel
          have HALL := Lib.hid hall
          have HBR := Lib.hid hbr
          clear hall hbr
          by_cases hkn : k < n
          · as_aux_lemma =>
            have HRW := Lib.hid (HRD.out.later (below_trans HB1.out HBR.out))
            obtain ⟨tb, toff, hta, hcell⟩ := HRW.out.get k (by rw [HTL.out]; exact hkn)
            subst hta
            obtain ⟨t, ht⟩ : ∃ t, tg[k]'(by rw [HTL.out]; exact hkn) = t := ⟨_, rfl⟩
            rw [ht] at hcell
            have HT : Hid (∃ h : k < tg.length, tg[k] = t) := ⟨_, ht⟩
            have HCT := Lib.hid (hcell wr (Below.refl _ _))
            obtain ⟨i1, hi1⟩ : ∃ i, findR D t = i := ⟨_, rfl⟩
            have HI1 := Lib.hid hi1
            have HF1 : Hid (Calls Try.prog 12 #[.pointer (some ⟨rb, 0, none⟩), .agg #[.string t.1, .int .i64 t.2]] wr fun e w' => e = .returned (.int .i64 i1) ∧ Below wr.heap.size wr w') := by rw [← hi1]; exact HFI.out wr HBR.out t
            clear hcell ht hi1
            by_cases hneg1 : i1 < 0
            · have HZ : Hid (addR D v tg = 7) := by
                obtain ⟨h, e⟩ := HT.out
                rcases findR_in D t with ⟨-, e1⟩ | ⟨i, hi, e1, -⟩
                · exact addR_none HRR.out HE0.out HV.out (by rw [← e]; exact List.getElem_mem h) e1
                · rw [HI1.out] at e1; omega
              go_wp2_with (first
                | (refine step_loadRf rfl (.tmp 32) rfl HCT.out rfl ?_)
                | (go_at_call 12; refine HF1.out.mono ?_; rintro _ w5 ⟨rfl, hb5⟩; have HB5 := Lib.hid (below_trans HBR.out hb5); clear hb5))
              exact HKE.out _ _ HZ.out (by decide) HB5.out
            · have HALL2 : Hid (∀ u ∈ tg.take (k + 1), memB u (D.map (·.1)) = true) := Lib.hid fun u hu => by
                obtain ⟨h, e⟩ := HT.out
                rcases (mem_take_succ h u).1 hu with hu | hu
                · exact HALL.out u hu
                · rw [hu, e]
                  rcases findR_in D t with ⟨e1, -⟩ | ⟨i, hi, -, -, e1⟩
                  · rw [HI1.out] at e1; omega
                  · exact e1
              go_wp2_with (first
                | (refine step_loadRf rfl (.tmp 32) rfl HCT.out rfl ?_)
                | (go_at_call 12; refine HF1.out.mono ?_; rintro _ w5 ⟨rfl, hb5⟩; have HB5 := Lib.hid (below_trans HBR.out hb5); clear hb5))
              exact ⟨⟨k + 1, by go_num, hkn, HALL2.out, HB5.out⟩, by show n - ((k : Int) + 1).toNat < n - (k : Int).toNat; omega⟩
          · as_aux_lemma =>
            have hk' : n = k := by omega
            subst hk'
            have HZ : Hid (addR D v tg = 0) := addR_ok HRR.out HE0.out HV.out (fun t ht => HALL.out t (by rw [← HTL.out, List.take_length]; exact ht))
            clear HALL HR4 HB4
            go_upto_block 2 with fail
            obtain ⟨m, hmm⟩ : ∃ m, D.length = m := ⟨_, rfl⟩
            have HMM := Lib.hid hmm
            have HPL : Hid (∀ W, Below w1.heap.size w1 W → DocM W U rb gv ls D) := Lib.hid fun W hW => HM.out.later (below_trans HB1.out hW)
            have hpr := HPL.out wr HBR.out
            obtain ⟨la, lc, hgv⟩ : ∃ la lc, gv = .slice la m lc := by
              obtain ⟨a, c, b, off, e, -⟩ := hpr.view
              exact ⟨a, c, by rw [e, hmm]⟩
            subst hgv
            rw [hmm] at hd
            clear hmm hpr
            go_cut [9] (fun iv wx => ∃ p : Nat, iv = .int .i64 (p : Int) ∧ p ≤ m ∧ insN D v = p ∧ Below w1.heap.size w1 wx)
            case first =>
              go_wp2
              go_loopw [9] (fun iv wx => ∃ k : Nat, iv = .int .i64 (k : Int) ∧ k ≤ m ∧ (∀ j (hj : j < D.length), j < k → cmpR D[j].1.1 v.1 D[j].1.2 v.2 < 0) ∧ Below w1.heap.size w1 wx) (fun iv _ => m - (intOf iv).toNat)
              case atStart => exact ⟨0, rfl, Nat.zero_le _, fun j hj h => absurd h (Nat.not_lt_zero _), HBR.out⟩
              case round =>
                clear HBR
                obtain ⟨k, rfl, hk, hall, hbr⟩ := hrel
                rename World => wx
                have HALL := Lib.hid hall
                have HBR := Lib.hid hbr
                have hpx := HPL.out wx hbr
                clear hall hbr
                by_cases hkm : k < m
                · as_aux_lemma =>
                  have hkD : k < D.length := by rw [HMM.out]; exact hkm
                  rcases hpx.place with ⟨e1, e2⟩ | ⟨b, c, e1, -, -, -, -, hrows⟩
                  · rw [e2] at hkD
                    exact absurd hkD (by simp)
                  · obtain ⟨x, hx⟩ : ∃ x, D[k] = x := ⟨_, rfl⟩
                    have HX : Hid (∃ h : k < D.length, D[k] = x) := ⟨hkD, hx⟩
                    rw [HMM.out] at e1
                    simp only [Value.slice.injEq] at e1
                    obtain ⟨rfl, -, rfl⟩ := e1
                    have HCX : Hid (∀ W, Below wx.heap.size wx W → W.cell? ⟨rb, 0, none⟩ = some (.slice (some ⟨b, 0, none⟩) m lc) ∧ W.cell? ⟨b, k * 3, none⟩ = some (.string x.1.1) ∧ W.cell? ⟨b, k * 3 + 1, none⟩ = some (.int .i64 x.1.2) ∧ W.cell? ⟨px, 0, none⟩ = some (.string v.1) ∧ W.cell? ⟨px, 1, none⟩ = some (.int .i64 v.2)) := Lib.hid fun W hW => by
                      have hwx := HPL.out W (below_trans HBR.out hW)
                      obtain ⟨a2, c2, b2, off2, e, e2, e3⟩ := hwx.view
                      obtain ⟨ta, tc, e4⟩ := e3 k hkD
                      obtain ⟨e5, e6⟩ := e2 (by omega)
                      rw [HMM.out] at e
                      simp only [Value.slice.injEq] at e
                      obtain ⟨rfl, -, rfl⟩ := e
                      simp only [Option.some.injEq, Addr.mk.injEq] at e5
                      obtain ⟨rfl, rfl, -⟩ := e5
                      rw [hx] at e4
                      obtain ⟨c1, -, -⟩ := e4 W (Below.refl _ _)
                      obtain ⟨c1, c2⟩ := rf_cells c1
                      rw [Nat.zero_add] at c1 c2
                      have hrp := RowAt.below HP1.out (below_trans HBR.out hW)
                      exact ⟨hwx.box.cell 0, c1, c2, hrp.cell 0, hrp.cell 1⟩
                    have hS0 : wx.drew.cell? ⟨rb, 0, none⟩ = some (.slice (some ⟨b, 0, none⟩) m lc) ∧ wx.drew.cell? ⟨b, k * 3, none⟩ = some (.string x.1.1) ∧ wx.drew.cell? ⟨b, k * 3 + 1, none⟩ = some (.int .i64 x.1.2) ∧ wx.drew.cell? ⟨px, 0, none⟩ = some (.string v.1) ∧ wx.drew.cell? ⟨px, 1, none⟩ = some (.int .i64 v.2) := HCX.out _ (drewN_below (Below.refl _ wx) 1)
                    obtain ⟨cz, hcz⟩ : ∃ z, cmpR x.1.1 v.1 x.1.2 v.2 = z := ⟨_, rfl⟩
                    have HCZ := Lib.hid hcz
                    have HCM : Hid (Calls Try.prog 35 #[.agg #[.string x.1.1, .int .i64 x.1.2], .agg #[.string v.1, .int .i64 v.2]] wx.drew fun e w' => e = .returned (.int .i64 cz) ∧ Below wx.drew.heap.size wx.drew w') := by rw [← hcz]; exact doccmp_any _ _ _ _ _
                    have HKEEP : Hid (∀ W, Below wx.drew.heap.size wx.drew W → W.cell? ⟨rb, 0, none⟩ = some (.slice (some ⟨b, 0, none⟩) m lc) ∧ W.cell? ⟨b, k * 3, none⟩ = some (.string x.1.1) ∧ W.cell? ⟨b, k * 3 + 1, none⟩ = some (.int .i64 x.1.2) ∧ W.cell? ⟨px, 0, none⟩ = some (.string v.1) ∧ W.cell? ⟨px, 1, none⟩ = some (.int .i64 v.2)) := Lib.hid fun W hW => HCX.out W (below_trans (drewN_below (Below.refl _ wx) 1) hW)
                    clear hx hcz hrows hpx
                    by_cases hneg2 : cz < 0
                    · have HALL2 : Hid (∀ j (hj : j < D.length), j < k + 1 → cmpR D[j].1.1 v.1 D[j].1.2 v.2 < 0) := Lib.hid fun j hj hjk => by
                        obtain ⟨h, e⟩ := HX.out
                        by_cases hjk2 : j < k
                        · exact HALL.out j hj hjk2
                        · have : j = k := by omega
                          subst this
                          rw [e, HCZ.out]
                          exact hneg2
                      go_upto_region 14 with fail
                      refine wp_region_held_drew (S := fun W => W.cell? ⟨rb, 0, none⟩ = some (.slice (some ⟨b, 0, none⟩) m lc) ∧ W.cell? ⟨b, k * 3, none⟩ = some (.string x.1.1) ∧ W.cell? ⟨b, k * 3 + 1, none⟩ = some (.int .i64 x.1.2) ∧ W.cell? ⟨px, 0, none⟩ = some (.string v.1) ∧ W.cell? ⟨px, 1, none⟩ = some (.int .i64 v.2)) (by kernel_rfl) hS0 (fun hHeld => ?_)
                      refine wpAnyH_take (i := 0) (v := ?_) rfl (by kernel_rfl) (by kernel_rfl) (by kernel_rfl) (fun _ _ _ h => h) (Or.inl ⟨by rfl, ?_⟩) hHeld ?_
                      rotate_left
                      · intro w' hS'
                        (try dsimp only at hS')
                        go_simp
                        try with_reducible rfl
                      try simp only [List.getElem_toArray, List.getElem_cons_zero, Act.put, List.setIfInBounds_toArray, List.set_cons_zero, List.set_cons_succ]
                      refine wpAnyH_take (i := 1) (v := ?_) rfl (by kernel_rfl) (by kernel_rfl) (by kernel_rfl) (fun _ _ _ h => h) (Or.inl ⟨by rfl, ?_⟩) hHeld ?_
                      rotate_left
                      · intro w' hS'
                        (try dsimp only at hS')
                        go_simp
                        try with_reducible rfl
                      try simp only [List.getElem_toArray, List.getElem_cons_succ, List.getElem_cons_zero, Act.put, List.setIfInBounds_toArray, List.set_cons_zero, List.set_cons_succ]
                      refine wpAnyH_take (i := 2) (v := ?_) rfl (by kernel_rfl) (by kernel_rfl) (by kernel_rfl) (fun _ _ _ h => h) (Or.inl ⟨by rfl, ?_⟩) hHeld ?_
                      rotate_left
                      · intro w' hS'
                        (try dsimp only at hS')
                        go_simp
                        try with_reducible rfl
                      try simp only [List.getElem_toArray, List.getElem_cons_succ, List.getElem_cons_zero, Act.put, List.setIfInBounds_toArray, List.set_cons_zero, List.set_cons_succ]
                      refine wpAnyH_take (i := 3) (v := ?_) rfl (by kernel_rfl) (by kernel_rfl) (by kernel_rfl) (fun _ _ _ h => h) (Or.inl ⟨by rfl, ?_⟩) hHeld ?_
                      rotate_left
                      · intro w' hS'
                        (try dsimp only at hS')
                        go_simp
                        try with_reducible rfl
                      try simp only [List.getElem_toArray, List.getElem_cons_succ, List.getElem_cons_zero, Act.put, List.setIfInBounds_toArray, List.set_cons_zero, List.set_cons_succ]
                      refine wpAnyH_take (i := 4) (v := ?_) rfl (by kernel_rfl) (by kernel_rfl) (by kernel_rfl) (fun _ _ _ h => h) (Or.inl ⟨by rfl, ?_⟩) hHeld ?_
                      rotate_left
                      · intro w' hS'
                        (try dsimp only at hS')
                        go_simp
                        try with_reducible rfl
                      try simp only [List.getElem_toArray, List.getElem_cons_succ, List.getElem_cons_zero, Act.put, List.setIfInBounds_toArray, List.set_cons_zero, List.set_cons_succ]
                      refine wpAnyH_take (i := 5) (v := ?_) rfl (by kernel_rfl) (by kernel_rfl) (by kernel_rfl) (fun _ _ _ h => h) (Or.inl ⟨by rfl, ?_⟩) hHeld ?_
                      rotate_left
                      · intro w' hS'
                        (try dsimp only at hS')
                        go_simp
                        try with_reducible rfl
                      try simp only [List.getElem_toArray, List.getElem_cons_succ, List.getElem_cons_zero, Act.put, List.setIfInBounds_toArray, List.set_cons_zero, List.set_cons_succ]
                      refine wpAnyH_take (i := 6) (v := ?_) rfl (by kernel_rfl) (by kernel_rfl) (by kernel_rfl) (fun _ _ _ h => h) (Or.inl ⟨by rfl, ?_⟩) hHeld ?_
                      rotate_left
                      · intro w' hS'
                        (try dsimp only at hS')
                        go_simp
                        try with_reducible rfl
                      try simp only [List.getElem_toArray, List.getElem_cons_succ, List.getElem_cons_zero, Act.put, List.setIfInBounds_toArray, List.set_cons_zero, List.set_cons_succ]
                      refine wpAnyH_take (i := 7) (v := ?_) rfl (by kernel_rfl) (by kernel_rfl) (by kernel_rfl) (fun _ _ _ h => h) (Or.inl ⟨by rfl, ?_⟩) hHeld ?_
                      rotate_left
                      · intro w' hS'
                        (try dsimp only at hS')
                        go_simp
                        try with_reducible rfl
                      try simp only [List.getElem_toArray, List.getElem_cons_succ, List.getElem_cons_zero, Act.put, List.setIfInBounds_toArray, List.set_cons_zero, List.set_cons_succ]
                      refine wpAnyH_take (i := 8) (v := ?_) rfl (by kernel_rfl) (by kernel_rfl) (by kernel_rfl) (fun _ _ _ h => h) (Or.inl ⟨by rfl, ?_⟩) hHeld ?_
                      rotate_left
                      · intro w' hS'
                        (try dsimp only at hS')
                        go_simp
                        try with_reducible rfl
                      try simp only [List.getElem_toArray, List.getElem_cons_succ, List.getElem_cons_zero, Act.put, List.setIfInBounds_toArray, List.set_cons_zero, List.set_cons_succ]
                      refine wpAnyH_take (i := 9) (v := ?_) rfl (by kernel_rfl) (by kernel_rfl) (by kernel_rfl) (fun _ _ _ h => h) (Or.inl ⟨by rfl, ?_⟩) hHeld ?_
                      rotate_left
                      · intro w' hS'
                        (try dsimp only at hS')
                        go_simp
                        try with_reducible rfl
                      try simp only [List.getElem_toArray, List.getElem_cons_succ, List.getElem_cons_zero, Act.put, List.setIfInBounds_toArray, List.set_cons_zero, List.set_cons_succ]
                      refine wpAnyH_take (i := 10) (v := ?_) rfl (by kernel_rfl) (by kernel_rfl) (by kernel_rfl) (fun _ _ _ h => h) (Or.inl ⟨by rfl, ?_⟩) hHeld ?_
                      rotate_left
                      · intro w' hS'
                        (try dsimp only at hS')
                        go_simp
                        try with_reducible rfl
                      try simp only [List.getElem_toArray, List.getElem_cons_succ, List.getElem_cons_zero, Act.put, List.setIfInBounds_toArray, List.set_cons_zero, List.set_cons_succ]
                      refine wpAnyH_take (i := 11) (v := ?_) rfl (by kernel_rfl) (by kernel_rfl) (by kernel_rfl) (fun _ _ _ h => h) (Or.inl ⟨by rfl, ?_⟩) hHeld ?_
                      rotate_left
                      · intro w' hS'
                        (try dsimp only at hS')
                        go_simp
                        try with_reducible rfl
                      try simp only [List.getElem_toArray, List.getElem_cons_succ, List.getElem_cons_zero, Act.put, List.setIfInBounds_toArray, List.set_cons_zero, List.set_cons_succ]
                      refine wpAnyH_take (i := 12) (v := ?_) rfl (by kernel_rfl) (by kernel_rfl) (by kernel_rfl) (fun _ _ _ h => h) (Or.inl ⟨by rfl, ?_⟩) hHeld ?_
                      rotate_left
                      · intro w' hS'
                        (try dsimp only at hS')
                        go_simp
                        try with_reducible rfl
                      try simp only [List.getElem_toArray, List.getElem_cons_succ, List.getElem_cons_zero, Act.put, List.setIfInBounds_toArray, List.set_cons_zero, List.set_cons_succ]
                      refine wpAnyH_take (i := 13) (v := ?_) rfl (by kernel_rfl) (by kernel_rfl) (by kernel_rfl) (fun _ _ _ h => h) (Or.inl ⟨by rfl, ?_⟩) hHeld ?_
                      rotate_left
                      · intro w' hS'
                        (try dsimp only at hS')
                        go_simp
                        try with_reducible rfl
                      try simp only [List.getElem_toArray, List.getElem_cons_succ, List.getElem_cons_zero, Act.put, List.setIfInBounds_toArray, List.set_cons_zero, List.set_cons_succ]
                      refine wpAnyH_take (i := 14) (v := ?_) rfl (by kernel_rfl) (by kernel_rfl) (by kernel_rfl) (fun _ _ _ h => h) (Or.inl ⟨by rfl, ?_⟩) hHeld ?_
                      rotate_left
                      · intro w' hS'
                        (try dsimp only at hS')
                        go_simp
                        try with_reducible rfl
                      try simp only [List.getElem_toArray, List.getElem_cons_succ, List.getElem_cons_zero, Act.put, List.setIfInBounds_toArray, List.set_cons_zero, List.set_cons_succ]
                      refine wpAnyH_take (i := 15) (v := ?_) rfl (by kernel_rfl) (by kernel_rfl) (by kernel_rfl) (fun _ _ _ h => h) (Or.inl ⟨by rfl, ?_⟩) hHeld ?_
                      rotate_left
                      · intro w' hS'
                        (try dsimp only at hS')
                        go_simp
                        try with_reducible rfl
                      try simp only [List.getElem_toArray, List.getElem_cons_succ, List.getElem_cons_zero, Act.put, List.setIfInBounds_toArray, List.set_cons_zero, List.set_cons_succ]
                      refine wpAnyH_take (i := 16) (v := ?_) rfl (by kernel_rfl) (by kernel_rfl) (by kernel_rfl) (fun _ _ _ h => h) (Or.inl ⟨by rfl, ?_⟩) hHeld ?_
                      rotate_left
                      · intro w' hS'
                        (try dsimp only at hS')
                        go_simp
                        try with_reducible rfl
                      try simp only [List.getElem_toArray, List.getElem_cons_succ, List.getElem_cons_zero, Act.put, List.setIfInBounds_toArray, List.set_cons_zero, List.set_cons_succ]
                      refine wpAnyH_ready (rs := [17]) (by kernel_rfl) (by simp) (AllReadyH.cons rfl (fun K hK => ?_) AllReadyH.nil)
                      go_simp
                      go_wp2_with (go_at_call 35; refine HCM.out.mono ?_; rintro _ w4 ⟨rfl, hb4⟩; have HB4 := Lib.hid hb4; clear hb4)
                      refine hK.out _ _ (HKEEP.out _ HB4.out) (fun hHeld => ?_)
                      try simp only [List.getElem_toArray, List.getElem_cons_succ, List.getElem_cons_zero, Act.put, List.setIfInBounds_toArray, List.set_cons_zero, List.set_cons_succ]
                      clear hK K
                      refine wpAnyH_take (i := 18) (v := ?_) rfl (by kernel_rfl) (by kernel_rfl) (by kernel_rfl) (fun _ _ _ h => h) (Or.inl ⟨by rfl, ?_⟩) hHeld ?_
                      rotate_left
                      · intro w' hS'
                        (try dsimp only at hS')
                        go_simp
                        try with_reducible rfl
                      try simp only [List.getElem_toArray, List.getElem_cons_succ, List.getElem_cons_zero, Act.put, List.setIfInBounds_toArray, List.set_cons_zero, List.set_cons_succ]
                      refine wpAnyH_take (i := 19) (v := ?_) rfl (by kernel_rfl) (by kernel_rfl) (by kernel_rfl) (fun _ _ _ h => h) (Or.inl ⟨by rfl, ?_⟩) hHeld ?_
                      rotate_left
                      · intro w' hS'
                        (try dsimp only at hS')
                        go_simp
                        try with_reducible rfl
                      try simp only [List.getElem_toArray, List.getElem_cons_succ, List.getElem_cons_zero, Act.put, List.setIfInBounds_toArray, List.set_cons_zero, List.set_cons_succ]
                      refine wpAnyH_done (by kernel_rfl) ?_ _
                      go_wp2
                      exact ⟨⟨k + 1, by go_num, hkm, HALL2.out, below_trans (drewN_below HBR.out 1) HB4.out⟩, by show m - ((k : Int) + 1).toNat < m - (k : Int).toNat; omega⟩
                    · have HIN : Hid (insN D v = k) := by
                        obtain ⟨h, e⟩ := HX.out
                        exact insN_at h (by rw [e, HCZ.out]; exact hneg2) HALL.out
                      go_upto_region 14 with fail
                      refine wp_region_held_drew (S := fun W => W.cell? ⟨rb, 0, none⟩ = some (.slice (some ⟨b, 0, none⟩) m lc) ∧ W.cell? ⟨b, k * 3, none⟩ = some (.string x.1.1) ∧ W.cell? ⟨b, k * 3 + 1, none⟩ = some (.int .i64 x.1.2) ∧ W.cell? ⟨px, 0, none⟩ = some (.string v.1) ∧ W.cell? ⟨px, 1, none⟩ = some (.int .i64 v.2)) (by kernel_rfl) hS0 (fun hHeld => ?_)
                      refine wpAnyH_take (i := 0) (v := ?_) rfl (by kernel_rfl) (by kernel_rfl) (by kernel_rfl) (fun _ _ _ h => h) (Or.inl ⟨by rfl, ?_⟩) hHeld ?_
                      rotate_left
                      · intro w' hS'
                        (try dsimp only at hS')
                        go_simp
                        try with_reducible rfl
                      try simp only [List.getElem_toArray, List.getElem_cons_zero, Act.put, List.setIfInBounds_toArray, List.set_cons_zero, List.set_cons_succ]
                      refine wpAnyH_take (i := 1) (v := ?_) rfl (by kernel_rfl) (by kernel_rfl) (by kernel_rfl) (fun _ _ _ h => h) (Or.inl ⟨by rfl, ?_⟩) hHeld ?_
                      rotate_left
                      · intro w' hS'
                        (try dsimp only at hS')
                        go_simp
                        try with_reducible rfl
                      try simp only [List.getElem_toArray, List.getElem_cons_succ, List.getElem_cons_zero, Act.put, List.setIfInBounds_toArray, List.set_cons_zero, List.set_cons_succ]
                      refine wpAnyH_take (i := 2) (v := ?_) rfl (by kernel_rfl) (by kernel_rfl) (by kernel_rfl) (fun _ _ _ h => h) (Or.inl ⟨by rfl, ?_⟩) hHeld ?_
                      rotate_left
                      · intro w' hS'
                        (try dsimp only at hS')
                        go_simp
                        try with_reducible rfl
                      try simp only [List.getElem_toArray, List.getElem_cons_succ, List.getElem_cons_zero, Act.put, List.setIfInBounds_toArray, List.set_cons_zero, List.set_cons_succ]
                      refine wpAnyH_take (i := 3) (v := ?_) rfl (by kernel_rfl) (by kernel_rfl) (by kernel_rfl) (fun _ _ _ h => h) (Or.inl ⟨by rfl, ?_⟩) hHeld ?_
                      rotate_left
                      · intro w' hS'
                        (try dsimp only at hS')
                        go_simp
                        try with_reducible rfl
                      try simp only [List.getElem_toArray, List.getElem_cons_succ, List.getElem_cons_zero, Act.put, List.setIfInBounds_toArray, List.set_cons_zero, List.set_cons_succ]
                      refine wpAnyH_take (i := 4) (v := ?_) rfl (by kernel_rfl) (by kernel_rfl) (by kernel_rfl) (fun _ _ _ h => h) (Or.inl ⟨by rfl, ?_⟩) hHeld ?_
                      rotate_left
                      · intro w' hS'
                        (try dsimp only at hS')
                        go_simp
                        try with_reducible rfl
                      try simp only [List.getElem_toArray, List.getElem_cons_succ, List.getElem_cons_zero, Act.put, List.setIfInBounds_toArray, List.set_cons_zero, List.set_cons_succ]
                      refine wpAnyH_take (i := 5) (v := ?_) rfl (by kernel_rfl) (by kernel_rfl) (by kernel_rfl) (fun _ _ _ h => h) (Or.inl ⟨by rfl, ?_⟩) hHeld ?_
                      rotate_left
                      · intro w' hS'
                        (try dsimp only at hS')
                        go_simp
                        try with_reducible rfl
                      try simp only [List.getElem_toArray, List.getElem_cons_succ, List.getElem_cons_zero, Act.put, List.setIfInBounds_toArray, List.set_cons_zero, List.set_cons_succ]
                      refine wpAnyH_take (i := 6) (v := ?_) rfl (by kernel_rfl) (by kernel_rfl) (by kernel_rfl) (fun _ _ _ h => h) (Or.inl ⟨by rfl, ?_⟩) hHeld ?_
                      rotate_left
                      · intro w' hS'
                        (try dsimp only at hS')
                        go_simp
                        try with_reducible rfl
                      try simp only [List.getElem_toArray, List.getElem_cons_succ, List.getElem_cons_zero, Act.put, List.setIfInBounds_toArray, List.set_cons_zero, List.set_cons_succ]
                      refine wpAnyH_take (i := 7) (v := ?_) rfl (by kernel_rfl) (by kernel_rfl) (by kernel_rfl) (fun _ _ _ h => h) (Or.inl ⟨by rfl, ?_⟩) hHeld ?_
                      rotate_left
                      · intro w' hS'
                        (try dsimp only at hS')
                        go_simp
                        try with_reducible rfl
                      try simp only [List.getElem_toArray, List.getElem_cons_succ, List.getElem_cons_zero, Act.put, List.setIfInBounds_toArray, List.set_cons_zero, List.set_cons_succ]
                      refine wpAnyH_take (i := 8) (v := ?_) rfl (by kernel_rfl) (by kernel_rfl) (by kernel_rfl) (fun _ _ _ h => h) (Or.inl ⟨by rfl, ?_⟩) hHeld ?_
                      rotate_left
                      · intro w' hS'
                        (try dsimp only at hS')
                        go_simp
                        try with_reducible rfl
                      try simp only [List.getElem_toArray, List.getElem_cons_succ, List.getElem_cons_zero, Act.put, List.setIfInBounds_toArray, List.set_cons_zero, List.set_cons_succ]
                      refine wpAnyH_take (i := 9) (v := ?_) rfl (by kernel_rfl) (by kernel_rfl) (by kernel_rfl) (fun _ _ _ h => h) (Or.inl ⟨by rfl, ?_⟩) hHeld ?_
                      rotate_left
                      · intro w' hS'
                        (try dsimp only at hS')
                        go_simp
                        try with_reducible rfl
                      try simp only [List.getElem_toArray, List.getElem_cons_succ, List.getElem_cons_zero, Act.put, List.setIfInBounds_toArray, List.set_cons_zero, List.set_cons_succ]
                      refine wpAnyH_take (i := 10) (v := ?_) rfl (by kernel_rfl) (by kernel_rfl) (by kernel_rfl) (fun _ _ _ h => h) (Or.inl ⟨by rfl, ?_⟩) hHeld ?_
                      rotate_left
                      · intro w' hS'
                        (try dsimp only at hS')
                        go_simp
                        try with_reducible rfl
                      try simp only [List.getElem_toArray, List.getElem_cons_succ, List.getElem_cons_zero, Act.put, List.setIfInBounds_toArray, List.set_cons_zero, List.set_cons_succ]
                      refine wpAnyH_take (i := 11) (v := ?_) rfl (by kernel_rfl) (by kernel_rfl) (by kernel_rfl) (fun _ _ _ h => h) (Or.inl ⟨by rfl, ?_⟩) hHeld ?_
                      rotate_left
                      · intro w' hS'
                        (try dsimp only at hS')
                        go_simp
                        try with_reducible rfl
                      try simp only [List.getElem_toArray, List.getElem_cons_succ, List.getElem_cons_zero, Act.put, List.setIfInBounds_toArray, List.set_cons_zero, List.set_cons_succ]
                      refine wpAnyH_take (i := 12) (v := ?_) rfl (by kernel_rfl) (by kernel_rfl) (by kernel_rfl) (fun _ _ _ h => h) (Or.inl ⟨by rfl, ?_⟩) hHeld ?_
                      rotate_left
                      · intro w' hS'
                        (try dsimp only at hS')
                        go_simp
                        try with_reducible rfl
                      try simp only [List.getElem_toArray, List.getElem_cons_succ, List.getElem_cons_zero, Act.put, List.setIfInBounds_toArray, List.set_cons_zero, List.set_cons_succ]
                      refine wpAnyH_take (i := 13) (v := ?_) rfl (by kernel_rfl) (by kernel_rfl) (by kernel_rfl) (fun _ _ _ h => h) (Or.inl ⟨by rfl, ?_⟩) hHeld ?_
                      rotate_left
                      · intro w' hS'
                        (try dsimp only at hS')
                        go_simp
                        try with_reducible rfl
                      try simp only [List.getElem_toArray, List.getElem_cons_succ, List.getElem_cons_zero, Act.put, List.setIfInBounds_toArray, List.set_cons_zero, List.set_cons_succ]
                      refine wpAnyH_take (i := 14) (v := ?_) rfl (by kernel_rfl) (by kernel_rfl) (by kernel_rfl) (fun _ _ _ h => h) (Or.inl ⟨by rfl, ?_⟩) hHeld ?_
                      rotate_left
                      · intro w' hS'
                        (try dsimp only at hS')
                        go_simp
                        try with_reducible rfl
                      try simp only [List.getElem_toArray, List.getElem_cons_succ, List.getElem_cons_zero, Act.put, List.setIfInBounds_toArray, List.set_cons_zero, List.set_cons_succ]
                      refine wpAnyH_take (i := 15) (v := ?_) rfl (by kernel_rfl) (by kernel_rfl) (by kernel_rfl) (fun _ _ _ h => h) (Or.inl ⟨by rfl, ?_⟩) hHeld ?_
                      rotate_left
                      · intro w' hS'
                        (try dsimp only at hS')
                        go_simp
                        try with_reducible rfl
                      try simp only [List.getElem_toArray, List.getElem_cons_succ, List.getElem_cons_zero, Act.put, List.setIfInBounds_toArray, List.set_cons_zero, List.set_cons_succ]
                      refine wpAnyH_take (i := 16) (v := ?_) rfl (by kernel_rfl) (by kernel_rfl) (by kernel_rfl) (fun _ _ _ h => h) (Or.inl ⟨by rfl, ?_⟩) hHeld ?_
                      rotate_left
                      · intro w' hS'
                        (try dsimp only at hS')
                        go_simp
                        try with_reducible rfl
                      try simp only [List.getElem_toArray, List.getElem_cons_succ, List.getElem_cons_zero, Act.put, List.setIfInBounds_toArray, List.set_cons_zero, List.set_cons_succ]
                      refine wpAnyH_ready (rs := [17]) (by kernel_rfl) (by simp) (AllReadyH.cons rfl (fun K hK => ?_) AllReadyH.nil)
                      go_simp
                      go_wp2_with (go_at_call 35; refine HCM.out.mono ?_; rintro _ w4 ⟨rfl, hb4⟩; have HB4 := Lib.hid hb4; clear hb4)
                      refine hK.out _ _ (HKEEP.out _ HB4.out) (fun hHeld => ?_)
                      try simp only [List.getElem_toArray, List.getElem_cons_succ, List.getElem_cons_zero, Act.put, List.setIfInBounds_toArray, List.set_cons_zero, List.set_cons_succ]
                      clear hK K
                      refine wpAnyH_take (i := 18) (v := ?_) rfl (by kernel_rfl) (by kernel_rfl) (by kernel_rfl) (fun _ _ _ h => h) (Or.inl ⟨by rfl, ?_⟩) hHeld ?_
                      rotate_left
                      · intro w' hS'
                        (try dsimp only at hS')
                        go_simp
                        try with_reducible rfl
                      try simp only [List.getElem_toArray, List.getElem_cons_succ, List.getElem_cons_zero, Act.put, List.setIfInBounds_toArray, List.set_cons_zero, List.set_cons_succ]
                      refine wpAnyH_take (i := 19) (v := ?_) rfl (by kernel_rfl) (by kernel_rfl) (by kernel_rfl) (fun _ _ _ h => h) (Or.inl ⟨by rfl, ?_⟩) hHeld ?_
                      rotate_left
                      · intro w' hS'
                        (try dsimp only at hS')
                        go_simp
                        try with_reducible rfl
                      try simp only [List.getElem_toArray, List.getElem_cons_succ, List.getElem_cons_zero, Act.put, List.setIfInBounds_toArray, List.set_cons_zero, List.set_cons_succ]
                      refine wpAnyH_done (by kernel_rfl) ?_ _
                      go_wp2
                      go_meet
                      exact ⟨k, rfl, hk, HIN.out, below_trans (drewN_below HBR.out 1) HB4.out⟩
                · as_aux_lemma =>
                  have hk' : k = m := by omega
                  subst hk'
                  have HIN : Hid (insN D v = k) := by
                    show _ = _
                    rw [insN_end fun j hj => HALL.out j hj (by rw [← HMM.out]; exact hj), HMM.out]
                  have hS0 : wx.drew.cell? ⟨rb, 0, none⟩ = some (.slice la k lc) := hpx.box.cell 0
                  clear hpx
                  go_upto_region 14 with fail
                  refine wp_region_held_drew (S := fun W => W.cell? ⟨rb, 0, none⟩ = some (.slice la k lc)) (by kernel_rfl) hS0 (fun hHeld => ?_)
                  refine wpAnyH_take (i := 0) (v := ?_) rfl (by kernel_rfl) (by kernel_rfl) (by kernel_rfl) (fun _ _ _ h => h) (Or.inl ⟨by rfl, ?_⟩) hHeld ?_
                  rotate_left
                  · intro w' hS'
                    (try dsimp only at hS')
                    go_simp
                    try with_reducible rfl
                  try simp only [List.getElem_toArray, List.getElem_cons_zero, Act.put, List.setIfInBounds_toArray, List.set_cons_zero, List.set_cons_succ]
                  refine wpAnyH_take (i := 1) (v := ?_) rfl (by kernel_rfl) (by kernel_rfl) (by kernel_rfl) (fun _ _ _ h => h) (Or.inl ⟨by rfl, ?_⟩) hHeld ?_
                  rotate_left
                  · intro w' hS'
                    (try dsimp only at hS')
                    go_simp
                    try with_reducible rfl
                  try simp only [List.getElem_toArray, List.getElem_cons_succ, List.getElem_cons_zero, Act.put, List.setIfInBounds_toArray, List.set_cons_zero, List.set_cons_succ]
                  refine wpAnyH_take (i := 2) (v := ?_) rfl (by kernel_rfl) (by kernel_rfl) (by kernel_rfl) (fun _ _ _ h => h) (Or.inl ⟨by rfl, ?_⟩) hHeld ?_
                  rotate_left
                  · intro w' hS'
                    (try dsimp only at hS')
                    go_simp
                    try with_reducible rfl
                  try simp only [List.getElem_toArray, List.getElem_cons_succ, List.getElem_cons_zero, Act.put, List.setIfInBounds_toArray, List.set_cons_zero, List.set_cons_succ]
                  refine wpAnyH_take (i := 3) (v := ?_) rfl (by kernel_rfl) (by kernel_rfl) (by kernel_rfl) (fun _ _ _ h => h) (Or.inl ⟨by rfl, ?_⟩) hHeld ?_
                  rotate_left
                  · intro w' hS'
                    (try dsimp only at hS')
                    go_simp
                    try with_reducible rfl
                  try simp only [List.getElem_toArray, List.getElem_cons_succ, List.getElem_cons_zero, Act.put, List.setIfInBounds_toArray, List.set_cons_zero, List.set_cons_succ]
                  refine wpAnyH_take (i := 4) (v := ?_) rfl (by kernel_rfl) (by kernel_rfl) (by kernel_rfl) (fun _ _ _ h => h) (Or.inl ⟨by rfl, ?_⟩) hHeld ?_
                  rotate_left
                  · intro w' hS'
                    (try dsimp only at hS')
                    go_simp
                    try with_reducible rfl
                  try simp only [List.getElem_toArray, List.getElem_cons_succ, List.getElem_cons_zero, Act.put, List.setIfInBounds_toArray, List.set_cons_zero, List.set_cons_succ]
                  refine wpAnyH_take (i := 5) (v := ?_) rfl (by kernel_rfl) (by kernel_rfl) (by kernel_rfl) (fun _ _ _ h => h) (Or.inl ⟨by rfl, ?_⟩) hHeld ?_
                  rotate_left
                  · intro w' hS'
                    (try dsimp only at hS')
                    go_simp
                    try with_reducible rfl
                  try simp only [List.getElem_toArray, List.getElem_cons_succ, List.getElem_cons_zero, Act.put, List.setIfInBounds_toArray, List.set_cons_zero, List.set_cons_succ]
                  refine wpAnyH_take (i := 6) (v := ?_) rfl (by kernel_rfl) (by kernel_rfl) (by kernel_rfl) (fun _ _ _ h => h) (Or.inl ⟨by rfl, ?_⟩) hHeld ?_
                  rotate_left
                  · intro w' hS'
                    (try dsimp only at hS')
                    go_simp
                    try with_reducible rfl
                  try simp only [List.getElem_toArray, List.getElem_cons_succ, List.getElem_cons_zero, Act.put, List.setIfInBounds_toArray, List.set_cons_zero, List.set_cons_succ]
                  refine wpAnyH_take (i := 7) (v := ?_) rfl (by kernel_rfl) (by kernel_rfl) (by kernel_rfl) (fun _ _ _ h => h) (Or.inl ⟨by rfl, ?_⟩) hHeld ?_
                  rotate_left
                  · intro w' hS'
                    (try dsimp only at hS')
                    go_simp
                    try with_reducible rfl
                  try simp only [List.getElem_toArray, List.getElem_cons_succ, List.getElem_cons_zero, Act.put, List.setIfInBounds_toArray, List.set_cons_zero, List.set_cons_succ]
                  refine wpAnyH_take (i := 8) (v := undef) rfl (by kernel_rfl) (by kernel_rfl) (by kernel_rfl) (fun _ _ _ h => h) (Or.inr ⟨by rfl, rfl⟩) hHeld ?_
                  try simp only [List.getElem_toArray, List.getElem_cons_succ, List.getElem_cons_zero, Act.put, List.setIfInBounds_toArray, List.set_cons_zero, List.set_cons_succ]
                  refine wpAnyH_take (i := 9) (v := undef) rfl (by kernel_rfl) (by kernel_rfl) (by kernel_rfl) (fun _ _ _ h => h) (Or.inr ⟨by rfl, rfl⟩) hHeld ?_
                  try simp only [List.getElem_toArray, List.getElem_cons_succ, List.getElem_cons_zero, Act.put, List.setIfInBounds_toArray, List.set_cons_zero, List.set_cons_succ]
                  refine wpAnyH_take (i := 10) (v := undef) rfl (by kernel_rfl) (by kernel_rfl) (by kernel_rfl) (fun _ _ _ h => h) (Or.inr ⟨by rfl, rfl⟩) hHeld ?_
                  try simp only [List.getElem_toArray, List.getElem_cons_succ, List.getElem_cons_zero, Act.put, List.setIfInBounds_toArray, List.set_cons_zero, List.set_cons_succ]
                  refine wpAnyH_take (i := 11) (v := undef) rfl (by kernel_rfl) (by kernel_rfl) (by kernel_rfl) (fun _ _ _ h => h) (Or.inr ⟨by rfl, rfl⟩) hHeld ?_
                  try simp only [List.getElem_toArray, List.getElem_cons_succ, List.getElem_cons_zero, Act.put, List.setIfInBounds_toArray, List.set_cons_zero, List.set_cons_succ]
                  refine wpAnyH_take (i := 12) (v := undef) rfl (by kernel_rfl) (by kernel_rfl) (by kernel_rfl) (fun _ _ _ h => h) (Or.inr ⟨by rfl, rfl⟩) hHeld ?_
                  try simp only [List.getElem_toArray, List.getElem_cons_succ, List.getElem_cons_zero, Act.put, List.setIfInBounds_toArray, List.set_cons_zero, List.set_cons_succ]
                  refine wpAnyH_take (i := 13) (v := undef) rfl (by kernel_rfl) (by kernel_rfl) (by kernel_rfl) (fun _ _ _ h => h) (Or.inr ⟨by rfl, rfl⟩) hHeld ?_
                  try simp only [List.getElem_toArray, List.getElem_cons_succ, List.getElem_cons_zero, Act.put, List.setIfInBounds_toArray, List.set_cons_zero, List.set_cons_succ]
                  refine wpAnyH_take (i := 14) (v := undef) rfl (by kernel_rfl) (by kernel_rfl) (by kernel_rfl) (fun _ _ _ h => h) (Or.inr ⟨by rfl, rfl⟩) hHeld ?_
                  try simp only [List.getElem_toArray, List.getElem_cons_succ, List.getElem_cons_zero, Act.put, List.setIfInBounds_toArray, List.set_cons_zero, List.set_cons_succ]
                  refine wpAnyH_take (i := 15) (v := undef) rfl (by kernel_rfl) (by kernel_rfl) (by kernel_rfl) (fun _ _ _ h => h) (Or.inr ⟨by rfl, rfl⟩) hHeld ?_
                  try simp only [List.getElem_toArray, List.getElem_cons_succ, List.getElem_cons_zero, Act.put, List.setIfInBounds_toArray, List.set_cons_zero, List.set_cons_succ]
                  refine wpAnyH_take (i := 16) (v := undef) rfl (by kernel_rfl) (by kernel_rfl) (by kernel_rfl) (fun _ _ _ h => h) (Or.inr ⟨by rfl, rfl⟩) hHeld ?_
                  try simp only [List.getElem_toArray, List.getElem_cons_succ, List.getElem_cons_zero, Act.put, List.setIfInBounds_toArray, List.set_cons_zero, List.set_cons_succ]
                  refine wpAnyH_take (i := 17) (v := undef) rfl (by kernel_rfl) (by kernel_rfl) (by kernel_rfl) (fun _ _ _ h => h) (Or.inr ⟨by rfl, rfl⟩) hHeld ?_
                  try simp only [List.getElem_toArray, List.getElem_cons_succ, List.getElem_cons_zero, Act.put, List.setIfInBounds_toArray, List.set_cons_zero, List.set_cons_succ]
                  refine wpAnyH_take (i := 18) (v := undef) rfl (by kernel_rfl) (by kernel_rfl) (by kernel_rfl) (fun _ _ _ h => h) (Or.inr ⟨by rfl, rfl⟩) hHeld ?_
                  try simp only [List.getElem_toArray, List.getElem_cons_succ, List.getElem_cons_zero, Act.put, List.setIfInBounds_toArray, List.set_cons_zero, List.set_cons_succ]
                  refine wpAnyH_take (i := 19) (v := ?_) rfl (by kernel_rfl) (by kernel_rfl) (by kernel_rfl) (fun _ _ _ h => h) (Or.inl ⟨by rfl, ?_⟩) hHeld ?_
                  rotate_left
                  · intro w' hS'
                    (try dsimp only at hS')
                    go_simp
                    try with_reducible rfl
                  try simp only [List.getElem_toArray, List.getElem_cons_succ, List.getElem_cons_zero, Act.put, List.setIfInBounds_toArray, List.set_cons_zero, List.set_cons_succ]
                  refine wpAnyH_done (by kernel_rfl) ?_ _
                  go_wp2
                  go_meet
                  exact ⟨k, rfl, Nat.le_refl _, HIN.out, drewN_below HBR.out 1⟩
            case rest =>
              obtain ⟨p, rfl, hp, hin, hbc⟩ := hcut
              have HIN := Lib.hid hin
              have HBC := Lib.hid hbc
              have HB0C := Lib.hid (below_trans HB1.out hbc)
              have hmc := HPL.out wc hbc
              have hll : ls.length = m := by rw [← HMM.out, ← HM.out.pl]; simp [plainL]
              have HLL := Lib.hid hll
              have HBXC := Lib.hid hmc.box
              rcases hmc.place with ⟨e1, e2⟩ | ⟨b, c, e1, hnc, hcm, hbl, -, hrows⟩
              · as_aux_lemma =>
                simp only [Value.slice.injEq] at e1
                obtain ⟨rfl, rfl, rfl⟩ := e1
                have hp0 : p = 0 := by omega
                subst hp0
                have hl0 : ls = [] := List.eq_nil_of_length_eq_zero hll
                have HL1 : Hid ((ls.take 0).length = 0) := by show _ = _; rw [List.take_zero]; rfl
                have HD0 : Hid (ls.drop 0 = []) := by rw [hl0]; rfl
                have HL0 : Hid ((ls.drop 0).length = 0) := by show _ = _; rw [HD0.out]; rfl
                have HSZ1 : Hid ((ls.take 0).length ≤ 1000000) := by show _ ≤ _; rw [HL1.out]; omega
                have HSZ2 : Hid (∀ r : Lk, ([] ++ ls.take 0 ++ [r]).length ≤ 1000000) := Lib.hid fun r => by rw [List.nil_append, List.length_append, List.length_singleton, HL1.out]; omega
                have HR1 : Hid (RowsAt wc none 3 (ls.take 0) (CellsAt wc lkC)) := .inl (by rw [List.take_zero])
                have hcc := HBXC.out.cell 0
                clear hin hbc hmc hll e2 hl0
                go_upto_region 17 with (refine step_appendLk rfl (.const (.slice none 0 0)) (.tmp 63) rfl (.slice none 0 0) [] rfl _ 0 _ (ls.take 0) HL1.out rfl (OwnLk.nil _) HR1.out (by simp) (by omega) ?_; intro v5 w5 ho5 hg5 hn5; obtain ⟨a5, c5, hv5, -⟩ := ho5.rd; rw [List.nil_append, HL1.out] at hv5; subst hv5; have HO5 := Lib.hid ho5; have HG5 := Lib.hid hg5; have HN5 := Lib.hid hn5; clear ho5 hg5 hn5)
                have HBCC : Hid (Below wc.heap.size wc w5) := below_grown (Below.refl _ _) HG5.out (Nat.le_refl _) (fun k e => by simp [Value.ownBlock] at e)
                have HLOW5 : Hid (∀ g, (Value.slice a5 0 c5).ownBlock = some g → wc.heap.size ≤ g) := fun g hg => by
                  rcases HN5.out g hg with e | e
                  · simp [Value.ownBlock] at e
                  · exact e
                have HPXL : Hid (px < wc.heap.size) := Nat.lt_of_lt_of_le HP1.out.lt HBC.out.size
                have HB05 : Hid (Below w.heap.size w w5) := below_trans HB0C.out HBCC.out
                have HP5 : Hid (RowAt w5.drew px 25 #[.string v.1, .int .i64 v.2]) := RowAt.below HP1.out (below_trans HBC.out (drewN_below HBCC.out 1))
                have HRD5 : Hid (RdRf w5.drew a tg) := HRD.out.later (below_trans HB0C.out (drewN_below HBCC.out 1))
                have HC7 : Hid (∀ (W : World) (G : Nat) (ta : Option Addr) (tc : Nat), RowAt W G 28 #[.string v.1, .int .i64 v.2, .slice ta n tc] → CellsAt W lkC G 0 ⟨v, ta, tg, tc⟩) := Lib.hid fun W G ta tc hr j u hu => by
                  have hu2 : [Value.string v.1, .int .i64 v.2, .slice ta n tc][j]? = some u := by rw [← hu, ← HTL.out]; rfl
                  rw [Nat.zero_add]
                  match j, hu2 with
                  | 0, hu2 => exact (hr.cell 0).trans (by rw [← hu2]; rfl)
                  | 1, hu2 => exact (hr.cell 1).trans (by rw [← hu2]; rfl)
                  | 2, hu2 => exact (hr.cell 2).trans (by rw [← hu2]; rfl)
                have hS0 : w5.drew.cell? ⟨px, 0, none⟩ = some (.string v.1) ∧ w5.drew.cell? ⟨px, 1, none⟩ = some (.int .i64 v.2) := ⟨HP5.out.cell 0, HP5.out.cell 1⟩
                refine wp_region_held_drew (S := fun W => W.cell? ⟨px, 0, none⟩ = some (.string v.1) ∧ W.cell? ⟨px, 1, none⟩ = some (.int .i64 v.2)) (by kernel_rfl) hS0 (fun hHeld => ?_)
                refine wpAnyH_take (i := 0) (v := ?_) rfl (by kernel_rfl) (by kernel_rfl) (by kernel_rfl) (fun _ _ _ h => h) (Or.inl ⟨by rfl, ?_⟩) hHeld ?_
                rotate_left
                · intro w' hS'
                  (try dsimp only at hS')
                  go_simp
                  try with_reducible rfl
                try simp only [List.getElem_toArray, List.getElem_cons_zero, Act.put, List.setIfInBounds_toArray, List.set_cons_zero, List.set_cons_succ]
                refine wpAnyH_take (i := 1) (v := ?_) rfl (by kernel_rfl) (by kernel_rfl) (by kernel_rfl) (fun _ _ _ h => h) (Or.inl ⟨by rfl, ?_⟩) hHeld ?_
                rotate_left
                · intro w' hS'
                  (try dsimp only at hS')
                  go_simp
                  try with_reducible rfl
                try simp only [List.getElem_toArray, List.getElem_cons_succ, List.getElem_cons_zero, Act.put, List.setIfInBounds_toArray, List.set_cons_zero, List.set_cons_succ]
                refine wpAnyH_take (i := 2) (v := ?_) rfl (by kernel_rfl) (by kernel_rfl) (by kernel_rfl) (fun _ _ _ h => h) (Or.inl ⟨by rfl, ?_⟩) hHeld ?_
                rotate_left
                · intro w' hS'
                  (try dsimp only at hS')
                  go_simp
                  try with_reducible rfl
                try simp only [List.getElem_toArray, List.getElem_cons_succ, List.getElem_cons_zero, Act.put, List.setIfInBounds_toArray, List.set_cons_zero, List.set_cons_succ]
                refine wpAnyH_ready (rs := [3]) (by kernel_rfl) (by simp) (AllReadyH.cons rfl (fun K hK => ?_) AllReadyH.nil)
                rw [if_pos (by rfl)]
                refine wp_copyRf (.const (.slice none 0 0)) (.tmp 67) rfl rfl a n cap tg HTL.out rfl HRD5.out (by omega) ?_
                intro ta tc w6 q1 q2 q3
                have HO6 := Lib.hid q1
                have HG6 := Lib.hid q2
                have HN6 := Lib.hid q3
                have hB6 : Below w5.drew.heap.size w5.drew w6 := below_grown (Below.refl _ _) q2 (Nat.le_refl _) (fun g e => by cases e)
                have HB6 := Lib.hid hB6
                have hs6 : w6.cell? ⟨px, 0, none⟩ = some (.string v.1) ∧ w6.cell? ⟨px, 1, none⟩ = some (.int .i64 v.2) := ⟨(RowAt.below HP5.out hB6).cell 0, (RowAt.below HP5.out hB6).cell 1⟩
                clear q1 q2 q3 hB6
                refine hK.out _ _ hs6 (fun hHeld => ?_)
                clear hK K
                try simp only [List.getElem_toArray, List.getElem_cons_succ, List.getElem_cons_zero, Act.put, List.setIfInBounds_toArray, List.set_cons_zero, List.set_cons_succ]
                refine wpAnyH_take (i := 4) (v := ?_) rfl (by kernel_rfl) (by kernel_rfl) (by kernel_rfl) (fun _ _ _ h => h) (Or.inl ⟨by rfl, ?_⟩) hHeld ?_
                rotate_left
                · intro w' hS'
                  (try dsimp only at hS')
                  go_simp
                  try with_reducible rfl
                try simp only [List.getElem_toArray, List.getElem_cons_succ, List.getElem_cons_zero, Act.put, List.setIfInBounds_toArray, List.set_cons_zero, List.set_cons_succ]
                refine wpAnyH_ready (rs := [5]) (by kernel_rfl) (by simp) (AllReadyH.cons rfl (fun K hK => ?_) AllReadyH.nil)
                go_simp
                obtain ⟨G, hG⟩ : ∃ y, w6.heap.size = y := ⟨_, rfl⟩
                obtain ⟨w7, hw7⟩ : ∃ y, w6.alloc (.cells #[.string v.1, .int .i64 v.2, .slice ta n tc] 28) = y := ⟨_, rfl⟩
                have hB7 : Below w6.heap.size w6 w7 := by rw [← hw7]; exact below_alloc _
                have HB7 := Lib.hid hB7
                have HR7 : Hid (RowAt w7 G 28 #[.string v.1, .int .i64 v.2, .slice ta n tc]) := by rw [← hw7, ← hG]; exact RowAt.new _ _ _
                have hs7 : w7.cell? ⟨px, 0, none⟩ = some (.string v.1) ∧ w7.cell? ⟨px, 1, none⟩ = some (.int .i64 v.2) := by
                  have h6 := RowAt.below HP5.out HB6.out
                  exact ⟨(RowAt.below h6 hB7).cell 0, (RowAt.below h6 hB7).cell 1⟩
                clear hB7
                try simp only [hw7, hG]
                refine hK.out _ _ hs7 (fun hHeld => ?_)
                clear hK K
                try simp only [List.getElem_toArray, List.getElem_cons_succ, List.getElem_cons_zero, Act.put, List.setIfInBounds_toArray, List.set_cons_zero, List.set_cons_succ]
                refine wpAnyH_ready (rs := [6]) (by kernel_rfl) (by simp) (AllReadyH.cons rfl (fun K hK => ?_) AllReadyH.nil)
                rw [if_pos (by rfl)]
                refine wp_pushLk (.tmp 65) (.tmp 70) rfl (.slice a5 0 c5) ([] ++ ls.take 0) rfl G ⟨v, ta, tg, tc⟩ rfl (HO5.out.keep (KeepA.of_below (X := fun _ => False) (below_trans (drewN_below (Below.refl _ w5) 1) (below_trans HB6.out HB7.out))) (fun _ _ h => h)) (HC7.out w7 G ta tc HR7.out) HR7.out.lt (by simp) ?_
                intro v8 w8 q1 q2 q3
                obtain ⟨a8, n8, c8, hv8⟩ : ∃ a n c, v8 = .slice a n c := by
                  obtain ⟨a, c, e, -⟩ := q1.rd
                  exact ⟨a, _, c, e⟩
                subst hv8
                have HO8 := Lib.hid q1
                have HG8 := Lib.hid q2
                have HN8 := Lib.hid q3
                have HP8 : Hid (RowAt w8 px 25 #[.string v.1, .int .i64 v.2]) := row_keep (keep_grownO q2) (RowAt.below (RowAt.below HP5.out HB6.out) HB7.out) (fun e => by have := HLOW5.out px e; have := HPXL.out; omega)
                have hs8 : w8.cell? ⟨px, 0, none⟩ = some (.string v.1) ∧ w8.cell? ⟨px, 1, none⟩ = some (.int .i64 v.2) := ⟨HP8.out.cell 0, HP8.out.cell 1⟩
                clear q1 q2 q3
                refine hK.out _ _ hs8 (fun hHeld => ?_)
                clear hK K
                try simp only [List.getElem_toArray, List.getElem_cons_succ, List.getElem_cons_zero, Act.put, List.setIfInBounds_toArray, List.set_cons_zero, List.set_cons_succ]
                refine wpAnyH_take (i := 7) (v := ?_) rfl (by kernel_rfl) (by kernel_rfl) (by kernel_rfl) (fun _ _ _ h => h) (Or.inl ⟨by rfl, ?_⟩) hHeld ?_
                rotate_left
                · intro w' hS'
                  (try dsimp only at hS')
                  go_simp
                  try with_reducible rfl
                try simp only [List.getElem_toArray, List.getElem_cons_succ, List.getElem_cons_zero, Act.put, List.setIfInBounds_toArray, List.set_cons_zero, List.set_cons_succ]
                refine wpAnyH_done (by kernel_rfl) ?_ _
                have HB57 : Hid (Below w5.heap.size w5 w7) := below_trans (drewN_below (Below.refl _ w5) 1) (below_trans HB6.out HB7.out)
                have HB07 : Hid (Below w.heap.size w w7) := below_trans HB05.out HB57.out
                have HB08 : Hid (Below w.heap.size w w8) := below_grown HB07.out HG8.out HB07.out.size (fun g e => Nat.le_trans HB0C.out.size (HLOW5.out g e))
                have HFIN : Hid (∀ v9 w9 w10, OwnLk w9 v9 (([] ++ ls.take 0 ++ [⟨v, ta, tg, tc⟩]) ++ ls.drop 0) → w8.grownBy w9 (Value.slice a8 n8 c8).ownBlock → NewRow w8 (.slice a8 n8 c8) v9 → RowAt w10 rb 42 #[v9] → w9.grownBy w10 (some rb) → K (.returned (.int .i64 0)) w10) := Lib.hid fun v9 w9 w10 q1 q2 q3 q4 q5 => by
                  have hlow8 : ∀ g, (Value.slice a8 n8 c8).ownBlock = some g → w.heap.size ≤ g := fun g e => by
                    rcases HN8.out g e with e | e
                    · exact Nat.le_trans HB0C.out.size (HLOW5.out g e)
                    · exact Nat.le_trans HB07.out.size e
                  have hb9 : Below w.heap.size w w9 := below_grown HB08.out q2 HB08.out.size hlow8
                  have hnew : ∀ g, v9.ownBlock = some g → w.heap.size ≤ g := fun g e => by
                    rcases q3 g e with e | e
                    · exact hlow8 g e
                    · exact Nat.le_trans HB08.out.size e
                  have hta : ∀ g, (Value.slice ta n tc).ownBlock = some g → w5.heap.size ≤ g ∧ g < w6.heap.size := fun g e => by
                    refine ⟨?_, HO6.out.lt e⟩
                    rcases HN6.out g e with e2 | e2
                    · simp [Value.ownBlock] at e2
                    · exact e2
                  have ht6 : OwnRf w7 (.slice ta n tc) tg := HO6.out.later HB7.out
                  have ht8 : OwnRf w8 (.slice ta n tc) tg := ht6.keep (keep_grownO HG8.out) fun g e e2 => by
                    have h1 := (hta g e).1
                    have h2 := HO5.out.lt e2
                    omega
                  have ht9 : OwnRf w9 (.slice ta n tc) tg := ht8.keep (keep_grownO q2) fun g e e2 => by
                    obtain ⟨h1, h3⟩ := hta g e
                    rcases HN8.out g e2 with e3 | e3
                    · have h2 := HO5.out.lt e3
                      omega
                    · have := HB7.out.size
                      omega
                  have hr9 : OwnRf w9 (lkS ⟨v, ta, tg, tc⟩) tg := by
                    unfold lkS
                    dsimp only
                    rw [HTL.out]
                    exact ht9
                  obtain ⟨k1, k2⟩ := HM.out.put HU.out hb9 q1 hnew q5 q4 fun x hx => by
                    rcases List.mem_append.1 hx with hx | hx
                    · rcases List.mem_append.1 hx with hx | hx
                      · exact .inl (List.mem_of_mem_take (i := 0) (by rw [List.nil_append] at hx; exact hx))
                      · rw [List.mem_singleton.1 hx]
                        refine .inr ⟨hr9, fun g e => ?_⟩
                        unfold lkS at e
                        dsimp only at e
                        rw [HTL.out] at e
                        exact Nat.le_trans HB05.out.size (hta g e).1
                    · exact .inl (List.mem_of_mem_drop hx)
                  refine HKO.out _ HZ.out k1 ?_
                  have e : plainL (([] ++ ls.take 0 ++ [⟨v, ta, tg, tc⟩]) ++ ls.drop 0) = insD D v tg := by
                    unfold insD
                    rw [HIN.out, plainL_append, plainL_append, List.nil_append, plainL_take, plainL_drop, HM.out.pl, List.append_assoc]
                    rfl
                  rw [← e]
                  exact ⟨v9, _, k2⟩
                have HBX8 : Hid (RowAt w8 rb 42 #[.slice none 0 0]) := (HM.out.later HB08.out).box
                have hc8 := HBX8.out.cell 0
                have HNR8 : Hid (¬ (Value.slice a8 n8 c8).ownBlock = some rb) := Lib.hid fun e => by
                  have h1 := HBXC.out.lt
                  have h2 := HBCC.out.size
                  have h3 := HB57.out.size
                  rcases HN8.out rb e with e | e
                  · have := HLOW5.out rb e
                    omega
                  · omega
                go_wp2_with (first
                  | (refine step_appendLk rfl (.tmp 73) (.tmp 79) rfl (.slice a8 n8 c8) ([] ++ ls.take 0 ++ [⟨v, ta, tg, tc⟩]) rfl _ 0 _ (ls.drop 0) HL0.out rfl HO8.out (.inl HD0.out) (HSZ2.out _) (by omega) ?_; intro v9 w9 ho9 hg9 hn9; obtain ⟨a9, n9, c9, hv9⟩ : ∃ a n c, v9 = .slice a n c := (by obtain ⟨a, c, e, -⟩ := ho9.rd; exact ⟨a, _, c, e⟩); subst hv9; have HO9 := Lib.hid ho9; have HG9 := Lib.hid hg9; have HN9 := Lib.hid hn9; have HBX9 : Hid (RowAt w9 rb 42 #[.slice none 0 0]) := (row_keep (keep_grownO hg9) HBX8.out HNR8.out); have hc9 := HBX9.out.cell 0; have hf9 := frozen_of_row w9 rb 0 _ _ HBX9.out; clear ho9 hg9 hn9)
                  | fail)
                exact HFIN.out (.slice a9 n9 c9) w9 _ HO9.out HG9.out HN9.out (RowAt.set (cs := #[_]) HBX9.out 0 _) (grown_setCell _ _ _)
              · as_aux_lemma =>
                rw [HMM.out] at e1 hnc
                simp only [Value.slice.injEq] at e1
                obtain ⟨rfl, -, rfl⟩ := e1
                have HL1 : Hid ((ls.take p).length = p) := by show _ = _; rw [List.length_take, hll]; omega
                have HL2 : Hid ((ls.drop p).length = m - p) := by show _ = _; rw [List.length_drop, hll]
                have HSZ1 : Hid ((ls.take p).length ≤ 1000000) := by show _ ≤ _; rw [HL1.out]; omega
                have HSZ2 : Hid (∀ r : Lk, ([] ++ ls.take p ++ [r]).length ≤ 1000000) := Lib.hid fun r => by rw [List.nil_append, List.length_append, List.length_singleton, HL1.out]; omega
                have HR1 : Hid (RowsAt wc (some ⟨b, 0, none⟩) 3 (ls.take p) (CellsAt wc lkC)) := hrows.take p
                have hcc := HBXC.out.cell 0
                clear hin hbc hmc hll hrows
                go_upto_region 17 with (refine step_appendLk rfl (.const (.slice none 0 0)) (.tmp 63) rfl (.slice none 0 0) [] rfl _ p _ (ls.take p) HL1.out rfl (OwnLk.nil _) HR1.out (by simp) (by omega) ?_; intro v5 w5 ho5 hg5 hn5; obtain ⟨a5, c5, hv5, -⟩ := ho5.rd; rw [List.nil_append, HL1.out] at hv5; subst hv5; have HO5 := Lib.hid ho5; have HG5 := Lib.hid hg5; have HN5 := Lib.hid hn5; clear ho5 hg5 hn5)
                have HBCC : Hid (Below wc.heap.size wc w5) := below_grown (Below.refl _ _) HG5.out (Nat.le_refl _) (fun k e => by simp [Value.ownBlock] at e)
                have HLOW5 : Hid (∀ g, (Value.slice a5 p c5).ownBlock = some g → wc.heap.size ≤ g) := fun g hg => by
                  rcases HN5.out g hg with e | e
                  · simp [Value.ownBlock] at e
                  · exact e
                have HPXL : Hid (px < wc.heap.size) := Nat.lt_of_lt_of_le HP1.out.lt HBC.out.size
                have HB05 : Hid (Below w.heap.size w w5) := below_trans HB0C.out HBCC.out
                have HP5 : Hid (RowAt w5.drew px 25 #[.string v.1, .int .i64 v.2]) := RowAt.below HP1.out (below_trans HBC.out (drewN_below HBCC.out 1))
                have HRD5 : Hid (RdRf w5.drew a tg) := HRD.out.later (below_trans HB0C.out (drewN_below HBCC.out 1))
                have HC7 : Hid (∀ (W : World) (G : Nat) (ta : Option Addr) (tc : Nat), RowAt W G 28 #[.string v.1, .int .i64 v.2, .slice ta n tc] → CellsAt W lkC G 0 ⟨v, ta, tg, tc⟩) := Lib.hid fun W G ta tc hr j u hu => by
                  have hu2 : [Value.string v.1, .int .i64 v.2, .slice ta n tc][j]? = some u := by rw [← hu, ← HTL.out]; rfl
                  rw [Nat.zero_add]
                  match j, hu2 with
                  | 0, hu2 => exact (hr.cell 0).trans (by rw [← hu2]; rfl)
                  | 1, hu2 => exact (hr.cell 1).trans (by rw [← hu2]; rfl)
                  | 2, hu2 => exact (hr.cell 2).trans (by rw [← hu2]; rfl)
                have hS0 : w5.drew.cell? ⟨px, 0, none⟩ = some (.string v.1) ∧ w5.drew.cell? ⟨px, 1, none⟩ = some (.int .i64 v.2) := ⟨HP5.out.cell 0, HP5.out.cell 1⟩
                refine wp_region_held_drew (S := fun W => W.cell? ⟨px, 0, none⟩ = some (.string v.1) ∧ W.cell? ⟨px, 1, none⟩ = some (.int .i64 v.2)) (by kernel_rfl) hS0 (fun hHeld => ?_)
                refine wpAnyH_take (i := 0) (v := ?_) rfl (by kernel_rfl) (by kernel_rfl) (by kernel_rfl) (fun _ _ _ h => h) (Or.inl ⟨by rfl, ?_⟩) hHeld ?_
                rotate_left
                · intro w' hS'
                  (try dsimp only at hS')
                  go_simp
                  try with_reducible rfl
                try simp only [List.getElem_toArray, List.getElem_cons_zero, Act.put, List.setIfInBounds_toArray, List.set_cons_zero, List.set_cons_succ]
                refine wpAnyH_take (i := 1) (v := ?_) rfl (by kernel_rfl) (by kernel_rfl) (by kernel_rfl) (fun _ _ _ h => h) (Or.inl ⟨by rfl, ?_⟩) hHeld ?_
                rotate_left
                · intro w' hS'
                  (try dsimp only at hS')
                  go_simp
                  try with_reducible rfl
                try simp only [List.getElem_toArray, List.getElem_cons_succ, List.getElem_cons_zero, Act.put, List.setIfInBounds_toArray, List.set_cons_zero, List.set_cons_succ]
                refine wpAnyH_take (i := 2) (v := ?_) rfl (by kernel_rfl) (by kernel_rfl) (by kernel_rfl) (fun _ _ _ h => h) (Or.inl ⟨by rfl, ?_⟩) hHeld ?_
                rotate_left
                · intro w' hS'
                  (try dsimp only at hS')
                  go_simp
                  try with_reducible rfl
                try simp only [List.getElem_toArray, List.getElem_cons_succ, List.getElem_cons_zero, Act.put, List.setIfInBounds_toArray, List.set_cons_zero, List.set_cons_succ]
                refine wpAnyH_ready (rs := [3]) (by kernel_rfl) (by simp) (AllReadyH.cons rfl (fun K hK => ?_) AllReadyH.nil)
                rw [if_pos (by rfl)]
                refine wp_copyRf (.const (.slice none 0 0)) (.tmp 67) rfl rfl a n cap tg HTL.out rfl HRD5.out (by omega) ?_
                intro ta tc w6 q1 q2 q3
                have HO6 := Lib.hid q1
                have HG6 := Lib.hid q2
                have HN6 := Lib.hid q3
                have hB6 : Below w5.drew.heap.size w5.drew w6 := below_grown (Below.refl _ _) q2 (Nat.le_refl _) (fun g e => by cases e)
                have HB6 := Lib.hid hB6
                have hs6 : w6.cell? ⟨px, 0, none⟩ = some (.string v.1) ∧ w6.cell? ⟨px, 1, none⟩ = some (.int .i64 v.2) := ⟨(RowAt.below HP5.out hB6).cell 0, (RowAt.below HP5.out hB6).cell 1⟩
                clear q1 q2 q3 hB6
                refine hK.out _ _ hs6 (fun hHeld => ?_)
                clear hK K
                try simp only [List.getElem_toArray, List.getElem_cons_succ, List.getElem_cons_zero, Act.put, List.setIfInBounds_toArray, List.set_cons_zero, List.set_cons_succ]
                refine wpAnyH_take (i := 4) (v := ?_) rfl (by kernel_rfl) (by kernel_rfl) (by kernel_rfl) (fun _ _ _ h => h) (Or.inl ⟨by rfl, ?_⟩) hHeld ?_
                rotate_left
                · intro w' hS'
                  (try dsimp only at hS')
                  go_simp
                  try with_reducible rfl
                try simp only [List.getElem_toArray, List.getElem_cons_succ, List.getElem_cons_zero, Act.put, List.setIfInBounds_toArray, List.set_cons_zero, List.set_cons_succ]
                refine wpAnyH_ready (rs := [5]) (by kernel_rfl) (by simp) (AllReadyH.cons rfl (fun K hK => ?_) AllReadyH.nil)
                go_simp
                obtain ⟨G, hG⟩ : ∃ y, w6.heap.size = y := ⟨_, rfl⟩
                obtain ⟨w7, hw7⟩ : ∃ y, w6.alloc (.cells #[.string v.1, .int .i64 v.2, .slice ta n tc] 28) = y := ⟨_, rfl⟩
                have hB7 : Below w6.heap.size w6 w7 := by rw [← hw7]; exact below_alloc _
                have HB7 := Lib.hid hB7
                have HR7 : Hid (RowAt w7 G 28 #[.string v.1, .int .i64 v.2, .slice ta n tc]) := by rw [← hw7, ← hG]; exact RowAt.new _ _ _
                have hs7 : w7.cell? ⟨px, 0, none⟩ = some (.string v.1) ∧ w7.cell? ⟨px, 1, none⟩ = some (.int .i64 v.2) := by
                  have h6 := RowAt.below HP5.out HB6.out
                  exact ⟨(RowAt.below h6 hB7).cell 0, (RowAt.below h6 hB7).cell 1⟩
                clear hB7
                try simp only [hw7, hG]
                refine hK.out _ _ hs7 (fun hHeld => ?_)
                clear hK K
                try simp only [List.getElem_toArray, List.getElem_cons_succ, List.getElem_cons_zero, Act.put, List.setIfInBounds_toArray, List.set_cons_zero, List.set_cons_succ]
                refine wpAnyH_ready (rs := [6]) (by kernel_rfl) (by simp) (AllReadyH.cons rfl (fun K hK => ?_) AllReadyH.nil)
                rw [if_pos (by rfl)]
                refine wp_pushLk (.tmp 65) (.tmp 70) rfl (.slice a5 p c5) ([] ++ ls.take p) rfl G ⟨v, ta, tg, tc⟩ rfl (HO5.out.keep (KeepA.of_below (X := fun _ => False) (below_trans (drewN_below (Below.refl _ w5) 1) (below_trans HB6.out HB7.out))) (fun _ _ h => h)) (HC7.out w7 G ta tc HR7.out) HR7.out.lt (by simpa using HSZ1.out) ?_
                intro v8 w8 q1 q2 q3
                obtain ⟨a8, n8, c8, hv8⟩ : ∃ a n c, v8 = .slice a n c := by
                  obtain ⟨a, c, e, -⟩ := q1.rd
                  exact ⟨a, _, c, e⟩
                subst hv8
                have HO8 := Lib.hid q1
                have HG8 := Lib.hid q2
                have HN8 := Lib.hid q3
                have HP8 : Hid (RowAt w8 px 25 #[.string v.1, .int .i64 v.2]) := row_keep (keep_grownO q2) (RowAt.below (RowAt.below HP5.out HB6.out) HB7.out) (fun e => by have := HLOW5.out px e; have := HPXL.out; omega)
                have hs8 : w8.cell? ⟨px, 0, none⟩ = some (.string v.1) ∧ w8.cell? ⟨px, 1, none⟩ = some (.int .i64 v.2) := ⟨HP8.out.cell 0, HP8.out.cell 1⟩
                clear q1 q2 q3
                refine hK.out _ _ hs8 (fun hHeld => ?_)
                clear hK K
                try simp only [List.getElem_toArray, List.getElem_cons_succ, List.getElem_cons_zero, Act.put, List.setIfInBounds_toArray, List.set_cons_zero, List.set_cons_succ]
                refine wpAnyH_take (i := 7) (v := ?_) rfl (by kernel_rfl) (by kernel_rfl) (by kernel_rfl) (fun _ _ _ h => h) (Or.inl ⟨by rfl, ?_⟩) hHeld ?_
                rotate_left
                · intro w' hS'
                  (try dsimp only at hS')
                  go_simp
                  try with_reducible rfl
                try simp only [List.getElem_toArray, List.getElem_cons_succ, List.getElem_cons_zero, Act.put, List.setIfInBounds_toArray, List.set_cons_zero, List.set_cons_succ]
                refine wpAnyH_done (by kernel_rfl) ?_ _
                have HB57 : Hid (Below w5.heap.size w5 w7) := below_trans (drewN_below (Below.refl _ w5) 1) (below_trans HB6.out HB7.out)
                have HB07 : Hid (Below w.heap.size w w7) := below_trans HB05.out HB57.out
                have HB08 : Hid (Below w.heap.size w w8) := below_grown HB07.out HG8.out HB07.out.size (fun g e => Nat.le_trans HB0C.out.size (HLOW5.out g e))
                have HFIN : Hid (∀ v9 w9 w10, OwnLk w9 v9 (([] ++ ls.take p ++ [⟨v, ta, tg, tc⟩]) ++ ls.drop p) → w8.grownBy w9 (Value.slice a8 n8 c8).ownBlock → NewRow w8 (.slice a8 n8 c8) v9 → RowAt w10 rb 42 #[v9] → w9.grownBy w10 (some rb) → K (.returned (.int .i64 0)) w10) := Lib.hid fun v9 w9 w10 q1 q2 q3 q4 q5 => by
                  have hlow8 : ∀ g, (Value.slice a8 n8 c8).ownBlock = some g → w.heap.size ≤ g := fun g e => by
                    rcases HN8.out g e with e | e
                    · exact Nat.le_trans HB0C.out.size (HLOW5.out g e)
                    · exact Nat.le_trans HB07.out.size e
                  have hb9 : Below w.heap.size w w9 := below_grown HB08.out q2 HB08.out.size hlow8
                  have hnew : ∀ g, v9.ownBlock = some g → w.heap.size ≤ g := fun g e => by
                    rcases q3 g e with e | e
                    · exact hlow8 g e
                    · exact Nat.le_trans HB08.out.size e
                  have hta : ∀ g, (Value.slice ta n tc).ownBlock = some g → w5.heap.size ≤ g ∧ g < w6.heap.size := fun g e => by
                    refine ⟨?_, HO6.out.lt e⟩
                    rcases HN6.out g e with e2 | e2
                    · simp [Value.ownBlock] at e2
                    · exact e2
                  have ht6 : OwnRf w7 (.slice ta n tc) tg := HO6.out.later HB7.out
                  have ht8 : OwnRf w8 (.slice ta n tc) tg := ht6.keep (keep_grownO HG8.out) fun g e e2 => by
                    have h1 := (hta g e).1
                    have h2 := HO5.out.lt e2
                    omega
                  have ht9 : OwnRf w9 (.slice ta n tc) tg := ht8.keep (keep_grownO q2) fun g e e2 => by
                    obtain ⟨h1, h3⟩ := hta g e
                    rcases HN8.out g e2 with e3 | e3
                    · have h2 := HO5.out.lt e3
                      omega
                    · have := HB7.out.size
                      omega
                  have hr9 : OwnRf w9 (lkS ⟨v, ta, tg, tc⟩) tg := by
                    unfold lkS
                    dsimp only
                    rw [HTL.out]
                    exact ht9
                  obtain ⟨k1, k2⟩ := HM.out.put HU.out hb9 q1 hnew q5 q4 fun x hx => by
                    rcases List.mem_append.1 hx with hx | hx
                    · rcases List.mem_append.1 hx with hx | hx
                      · exact .inl (List.mem_of_mem_take (i := p) (by rw [List.nil_append] at hx; exact hx))
                      · rw [List.mem_singleton.1 hx]
                        refine .inr ⟨hr9, fun g e => ?_⟩
                        unfold lkS at e
                        dsimp only at e
                        rw [HTL.out] at e
                        exact Nat.le_trans HB05.out.size (hta g e).1
                    · exact .inl (List.mem_of_mem_drop hx)
                  refine HKO.out _ HZ.out k1 ?_
                  have e : plainL (([] ++ ls.take p ++ [⟨v, ta, tg, tc⟩]) ++ ls.drop p) = insD D v tg := by
                    unfold insD
                    rw [HIN.out, plainL_append, plainL_append, List.nil_append, plainL_take, plainL_drop, HM.out.pl, List.append_assoc]
                    rfl
                  rw [← e]
                  exact ⟨v9, _, k2⟩
                have HBX8 : Hid (RowAt w8 rb 42 #[.slice (some ⟨b, 0, none⟩) m lc]) := (HM.out.later HB08.out).box
                have hc8 := HBX8.out.cell 0
                have HNR8 : Hid (¬ (Value.slice a8 n8 c8).ownBlock = some rb) := Lib.hid fun e => by
                  have h1 := HBXC.out.lt
                  have h2 := HBCC.out.size
                  have h3 := HB57.out.size
                  rcases HN8.out rb e with e | e
                  · have := HLOW5.out rb e
                    omega
                  · omega
                have HB58 : Hid (Below w.heap.size w w8) := HB08.out
                by_cases hcp : lc = p
                · have HD0 : Hid (ls.drop p = []) := by
                    show _ = _
                    rw [List.drop_eq_nil_iff, HLL.out]
                    omega
                  have HL0 : Hid ((ls.drop p).length = 0) := by show _ = _; rw [HD0.out]; rfl
                  subst hcp
                  go_wp2_with (first
                    | (refine step_appendLk rfl (.tmp 73) (.tmp 79) rfl (.slice a8 n8 c8) ([] ++ ls.take lc ++ [⟨v, ta, tg, tc⟩]) rfl _ 0 _ (ls.drop lc) HL0.out rfl HO8.out (.inl HD0.out) (HSZ2.out _) (by omega) ?_; intro v9 w9 ho9 hg9 hn9; obtain ⟨a9, n9, c9, hv9⟩ : ∃ a n c, v9 = .slice a n c := (by obtain ⟨a, c, e, -⟩ := ho9.rd; exact ⟨a, _, c, e⟩); subst hv9; have HO9 := Lib.hid ho9; have HG9 := Lib.hid hg9; have HN9 := Lib.hid hn9; have HBX9 : Hid (RowAt w9 rb 42 #[.slice (some ⟨b, 0, none⟩) m lc]) := (row_keep (keep_grownO hg9) HBX8.out HNR8.out); have hc9 := HBX9.out.cell 0; have hf9 := frozen_of_row w9 rb 0 _ _ HBX9.out; clear ho9 hg9 hn9)
                    | fail)
                  exact HFIN.out (.slice a9 n9 c9) w9 _ HO9.out HG9.out HN9.out (RowAt.set (cs := #[_]) HBX9.out 0 _) (grown_setCell _ _ _)
                · have HR2 : Hid (RowsAt w8 (some ⟨b, p * 3, none⟩) 3 (ls.drop p) (CellsAt w8 lkC)) := by
                    rw [← Nat.zero_add (p * 3)]
                    rcases (HM.out.later HB08.out).place with ⟨e1, -⟩ | ⟨b2, c2, e1, -, -, -, -, hrw⟩
                    · cases e1
                    · simp only [Value.slice.injEq, Option.some.injEq, Addr.mk.injEq] at e1
                      obtain ⟨⟨rfl, -⟩, -, -⟩ := e1
                      exact hrw.drop p
                  go_wp2_with (first
                    | (refine step_appendLk rfl (.tmp 73) (.tmp 79) rfl (.slice a8 n8 c8) ([] ++ ls.take p ++ [⟨v, ta, tg, tc⟩]) rfl _ _ _ (ls.drop p) HL2.out rfl HO8.out HR2.out (HSZ2.out _) (by omega) ?_; intro v9 w9 ho9 hg9 hn9; obtain ⟨a9, n9, c9, hv9⟩ : ∃ a n c, v9 = .slice a n c := (by obtain ⟨a, c, e, -⟩ := ho9.rd; exact ⟨a, _, c, e⟩); subst hv9; have HO9 := Lib.hid ho9; have HG9 := Lib.hid hg9; have HN9 := Lib.hid hn9; have HBX9 : Hid (RowAt w9 rb 42 #[.slice (some ⟨b, 0, none⟩) m lc]) := (row_keep (keep_grownO hg9) HBX8.out HNR8.out); have hc9 := HBX9.out.cell 0; have hf9 := frozen_of_row w9 rb 0 _ _ HBX9.out; clear ho9 hg9 hn9)
                    | fail)
                  exact HFIN.out (.slice a9 n9 c9) w9 _ HO9.out HG9.out HN9.out (RowAt.set (cs := #[_]) HBX9.out 0 _) (grown_setCell _ _ _)

      · have HZ : Hid (addR D v tg = 8) := by
          rcases findR_in D v with ⟨e, -⟩ | ⟨i, hi, -, -, e⟩
          · rw [HI0.out] at e; omega
          · exact addR_there HRR.out HE0.out e
        go_wp2_with (first
          | (refine step_loadRf rfl (.tmp 4) rfl HC3.out rfl ?_)
          | (go_at_call 12; refine HF0.out.mono ?_; rintro _ w4 ⟨rfl, hb4⟩; have HB4 := Lib.hid (below_trans HB3.out hb4); clear hb4))
        exact HKE.out _ _ HZ.out (by decide) HB4.out
    · have HZ : Hid (addR D v tg = e0) := by
        show _ = _
        rw [addR_tgt HRR.out (by rw [HE0.out]; exact he00), HE0.out]
      go_wp2_with (first
        | (refine step_loadRf rfl (.tmp 4) rfl HC1.out rfl ?_)
        | (go_at_call 33; refine HR.out.mono ?_; rintro _ w2 ⟨rfl, hb2⟩; have HB2 := Lib.hid hb2; clear hb2)
        | (go_at_call 32; refine (HTG.out w2 HB2.out).mono ?_; rintro _ w3 ⟨rfl, hb3⟩; have HB3 := Lib.hid (below_trans HB2.out hb3); clear hb3))
      exact HKE.out _ _ HZ.out he00 HB3.out
end Go.Proofs.Ytcakdjnnfonijaa
