/- Add of the program's graph. -/
import Derived.Test.YtcakdjnnfonijaaRgMut
namespace Go.Proofs.Ytcakdjnnfonijaa
open Go.RowKit

/-- What Add answers. -/
noncomputable def addR (D : List (Rf × List Rf)) (v : Rf) (tg : List Rf) : Int := if rightR v = true then (if tgt tg = 0 then (if memB v (D.map (·.1)) = true then 8 else if tg.all (fun t => memB t (D.map (·.1))) = true then 0 else 7) else tgt tg) else 2
theorem addR_arg {D : List (Rf × List Rf)} {v : Rf} {tg : List Rf} (h : rightR v = false) : addR D v tg = 2 := by unfold addR; rw [if_neg (by rw [h]; simp)]
theorem addR_tgt {D : List (Rf × List Rf)} {v : Rf} {tg : List Rf} (h : rightR v = true) (h2 : tgt tg ≠ 0) : addR D v tg = tgt tg := by unfold addR; rw [if_pos h, if_neg h2]
theorem addR_there {D : List (Rf × List Rf)} {v : Rf} {tg : List Rf} (h : rightR v = true) (h2 : tgt tg = 0) (h3 : memB v (D.map (·.1)) = true) : addR D v tg = 8 := by unfold addR; rw [if_pos h, if_pos h2, if_pos h3]
theorem addR_none {D : List (Rf × List Rf)} {v : Rf} {tg : List Rf} (h : rightR v = true) (h2 : tgt tg = 0) (h3 : memB v (D.map (·.1)) = false) {t : Rf} (ht : t ∈ tg) (h4 : memB t (D.map (·.1)) = false) : addR D v tg = 7 := by
  unfold addR
  rw [if_pos h, if_pos h2, if_neg (by rw [h3]; simp), if_neg]
  intro h5
  rw [List.all_eq_true] at h5
  have := h5 t ht
  rw [h4] at this
  cases this
theorem addR_ok {D : List (Rf × List Rf)} {v : Rf} {tg : List Rf} (h : rightR v = true) (h2 : tgt tg = 0) (h3 : memB v (D.map (·.1)) = false) (h4 : ∀ t ∈ tg, memB t (D.map (·.1)) = true) : addR D v tg = 0 := by
  unfold addR
  rw [if_pos h, if_pos h2, if_neg (by rw [h3]; simp), if_pos (List.all_eq_true.2 h4)]
/-- Who refers to whom, when j targets of v are told. -/
def addRel (D : List (Rf × List Rf)) (v : Rf) (tg : List Rf) (j : Nat) : Rf → Rf → Bool := fun t u => relD D t u || (decide (u = v) && memB t (tg.take j))
theorem addRel_zero (D : List (Rf × List Rf)) (v : Rf) (tg : List Rf) (t u : Rf) : relD D t u = addRel D v tg 0 t u := by
  unfold addRel
  have : memB t (tg.take 0) = false := by simp [memB]
  rw [this]; simp
theorem memB_take_succ {tg : List Rf} {j : Nat} (hj : j < tg.length) (t : Rf) : memB t (tg.take (j + 1)) = (memB t (tg.take j) || decide (t = tg[j])) := by
  rw [Bool.eq_iff_iff, memB_iff, Bool.or_eq_true, memB_iff, ← List.take_append_getElem hj, List.mem_append, List.mem_singleton, decide_eq_true_eq]
theorem addRel_succ (D : List (Rf × List Rf)) (v : Rf) (tg : List Rf) {j : Nat} (hj : j < tg.length) (u : Rf) : (if u = v then some (Value.int .i64 1) else relF (addRel D v tg j) tg[j] u) = relF (addRel D v tg (j + 1)) tg[j] u := by
  unfold relF addRel
  rw [memB_take_succ hj]
  by_cases e : u = v <;> simp [e]
theorem addRel_other (D : List (Rf × List Rf)) (v : Rf) (tg : List Rf) {j : Nat} (hj : j < tg.length) {t : Rf} (u : Rf) (ht : t ≠ tg[j]) : addRel D v tg (j + 1) t u = addRel D v tg j t u := by
  unfold addRel
  rw [memB_take_succ hj]
  simp [ht]
theorem behd_iff {D : List (Rf × List Rf)} {t u : Rf} : u ∈ behd D t ↔ ∃ x ∈ D, x.1 = u ∧ t ∈ x.2 := by
  constructor
  · exact behd_in
  · rintro ⟨x, hx, rfl, ht⟩
    exact List.mem_map.2 ⟨x, List.mem_filter.2 ⟨hx, by simpa using ht⟩, rfl⟩
theorem addRel_end {D D' : List (Rf × List Rf)} {v : Rf} {tg : List Rf} (hD : ∀ x, x ∈ D' ↔ x = (v, tg) ∨ x ∈ D) (t u : Rf) : addRel D v tg tg.length t u = relD D' t u := by
  unfold addRel relD
  rw [List.take_length, Bool.eq_iff_iff, Bool.or_eq_true, memB_iff, memB_iff, Bool.and_eq_true, decide_eq_true_eq, memB_iff, behd_iff, behd_iff]
  constructor
  · rintro (⟨x, hx, e, ht⟩ | ⟨rfl, ht⟩)
    · exact ⟨x, (hD x).2 (.inr hx), e, ht⟩
    · exact ⟨(u, tg), (hD _).2 (.inl rfl), rfl, ht⟩
  · rintro ⟨x, hx, e, ht⟩
    rcases (hD x).1 hx with e2 | hx
    · subst e2
      exact .inr ⟨e.symm, ht⟩
    · exact .inl ⟨x, hx, e, ht⟩
theorem row_map_ne {w : World} {b m : Nat} {t : TypeId} {cs : Array Value} {f : Rf → Option Value} (h : RowAt w b t cs) (hm : MapR w m rfV f) : ¬ b = m := fun e => by
  subst e
  obtain ⟨es, c, h1, -⟩ := hm
  rw [show w.heap[b]? = _ from h] at h1
  cases h1
theorem keep_into {T X : Nat → Prop} {w a b : World} (h : KeepA T w a) (k : KeepA X a b) (hX : ∀ k, X k → T k ∨ w.heap.size ≤ k) : KeepA T w b :=
  ⟨k.os.trans h.os, k.tape.trans h.tape, k.output.trans h.output, Nat.le_trans h.size k.size, fun i hi hx => (k.same i (Nat.lt_of_lt_of_le hi h.size) (fun e => (hX i e).elim hx (fun e2 => by omega))).trans (h.same i hi hx)⟩
theorem run_eqMapNil3 (w : World) (m : Option Nat) : (binOp .eql 53 (.map m) (.map none)).run Try.prog w = .ok (.bool m.isNone) w := by
  simp only [binOp]
  have h : (Op.equalIn 10000 53 (.map m) (.map none)).run Try.prog w = .ok m.isNone w := by
    show (Op.equalIn (9999 + 1) _ _ _).run Try.prog w = _
    unfold Op.equalIn
    rw [Sem.run_bind, run_underlying Try.underlying53]
    cases m <;> rfl
  simp [Op.equal, Op.maxDepth, h]
theorem GrG.list {w : World} {T : Nat → Prop} {gb m1 m2 : Nat} {fT fF : Rf → Option Value} {D D2 : List (Rf × List Rf)} {R : Rf → Rf → Bool} (h : GrG w T gb m1 m2 fT fF D R) (e : ∀ x, x ∈ D2 ↔ x ∈ D) : GrG w T gb m1 m2 fT fF D2 R :=
  ⟨h.box, h.mt, h.mf, fun v hv hm => by
    obtain ⟨x, hx, rfl⟩ := List.mem_map.1 hm
    exact h.toN x.1 hv (List.mem_map_of_mem ((e x).1 hx)), fun v s hs => by
    obtain ⟨x, q1, q2⟩ := h.toS v s hs
    exact ⟨x, (e x).2 q1, q2⟩, h.frN, h.frS, h.sep, h.ne, h.tb⟩
theorem wp_makeMapM {P : Program} {o : Oper} {act : Act} {K : Act → World → Prop} {Q : Exit → Act → World → Prop} {w : World} (t : TypeId) (ho : o.op = .makeMap t none)
    (h : ∀ w', w.alloc (.map #[] 0) = w' → K (act.put o.dst (.map (some w.heap.size))) w') : o.wp P act w K Q := by
  unfold Oper.wp execOp
  simp only [ho]
  exact h _ rfl
/-- How Add ends. -/
def AddEnd (w : World) (TT : Nat → Prop) (gb : Nat) (D : List (Rf × List Rf)) (v : Rf) (tg : List Rf) (e : Ending) (w' : World) : Prop :=
  e = .returned (.int .i64 (addR D v tg)) ∧ KeepA TT w w' ∧ (addR D v tg ≠ 0 → Below w.heap.size w w') ∧ (addR D v tg = 0 → ∀ D', (∀ x, x ∈ D' ↔ x = (v, tg) ∨ x ∈ D) → GrS w' (fun k => TT k ∨ Span w w' k) gb D')
set_option maxRecDepth 100000 in
set_option maxHeartbeats 8000000 in
theorem gadd_any (w : World) (TT : Nat → Prop) (gb : Nat) (D : List (Rf × List Rf)) (h : GrS w TT gb D) (v : Rf) (a : Option Addr) (n c : Nat) (tg : List Rf) (hl : tg.length = n) (hb : n ≤ 1000) (hr : RdRf w a tg) (hap : ∀ b off, a = some ⟨b, off, none⟩ → 0 < n → ¬ TT b) :
    Calls Try.prog 13 #[.pointer (some ⟨gb, 0, none⟩), .agg #[.string v.1, .int .i64 v.2], .slice a n c] w (AddEnd w TT gb D v tg) := by
  obtain ⟨px, hpx⟩ : ∃ y, w.heap.size = y := ⟨_, rfl⟩
  have hG0 : w.heap.size = px := hpx
  obtain ⟨w1, hw1⟩ : ∃ y, w.alloc (.cells #[.string v.1, .int .i64 v.2] 25) = y := ⟨_, rfl⟩
  have hb1 : Below w.heap.size w w1 := by rw [← hw1]; exact below_alloc _
  have HP1 : Hid (RowAt w1 px 25 #[.string v.1, .int .i64 v.2]) := by rw [← hw1, ← hpx]; exact RowAt.new _ _ _
  have HC1 : Hid (CellsAt w1 rfC px 0 v) := RowAt.rf HP1.out
  have HB1 := Lib.hid hb1
  have h1 := h.later hb1
  have HG1 := Lib.hid h1
  obtain ⟨K, hK⟩ : ∃ K, AddEnd w TT gb D v tg = K := ⟨_, rfl⟩
  have HKE : Hid (∀ z W, addR D v tg = z → z ≠ 0 → Below w.heap.size w W → K (.returned (.int .i64 z)) W) := Lib.hid fun z W hz h0 hW => by
    rw [← hK]
    exact ⟨by rw [hz], KeepA.of_below hW, fun _ => hW, fun e => absurd (hz.symm.trans e) h0⟩
  have HKO : Hid (∀ W, addR D v tg = 0 → KeepA TT w W → (∀ D', (∀ x, x ∈ D' ↔ x = (v, tg) ∨ x ∈ D) → GrS W (fun k => TT k ∨ Span w W k) gb D') → K (.returned (.int .i64 0)) W) := Lib.hid fun W hz k1 k2 => by
    rw [← hK]
    exact ⟨by rw [hz], k1, fun e => absurd hz e, fun _ => k2⟩
  rw [hK]
  have HN : Hid (Calls Try.prog 37 #[.pointer (some ⟨gb, 0, none⟩)] w1 fun e w' => e = .returned (.bool false) ∧ w1 = w') := by
    obtain ⟨m1, m2, fT, fF, h1⟩ := h1
    exact gnone_any w1 gb m1 h1.cells.1
  obtain ⟨rr, hrr⟩ : ∃ b, rightR v = b := ⟨_, rfl⟩
  have HR : Hid (Calls Try.prog 26 #[.agg #[.string v.1, .int .i64 v.2]] w1 fun e w' => e = .returned (.bool rr) ∧ Below w1.heap.size w1 w') := by rw [← hrr]; exact right_any v w1
  obtain ⟨e0, he0⟩ : ∃ e, tgt tg = e := ⟨_, rfl⟩
  have HTG : Hid (∀ W, Below w1.heap.size w1 W → Calls Try.prog 25 #[.slice a n c] W fun e w' => e = .returned (.int .i64 e0) ∧ Below W.heap.size W w') := Lib.hid fun W hW => by rw [← he0]; exact targets_any a n c tg W hl (by omega) (hr.later (below_trans hb1 hW))
  have HH : Hid (∀ W, Below w1.heap.size w1 W → ∀ u : Rf, Calls Try.prog 17 #[.pointer (some ⟨gb, 0, none⟩), .agg #[.string u.1, .int .i64 u.2]] W fun e w' => e = .returned (.bool (memB u (D.map (·.1)))) ∧ Below W.heap.size W w') := Lib.hid fun W hW u => ghas_any W TT gb D (h1.later hW) u
  have HRR := Lib.hid hrr
  have HE0 := Lib.hid he0
  have HL := Lib.hid hl
  have HRD := Lib.hid hr
  have HAP := Lib.hid hap
  clear h hr hap hb1 hK h1 hrr he0 hl
  go_enter Try.func13, Try.ntmps13
  cases rr with
  | false =>
    go_wp2_with (first
      | (go_at_call 37; refine HN.out.mono ?_; rintro _ _ ⟨rfl, rfl⟩)
      | (refine step_loadRf rfl (.tmp 4) rfl HC1.out rfl ?_)
      | (go_at_call 26; refine HR.out.mono ?_; rintro _ w2 ⟨rfl, hb2⟩; have HB2 := Lib.hid hb2; clear hb2))
    exact HKE.out 2 _ (addR_arg HRR.out) (by decide) (below_trans HB1.out HB2.out)
  | true =>
    by_cases he : e0 = 0
    · subst he
      obtain ⟨bb, hbb⟩ : ∃ b, memB v (D.map (·.1)) = b := ⟨_, rfl⟩
      have HBB := Lib.hid hbb
      clear hbb
      cases bb with
      | true =>
        go_wp2_with (first
          | (go_at_call 37; refine HN.out.mono ?_; rintro _ _ ⟨rfl, rfl⟩)
          | (go_at_call 26; refine HR.out.mono ?_; rintro _ w2 ⟨rfl, hb2⟩; have HB2 := Lib.hid hb2; clear hb2)
          | (go_at_call 25; refine (HTG.out _ HB2.out).mono ?_; rintro _ w3 ⟨rfl, hb3⟩; have HB3 := Lib.hid (below_trans HB2.out hb3); have HC3 : Hid (CellsAt w3 rfC px 0 v) := RowAt.rf (RowAt.below HP1.out HB3.out); clear hb3)
          | (refine step_loadRf rfl (.tmp 4) rfl HC3.out rfl ?_)
          | (refine step_loadRf rfl (.tmp 4) rfl HC1.out rfl ?_)
          | (go_at_call 17; refine (HH.out _ HB3.out v).mono ?_; rw [HBB.out]; rintro _ w4 ⟨rfl, hb4⟩; have HB4 := Lib.hid (below_trans HB3.out hb4); clear hb4))
        exact HKE.out 8 _ (addR_there HRR.out HE0.out HBB.out) (by decide) (below_trans HB1.out HB4.out)
      | false =>
        go_upto_block 1 with (first
          | (go_at_call 37; refine HN.out.mono ?_; rintro _ _ ⟨rfl, rfl⟩)
          | (go_at_call 26; refine HR.out.mono ?_; rintro _ w2 ⟨rfl, hb2⟩; have HB2 := Lib.hid hb2; clear hb2)
          | (go_at_call 25; refine (HTG.out _ HB2.out).mono ?_; rintro _ w3 ⟨rfl, hb3⟩; have HB3 := Lib.hid (below_trans HB2.out hb3); have HC3 : Hid (CellsAt w3 rfC px 0 v) := RowAt.rf (RowAt.below HP1.out HB3.out); clear hb3)
          | (refine step_loadRf rfl (.tmp 4) rfl HC3.out rfl ?_)
          | (refine step_loadRf rfl (.tmp 4) rfl HC1.out rfl ?_)
          | (go_at_call 17; refine (HH.out _ HB3.out v).mono ?_; rw [HBB.out]; rintro _ w4 ⟨rfl, hb4⟩; have HB4 := Lib.hid (below_trans HB3.out hb4); clear hb4))
        go_wp2
        go_loopw [32] (fun jv wr => ∃ j : Nat, jv = .int .i64 (j : Int) ∧ j ≤ n ∧ (∀ t ∈ tg.take j, memB t (D.map (·.1)) = true) ∧ Below w1.heap.size w1 wr) (fun jv _ => n - (intOf jv).toNat)
        case atStart => exact ⟨0, rfl, Nat.zero_le _, by simp, HB4.out⟩
        case round =>
          obtain ⟨j, rfl, hjn, hall, hbr⟩ := hrel
          have HALL := Lib.hid hall
          have HBR := Lib.hid hbr
          clear hall hbr
          by_cases hjlt : j < n
          · as_aux_lemma =>
            obtain ⟨b, off, ha, hcell⟩ := HRD.out.get j (by rw [HL.out]; exact hjlt)
            subst ha
            obtain ⟨t, ht⟩ : ∃ t, tg[j]'(by rw [HL.out]; exact hjlt) = t := ⟨_, rfl⟩
            rw [ht] at hcell
            have HT : Hid (∃ h : j < tg.length, tg[j] = t) := ⟨_, ht⟩
            have HCT := Lib.hid (hcell wr (below_trans HB1.out HBR.out))
            obtain ⟨bt, hbt⟩ : ∃ y, wr.heap.size = y := ⟨_, rfl⟩
            obtain ⟨wa, hwa⟩ : ∃ y, wr.alloc (.cells #[.string t.1, .int .i64 t.2] 25) = y := ⟨_, rfl⟩
            have hba : Below wr.heap.size wr wa := by rw [← hwa]; exact below_alloc _
            have HCA : Hid (CellsAt wa rfC bt 0 t) := by rw [← hwa, ← hbt]; exact RowAt.rf (RowAt.new _ _ _)
            have HBA := Lib.hid (below_trans HBR.out hba)
            obtain ⟨bt2, hbt2⟩ : ∃ b, memB t (D.map (·.1)) = b := ⟨_, rfl⟩
            have HBT := Lib.hid hbt2
            clear hcell ht hba hbt2
            cases bt2 with
            | false =>
              go_wp2_with (first
                | (refine step_loadRf rfl (.tmp 34) rfl HCT.out rfl ?_)
                | (refine step_loadRf rfl (.tmp 10) rfl HCA.out rfl ?_)
                | (go_at_call 17; refine (HH.out _ HBA.out t).mono ?_; rw [HBT.out]; rintro _ w5 ⟨rfl, hb5⟩; have HB5 := Lib.hid (below_trans HBA.out hb5); clear hb5))
              refine HKE.out 7 _ ?_ (by decide) (below_trans HB1.out HB5.out)
              obtain ⟨h, e1⟩ := HT.out
              exact addR_none HRR.out HE0.out HBB.out (t := t) (by rw [← e1]; exact List.getElem_mem h) HBT.out
            | true =>
              go_wp2_with (first
                | (refine step_loadRf rfl (.tmp 34) rfl HCT.out rfl ?_)
                | (refine step_loadRf rfl (.tmp 10) rfl HCA.out rfl ?_)
                | (go_at_call 17; refine (HH.out _ HBA.out t).mono ?_; rw [HBT.out]; rintro _ w5 ⟨rfl, hb5⟩; have HB5 := Lib.hid (below_trans HBA.out hb5); clear hb5))
              refine ⟨⟨j + 1, by go_num, hjlt, fun u hu => ?_, HB5.out⟩, by show n - ((j : Int) + 1).toNat < n - (j : Int).toNat; omega⟩
              obtain ⟨h, e1⟩ := HT.out
              rcases (mem_take_succ h u).1 hu with hu | hu
              · exact HALL.out u hu
              · rw [hu, e1]; exact HBT.out
          · have hjn' : j = n := by omega
            have hkeys : ∀ t ∈ tg, memB t (D.map (·.1)) = true := by
              have := HALL.out
              rw [hjn', ← HL.out, List.take_length] at this
              exact this
            have HZ : Hid (addR D v tg = 0) := addR_ok HRR.out HE0.out HBB.out hkeys
            have HNV : Hid (v ∉ D.map (·.1)) := memB_not.1 HBB.out
            have HND : Hid (tg.Nodup) := tgt_nodup (by rw [HE0.out]; decide)
            subst hjn'
            obtain ⟨w5, hw5⟩ : ∃ y, y = wr := ⟨wr, rfl⟩
            subst hw5
            obtain ⟨m1, m2, fT, fF, hgm⟩ := HG1.out.later HBR.out
            have hgg := hgm.g
            have HGG := Lib.hid hgg
            have HP5 : Hid (RowAt w5 px 25 #[.string v.1, .int .i64 v.2]) := RowAt.below HP1.out HBR.out
            have hb15 : Below w.heap.size w w5 := below_trans HB1.out HBR.out
            have HB15 := Lib.hid hb15
            have HMT1 : Hid (MapR w5.drew m1 rfV fT) := hgg.mt
            have hgbl : gb < w5.heap.size := hgg.box.lt
            have hpxl : px < w5.heap.size := HP5.out.lt
            have HS17 : Hid (∀ W, Below w5.heap.size w5 W → W.cell? ⟨gb, 0, none⟩ = some (.map (some m1)) ∧ W.cell? ⟨px, 0, none⟩ = some (.string v.1) ∧ W.cell? ⟨px, 1, none⟩ = some (.int .i64 v.2)) := Lib.hid fun W hW => by
              have r1 := RowAt.below HGG.out.box hW
              have r2 := RowAt.below HP5.out hW
              exact ⟨r1.cell 0, r2.cell 0, r2.cell 1⟩
            have HCL : Hid (Calls Try.prog 38 #[.slice a j c] w5.drew fun e w' => ∃ ca cn cc, e = .returned (.slice ca cn cc) ∧ OwnRf w' (.slice ca cn cc) tg ∧ (∀ g, (Value.slice ca cn cc).ownBlock = some g → px ≤ g) ∧ Below w5.heap.size w5 w') := Lib.hid ((clone_any a j c tg w5.drew HL.out (by omega) (HRD.out.later (drewN_below hb15 1))).mono fun e w' ⟨u, q1, q2, q3, q4⟩ => by
              obtain ⟨ca, cc, e2, -⟩ := q2.rd
              subst e2
              have hs5 := hb15.size
              exact ⟨ca, _, cc, q1, q2, fun g hg => Nat.le_trans (by rw [← hpx]; exact hs5) (q3 g hg), below_trans (drewN_below (Below.refl _ w5) 1) q4⟩)
            clear hgm hgg hb15 HALL hkeys
            go_upto_region 17 with fail
            refine wp_region_held_drew (S := fun W => W.cell? ⟨gb, 0, none⟩ = some (.map (some m1)) ∧ W.cell? ⟨px, 0, none⟩ = some (.string v.1) ∧ W.cell? ⟨px, 1, none⟩ = some (.int .i64 v.2)) (by kernel_rfl) (HS17.out w5.drew (drewN_below (Below.refl _ w5) 1)) (fun hHeld => ?_)
            refine wpAnyH_take (i := 0) (v := ?_) rfl (by kernel_rfl) (by kernel_rfl) (by kernel_rfl) (fun _ _ _ h => h) (Or.inl ⟨by rfl, ?_⟩) hHeld ?_
            rotate_left
            · intro w' hS'
              (try dsimp only at hS')
              go_simp
              try with_reducible rfl
            try simp only [List.getElem_toArray, List.getElem_cons_zero, Act.put, List.setIfInBounds_toArray, List.set_cons_zero, List.set_cons_succ]
            refine wpAnyH_take (i := 1) (v := ?_) rfl (by kernel_rfl) (by kernel_rfl) (by kernel_rfl) (fun _ _ _ h => h) (Or.inl ⟨by rfl, ?_⟩) hHeld ?_
            rotate_left
            · intro w' hS'
              (try dsimp only at hS')
              go_simp
              try with_reducible rfl
            try simp only [List.getElem_toArray, List.getElem_cons_succ, List.getElem_cons_zero, Act.put, List.setIfInBounds_toArray, List.set_cons_zero, List.set_cons_succ]
            refine wpAnyH_take (i := 2) (v := ?_) rfl (by kernel_rfl) (by kernel_rfl) (by kernel_rfl) (fun _ _ _ h => h) (Or.inl ⟨by rfl, ?_⟩) hHeld ?_
            rotate_left
            · intro w' hS'
              (try dsimp only at hS')
              go_simp
              try with_reducible rfl
            try simp only [List.getElem_toArray, List.getElem_cons_succ, List.getElem_cons_zero, Act.put, List.setIfInBounds_toArray, List.set_cons_zero, List.set_cons_succ]
            refine wpAnyH_take (i := 3) (v := ?_) rfl (by kernel_rfl) (by kernel_rfl) (by kernel_rfl) (fun _ _ _ h => h) (Or.inl ⟨by rfl, ?_⟩) hHeld ?_
            rotate_left
            · intro w' hS'
              (try dsimp only at hS')
              go_simp
              try with_reducible rfl
            try simp only [List.getElem_toArray, List.getElem_cons_succ, List.getElem_cons_zero, Act.put, List.setIfInBounds_toArray, List.set_cons_zero, List.set_cons_succ]
            refine wpAnyH_take (i := 4) (v := ?_) rfl (by kernel_rfl) (by kernel_rfl) (by kernel_rfl) (fun _ _ _ h => h) (Or.inl ⟨by rfl, ?_⟩) hHeld ?_
            rotate_left
            · intro w' hS'
              (try dsimp only at hS')
              go_simp
              try with_reducible rfl
            try simp only [List.getElem_toArray, List.getElem_cons_succ, List.getElem_cons_zero, Act.put, List.setIfInBounds_toArray, List.set_cons_zero, List.set_cons_succ]
            refine wpAnyH_take (i := 5) (v := ?_) rfl (by kernel_rfl) (by kernel_rfl) (by kernel_rfl) (fun _ _ _ h => h) (Or.inl ⟨by rfl, ?_⟩) hHeld ?_
            rotate_left
            · intro w' hS'
              (try dsimp only at hS')
              go_simp
              try with_reducible rfl
            try simp only [List.getElem_toArray, List.getElem_cons_succ, List.getElem_cons_zero, Act.put, List.setIfInBounds_toArray, List.set_cons_zero, List.set_cons_succ]
            refine wpAnyH_ready (rs := [6]) (by kernel_rfl) (by simp) (AllReadyH.cons rfl (fun K hK => ?_) AllReadyH.nil)
            go_simp
            go_wp2_with (go_at_call 38; refine HCL.out.mono ?_; rintro _ w6 ⟨ca, cn, cc, rfl, q1, q2, q3⟩; have Q1 := Lib.hid q1; have Q2 := Lib.hid q2; have Q3 := Lib.hid q3; clear q1 q2 q3)
            refine hK.out _ _ (HS17.out _ Q3.out) (fun hHeld => ?_)
            clear hK K
            try simp only [List.getElem_toArray, List.getElem_cons_succ, List.getElem_cons_zero, Act.put, List.setIfInBounds_toArray, List.set_cons_zero, List.set_cons_succ]
            refine wpAnyH_ready (rs := [7]) (by kernel_rfl) (by simp) (AllReadyH.cons rfl (fun K hK => ?_) AllReadyH.nil)
            rw [if_pos (by rfl)]
            refine wp_updateM keyRf Try.underlying54 (.tmp 44) (.tmp 45) (.tmp 47) rfl rfl (HGG.out.later Q3.out).mt v (.slice ca cn cc) rfl rfl rfl ?_
            intro w7 g7 hm7
            have hs7 : (∀ W, KeepA (fun k => k = m1) w6 W → W.cell? ⟨gb, 0, none⟩ = some (.map (some m1)) ∧ W.cell? ⟨px, 0, none⟩ = some (.string v.1) ∧ W.cell? ⟨px, 1, none⟩ = some (.int .i64 v.2)) := fun W hW => by
              have h6 := HGG.out.later Q3.out
              have r1 := row_keep hW h6.box (row_map_ne h6.box h6.mt)
              have p6 := RowAt.below HP5.out Q3.out
              have r2 := row_keep hW p6 (row_map_ne p6 h6.mt)
              exact ⟨r1.cell 0, r2.cell 0, r2.cell 1⟩
            refine hK.out _ _ (hs7 _ (keep_grown g7)) (fun _ => ?_)
            clear hK K hs7
            try simp only [List.getElem_toArray, List.getElem_cons_succ, List.getElem_cons_zero, Act.put, List.setIfInBounds_toArray, List.set_cons_zero, List.set_cons_succ]
            refine wpAnyH_done (by kernel_rfl) ?_ _
            obtain ⟨Tp, hTp⟩ : ∃ Tp : Nat → Prop, (fun k => TT k ∨ px ≤ k) = Tp := ⟨_, rfl⟩
            have HTP : Hid (∀ k, Tp k → TT k ∨ px ≤ k) := Lib.hid fun k hk => by rw [← hTp] at hk; exact hk
            have HTP2 : Hid (∀ k, TT k ∨ px ≤ k → Tp k) := Lib.hid fun k hk => by rw [← hTp]; exact hk
            obtain ⟨D', hD'⟩ : ∃ D' : List (Rf × List Rf), ∀ x, x ∈ D' ↔ x = (v, tg) ∨ x ∈ D := ⟨(v, tg) :: D, fun x => List.mem_cons⟩
            obtain ⟨fT2, hfT2⟩ : ∃ f, (fun u => if u = v then some (.slice ca cn cc) else fT u) = f := ⟨_, rfl⟩
            have h7 : GrG w7 Tp gb m1 m2 fT2 fF D' (addRel D v tg 0) := by
              have h6 := (HGG.out.later Q3.out).into (T' := Tp) (fun k hk _ => HTP2.out k (.inl hk))
              have := (h6.putTo HNV.out Q1.out (fun p hp => HTP2.out p (.inr (Q2.out p hp))) g7 hD' hm7).rel (addRel_zero D v tg)
              rw [hfT2] at this
              exact this
            have HST : Hid (GrG w7 Tp gb m1 m2 fT2 fF D' (addRel D v tg 0) ∧ KeepA TT w w7 ∧ RowAt w7 px 25 #[.string v.1, .int .i64 v.2]) := by
              refine ⟨h7, keep_into (KeepA.of_below (below_trans HB15.out Q3.out)) (keep_grown g7) (fun k e => ?_), row_keep (keep_grown g7) (RowAt.below HP5.out Q3.out) (row_map_ne (RowAt.below HP5.out Q3.out) (HGG.out.later Q3.out).mt)⟩
              subst e
              exact .inl HGG.out.tb.2.1
            have HD' := Lib.hid hD'
            clear g7 hm7 h7 hD' hfT2 hTp HGG HMT1 HS17 HCL Q1 Q2 Q3 HP5 HB15 HBR HG1 HH HTG HR HN HC1 HP1
            go_wp2
            go_loopw [50] (fun jv wr => ∃ (i : Nat) (fF' : Rf → Option Value), jv = .int .i64 (i : Int) ∧ i ≤ j ∧ GrG wr Tp gb m1 m2 fT2 fF' D' (addRel D v tg i) ∧ KeepA TT w wr ∧ RowAt wr px 25 #[.string v.1, .int .i64 v.2]) (fun jv _ => j - (intOf jv).toNat)
            case atStart => exact ⟨0, fF, rfl, Nat.zero_le _, HST.out⟩
            case round =>
              clear HST
              obtain ⟨i, fF', rfl, hij, hgr, hkr, hpr⟩ := hrel
              have HGR := Lib.hid hgr
              have HKR := Lib.hid hkr
              have HPR := Lib.hid hpr
              clear hgr hkr hpr
              by_cases hilt : i < j
              · as_aux_lemma =>
                obtain ⟨b, off, ha, hcell⟩ := HRD.out.get i (by rw [HL.out]; exact hilt)
                subst ha
                obtain ⟨t, ht⟩ : ∃ t, tg[i]'(by rw [HL.out]; exact hilt) = t := ⟨_, rfl⟩
                rw [ht] at hcell
                have HT : Hid (∃ h : i < tg.length, tg[i] = t) := ⟨_, ht⟩
                have hapb := HAP.out b off rfl (by omega)
                have HCT : Hid (CellsAt wr rfC b (off + i * 2) t) := Lib.hid fun k u hu => HKR.out.cell (hcell w (Below.refl _ _) k u hu) hapb
                obtain ⟨bt, hbt⟩ : ∃ y, wr.heap.size = y := ⟨_, rfl⟩
                obtain ⟨wa, hwa⟩ : ∃ y, wr.alloc (.cells #[.string t.1, .int .i64 t.2] 25) = y := ⟨_, rfl⟩
                have hba : Below wr.heap.size wr wa := by rw [← hwa]; exact below_alloc _
                have HBA : Hid (RowAt wa bt 25 #[.string t.1, .int .i64 t.2]) := by rw [← hwa, ← hbt]; exact RowAt.new _ _ _
                have HGA := Lib.hid (HGR.out.later hba)
                have HPA : Hid (RowAt wa px 25 #[.string v.1, .int .i64 v.2]) := RowAt.below HPR.out hba
                have HKA : Hid (KeepA TT w wa) := HKR.out.trans (KeepA.of_below hba)
                have HVR : Hid (addRel D v tg i t v = false) := by
                  unfold addRel
                  have e1 : relD D t v = false := memB_not.2 fun hm => by
                    obtain ⟨x, hx, e, -⟩ := behd_in hm
                    exact HNV.out (by rw [← e]; exact List.mem_map_of_mem hx)
                  have e2 : memB t (tg.take i) = false := memB_not.2 fun hm => by
                    obtain ⟨h, e3⟩ := HT.out
                    obtain ⟨k, hk, hke⟩ := List.mem_iff_getElem.1 hm
                    rw [List.length_take] at hk
                    rw [List.getElem_take, ← e3] at hke
                    exact (List.pairwise_iff_getElem.1 HND.out) k i (by omega) h (by omega) hke
                  rw [e1, e2]
                  exact Lib.hid (by simp)
                have hS21 : ∀ W, Below wa.heap.size wa W → W.cell? ⟨gb, 1, none⟩ = some (.map (some m2)) ∧ W.cell? ⟨bt, 0, none⟩ = some (.string t.1) ∧ W.cell? ⟨bt, 1, none⟩ = some (.int .i64 t.2) := fun W hW => by
                  have r1 := RowAt.below HGA.out.box hW
                  have r2 := RowAt.below HBA.out hW
                  exact ⟨r1.cell 1, r2.cell 0, r2.cell 1⟩
                have HS21 := Lib.hid hS21
                have HM21 : Hid (MapR wa.drew m2 rfV fF') := HGA.out.mf
                clear hcell ht hba hapb hS21 HRD HAP HL
                go_upto_region 21 with (refine step_loadRf rfl (.tmp 52) rfl HCT.out rfl ?_)
                clear HCT HGR HKR HPR
                cases hf : fF' t with
                | none =>
                  have HFV : Hid ((fF' t).getD (.map none) = .map none) := by rw [hf]; rfl
                  have h60 : ∀ w, (binOp .eql 53 (.map none) (.map none)).run Try.prog w = .ok (.bool true) w := fun w => run_eqMapNil3 w none
                  refine wp_region_held_drew (S := fun W => W.cell? ⟨gb, 1, none⟩ = some (.map (some m2)) ∧ W.cell? ⟨bt, 0, none⟩ = some (.string t.1) ∧ W.cell? ⟨bt, 1, none⟩ = some (.int .i64 t.2)) (by kernel_rfl) (HS21.out wa.drew (drewN_below (Below.refl _ wa) 1)) (fun hHeld => ?_)
                  refine wpAnyH_take (i := 0) (v := ?_) rfl (by kernel_rfl) (by kernel_rfl) (by kernel_rfl) (fun _ _ _ h => h) (Or.inl ⟨by rfl, ?_⟩) hHeld ?_
                  rotate_left
                  · intro w' hS'
                    (try dsimp only at hS')
                    go_simp
                    try with_reducible rfl
                  try simp only [List.getElem_toArray, List.getElem_cons_zero, Act.put, List.setIfInBounds_toArray, List.set_cons_zero, List.set_cons_succ]
                  refine wpAnyH_take (i := 1) (v := ?_) rfl (by kernel_rfl) (by kernel_rfl) (by kernel_rfl) (fun _ _ _ h => h) (Or.inl ⟨by rfl, ?_⟩) hHeld ?_
                  rotate_left
                  · intro w' hS'
                    (try dsimp only at hS')
                    go_simp
                    try with_reducible rfl
                  try simp only [List.getElem_toArray, List.getElem_cons_succ, List.getElem_cons_zero, Act.put, List.setIfInBounds_toArray, List.set_cons_zero, List.set_cons_succ]
                  refine wpAnyH_take (i := 2) (v := ?_) rfl (by kernel_rfl) (by kernel_rfl) (by kernel_rfl) (fun _ _ _ h => h) (Or.inl ⟨by rfl, ?_⟩) hHeld ?_
                  rotate_left
                  · intro w' hS'
                    (try dsimp only at hS')
                    go_simp
                    try with_reducible rfl
                  try simp only [List.getElem_toArray, List.getElem_cons_succ, List.getElem_cons_zero, Act.put, List.setIfInBounds_toArray, List.set_cons_zero, List.set_cons_succ]
                  refine wpAnyH_take (i := 3) (v := ?_) rfl (by kernel_rfl) (by kernel_rfl) (by kernel_rfl) (fun _ _ _ h => h) (Or.inl ⟨by rfl, ?_⟩) hHeld ?_
                  rotate_left
                  · intro w' hS'
                    (try dsimp only at hS')
                    go_simp
                    try with_reducible rfl
                  try simp only [List.getElem_toArray, List.getElem_cons_succ, List.getElem_cons_zero, Act.put, List.setIfInBounds_toArray, List.set_cons_zero, List.set_cons_succ]
                  refine wpAnyH_take (i := 4) (v := ?_) rfl (by kernel_rfl) (by kernel_rfl) (by kernel_rfl) (fun _ _ _ h => h) (Or.inl ⟨by rfl, ?_⟩) hHeld ?_
                  rotate_left
                  · intro w' hS'
                    (try dsimp only at hS')
                    go_simp
                    try with_reducible rfl
                  try simp only [List.getElem_toArray, List.getElem_cons_succ, List.getElem_cons_zero, Act.put, List.setIfInBounds_toArray, List.set_cons_zero, List.set_cons_succ]
                  refine wpAnyH_ready (rs := [5]) (by kernel_rfl) (by simp) (AllReadyH.cons rfl (fun K hK => ?_) AllReadyH.nil)
                  rw [if_pos (by rfl)]
                  refine wp_lookup1 keyRf Try.underlying67 (.tmp 57) (.tmp 58) rfl HM21.out t (.map none) (zmap1 _) rfl rfl (.map none) HFV.out ?_
                  refine hK.out _ _ hHeld (fun hHeld => ?_)
                  clear hK K
                  try simp only [List.getElem_toArray, List.getElem_cons_succ, List.getElem_cons_zero, Act.put, List.setIfInBounds_toArray, List.set_cons_zero, List.set_cons_succ]
                  refine wpAnyH_take (i := 6) (v := ?_) rfl (by kernel_rfl) (by kernel_rfl) (by kernel_rfl) (fun _ _ _ h => h) (Or.inl ⟨by rfl, ?_⟩) hHeld ?_
                  rotate_left
                  · intro w' hS'
                    (try dsimp only at hS')
                    go_simp
                    try with_reducible rfl
                  try simp only [List.getElem_toArray, List.getElem_cons_succ, List.getElem_cons_zero, Act.put, List.setIfInBounds_toArray, List.set_cons_zero, List.set_cons_succ]
                  refine wpAnyH_done (by kernel_rfl) ?_ _
                  obtain ⟨w21, hw21⟩ : ∃ y, y = wa.drew := ⟨wa.drew, rfl⟩
                  have hb21 : Below wa.heap.size wa w21 := by rw [hw21]; exact drewN_below (Below.refl _ wa) 1
                  have HG21 : Hid (GrG w21 Tp gb m1 m2 fT2 fF' D' (addRel D v tg i)) := HGA.out.later hb21
                  have HP21 : Hid (RowAt w21 px 25 #[.string v.1, .int .i64 v.2]) := RowAt.below HPA.out hb21
                  have HB21 : Hid (RowAt w21 bt 25 #[.string t.1, .int .i64 t.2]) := RowAt.below HBA.out hb21
                  have HK21 : Hid (KeepA TT w w21) := HKA.out.trans (KeepA.of_below hb21)
                  rw [← hw21]
                  clear hw21 h60 hb21 HS21 HM21
                  obtain ⟨mN, hmN⟩ : ∃ y, w21.heap.size = y := ⟨_, rfl⟩
                  obtain ⟨wn, hwn⟩ : ∃ y, w21.drew.alloc (.map #[] 0) = y := ⟨_, rfl⟩
                  have hbn : Below w21.heap.size w21 wn := below_trans (drewN_below (Below.refl _ w21) 1) (by rw [← hwn]; exact below_alloc _)
                  have HBN := Lib.hid hbn
                  have HMN : Hid (MapR wn mN rfV (fun _ => none)) := by rw [← hwn, ← hmN]; exact MapR.new w21.drew
                  have HM2N : Hid (MapR wn m2 rfV fF') := (HG21.out.later hbn).mf
                  have HS22 : Hid (∀ W, KeepA (fun k => k = m2) w21 W → W.cell? ⟨gb, 1, none⟩ = some (.map (some m2)) ∧ W.cell? ⟨bt, 0, none⟩ = some (.string t.1) ∧ W.cell? ⟨bt, 1, none⟩ = some (.int .i64 t.2)) := Lib.hid fun W hW => by
                    have r1 := row_keep hW HG21.out.box (row_map_ne HG21.out.box HG21.out.mf)
                    have r2 := row_keep hW HB21.out (row_map_ne HB21.out HG21.out.mf)
                    exact ⟨r1.cell 1, r2.cell 0, r2.cell 1⟩
                  clear hbn
                  go_upto_region 22 with fail
                  refine wp_region_held_drew (S := fun W => W.cell? ⟨gb, 1, none⟩ = some (.map (some m2)) ∧ W.cell? ⟨bt, 0, none⟩ = some (.string t.1) ∧ W.cell? ⟨bt, 1, none⟩ = some (.int .i64 t.2)) (by kernel_rfl) (HS22.out w21.drew (KeepA.of_below (drewN_below (Below.refl _ w21) 1))) (fun hHeld => ?_)
                  refine wpAnyH_take (i := 0) (v := ?_) rfl (by kernel_rfl) (by kernel_rfl) (by kernel_rfl) (fun _ _ _ h => h) (Or.inl ⟨by rfl, ?_⟩) hHeld ?_
                  rotate_left
                  · intro w' hS'
                    (try dsimp only at hS')
                    go_simp
                    try with_reducible rfl
                  try simp only [List.getElem_toArray, List.getElem_cons_zero, Act.put, List.setIfInBounds_toArray, List.set_cons_zero, List.set_cons_succ]
                  refine wpAnyH_take (i := 1) (v := ?_) rfl (by kernel_rfl) (by kernel_rfl) (by kernel_rfl) (fun _ _ _ h => h) (Or.inl ⟨by rfl, ?_⟩) hHeld ?_
                  rotate_left
                  · intro w' hS'
                    (try dsimp only at hS')
                    go_simp
                    try with_reducible rfl
                  try simp only [List.getElem_toArray, List.getElem_cons_succ, List.getElem_cons_zero, Act.put, List.setIfInBounds_toArray, List.set_cons_zero, List.set_cons_succ]
                  refine wpAnyH_take (i := 2) (v := ?_) rfl (by kernel_rfl) (by kernel_rfl) (by kernel_rfl) (fun _ _ _ h => h) (Or.inl ⟨by rfl, ?_⟩) hHeld ?_
                  rotate_left
                  · intro w' hS'
                    (try dsimp only at hS')
                    go_simp
                    try with_reducible rfl
                  try simp only [List.getElem_toArray, List.getElem_cons_succ, List.getElem_cons_zero, Act.put, List.setIfInBounds_toArray, List.set_cons_zero, List.set_cons_succ]
                  refine wpAnyH_take (i := 3) (v := ?_) rfl (by kernel_rfl) (by kernel_rfl) (by kernel_rfl) (fun _ _ _ h => h) (Or.inl ⟨by rfl, ?_⟩) hHeld ?_
                  rotate_left
                  · intro w' hS'
                    (try dsimp only at hS')
                    go_simp
                    try with_reducible rfl
                  try simp only [List.getElem_toArray, List.getElem_cons_succ, List.getElem_cons_zero, Act.put, List.setIfInBounds_toArray, List.set_cons_zero, List.set_cons_succ]
                  refine wpAnyH_take (i := 4) (v := ?_) rfl (by kernel_rfl) (by kernel_rfl) (by kernel_rfl) (fun _ _ _ h => h) (Or.inl ⟨by rfl, ?_⟩) hHeld ?_
                  rotate_left
                  · intro w' hS'
                    (try dsimp only at hS')
                    go_simp
                    try with_reducible rfl
                  try simp only [List.getElem_toArray, List.getElem_cons_succ, List.getElem_cons_zero, Act.put, List.setIfInBounds_toArray, List.set_cons_zero, List.set_cons_succ]
                  refine wpAnyH_ready (rs := [5]) (by kernel_rfl) (by simp) (AllReadyH.cons rfl (fun K hK => ?_) AllReadyH.nil)
                  rw [if_pos (by rfl)]
                  refine wp_makeMapM 53 rfl ?_
                  intro wn' hwn'
                  rw [hwn] at hwn'
                  subst hwn'
                  rw [show w21.drew.heap.size = mN from hmN]
                  refine hK.out _ _ (HS22.out wn (KeepA.of_below HBN.out)) (fun hHeld => ?_)
                  clear hK K
                  try simp only [List.getElem_toArray, List.getElem_cons_succ, List.getElem_cons_zero, Act.put, List.setIfInBounds_toArray, List.set_cons_zero, List.set_cons_succ]
                  refine wpAnyH_ready (rs := [6]) (by kernel_rfl) (by simp) (AllReadyH.cons rfl (fun K hK => ?_) AllReadyH.nil)
                  rw [if_pos (by rfl)]
                  refine wp_updateM keyRf Try.underlying67 (.tmp 64) (.tmp 65) (.tmp 66) rfl rfl HM2N.out t (.map (some mN)) rfl rfl rfl ?_
                  intro wu gu hmu
                  have hku : KeepA (fun k => k = m2) w21 wu := (KeepA.of_below HBN.out).trans (keep_grown gu)
                  refine hK.out _ _ (HS22.out _ hku) (fun _ => ?_)
                  clear hK K
                  try simp only [List.getElem_toArray, List.getElem_cons_succ, List.getElem_cons_zero, Act.put, List.setIfInBounds_toArray, List.set_cons_zero, List.set_cons_succ]
                  refine wpAnyH_done (by kernel_rfl) ?_ _
                  obtain ⟨fF2, hfF2⟩ : ∃ f, (fun u => if u = t then some (.map (some mN)) else fF' u) = f := ⟨_, rfl⟩
                  have hg2 := HG21.out.newFrom hf HBN.out HMN.out (HTP2.out mN (.inr (by have := HK21.out.size; omega))) (by omega) gu hmu
                  rw [hfF2] at hg2
                  have GQ := Lib.hid hg2
                  have HF2S : Hid (fF2 t = some (.map (some mN))) := by rw [← hfF2]; exact Lib.hid (by simp)
                  have KQ : Hid (KeepA TT w wu) := keep_into HK21.out hku (fun k e => by subst e; rw [hG0]; exact HTP.out _ HG21.out.tb.2.2)
                  have PXQ : Hid (RowAt wu px 25 #[.string v.1, .int .i64 v.2]) := row_keep hku HP21.out (row_map_ne HP21.out HG21.out.mf)
                  have BTQ : Hid (RowAt wu bt 25 #[.string t.1, .int .i64 t.2]) := row_keep hku HB21.out (row_map_ne HB21.out HG21.out.mf)
                  obtain ⟨mt, hmt⟩ : ∃ y, mN = y := ⟨_, rfl⟩
                  rw [hmt] at HF2S
                  clear gu hmu hku hfF2 hg2 HG21 HP21 HB21 HK21 HBN HMN HM2N HS22 HGA HPA HBA HKA hmN hwn hf HFV hmt
                  obtain ⟨mt0, emt, HMTR, hmtT, hmt1, hmt2⟩ := GQ.out.frS t _ HF2S.out
                  cases emt
                  have hgm : ¬ gb = mt := row_map_ne GQ.out.box HMTR
                  have hbm : ¬ bt = mt := row_map_ne BTQ.out HMTR
                  have hpm : ¬ px = mt := row_map_ne PXQ.out HMTR
                  have HMT : Hid (MapR wu.drew mt rfV (relF (addRel D v tg i) t)) := HMTR
                  have HM2 : Hid (MapR wu.drew m2 rfV fF2) := GQ.out.mf
                  have HF2 : Hid ((fF2 t).getD (.map none) = .map (some mt)) := by rw [HF2S.out]; rfl
                  have HV0 : Hid ((relF (addRel D v tg i) t v).getD (.int .i64 0) = .int .i64 0) := by
                    unfold relF
                    rw [HVR.out]
                    rfl
                  have HS23 : Hid (∀ W, KeepA (fun k => k = mt) wu W → W.cell? ⟨gb, 1, none⟩ = some (.map (some m2)) ∧ W.cell? ⟨bt, 0, none⟩ = some (.string t.1) ∧ W.cell? ⟨bt, 1, none⟩ = some (.int .i64 t.2) ∧ W.cell? ⟨px, 0, none⟩ = some (.string v.1) ∧ W.cell? ⟨px, 1, none⟩ = some (.int .i64 v.2)) := Lib.hid fun W hW => by
                    have r1 := row_keep hW GQ.out.box hgm
                    have r2 := row_keep hW BTQ.out hbm
                    have r3 := row_keep hW PXQ.out hpm
                    exact ⟨r1.cell 1, r2.cell 0, r2.cell 1, r3.cell 0, r3.cell 1⟩
                  have HNEXT : Hid (∀ W, KeepA (fun k => k = mt) wu W → MapR W mt rfV (fun u => if u = v then some (.int .i64 1) else relF (addRel D v tg i) t u) → GrG W Tp gb m1 m2 fT2 fF2 D' (addRel D v tg (i + 1)) ∧ KeepA TT w W ∧ RowAt W px 25 #[.string v.1, .int .i64 v.2]) := Lib.hid fun W k1 k2 => by
                    refine ⟨GQ.out.setFrom HF2S.out k1 (k2.eqf fun u => ?_) (fun t' u hne => ?_), keep_into KQ.out k1 (fun k e => ?_), row_keep k1 PXQ.out hpm⟩
                    · obtain ⟨h, e1⟩ := HT.out
                      have := addRel_succ D v tg h u
                      rw [e1] at this
                      exact this
                    · obtain ⟨h, e1⟩ := HT.out
                      exact addRel_other D v tg h u (by rw [e1]; exact hne)
                    · subst e; rw [hG0]; exact HTP.out _ hmtT
                  clear HMTR hmtT hmt1 hmt2 hgm hbm hpm
                  go_upto_region 23 with fail
                  refine wp_region_held_drew (S := fun W => W.cell? ⟨gb, 1, none⟩ = some (.map (some m2)) ∧ W.cell? ⟨bt, 0, none⟩ = some (.string t.1) ∧ W.cell? ⟨bt, 1, none⟩ = some (.int .i64 t.2) ∧ W.cell? ⟨px, 0, none⟩ = some (.string v.1) ∧ W.cell? ⟨px, 1, none⟩ = some (.int .i64 v.2)) (by kernel_rfl) (HS23.out wu.drew (KeepA.of_below (drewN_below (Below.refl _ wu) 1))) (fun hHeld => ?_)
                  refine wpAnyH_take (i := 0) (v := ?_) rfl (by kernel_rfl) (by kernel_rfl) (by kernel_rfl) (fun _ _ _ h => h) (Or.inl ⟨by rfl, ?_⟩) hHeld ?_
                  rotate_left
                  · intro w' hS'
                    (try dsimp only at hS')
                    go_simp
                    try with_reducible rfl
                  try simp only [List.getElem_toArray, List.getElem_cons_zero, Act.put, List.setIfInBounds_toArray, List.set_cons_zero, List.set_cons_succ]
                  refine wpAnyH_take (i := 1) (v := ?_) rfl (by kernel_rfl) (by kernel_rfl) (by kernel_rfl) (fun _ _ _ h => h) (Or.inl ⟨by rfl, ?_⟩) hHeld ?_
                  rotate_left
                  · intro w' hS'
                    (try dsimp only at hS')
                    go_simp
                    try with_reducible rfl
                  try simp only [List.getElem_toArray, List.getElem_cons_succ, List.getElem_cons_zero, Act.put, List.setIfInBounds_toArray, List.set_cons_zero, List.set_cons_succ]
                  refine wpAnyH_take (i := 2) (v := ?_) rfl (by kernel_rfl) (by kernel_rfl) (by kernel_rfl) (fun _ _ _ h => h) (Or.inl ⟨by rfl, ?_⟩) hHeld ?_
                  rotate_left
                  · intro w' hS'
                    (try dsimp only at hS')
                    go_simp
                    try with_reducible rfl
                  try simp only [List.getElem_toArray, List.getElem_cons_succ, List.getElem_cons_zero, Act.put, List.setIfInBounds_toArray, List.set_cons_zero, List.set_cons_succ]
                  refine wpAnyH_take (i := 3) (v := ?_) rfl (by kernel_rfl) (by kernel_rfl) (by kernel_rfl) (fun _ _ _ h => h) (Or.inl ⟨by rfl, ?_⟩) hHeld ?_
                  rotate_left
                  · intro w' hS'
                    (try dsimp only at hS')
                    go_simp
                    try with_reducible rfl
                  try simp only [List.getElem_toArray, List.getElem_cons_succ, List.getElem_cons_zero, Act.put, List.setIfInBounds_toArray, List.set_cons_zero, List.set_cons_succ]
                  refine wpAnyH_take (i := 4) (v := ?_) rfl (by kernel_rfl) (by kernel_rfl) (by kernel_rfl) (fun _ _ _ h => h) (Or.inl ⟨by rfl, ?_⟩) hHeld ?_
                  rotate_left
                  · intro w' hS'
                    (try dsimp only at hS')
                    go_simp
                    try with_reducible rfl
                  try simp only [List.getElem_toArray, List.getElem_cons_succ, List.getElem_cons_zero, Act.put, List.setIfInBounds_toArray, List.set_cons_zero, List.set_cons_succ]
                  refine wpAnyH_take (i := 6) (v := ?_) rfl (by kernel_rfl) (by kernel_rfl) (by kernel_rfl) (fun _ _ _ h => h) (Or.inl ⟨by rfl, ?_⟩) hHeld ?_
                  rotate_left
                  · intro w' hS'
                    (try dsimp only at hS')
                    go_simp
                    try with_reducible rfl
                  try simp only [List.getElem_toArray, List.getElem_cons_succ, List.getElem_cons_zero, Act.put, List.setIfInBounds_toArray, List.set_cons_zero, List.set_cons_succ]
                  refine wpAnyH_ready (rs := [5]) (by kernel_rfl) (by simp) (AllReadyH.cons rfl (fun K hK => ?_) AllReadyH.nil)
                  rw [if_pos (by rfl)]
                  refine wp_lookup1 keyRf Try.underlying67 (.tmp 70) (.tmp 71) rfl HM2.out t (.map none) (zmap1 _) rfl rfl (.map (some mt)) HF2.out ?_
                  refine hK.out _ _ hHeld (fun hHeld => ?_)
                  clear hK K
                  try simp only [List.getElem_toArray, List.getElem_cons_succ, List.getElem_cons_zero, Act.put, List.setIfInBounds_toArray, List.set_cons_zero, List.set_cons_succ]
                  refine wpAnyH_ready (rs := [7, 9]) (by kernel_rfl) (by simp) (AllReadyH.cons rfl (fun K hK => ?_) (AllReadyH.cons rfl (fun K hK => ?_) AllReadyH.nil))
                  · rw [if_pos (by rfl)]
                    refine wp_lookup1 keyRf Try.underlying53 (.tmp 72) (.tmp 73) rfl HMT.out v (.int .i64 0) (zint _) rfl rfl (.int .i64 0) HV0.out ?_
                    refine hK.out _ _ hHeld (fun hHeld => ?_)
                    clear hK K
                    try simp only [List.getElem_toArray, List.getElem_cons_succ, List.getElem_cons_zero, Act.put, List.setIfInBounds_toArray, List.set_cons_zero, List.set_cons_succ]
                    refine wpAnyH_take (i := 8) (v := ?_) rfl (by kernel_rfl) (by kernel_rfl) (by kernel_rfl) (fun _ _ _ h => h) (Or.inl ⟨by rfl, ?_⟩) hHeld ?_
                    rotate_left
                    · intro w' hS'
                      (try dsimp only at hS')
                      go_simp
                      try with_reducible rfl
                    try simp only [List.getElem_toArray, List.getElem_cons_succ, List.getElem_cons_zero, Act.put, List.setIfInBounds_toArray, List.set_cons_zero, List.set_cons_succ]
                    refine wpAnyH_ready (rs := [9]) (by kernel_rfl) (by simp) (AllReadyH.cons rfl (fun K hK => ?_) AllReadyH.nil)
                    rw [if_pos (by rfl)]
                    refine wp_entryM keyRf Try.underlying53 (.tmp 72) (.tmp 73) rfl HMT.out v (.int .i64 0) (zint _) rfl rfl ?_
                    intro w2 st g2 me2
                    have K2 : Hid (KeepA (fun k => k = mt) wu w2) := (KeepA.of_below (drewN_below (Below.refl _ wu) 1)).trans (keep_grown g2)
                    refine hK.out _ _ (HS23.out _ K2.out) (fun hHeld => ?_)
                    clear hK K
                    try simp only [List.getElem_toArray, List.getElem_cons_succ, List.getElem_cons_zero, Act.put, List.setIfInBounds_toArray, List.set_cons_zero, List.set_cons_succ]
                    refine wpAnyH_take (i := 10) (v := ?_) rfl (by kernel_rfl) (by kernel_rfl) (by kernel_rfl) (fun _ _ _ h => h) (Or.inl ⟨by rfl, ?_⟩) hHeld ?_
                    rotate_left
                    · intro w' hS'
                      (try dsimp only at hS')
                      go_simp
                      try with_reducible rfl
                    try simp only [List.getElem_toArray, List.getElem_cons_succ, List.getElem_cons_zero, Act.put, List.setIfInBounds_toArray, List.set_cons_zero, List.set_cons_succ]
                    refine wpAnyH_ready (rs := [11]) (by kernel_rfl) (by simp) (AllReadyH.cons rfl (fun K hK => ?_) AllReadyH.nil)
                    rw [if_pos (by rfl)]
                    refine wp_estoreM (.tmp 72) (.tmp 77) (.tmp 75) rfl rfl me2 (.int .i64 1) rfl rfl rfl ?_
                    intro w3 g3 mr3
                    have K3 : Hid (KeepA (fun k => k = mt) wu w3) := K2.out.trans (keep_grown g3)
                    refine hK.out _ _ (HS23.out _ K3.out) (fun _ => ?_)
                    clear hK K
                    try simp only [List.getElem_toArray, List.getElem_cons_succ, List.getElem_cons_zero, Act.put, List.setIfInBounds_toArray, List.set_cons_zero, List.set_cons_succ]
                    refine wpAnyH_done (by kernel_rfl) ?_ _
                    have HN := Lib.hid (HNEXT.out w3 K3.out (bump_eqf mr3))
                    clear g2 me2 g3 mr3
                    go_wp2
                    exact ⟨⟨i + 1, _, by go_num, hilt, HN.out⟩, by show j - ((i : Int) + 1).toNat < j - (i : Int).toNat; omega⟩
                  · rw [if_pos (by rfl)]
                    refine wp_entryM keyRf Try.underlying53 (.tmp 72) (.tmp 73) rfl HMT.out v (.int .i64 0) (zint _) rfl rfl ?_
                    intro w2 st g2 me2
                    have K2 : Hid (KeepA (fun k => k = mt) wu w2) := (KeepA.of_below (drewN_below (Below.refl _ wu) 1)).trans (keep_grown g2)
                    refine hK.out _ _ (HS23.out _ K2.out) (fun hHeld => ?_)
                    clear hK K
                    try simp only [List.getElem_toArray, List.getElem_cons_succ, List.getElem_cons_zero, Act.put, List.setIfInBounds_toArray, List.set_cons_zero, List.set_cons_succ]
                    refine wpAnyH_take (i := 10) (v := ?_) rfl (by kernel_rfl) (by kernel_rfl) (by kernel_rfl) (fun _ _ _ h => h) (Or.inl ⟨by rfl, ?_⟩) hHeld ?_
                    rotate_left
                    · intro w' hS'
                      (try dsimp only at hS')
                      go_simp
                      try with_reducible rfl
                    try simp only [List.getElem_toArray, List.getElem_cons_succ, List.getElem_cons_zero, Act.put, List.setIfInBounds_toArray, List.set_cons_zero, List.set_cons_succ]
                    refine wpAnyH_ready (rs := [7]) (by kernel_rfl) (by simp) (AllReadyH.cons rfl (fun K hK => ?_) AllReadyH.nil)
                    rw [if_pos (by rfl)]
                    refine wp_lookup1 keyRf Try.underlying53 (.tmp 72) (.tmp 73) rfl me2.map v (.int .i64 0) (zint _) rfl rfl (.int .i64 0) (by rw [if_pos rfl]; exact HV0.out) ?_
                    refine hK.out _ _ hHeld (fun hHeld => ?_)
                    clear hK K
                    try simp only [List.getElem_toArray, List.getElem_cons_succ, List.getElem_cons_zero, Act.put, List.setIfInBounds_toArray, List.set_cons_zero, List.set_cons_succ]
                    refine wpAnyH_take (i := 8) (v := ?_) rfl (by kernel_rfl) (by kernel_rfl) (by kernel_rfl) (fun _ _ _ h => h) (Or.inl ⟨by rfl, ?_⟩) hHeld ?_
                    rotate_left
                    · intro w' hS'
                      (try dsimp only at hS')
                      go_simp
                      try with_reducible rfl
                    try simp only [List.getElem_toArray, List.getElem_cons_succ, List.getElem_cons_zero, Act.put, List.setIfInBounds_toArray, List.set_cons_zero, List.set_cons_succ]
                    refine wpAnyH_ready (rs := [11]) (by kernel_rfl) (by simp) (AllReadyH.cons rfl (fun K hK => ?_) AllReadyH.nil)
                    rw [if_pos (by rfl)]
                    refine wp_estoreM (.tmp 72) (.tmp 77) (.tmp 75) rfl rfl me2 (.int .i64 1) rfl rfl rfl ?_
                    intro w3 g3 mr3
                    have K3 : Hid (KeepA (fun k => k = mt) wu w3) := K2.out.trans (keep_grown g3)
                    refine hK.out _ _ (HS23.out _ K3.out) (fun _ => ?_)
                    clear hK K
                    try simp only [List.getElem_toArray, List.getElem_cons_succ, List.getElem_cons_zero, Act.put, List.setIfInBounds_toArray, List.set_cons_zero, List.set_cons_succ]
                    refine wpAnyH_done (by kernel_rfl) ?_ _
                    have HN := Lib.hid (HNEXT.out w3 K3.out (bump_eqf mr3))
                    clear g2 me2 g3 mr3
                    go_wp2
                    exact ⟨⟨i + 1, _, by go_num, hilt, HN.out⟩, by show j - ((i : Int) + 1).toNat < j - (i : Int).toNat; omega⟩
                | some s =>
                  obtain ⟨mt, es, -⟩ := HGA.out.frS t s hf
                  subst es
                  have HFV : Hid ((fF' t).getD (.map none) = .map (some mt)) := by rw [hf]; rfl
                  have h60 : ∀ w, (binOp .eql 53 (.map (some mt)) (.map none)).run Try.prog w = .ok (.bool false) w := fun w => run_eqMapNil3 w (some mt)
                  refine wp_region_held_drew (S := fun W => W.cell? ⟨gb, 1, none⟩ = some (.map (some m2)) ∧ W.cell? ⟨bt, 0, none⟩ = some (.string t.1) ∧ W.cell? ⟨bt, 1, none⟩ = some (.int .i64 t.2)) (by kernel_rfl) (HS21.out wa.drew (drewN_below (Below.refl _ wa) 1)) (fun hHeld => ?_)
                  refine wpAnyH_take (i := 0) (v := ?_) rfl (by kernel_rfl) (by kernel_rfl) (by kernel_rfl) (fun _ _ _ h => h) (Or.inl ⟨by rfl, ?_⟩) hHeld ?_
                  rotate_left
                  · intro w' hS'
                    (try dsimp only at hS')
                    go_simp
                    try with_reducible rfl
                  try simp only [List.getElem_toArray, List.getElem_cons_zero, Act.put, List.setIfInBounds_toArray, List.set_cons_zero, List.set_cons_succ]
                  refine wpAnyH_take (i := 1) (v := ?_) rfl (by kernel_rfl) (by kernel_rfl) (by kernel_rfl) (fun _ _ _ h => h) (Or.inl ⟨by rfl, ?_⟩) hHeld ?_
                  rotate_left
                  · intro w' hS'
                    (try dsimp only at hS')
                    go_simp
                    try with_reducible rfl
                  try simp only [List.getElem_toArray, List.getElem_cons_succ, List.getElem_cons_zero, Act.put, List.setIfInBounds_toArray, List.set_cons_zero, List.set_cons_succ]
                  refine wpAnyH_take (i := 2) (v := ?_) rfl (by kernel_rfl) (by kernel_rfl) (by kernel_rfl) (fun _ _ _ h => h) (Or.inl ⟨by rfl, ?_⟩) hHeld ?_
                  rotate_left
                  · intro w' hS'
                    (try dsimp only at hS')
                    go_simp
                    try with_reducible rfl
                  try simp only [List.getElem_toArray, List.getElem_cons_succ, List.getElem_cons_zero, Act.put, List.setIfInBounds_toArray, List.set_cons_zero, List.set_cons_succ]
                  refine wpAnyH_take (i := 3) (v := ?_) rfl (by kernel_rfl) (by kernel_rfl) (by kernel_rfl) (fun _ _ _ h => h) (Or.inl ⟨by rfl, ?_⟩) hHeld ?_
                  rotate_left
                  · intro w' hS'
                    (try dsimp only at hS')
                    go_simp
                    try with_reducible rfl
                  try simp only [List.getElem_toArray, List.getElem_cons_succ, List.getElem_cons_zero, Act.put, List.setIfInBounds_toArray, List.set_cons_zero, List.set_cons_succ]
                  refine wpAnyH_take (i := 4) (v := ?_) rfl (by kernel_rfl) (by kernel_rfl) (by kernel_rfl) (fun _ _ _ h => h) (Or.inl ⟨by rfl, ?_⟩) hHeld ?_
                  rotate_left
                  · intro w' hS'
                    (try dsimp only at hS')
                    go_simp
                    try with_reducible rfl
                  try simp only [List.getElem_toArray, List.getElem_cons_succ, List.getElem_cons_zero, Act.put, List.setIfInBounds_toArray, List.set_cons_zero, List.set_cons_succ]
                  refine wpAnyH_ready (rs := [5]) (by kernel_rfl) (by simp) (AllReadyH.cons rfl (fun K hK => ?_) AllReadyH.nil)
                  rw [if_pos (by rfl)]
                  refine wp_lookup1 keyRf Try.underlying67 (.tmp 57) (.tmp 58) rfl HM21.out t (.map none) (zmap1 _) rfl rfl (.map (some mt)) HFV.out ?_
                  refine hK.out _ _ hHeld (fun hHeld => ?_)
                  clear hK K
                  try simp only [List.getElem_toArray, List.getElem_cons_succ, List.getElem_cons_zero, Act.put, List.setIfInBounds_toArray, List.set_cons_zero, List.set_cons_succ]
                  refine wpAnyH_take (i := 6) (v := ?_) rfl (by kernel_rfl) (by kernel_rfl) (by kernel_rfl) (fun _ _ _ h => h) (Or.inl ⟨by rfl, ?_⟩) hHeld ?_
                  rotate_left
                  · intro w' hS'
                    (try dsimp only at hS')
                    go_simp
                    try with_reducible rfl
                  try simp only [List.getElem_toArray, List.getElem_cons_succ, List.getElem_cons_zero, Act.put, List.setIfInBounds_toArray, List.set_cons_zero, List.set_cons_succ]
                  refine wpAnyH_done (by kernel_rfl) ?_ _
                  obtain ⟨wq, hwq⟩ : ∃ y, y = wa.drew := ⟨wa.drew, rfl⟩
                  have hbq : Below wa.heap.size wa wq := by rw [hwq]; exact drewN_below (Below.refl _ wa) 1
                  obtain ⟨fF2, hfF2⟩ : ∃ f, fF' = f := ⟨_, rfl⟩
                  subst hfF2
                  rename (Rf → Option Value) => fF2
                  have GQ : Hid (GrG wq Tp gb m1 m2 fT2 _ D' (addRel D v tg i)) := Lib.hid (HGA.out.later hbq)
                  have HF2S := Lib.hid hf
                  have KQ : Hid (KeepA TT w wq) := HKA.out.trans (KeepA.of_below hbq)
                  have PXQ : Hid (RowAt wq px 25 #[.string v.1, .int .i64 v.2]) := RowAt.below HPA.out hbq
                  have BTQ : Hid (RowAt wq bt 25 #[.string t.1, .int .i64 t.2]) := RowAt.below HBA.out hbq
                  rw [← hwq]
                  clear hwq h60 hbq HS21 HM21 HGA HPA HBA HKA hf HFV
                  obtain ⟨mt0, emt, HMTR, hmtT, hmt1, hmt2⟩ := GQ.out.frS t _ HF2S.out
                  cases emt
                  have hgm : ¬ gb = mt := row_map_ne GQ.out.box HMTR
                  have hbm : ¬ bt = mt := row_map_ne BTQ.out HMTR
                  have hpm : ¬ px = mt := row_map_ne PXQ.out HMTR
                  have HMT : Hid (MapR wq.drew mt rfV (relF (addRel D v tg i) t)) := HMTR
                  have HM2 : Hid (MapR wq.drew m2 rfV fF2) := GQ.out.mf
                  have HF2 : Hid ((fF2 t).getD (.map none) = .map (some mt)) := by rw [HF2S.out]; rfl
                  have HV0 : Hid ((relF (addRel D v tg i) t v).getD (.int .i64 0) = .int .i64 0) := by
                    unfold relF
                    rw [HVR.out]
                    rfl
                  have HS23 : Hid (∀ W, KeepA (fun k => k = mt) wq W → W.cell? ⟨gb, 1, none⟩ = some (.map (some m2)) ∧ W.cell? ⟨bt, 0, none⟩ = some (.string t.1) ∧ W.cell? ⟨bt, 1, none⟩ = some (.int .i64 t.2) ∧ W.cell? ⟨px, 0, none⟩ = some (.string v.1) ∧ W.cell? ⟨px, 1, none⟩ = some (.int .i64 v.2)) := Lib.hid fun W hW => by
                    have r1 := row_keep hW GQ.out.box hgm
                    have r2 := row_keep hW BTQ.out hbm
                    have r3 := row_keep hW PXQ.out hpm
                    exact ⟨r1.cell 1, r2.cell 0, r2.cell 1, r3.cell 0, r3.cell 1⟩
                  have HNEXT : Hid (∀ W, KeepA (fun k => k = mt) wq W → MapR W mt rfV (fun u => if u = v then some (.int .i64 1) else relF (addRel D v tg i) t u) → GrG W Tp gb m1 m2 fT2 fF2 D' (addRel D v tg (i + 1)) ∧ KeepA TT w W ∧ RowAt W px 25 #[.string v.1, .int .i64 v.2]) := Lib.hid fun W k1 k2 => by
                    refine ⟨GQ.out.setFrom HF2S.out k1 (k2.eqf fun u => ?_) (fun t' u hne => ?_), keep_into KQ.out k1 (fun k e => ?_), row_keep k1 PXQ.out hpm⟩
                    · obtain ⟨h, e1⟩ := HT.out
                      have := addRel_succ D v tg h u
                      rw [e1] at this
                      exact this
                    · obtain ⟨h, e1⟩ := HT.out
                      exact addRel_other D v tg h u (by rw [e1]; exact hne)
                    · subst e; rw [hG0]; exact HTP.out _ hmtT
                  clear HMTR hmtT hmt1 hmt2 hgm hbm hpm
                  go_upto_region 23 with fail
                  refine wp_region_held_drew (S := fun W => W.cell? ⟨gb, 1, none⟩ = some (.map (some m2)) ∧ W.cell? ⟨bt, 0, none⟩ = some (.string t.1) ∧ W.cell? ⟨bt, 1, none⟩ = some (.int .i64 t.2) ∧ W.cell? ⟨px, 0, none⟩ = some (.string v.1) ∧ W.cell? ⟨px, 1, none⟩ = some (.int .i64 v.2)) (by kernel_rfl) (HS23.out wq.drew (KeepA.of_below (drewN_below (Below.refl _ wq) 1))) (fun hHeld => ?_)
                  refine wpAnyH_take (i := 0) (v := ?_) rfl (by kernel_rfl) (by kernel_rfl) (by kernel_rfl) (fun _ _ _ h => h) (Or.inl ⟨by rfl, ?_⟩) hHeld ?_
                  rotate_left
                  · intro w' hS'
                    (try dsimp only at hS')
                    go_simp
                    try with_reducible rfl
                  try simp only [List.getElem_toArray, List.getElem_cons_zero, Act.put, List.setIfInBounds_toArray, List.set_cons_zero, List.set_cons_succ]
                  refine wpAnyH_take (i := 1) (v := ?_) rfl (by kernel_rfl) (by kernel_rfl) (by kernel_rfl) (fun _ _ _ h => h) (Or.inl ⟨by rfl, ?_⟩) hHeld ?_
                  rotate_left
                  · intro w' hS'
                    (try dsimp only at hS')
                    go_simp
                    try with_reducible rfl
                  try simp only [List.getElem_toArray, List.getElem_cons_succ, List.getElem_cons_zero, Act.put, List.setIfInBounds_toArray, List.set_cons_zero, List.set_cons_succ]
                  refine wpAnyH_take (i := 2) (v := ?_) rfl (by kernel_rfl) (by kernel_rfl) (by kernel_rfl) (fun _ _ _ h => h) (Or.inl ⟨by rfl, ?_⟩) hHeld ?_
                  rotate_left
                  · intro w' hS'
                    (try dsimp only at hS')
                    go_simp
                    try with_reducible rfl
                  try simp only [List.getElem_toArray, List.getElem_cons_succ, List.getElem_cons_zero, Act.put, List.setIfInBounds_toArray, List.set_cons_zero, List.set_cons_succ]
                  refine wpAnyH_take (i := 3) (v := ?_) rfl (by kernel_rfl) (by kernel_rfl) (by kernel_rfl) (fun _ _ _ h => h) (Or.inl ⟨by rfl, ?_⟩) hHeld ?_
                  rotate_left
                  · intro w' hS'
                    (try dsimp only at hS')
                    go_simp
                    try with_reducible rfl
                  try simp only [List.getElem_toArray, List.getElem_cons_succ, List.getElem_cons_zero, Act.put, List.setIfInBounds_toArray, List.set_cons_zero, List.set_cons_succ]
                  refine wpAnyH_take (i := 4) (v := ?_) rfl (by kernel_rfl) (by kernel_rfl) (by kernel_rfl) (fun _ _ _ h => h) (Or.inl ⟨by rfl, ?_⟩) hHeld ?_
                  rotate_left
                  · intro w' hS'
                    (try dsimp only at hS')
                    go_simp
                    try with_reducible rfl
                  try simp only [List.getElem_toArray, List.getElem_cons_succ, List.getElem_cons_zero, Act.put, List.setIfInBounds_toArray, List.set_cons_zero, List.set_cons_succ]
                  refine wpAnyH_take (i := 6) (v := ?_) rfl (by kernel_rfl) (by kernel_rfl) (by kernel_rfl) (fun _ _ _ h => h) (Or.inl ⟨by rfl, ?_⟩) hHeld ?_
                  rotate_left
                  · intro w' hS'
                    (try dsimp only at hS')
                    go_simp
                    try with_reducible rfl
                  try simp only [List.getElem_toArray, List.getElem_cons_succ, List.getElem_cons_zero, Act.put, List.setIfInBounds_toArray, List.set_cons_zero, List.set_cons_succ]
                  refine wpAnyH_ready (rs := [5]) (by kernel_rfl) (by simp) (AllReadyH.cons rfl (fun K hK => ?_) AllReadyH.nil)
                  rw [if_pos (by rfl)]
                  refine wp_lookup1 keyRf Try.underlying67 (.tmp 70) (.tmp 71) rfl HM2.out t (.map none) (zmap1 _) rfl rfl (.map (some mt)) HF2.out ?_
                  refine hK.out _ _ hHeld (fun hHeld => ?_)
                  clear hK K
                  try simp only [List.getElem_toArray, List.getElem_cons_succ, List.getElem_cons_zero, Act.put, List.setIfInBounds_toArray, List.set_cons_zero, List.set_cons_succ]
                  refine wpAnyH_ready (rs := [7, 9]) (by kernel_rfl) (by simp) (AllReadyH.cons rfl (fun K hK => ?_) (AllReadyH.cons rfl (fun K hK => ?_) AllReadyH.nil))
                  · rw [if_pos (by rfl)]
                    refine wp_lookup1 keyRf Try.underlying53 (.tmp 72) (.tmp 73) rfl HMT.out v (.int .i64 0) (zint _) rfl rfl (.int .i64 0) HV0.out ?_
                    refine hK.out _ _ hHeld (fun hHeld => ?_)
                    clear hK K
                    try simp only [List.getElem_toArray, List.getElem_cons_succ, List.getElem_cons_zero, Act.put, List.setIfInBounds_toArray, List.set_cons_zero, List.set_cons_succ]
                    refine wpAnyH_take (i := 8) (v := ?_) rfl (by kernel_rfl) (by kernel_rfl) (by kernel_rfl) (fun _ _ _ h => h) (Or.inl ⟨by rfl, ?_⟩) hHeld ?_
                    rotate_left
                    · intro w' hS'
                      (try dsimp only at hS')
                      go_simp
                      try with_reducible rfl
                    try simp only [List.getElem_toArray, List.getElem_cons_succ, List.getElem_cons_zero, Act.put, List.setIfInBounds_toArray, List.set_cons_zero, List.set_cons_succ]
                    refine wpAnyH_ready (rs := [9]) (by kernel_rfl) (by simp) (AllReadyH.cons rfl (fun K hK => ?_) AllReadyH.nil)
                    rw [if_pos (by rfl)]
                    refine wp_entryM keyRf Try.underlying53 (.tmp 72) (.tmp 73) rfl HMT.out v (.int .i64 0) (zint _) rfl rfl ?_
                    intro w2 st g2 me2
                    have K2 : Hid (KeepA (fun k => k = mt) wq w2) := (KeepA.of_below (drewN_below (Below.refl _ wq) 1)).trans (keep_grown g2)
                    refine hK.out _ _ (HS23.out _ K2.out) (fun hHeld => ?_)
                    clear hK K
                    try simp only [List.getElem_toArray, List.getElem_cons_succ, List.getElem_cons_zero, Act.put, List.setIfInBounds_toArray, List.set_cons_zero, List.set_cons_succ]
                    refine wpAnyH_take (i := 10) (v := ?_) rfl (by kernel_rfl) (by kernel_rfl) (by kernel_rfl) (fun _ _ _ h => h) (Or.inl ⟨by rfl, ?_⟩) hHeld ?_
                    rotate_left
                    · intro w' hS'
                      (try dsimp only at hS')
                      go_simp
                      try with_reducible rfl
                    try simp only [List.getElem_toArray, List.getElem_cons_succ, List.getElem_cons_zero, Act.put, List.setIfInBounds_toArray, List.set_cons_zero, List.set_cons_succ]
                    refine wpAnyH_ready (rs := [11]) (by kernel_rfl) (by simp) (AllReadyH.cons rfl (fun K hK => ?_) AllReadyH.nil)
                    rw [if_pos (by rfl)]
                    refine wp_estoreM (.tmp 72) (.tmp 77) (.tmp 75) rfl rfl me2 (.int .i64 1) rfl rfl rfl ?_
                    intro w3 g3 mr3
                    have K3 : Hid (KeepA (fun k => k = mt) wq w3) := K2.out.trans (keep_grown g3)
                    refine hK.out _ _ (HS23.out _ K3.out) (fun _ => ?_)
                    clear hK K
                    try simp only [List.getElem_toArray, List.getElem_cons_succ, List.getElem_cons_zero, Act.put, List.setIfInBounds_toArray, List.set_cons_zero, List.set_cons_succ]
                    refine wpAnyH_done (by kernel_rfl) ?_ _
                    have HN := Lib.hid (HNEXT.out w3 K3.out (bump_eqf mr3))
                    clear g2 me2 g3 mr3
                    go_wp2
                    exact ⟨⟨i + 1, _, by go_num, hilt, HN.out⟩, by show j - ((i : Int) + 1).toNat < j - (i : Int).toNat; omega⟩
                  · rw [if_pos (by rfl)]
                    refine wp_entryM keyRf Try.underlying53 (.tmp 72) (.tmp 73) rfl HMT.out v (.int .i64 0) (zint _) rfl rfl ?_
                    intro w2 st g2 me2
                    have K2 : Hid (KeepA (fun k => k = mt) wq w2) := (KeepA.of_below (drewN_below (Below.refl _ wq) 1)).trans (keep_grown g2)
                    refine hK.out _ _ (HS23.out _ K2.out) (fun hHeld => ?_)
                    clear hK K
                    try simp only [List.getElem_toArray, List.getElem_cons_succ, List.getElem_cons_zero, Act.put, List.setIfInBounds_toArray, List.set_cons_zero, List.set_cons_succ]
                    refine wpAnyH_take (i := 10) (v := ?_) rfl (by kernel_rfl) (by kernel_rfl) (by kernel_rfl) (fun _ _ _ h => h) (Or.inl ⟨by rfl, ?_⟩) hHeld ?_
                    rotate_left
                    · intro w' hS'
                      (try dsimp only at hS')
                      go_simp
                      try with_reducible rfl
                    try simp only [List.getElem_toArray, List.getElem_cons_succ, List.getElem_cons_zero, Act.put, List.setIfInBounds_toArray, List.set_cons_zero, List.set_cons_succ]
                    refine wpAnyH_ready (rs := [7]) (by kernel_rfl) (by simp) (AllReadyH.cons rfl (fun K hK => ?_) AllReadyH.nil)
                    rw [if_pos (by rfl)]
                    refine wp_lookup1 keyRf Try.underlying53 (.tmp 72) (.tmp 73) rfl me2.map v (.int .i64 0) (zint _) rfl rfl (.int .i64 0) (by rw [if_pos rfl]; exact HV0.out) ?_
                    refine hK.out _ _ hHeld (fun hHeld => ?_)
                    clear hK K
                    try simp only [List.getElem_toArray, List.getElem_cons_succ, List.getElem_cons_zero, Act.put, List.setIfInBounds_toArray, List.set_cons_zero, List.set_cons_succ]
                    refine wpAnyH_take (i := 8) (v := ?_) rfl (by kernel_rfl) (by kernel_rfl) (by kernel_rfl) (fun _ _ _ h => h) (Or.inl ⟨by rfl, ?_⟩) hHeld ?_
                    rotate_left
                    · intro w' hS'
                      (try dsimp only at hS')
                      go_simp
                      try with_reducible rfl
                    try simp only [List.getElem_toArray, List.getElem_cons_succ, List.getElem_cons_zero, Act.put, List.setIfInBounds_toArray, List.set_cons_zero, List.set_cons_succ]
                    refine wpAnyH_ready (rs := [11]) (by kernel_rfl) (by simp) (AllReadyH.cons rfl (fun K hK => ?_) AllReadyH.nil)
                    rw [if_pos (by rfl)]
                    refine wp_estoreM (.tmp 72) (.tmp 77) (.tmp 75) rfl rfl me2 (.int .i64 1) rfl rfl rfl ?_
                    intro w3 g3 mr3
                    have K3 : Hid (KeepA (fun k => k = mt) wq w3) := K2.out.trans (keep_grown g3)
                    refine hK.out _ _ (HS23.out _ K3.out) (fun _ => ?_)
                    clear hK K
                    try simp only [List.getElem_toArray, List.getElem_cons_succ, List.getElem_cons_zero, Act.put, List.setIfInBounds_toArray, List.set_cons_zero, List.set_cons_succ]
                    refine wpAnyH_done (by kernel_rfl) ?_ _
                    have HN := Lib.hid (HNEXT.out w3 K3.out (bump_eqf mr3))
                    clear g2 me2 g3 mr3
                    go_wp2
                    exact ⟨⟨i + 1, _, by go_num, hilt, HN.out⟩, by show j - ((i : Int) + 1).toNat < j - (i : Int).toNat; omega⟩
              · have hij' : i = j := by omega
                subst hij'
                have HF : Hid (K (.returned (.int .i64 0)) wr) := HKO.out wr HZ.out HKR.out fun D2 hD2 => by
                  have h1 := (HGR.out.list (D2 := D2) (fun x => by rw [hD2, HD'.out])).rel (R' := relD D2) (fun t u => by
                    have := addRel_end hD2 t u
                    rw [HL.out] at this
                    exact this)
                  refine ⟨m1, m2, fT2, fF', (h1.into (fun k hk hl => ?_)).m⟩
                  rcases HTP.out k hk with e | e
                  · exact .inl e
                  · exact .inr ⟨by rw [hpx]; exact e, hl⟩
                clear HGR HKR HPR
                go_wp2
                exact HF.out
    · go_wp2_with (first
        | (go_at_call 37; refine HN.out.mono ?_; rintro _ _ ⟨rfl, rfl⟩)
        | (refine step_loadRf rfl (.tmp 4) rfl HC1.out rfl ?_)
        | (go_at_call 26; refine HR.out.mono ?_; rintro _ w2 ⟨rfl, hb2⟩; have HB2 := Lib.hid hb2; clear hb2)
        | (go_at_call 25; refine (HTG.out _ HB2.out).mono ?_; rintro _ w3 ⟨rfl, hb3⟩; have HB3 := Lib.hid (below_trans HB2.out hb3); clear hb3))
      exact HKE.out e0 _ (by rw [addR_tgt HRR.out (by rw [HE0.out]; exact he), HE0.out]) he (below_trans HB1.out HB3.out)
end Go.Proofs.Ytcakdjnnfonijaa
