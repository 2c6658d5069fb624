/- refs.Order: the answer that the plain law tells. -/
import Derived.Test.YtcakdjnnfonijaaRoOrd3
namespace Go.Proofs.Ytcakdjnnfonijaa
open Go.RowKit

theorem aggLks {s : ByteArray} {z : Int} {ta : Option Addr} {m tc : Nat} : Agg Try.prog 28 [Value.string s, .int .i64 z, .slice ta m tc].length := ⟨⟨_, Try.underlying28⟩, by kernel_rfl⟩
theorem znil (w : World) : (zeroValue 26).run Try.prog w = .ok (.slice none 0 0) w := by kernel_rfl
theorem lk_cells {W : World} {b o : Nat} {x : Rf × List Rf} {ta : Option Addr} {m tc : Nat} (h : LkR W b o x ta tc) (hm : x.2.length = m) : ∀ j v, [Value.string x.1.1, .int .i64 x.1.2, .slice ta m tc][j]? = some v → W.cell? ((⟨b, o, none⟩ : Addr).add j) = some v := fun j v hv => by
  have hadd : (⟨b, o, none⟩ : Addr).add j = ⟨b, o + j, none⟩ := by unfold Addr.add; split <;> simp_all
  rw [hadd]
  match j, hv with
  | 0, hv => exact h.1 0 v hv
  | 1, hv => exact h.1 1 v hv
  | 2, hv =>
    have := h.2.1
    rw [hm] at this
    rw [this]; exact hv
theorem wp_entryMv {P : Program} {kt : TypeId} {κ : Type} [DecidableEq κ] {kv : κ → Value} (K : KeyT P kt kv) {mt et : TypeId} (hm : P.underlying mt = some (.map kt et)) {o : Oper} {act : Act} {N : Act → World → Prop} {Q : Exit → Act → World → Prop} {w : World} (x y : Operand) (ho : o.op = .mapEntry mt x y)
    {r : Nat} {f : κ → Option Value} (h : MapR w r kv f) (k : κ) (z : Value) (hz : (zeroValue et).run P w = .ok z w) (hx : act.eval x = .map (some r)) (hy : act.eval y = kv k) (v : Value) (hv : (f k).getD z = v)
    (hn : ∀ w' (st : Nat), w.grownBy w' (some r) → MapE w' r kv (fun j => if j = k then some v else f j) k st → N (act.put o.dst (.tuple #[v, .int .i64 st])) w') : o.wp P act w N Q :=
  wp_entryM K hm x y ho h k z hz hx hy fun w' st q1 q2 => by subst hv; exact hn w' st q1 q2
theorem cells_kept {w w' : World} {X : Nat → Prop} (hk : KeepA X w w') {b : Nat} {x : Rf} (hb : b < w.heap.size) (hx : ¬ X b) (h : CellsAt w rfC b 0 x) : CellsAt w' rfC b 0 x := fun k v hv => by
  have := hk.same b hb hx
  have e2 : w'.cell? ⟨b, 0 + k, none⟩ = w.cell? ⟨b, 0 + k, none⟩ := by simp only [World.cell?, this]
  rw [e2]
  exact h k v hv
theorem tgt_take {L : List (Rf × List Rf)} {i : Nat} (hi : i < L.length) {z e z2 : Int} (h : z = 0 ∧ (∀ x ∈ L.take i, tgt x.2 ≠ 3) ∨ z = 3 ∧ ∃ x ∈ L.take i, tgt x.2 = 3) (he : tgt L[i].2 = e) (h2 : e ≠ 2) (hz : cmpOr z e = z2) :
    z2 = 0 ∧ (∀ x ∈ L.take (i + 1), tgt x.2 ≠ 3) ∨ z2 = 3 ∧ ∃ x ∈ L.take (i + 1), tgt x.2 = 3 := by
  unfold cmpOr at hz
  rcases h with ⟨rfl, h⟩ | ⟨rfl, x, hx, hx2⟩
  · rw [if_pos rfl] at hz
    subst hz
    rcases tgt_in L[i].2 with e1 | e1 | e1
    · refine .inl ⟨by rw [← he, e1], fun x hx => ?_⟩
      rcases (mem_take_succ hi x).1 hx with hx | hx
      · exact h x hx
      · rw [hx, e1]; decide
    · exact absurd (he.symm.trans e1) h2
    · exact .inr ⟨by rw [← he, e1], L[i], (mem_take_succ hi _).2 (.inr rfl), e1⟩
  · rw [if_neg (by decide)] at hz
    exact .inr ⟨hz.symm, x, (mem_take_succ hi x).2 (.inl hx), hx2⟩
theorem lk_box {w : World} {b : Nat} {t : TypeId} {x : Rf} {u : Value} (h : RowAt w b t #[.string x.1, .int .i64 x.2, u]) : CellsAt w rfC b 0 x := fun j v hv => by
  rw [Nat.zero_add, h.cell j]
  match j, hv with
  | 0, hv => exact hv
  | 1, hv => exact hv
set_option maxRecDepth 100000 in
set_option maxHeartbeats 8000000 in
theorem order_any (a : Option Addr) (n c : Nat) (L : List (Rf × List Rf)) (w : World) (b off : Nat) (hl : L.length = n) (hb : n ≤ 40) (hts : ∀ x ∈ L, x.2.length ≤ 100) (ha : 0 < L.length → a = some ⟨b, off, none⟩ ∧ b < w.heap.size) (hrows : ∀ k (hk : k < L.length), ∃ ta tc, ∀ W, Below w.heap.size w W → LkR W b (off + k * 3) L[k] ta tc) :
    Calls Try.prog 6 #[.slice a n c] w (OrdEnd L w) := by
  obtain ⟨g, hg⟩ : ∃ x, w.heap.size = x := ⟨_, rfl⟩
  have HLN := Lib.hid hl
  have HTS := Lib.hid hts
  have HA := Lib.hid ha
  have HROWS := Lib.hid hrows
  have HEND : Hid (∀ W z, ordR ltR L = ([], z) → Below w.heap.size w W → OrdEnd L w (.returned (.tuple #[.slice none 0 0, .int .i64 z])) W) := fun W z => OrdEnd.err
  have HENDV : Hid (∀ W oa oc out, ordR ltR L = (out, 0) → RdRf W oa out → Below w.heap.size w W → OrdEnd L w (.returned (.tuple #[.slice oa out.length oc, .int .i64 0])) W) := fun W oa oc out h1 h2 h3 => by
    unfold OrdEnd
    rw [h1]
    exact ⟨oa, oc, rfl, h2, h3⟩
  obtain ⟨K, hK⟩ : ∃ K, OrdEnd L w = K := ⟨_, rfl⟩
  rw [hK] at HEND HENDV ⊢
  rw [hg] at HEND HENDV HA HROWS
  clear hl hts ha hrows hK
  obtain ⟨w1, hw1⟩ : ∃ y, w.alloc (.map #[] 0) = y := ⟨_, rfl⟩
  obtain ⟨w2, hw2⟩ : ∃ y, w1.alloc (.map #[] 0) = y := ⟨_, rfl⟩
  have hs1 : w1.heap.size = g + 1 := by rw [← hw1]; simp [hg]
  have hs2 : w2.heap.size = g + 2 := by rw [← hw2]; simp [hs1]
  have hb1 : Below g w w1 := by rw [← hw1, ← hg]; exact below_alloc _
  have hb2 : Below w1.heap.size w1 w2 := by rw [← hw2]; exact below_alloc _
  have hm1 : MapR w1 g rfV (fun _ => none) := by rw [← hw1, ← hg]; exact MapR.new _
  have HST : Hid (Below g w w2 ∧ MapR w2 g rfV (keyF (L.take 0) phi0) ∧ MapR w2 (g + 1) rfV (fun _ => none) ∧ BhF w2 (g + 2) (fun _ => none) (behd (L.take 0))) :=
    ⟨hb1.trans (hb2.mono (by omega)), hm1.same (hb2.block g (by omega)), by rw [← hw2, ← hs1]; exact MapR.new _, (BhF.nil w2 (g + 2)).eqB fun t => rfl⟩
  clear hb1 hb2 hm1
  go_enter Try.func6, Try.ntmps6
  go_wp2_with (first
    | (refine step_makeMapM rfl 53 rfl ?_; intro w1' hw1'; rw [hw1] at hw1'; rw [hg]; subst hw1')
    | (refine step_makeMapM rfl 54 rfl ?_; intro w2' hw2'; rw [hw2] at hw2'; rw [hs1]; subst hw2'))
  go_loopw [6, 29] (fun lg i wr => ∃ (k : Nat) (z : Int) (fb : Rf → Option Value), lg = .int .i64 z ∧ i = .int .i64 (k : Int) ∧ k ≤ n ∧ goodL L k ∧ (z = 0 ∧ (∀ x ∈ L.take k, tgt x.2 ≠ 3) ∨ z = 3 ∧ ∃ x ∈ L.take k, tgt x.2 = 3) ∧ Below g w wr ∧ MapR wr g rfV (keyF (L.take k) phi0) ∧ MapR wr (g + 1) rfV fb ∧ BhF wr (g + 2) fb (behd (L.take k))) (fun _ i _ => n - (intOf i).toNat)
  case atStart => exact ⟨0, 0, fun _ => none, rfl, rfl, Nat.zero_le _, goodL_zero L, .inl ⟨rfl, by simp⟩, HST.out⟩
  case round =>
    obtain ⟨i, z, fb, rfl, rfl, hi, hgl, hlg, hbr, hml, hmb, hbh⟩ := hrel
    have HGL := Lib.hid hgl
    have HLG := Lib.hid hlg
    have HBR := Lib.hid hbr
    have HML := Lib.hid hml
    have HMB := Lib.hid hmb
    have HBH := Lib.hid hbh
    have hszr : g + 1 < wr.heap.size := hmb.lt
    clear hgl hlg hbr hml hmb hbh HST hw1 hw2 hs1 hs2
    by_cases hin : i < n
    · as_aux_lemma =>
      obtain ⟨ha, hbs⟩ := HA.out (by rw [HLN.out]; omega)
      subst ha
      obtain ⟨ta, tc, hrow⟩ := HROWS.out i (by rw [HLN.out]; omega)
      obtain ⟨x, hx⟩ : ∃ x, L[i]'(by rw [HLN.out]; omega) = x := ⟨_, rfl⟩
      rw [hx] at hrow
      have HX : Hid (∃ h : i < L.length, L[i] = x) := ⟨_, hx⟩
      have HROW := Lib.hid hrow
      obtain ⟨m, hm⟩ : ∃ m, x.2.length = m := ⟨_, rfl⟩
      have hmb : m ≤ 100 := by rw [← hm, ← hx]; exact HTS.out _ (List.getElem_mem _)
      have HM := Lib.hid hm
      clear hrow hx hm
      have hrw := HROW.out wr HBR.out
      have HCL := Lib.hid (lk_cells hrw HM.out)
      obtain ⟨px, hpx⟩ : ∃ y, wr.heap.size = y := ⟨_, rfl⟩
      obtain ⟨w5, hw5⟩ : ∃ y, wr.alloc (.cells #[.string x.1.1, .int .i64 x.1.2, .slice ta m tc] 28) = y := ⟨_, rfl⟩
      have hb5 : Below wr.heap.size wr w5 := by rw [← hw5]; exact below_alloc _
      have HB5 := Lib.hid hb5
      have hr5 : RowAt w5 px 28 #[.string x.1.1, .int .i64 x.1.2, .slice ta m tc] := by rw [← hw5, ← hpx]; exact RowAt.new _ _ _
      have HP5 := Lib.hid hr5
      have HC5 : Hid (CellsAt w5 rfC px 0 x.1) := lk_box hr5
      have HM5 : Hid (MapR w5 g rfV (keyF (L.take i) phi0)) := HML.out.same (hb5.block g HML.out.lt)
      have HTG := Lib.hid (targets_any ta m tc x.2 w5 HM.out (by omega) (hrw.2.2.later hb5))
      have hk51 := hr5.cell 0
      have hk52 := hr5.cell 1
      have hk53 := hr5.cell 2
      obtain ⟨e, he⟩ : ∃ e, tgt x.2 = e := ⟨_, rfl⟩
      have HE := Lib.hid he
      rw [he] at HTG
      obtain ⟨rr, hrr⟩ : ∃ r, rightR x.1 = r := ⟨_, rfl⟩
      have HRR := Lib.hid hrr
      have HRG : Hid (∀ W, Calls Try.prog 26 #[.agg #[.string x.1.1, .int .i64 x.1.2]] W fun e w' => e = .returned (.bool rr) ∧ Below W.heap.size W w') := fun W => by rw [← hrr]; exact right_any x.1 W
      obtain ⟨vv, hvv⟩ : ∃ y, (keyF (L.take i) phi0 x.1).getD (.int .i64 0) = y := ⟨_, rfl⟩
      have HVV := Lib.hid hvv
      obtain ⟨tw, htw⟩ : ∃ y, (keyF (L.take i) phi0 x.1).isSome = y := ⟨_, rfl⟩
      have HTW := Lib.hid htw
      have hein : e = 0 ∨ e = 2 ∨ e = 3 := by rw [← he]; exact tgt_in _
      clear hrw hb5 hr5 he hrr hvv htw
      by_cases hbad : rr = false ∨ tw = true ∨ e = 2
      · have HE2 : Hid (ordR ltR L = ([], 2)) := ordR_arg (by
          obtain ⟨h, e1⟩ := HX.out
          refine goodL_not h ?_
          rw [e1]
          rcases hbad with h | h | h
          · exact .inl (by rw [HRR.out, h])
          · refine .inr (.inr ?_)
            have h2 := HTW.out
            rw [h] at h2
            exact keyF_isSome.1 h2
          · exact .inr (.inl (by rw [HE.out, h])))
        have HFIN : Hid (∀ W, Below w5.heap.size w5 W → K (.returned (.tuple #[.slice none 0 0, .int .i64 2])) W) := Lib.hid fun W hW => HEND.out W 2 HE2.out ((HBR.out.trans (HB5.out.mono (by omega))).trans (hW.mono (by have := HB5.out.size; omega)))
        rcases Bool.eq_false_or_eq_true rr with hr1 | hr1
        · subst hr1
          rcases Bool.eq_false_or_eq_true tw with ht1 | ht1
          · subst ht1
            clear hbad hein
            go_wp2_with (first
            | (refine step_loadCells rfl 28 (.tmp 31) rfl ⟨b, off + i * 3, none⟩ rfl _ aggLks HCL.out ?_)
            | (refine step_loadRf rfl (.tmp 35) rfl HC5.out rfl ?_)
            | (refine step_lookup2 keyRf Try.underlying53 rfl (.tmp 34) (.tmp 36) rfl HM5.out x.1 (.int .i64 0) (zint _) rfl rfl _ _ HVV.out HTW.out ?_)
            | (go_at_call 25; refine HTG.out.mono ?_; rintro _ w6 ⟨rfl, hb6⟩; have HB6 := Lib.hid hb6; have hr6 := RowAt.below HP5.out hb6; have HC6 : Hid (CellsAt w6 rfC px 0 x.1) := lk_box hr6; have HP6 := Lib.hid hr6; have hk1 := hr6.cell 0; have hk2 := hr6.cell 1; have hk3 := hr6.cell 2; clear hb6 hr6)
            | (refine step_loadRf rfl (.tmp 43) rfl HC6.out rfl ?_)
            | (go_at_call 26; refine (HRG.out _).mono ?_; rintro _ w7 ⟨rfl, hb7⟩; have HB7 := Lib.hid hb7; have hr7 := RowAt.below HP6.out hb7; have HC7 : Hid (CellsAt w7 rfC px 0 x.1) := lk_box hr7; have HP7 := Lib.hid hr7; have hk71 := hr7.cell 0; have hk72 := hr7.cell 1; have hk73 := hr7.cell 2; clear hb7 hr7))
            exact HFIN.out _ (below_trans HB6.out HB7.out)
          · subst ht1
            have he2 : e = 2 := by simpa using hbad
            subst he2
            clear hbad hein
            go_wp2_with (first
            | (refine step_loadCells rfl 28 (.tmp 31) rfl ⟨b, off + i * 3, none⟩ rfl _ aggLks HCL.out ?_)
            | (refine step_loadRf rfl (.tmp 35) rfl HC5.out rfl ?_)
            | (refine step_lookup2 keyRf Try.underlying53 rfl (.tmp 34) (.tmp 36) rfl HM5.out x.1 (.int .i64 0) (zint _) rfl rfl _ _ HVV.out HTW.out ?_)
            | (go_at_call 25; refine HTG.out.mono ?_; rintro _ w6 ⟨rfl, hb6⟩; have HB6 := Lib.hid hb6; have hr6 := RowAt.below HP5.out hb6; have HC6 : Hid (CellsAt w6 rfC px 0 x.1) := lk_box hr6; have HP6 := Lib.hid hr6; have hk1 := hr6.cell 0; have hk2 := hr6.cell 1; have hk3 := hr6.cell 2; clear hb6 hr6)
            | (refine step_loadRf rfl (.tmp 43) rfl HC6.out rfl ?_)
            | (go_at_call 26; refine (HRG.out _).mono ?_; rintro _ w7 ⟨rfl, hb7⟩; have HB7 := Lib.hid hb7; have hr7 := RowAt.below HP6.out hb7; have HC7 : Hid (CellsAt w7 rfC px 0 x.1) := lk_box hr7; have HP7 := Lib.hid hr7; have hk71 := hr7.cell 0; have hk72 := hr7.cell 1; have hk73 := hr7.cell 2; clear hb7 hr7))
            exact HFIN.out _ (below_trans HB6.out HB7.out)
        · subst hr1
          clear hbad hein
          go_wp2_with (first
            | (refine step_loadCells rfl 28 (.tmp 31) rfl ⟨b, off + i * 3, none⟩ rfl _ aggLks HCL.out ?_)
            | (refine step_loadRf rfl (.tmp 35) rfl HC5.out rfl ?_)
            | (refine step_lookup2 keyRf Try.underlying53 rfl (.tmp 34) (.tmp 36) rfl HM5.out x.1 (.int .i64 0) (zint _) rfl rfl _ _ HVV.out HTW.out ?_)
            | (go_at_call 25; refine HTG.out.mono ?_; rintro _ w6 ⟨rfl, hb6⟩; have HB6 := Lib.hid hb6; have hr6 := RowAt.below HP5.out hb6; have HC6 : Hid (CellsAt w6 rfC px 0 x.1) := lk_box hr6; have HP6 := Lib.hid hr6; have hk1 := hr6.cell 0; have hk2 := hr6.cell 1; have hk3 := hr6.cell 2; clear hb6 hr6)
            | (refine step_loadRf rfl (.tmp 43) rfl HC6.out rfl ?_)
            | (go_at_call 26; refine (HRG.out _).mono ?_; rintro _ w7 ⟨rfl, hb7⟩; have HB7 := Lib.hid hb7; have hr7 := RowAt.below HP6.out hb7; have HC7 : Hid (CellsAt w7 rfC px 0 x.1) := lk_box hr7; have HP7 := Lib.hid hr7; have hk71 := hr7.cell 0; have hk72 := hr7.cell 1; have hk73 := hr7.cell 2; clear hb7 hr7))
          exact HFIN.out _ (below_trans HB6.out HB7.out)
      · have hr1 : rr = true := by
          rcases Bool.eq_false_or_eq_true rr with h | h
          · exact h
          · exact absurd (.inl h) hbad
        have ht1 : tw = false := by
          rcases Bool.eq_false_or_eq_true tw with h | h
          · exact absurd (.inr (.inl h)) hbad
          · exact h
        have he2 : e ≠ 2 := fun h => hbad (.inr (.inr h))
        subst hr1 ht1
        have hne2 : (e == 2) = false := by simpa using he2
        obtain ⟨z2, hz2⟩ : ∃ y, cmpOr z e = y := ⟨_, rfl⟩
        have HEO : Hid (∀ W bb, RowAt W bb 29 #[.int .i64 z, .int .i64 e] → Calls Try.prog 27 #[.slice (some ⟨bb, 0, none⟩) 2 2] W fun e w' => e = .returned (.int .i64 z2) ∧ W = w') := Lib.hid fun W bb h => by rw [← hz2]; exact eor_any bb z e W h
        have HZ2 : Hid (z2 = 0 ∧ (∀ x ∈ L.take (i + 1), tgt x.2 ≠ 3) ∨ z2 = 3 ∧ ∃ x ∈ L.take (i + 1), tgt x.2 = 3) := by
          obtain ⟨h, e1⟩ := HX.out
          exact tgt_take h HLG.out (by rw [e1]; exact HE.out) he2 hz2
        have HNI : Hid (x.1 ∉ (L.take i).map (·.1)) := Lib.hid fun h => by
          have := keyF_isSome (φ := phi0).2 h
          rw [HTW.out] at this
          cases this
        have HGL2 : Hid (goodL L (i + 1)) := by
          obtain ⟨h, e1⟩ := HX.out
          exact goodL_succ h HGL.out (by rw [e1]; exact HRR.out) (by rw [e1, HE.out]; exact he2) (by rw [e1]; exact HNI.out)
        have HTN : Hid (x.2.Nodup) := tgt_nodup (by rw [HE.out]; exact he2)
        clear hbad hz2 HLG HGL
        go_upto_block 2 with (first
            | (refine step_loadCells rfl 28 (.tmp 31) rfl ⟨b, off + i * 3, none⟩ rfl _ aggLks HCL.out ?_)
            | (refine step_loadRf rfl (.tmp 35) rfl HC5.out rfl ?_)
            | (refine step_lookup2 keyRf Try.underlying53 rfl (.tmp 34) (.tmp 36) rfl HM5.out x.1 (.int .i64 0) (zint _) rfl rfl _ _ HVV.out HTW.out ?_)
            | (go_at_call 25; refine HTG.out.mono ?_; rintro _ w6 ⟨rfl, hb6⟩; have HB6 := Lib.hid hb6; have hr6 := RowAt.below HP5.out hb6; have HC6 : Hid (CellsAt w6 rfC px 0 x.1) := lk_box hr6; have HP6 := Lib.hid hr6; have hk1 := hr6.cell 0; have hk2 := hr6.cell 1; have hk3 := hr6.cell 2; clear hb6 hr6)
            | (refine step_loadRf rfl (.tmp 43) rfl HC6.out rfl ?_)
            | (go_at_call 26; refine (HRG.out _).mono ?_; rintro _ w7 ⟨rfl, hb7⟩; have HB7 := Lib.hid hb7; have hr7 := RowAt.below HP6.out hb7; have HC7 : Hid (CellsAt w7 rfC px 0 x.1) := lk_box hr7; have HP7 := Lib.hid hr7; have hk71 := hr7.cell 0; have hk72 := hr7.cell 1; have hk73 := hr7.cell 2; clear hb7 hr7)
            | (go_at_call 27; refine (HEO.out _ _ (RowAt.new _ _ _)).mono ?_; rintro _ w8 ⟨rfl, hw8⟩; have hb8 : Below w7.heap.size w7 w8 := (by rw [← hw8]; exact below_alloc _); have HB8 := Lib.hid hb8; have hr8 := RowAt.below HP7.out hb8; have HC8 : Hid (CellsAt w8 rfC px 0 x.1) := lk_box hr8; have HP8 := Lib.hid hr8; have hk81 := hr8.cell 0; have hk82 := hr8.cell 1; have hk83 := hr8.cell 2; have HM8 : Hid (MapR w8 g rfV (keyF (L.take i) phi0)) := (HML.out.same ((below_trans HB5.out (below_trans HB6.out (below_trans HB7.out hb8))).block g HML.out.lt)); clear hb8 hr8 hw8)
            | (refine step_loadRf rfl (.tmp 59) rfl HC8.out rfl ?_)
            | (refine step_updateM keyRf Try.underlying53 rfl (.tmp 58) (.tmp 60) (.tmp 63) rfl rfl HM8.out x.1 (.int .i64 (m : Int)) rfl rfl rfl ?_; intro w9 hg9 hm9; have HG9 := Lib.hid hg9; have HM9 := Lib.hid hm9; have hr9 := row_keep (keep_grown hg9) HP8.out (by omega); have HP9 := Lib.hid hr9; have hk91 := hr9.cell 0; have hk92 := hr9.cell 1; have hk93 := hr9.cell 2; clear hg9 hm9 hr9))
        have HIN0 : Hid (InS w w9 g px L phi0 i x ta m tc fb 0) := by
          have hb8 : Below wr.heap.size wr w8 := below_trans HB5.out (below_trans HB6.out (below_trans HB7.out HB8.out))
          refine ⟨below_grown (HBR.out.trans (hb8.mono (by omega))) HG9.out (by have := hb8.size; omega) (fun k hk => by have := Option.some.inj hk; omega), HM9.out.eqf fun u => ?_, HMB.out.same ((HG9.out.block (g + 1) (by have := hb8.size; omega) (fun e => by have := Option.some.inj e; omega)).trans (hb8.block (g + 1) (by omega))), ((HBH.out.later hb8).keep (keep_grown HG9.out) (fun k hk e => by omega)).eqB fun t => (behJ_zero _ _ _).symm, HP9.out, fun t v hv e => ?_, by omega⟩
          · obtain ⟨h, e1⟩ := HX.out
            have e2 : phi0 x = (m : Int) := by unfold phi0; rw [HM.out]
            have := keyF_snoc h (φ := phi0) (by rw [e1]; exact HNI.out) u
            rw [e1, e2] at this
            exact this
          · have := (HBH.out.yes t v hv).2.1.lt e
            omega
        clear HB5 HP5 HC5 HM5 hk51 hk52 hk53 HTG HE HVV HRR HRG HTW HEO HNI HB6 HC6 HP6 hk1 hk2 hk3 HB7 HC7 HP7 hk71 hk72 hk73 HB8 HC8 HP8 hk81 hk82 hk83 HM8 HG9 HM9 HP9 hk91 hk92 hk93 HCL hpx hw5 HBR HML HMB HBH hszr
        go_wp2
        go_loopw [67] (fun jv wy => ∃ (j : Nat) (fb2 : Rf → Option Value), jv = .int .i64 (j : Int) ∧ j ≤ m ∧ InS w wy g px L phi0 i x ta m tc fb2 j) (fun jv _ => m - (intOf jv).toNat)
        case atStart => exact ⟨0, fb, rfl, Nat.zero_le _, HIN0.out⟩
        case round =>
          obtain ⟨j, fb2, rfl, hjm, hin⟩ := hrel
          have HIN := Lib.hid hin
          obtain ⟨hsy1, hsy2⟩ := hin.size
          have hbig := hin.big
          clear hin
          by_cases hjlt : j < m
          · as_aux_lemma =>
            rcases (HROW.out wr HIN.out.below).2.2 with e0 | ⟨tb, toff, hta, htl, hcells⟩
            · exact absurd hjlt (by rw [← HM.out, e0]; exact Nat.not_lt_zero _)
            subst hta
            obtain ⟨t, ht⟩ : ∃ t, x.2[j]'(by rw [HM.out]; exact hjlt) = t := ⟨_, rfl⟩
            have hct := hcells j (by rw [HM.out]; exact hjlt)
            rw [ht] at hct
            have HCT := Lib.hid hct
            have HT : Hid (∃ h : j < x.2.length, x.2[j] = t) := ⟨_, ht⟩
            obtain ⟨bt, hbt⟩ : ∃ y, wr.heap.size = y := ⟨_, rfl⟩
            obtain ⟨wa, hwa⟩ : ∃ y, wr.alloc (.cells #[.string t.1, .int .i64 t.2] 25) = y := ⟨_, rfl⟩
            have hba : Below wr.heap.size wr wa := by rw [← hwa]; exact below_alloc _
            have HRT : Hid (RowAt wa bt 25 #[.string t.1, .int .i64 t.2]) := by rw [← hwa, ← hbt]; exact RowAt.new _ _ _
            have HPX : Hid (RowAt wa px 28 #[.string x.1.1, .int .i64 x.1.2, .slice (some ⟨tb, toff, none⟩) m tc]) := RowAt.below HIN.out.box hba
            obtain ⟨G, hG⟩ : ∃ y, wa.heap.size = y := ⟨_, rfl⟩
            obtain ⟨wb, hwb⟩ : ∃ y, wa.alloc (.cells #[.string x.1.1, .int .i64 x.1.2] 25) = y := ⟨_, rfl⟩
            have hbb' : Below wa.heap.size wa wb := by rw [← hwb]; exact below_alloc _
            have hbb : Below wr.heap.size wr wb := below_trans hba hbb'
            have HBB := Lib.hid hbb
            have HCA : Hid (CellsAt wb rfC G 0 x.1) := by rw [← hwb, ← hG]; exact RowAt.rf (RowAt.new wa 25 #[.string x.1.1, .int .i64 x.1.2])
            have HGL : Hid (G < wb.heap.size) := Lib.hid (by rw [← hwb, ← hG]; simp)
            obtain ⟨v0, hv0⟩ : ∃ v, (fb2 t).getD (.slice none 0 0) = v := ⟨_, rfl⟩
            have HV0 := Lib.hid hv0
            obtain ⟨hown, hlow, hnpx, av, nv, cv, hvs⟩ := HIN.out.own t hv0
            have HOWN : Hid (∀ W, KeepA (fun k => k = g + 1) wr W → OwnRf W v0 (behJ (L.take i) x j t)) := Lib.hid fun W hW => hown.keep hW fun k hk e => by have := hlow k hk; omega
            have HLOW := Lib.hid hlow
            have HNPX := Lib.hid hnpx
            have HLT0 : Hid (∀ k, v0.ownBlock = some k → k < wr.heap.size) := Lib.hid fun k hk => hown.lt hk
            have HMB : Hid (MapR wb (g + 1) rfV fb2) := HIN.out.mb.same (hbb.block (g + 1) hsy1)
            have hbtl : bt < wa.heap.size := HRT.out.lt
            have hsz : (behJ (L.take i) x j t).length ≤ 1000000 := by
              have := behJ_len (L.take i) x j t
              rw [List.length_take] at this
              omega
            have HSZ := Lib.hid hsz
            have HCBT : Hid (CellsAt wa rfC bt 0 t) := RowAt.rf HRT.out
            have HCPX : Hid (CellsAt wa rfC px 0 x.1) := lk_box HPX.out
            have hgbt : g + 1 < bt := by omega
            have hpbt : px < bt := by omega
            have hwab : wr.heap.size ≤ wb.heap.size := hbb.size
            clear hct hcells htl ht hba hbb hbb' hv0 hown hlow hnpx hvs hsz HROW HX
            go_wp2_with (first
              | (refine step_loadRf rfl (.tmp 69) rfl HCT.out rfl ?_)
              | (refine step_loadRf rfl (.tmp 13) rfl HCBT.out rfl ?_)
              | (refine step_loadRf rfl (.tmp 74) rfl HCPX.out rfl ?_)
              | (refine step_entryM keyRf Try.underlying54 rfl (.tmp 71) (.tmp 72) rfl HMB.out t (.slice none 0 0) (znil _) rfl rfl v0 HV0.out ?_; intro wc st gc mc; have GC := Lib.hid gc; have MC := Lib.hid mc; have HCC : Hid (CellsAt wc rfC G 0 x.1) := cells_kept (keep_grown gc) HGL.out (by omega) HCA.out; have HOC := Lib.hid (HOWN.out wc ((KeepA.of_below HBB.out).trans (keep_grown gc))); have hgcs := gc.size; clear gc mc)
              | (refine step_pushRf eltRf rfl (.tmp 73) (.tmp 76) rfl v0 _ rfl G x.1 rfl HOC.out HCC.out (Nat.lt_of_lt_of_le HGL.out hgcs) HSZ.out ?_; intro v8 wd q1 q2 q3; have Q1 := Lib.hid q1; have Q2 := Lib.hid q2; have Q3 := Lib.hid q3; have MD : Hid (MapE wd (g + 1) rfV (fun u => if u = t then some v0 else fb2 u) t st) := (MC.out.same (q2.block (g + 1) (by omega) (fun e => by have := HLOW.out (g + 1) e.symm; omega))); clear q1 q2 q3)
              | (refine step_estoreM rfl (.tmp 71) (.tmp 79) (.tmp 78) rfl rfl MD.out v8 rfl rfl rfl ?_; intro we ge me; have GE := Lib.hid ge; have ME := Lib.hid me; clear ge me))
            have HSTEP : Hid (InS w we g px L phi0 i x (some ⟨tb, toff, none⟩) m tc (fun u => if u = t then some v8 else fb2 u) (j + 1)) := by
              obtain ⟨h, e1⟩ := HT.out
              exact HIN.out.step h HTN.out e1 HV0.out HBB.out GC.out Q1.out Q2.out Q3.out GE.out ME.out
            exact ⟨⟨j + 1, _, by go_num, hjlt, HSTEP.out⟩, by show m - ((j : Int) + 1).toNat < m - (j : Int).toNat; omega⟩
          · have HNX : Hid (Below g w wr ∧ MapR wr g rfV (keyF (L.take (i + 1)) phi0) ∧ MapR wr (g + 1) rfV fb2 ∧ BhF wr (g + 2) fb2 (behd (L.take (i + 1)))) := by
              refine ⟨HIN.out.below, HIN.out.ml, HIN.out.mb, HIN.out.bh.eqB fun t => ?_⟩
              obtain ⟨h, e1⟩ := HX.out
              have hjm2 : j = x.2.length := by rw [HM.out]; omega
              rw [hjm2, behJ_end, ← e1, List.take_append_getElem]
            have hjm' : j = m := by omega
            clear HIN
            subst hjm'
            go_wp2
            exact ⟨⟨i + 1, z2, fb2, rfl, by go_num, hin, HGL2.out, HZ2.out, HNX.out⟩, by show n - ((i : Int) + 1).toNat < n - (i : Int).toNat; omega⟩
    · have hin' : i = n := by omega
      subst hin'
      have htk : L.take i = L := List.take_of_length_le (by rw [HLN.out]; exact Nat.le_refl _)
      rw [htk] at HML HBH HLG
      have HGLL : Hid (goodL L L.length) := by rw [HLN.out]; exact HGL.out
      have HLKS : Hid (Lks L) := goodL_lks HGLL.out
      obtain ⟨w3, hw3⟩ : ∃ y, y = wr := ⟨wr, rfl⟩
      subst hw3
      obtain ⟨R, hR⟩ : ∃ y, w3.heap.size = y := ⟨_, rfl⟩
      have hgR : g + 1 < R := by omega
      rcases HLG.out with ⟨hz, h3⟩ | ⟨hz, h3⟩
      rotate_left
      · have HE2 : Hid (ordR ltR L = ([], 3)) := ordR_long HGLL.out h3
        have HFIN : Hid (K (.returned (.tuple #[.slice none 0 0, .int .i64 3])) w3) := HEND.out _ 3 HE2.out HBR.out
        subst hz
        clear h3 htk hszr HGL
        go_wp2
        exact HFIN.out
      · subst hz
        have HNO3 : Hid (¬ ∃ x ∈ L, tgt x.2 = 3) := fun ⟨x, hx, e⟩ => h3 x hx e
        obtain ⟨wi, hrun, hbi, hit⟩ := run_range_F (P := Try.prog) Try.underlying54 HMB.out
        rw [hR] at hrun hbi hit
        have HRUN := Lib.hid hrun
        have HIT := Lib.hid hit
        have HBI := Lib.hid hbi
        clear hrun hit hbi h3 htk hszr HGL HLG HROWS HA
        go_wp2_with (refine step_range rfl 54 (.tmp 85) rfl _ rfl _ _ HRUN.out ?_)
        simp only [Act.put, List.setIfInBounds_toArray, List.set_cons_zero, List.set_cons_succ]
        go_loopw [87] (fun _ wx => Below R w3 wx ∧ ∃ S, ItF wx R (g + 1) rfV fb S ∧ ∀ k ∈ S, k ∈ L.map (·.1)) (fun _ wx => itLeft wx R)
        case atStart => exact ⟨HBI.out, [], HIT.out, by simp⟩
        case round =>
          obtain ⟨hbx, S, hit, hS⟩ := hrel
          clear HRUN HIT HBI
          have hbx0 : Below w3.heap.size w3 wr := by rw [hR]; exact hbx
          have hml := HML.out.same (hbx0.block g HML.out.lt)
          have hmb := HMB.out.same (hbx0.block (g + 1) HMB.out.lt)
          have hRs : R < wr.heap.size := hit.lt.1
          rcases hit.next (P := Try.prog) keyRf.inj 0 with ⟨hall, hrun⟩ | ⟨k, v, wk, hfk, hkS, hrun, hkeep, hit2, hlt2, hent⟩
          · have HNN : Hid (¬ ∃ x ∈ L, ∃ t ∈ x.2, t ∉ L.map (·.1)) := by
              rintro ⟨x, hx, t, ht, hn⟩
              cases hf : fb t with
              | none =>
                have e0 := HBH.out.no t hf
                have : x.1 ∈ behd L t := (behd_mem HLKS.out hx).2 ht
                rw [e0] at this
                cases this
              | some v => exact hn (hS t (hall t v hf))
            obtain ⟨wx, hwx⟩ : ∃ y, y = wr := ⟨wr, rfl⟩
            subst hwx
            have HRUN := Lib.hid hrun
            have HBX : Hid (Below g w wx) := HBR.out.trans (hbx0.mono (by omega))
            have HMLX := Lib.hid hml
            have HMBX := Lib.hid hmb
            have HBHX : Hid (BhF wx (g + 2) fb (behd L)) := HBH.out.later hbx0
            clear hrun hall hit hS hml hmb hbx hbx0 HBH HML HMB HBR
            obtain ⟨sx, hsx⟩ : ∃ y, wx.heap.size = y := ⟨_, rfl⟩
            obtain ⟨gh, hgh⟩ : ∃ y, sx + 1 = y := ⟨_, rfl⟩
            obtain ⟨q, hq⟩ : ∃ y, gh + 1 = y := ⟨_, rfl⟩
            have hst := OrdSt.start HMLX.out rfl
            rw [hsx, hgh, show sx + 2 = q by omega] at hst
            obtain ⟨w6, hw6⟩ : ∃ y, (((wx.alloc (.cells #[] 25)).alloc (.cells #[.slice (some ⟨sx, 0, none⟩) 0 0] 59)).alloc (.cells #[.pointer (some ⟨gh, 0, none⟩)] 58)) = y := ⟨_, rfl⟩
            rw [hw6] at hst
            obtain ⟨hst, hb6, hs6⟩ := hst
            obtain ⟨w7, hrun7, hb7, hit7⟩ := run_range_F (P := Try.prog) Try.underlying53 hst.lf
            obtain ⟨r, hr⟩ : ∃ y, w6.heap.size = y := ⟨_, rfl⟩
            rw [hr] at hrun7 hit7
            have HP0 : Hid (PushSt wx w7 g gh q r L (.slice (some ⟨sx, 0, none⟩) 0 0) [] []) := PushSt.start hst hr hb7 hit7
            have HRUN7 := Lib.hid hrun7
            have hsxg : g + 1 < sx := by rw [← hsx]; exact HMBX.out.lt
            have HBHW : Hid (∀ W, KeepA (fun k => k = g) wx W → Below g w W ∧ BhF W (g + 2) fb (behd L) ∧ MapR W (g + 1) rfV fb) := Lib.hid fun W hW => ⟨HBX.out.trans (hW.below (by omega) (fun k e => by omega)), HBHX.out.keep hW (fun k hk e => by omega), HMBX.out.same (hW.same (g + 1) HMBX.out.lt (by omega))⟩
            have HBHN : Hid (∀ u, (behd L u).length ≤ 40) := Lib.hid fun u => by
              unfold behd
              rw [List.length_map]
              exact Nat.le_trans (List.length_filter_le _ _) (by rw [HLN.out]; exact hb)
            clear hst hb6 hs6 hrun7 hb7 hit7 HMLX HMBX HBX HBHX
            go_wp2_with (first
              | (refine step_next rfl (.tmp 86) rfl _ rfl _ _ HRUN.out ?_)
              | (refine step_range rfl 53 (.tmp 102) rfl _ rfl _ _ HRUN7.out ?_))
            simp only [Act.put, List.setIfInBounds_toArray, List.set_cons_zero, List.set_cons_succ]
            go_loopw [104] (fun _ wz => ∃ v H S, PushSt wx wz g gh q r L v H S) (fun _ wz => itLeft wz r)
            case atStart => exact ⟨_, [], [], HP0.out⟩
            case round =>
              obtain ⟨v, H, S, hps⟩ := hrel
              clear HP0 HRUN HRUN7 hsx hgh hq hw6 hr
              have hlenH : H.length ≤ 40 := by have := hps.len; have := HLN.out; omega
              rcases hps.it.next (P := Try.prog) keyRf.inj 0 with ⟨hall, hrun⟩ | ⟨k, z, wk, hfk, hkS, hrun, hkeep, hit2, hlt2, hent⟩
              · have HMAIN : Hid (MainSt wx wr g gh q L v H (.slice none 0 0) []) := hps.main hall HLKS.out.one (Below.refl _ _)
                have HRUN := Lib.hid hrun
                clear hall hrun hps hlenH
                have HKI : Hid (i ≤ 40) := hb
                go_wp2_with (refine step_next rfl (.tmp 103) rfl _ rfl _ _ HRUN.out ?_)
                go_loopw [21] (fun ov wz => ∃ (v : Value) (H o : List Rf) (oa : Option Addr) (oc m : Nat), ov = .slice oa m oc ∧ o.length = m ∧ m ≤ i ∧ MainSt wx wz g gh q L v H ov o) (fun ov _ => i - lenV ov)
                case atStart => exact ⟨v, H, [], none, 0, 0, rfl, rfl, Nat.zero_le _, HMAIN.out⟩
                case round =>
                  clear HMAIN HRUN
                  obtain ⟨v, H, o, oa, oc, m, rfl, hmo, hmi, hms⟩ := hrel
                  obtain ⟨nh, hnh⟩ : ∃ y, H.length = y := ⟨_, rfl⟩
                  obtain ⟨va, vc, hv, hvc, -, -⟩ := hms.st.hp.own.rd
                  rw [hnh] at hv hvc
                  subst hv
                  have hcq : wr.cell? ⟨q, 0, none⟩ = some (.pointer (some ⟨gh, 0, none⟩)) := cell_row hms.st.box rfl
                  have hcg : wr.cell? ⟨gh, 0, none⟩ = some (.slice va nh vc) := hms.st.hp.cell
                  obtain ⟨hbw, hbhw, hmbw⟩ := HBHW.out wr hms.st.keep
                  have hnh40 : nh ≤ 40 := by have := hms.len; have := HLN.out; omega
                  by_cases hn0 : nh = 0
                  · have hH : H = [] := List.eq_nil_of_length_eq_zero (by omega)
                    subst hH
                    subst hn0
                    have hfin := hms.fin HGLL.out HNO3.out HNN.out
                    rw [hmo, HLN.out] at hfin
                    by_cases hlt : m < i
                    · rw [if_pos hlt] at hfin
                      have HFIN : Hid (K (.returned (.tuple #[.slice none 0 0, .int .i64 331])) wr) := HEND.out _ 331 hfin hbw
                      clear hfin hbw hbhw hmbw hms hnh
                      go_wp2_with (go_at_call 30; refine (rlen_any _ _ _ _).mono ?_; rintro _ _ ⟨rfl, rfl⟩)
                      exact HFIN.out
                    · rw [if_neg hlt] at hfin
                      have HFIN : Hid (K (.returned (.tuple #[.slice oa m oc, .int .i64 0])) wr) := by
                        obtain ⟨oa', oc', e, -, -, hro⟩ := hms.st.out.rd
                        cases e
                        have := HENDV.out wr oa oc o hfin hro hbw
                        rw [hmo] at this
                        exact this
                      have hmi' : m = i := by omega
                      subst hmi'
                      clear hfin hbw hbhw hmbw hms hnh
                      go_wp2_with (go_at_call 30; refine (rlen_any _ _ _ _).mono ?_; rintro _ _ ⟨rfl, rfl⟩)
                      exact HFIN.out
                  · have hlen : 0 < H.length := by omega
                    obtain ⟨u, hu⟩ : ∃ u, hp H 0 = u := ⟨_, rfl⟩
                    have hpop := hpop_any gh (.slice va nh vc) H wr hms.st.hp hms.st.is hlen (by omega)
                    rw [hu] at hpop
                    have HPOP : Hid (Calls Try.prog 31 #[.iface 58 (.pointer (some ⟨gh, 0, none⟩))] wr fun e w' => e = .returned (.iface 25 (.agg #[.string u.1, .int .i64 u.2])) ∧ ∃ v2 H2, OrdSt wx w' g gh q L v2 H2 (.slice oa m oc) o (fun x => (cnt o x : Int)) ∧
                        ∀ w4 ov5 w5, Below w'.heap.size w' w4 → OwnRf w5 ov5 (o ++ [u]) → w4.grownBy w5 (Value.slice oa m oc).ownBlock → NewRow w4 (.slice oa m oc) ov5 → TellSt wx w5 g gh q L v2 H2 ov5 o u 0) := Lib.hid (hpop.mono fun e w' ⟨q1, v2, H2, q2, q3, q4, q5⟩ =>
                      ⟨q1, v2, H2, hms.st.heap q2 q4 q5, fun w4 ov5 w5 r1 r2 r3 r4 => hms.tell hlen hu q2 q3 q4 q5 r1 r2 r3 r4⟩)
                    obtain ⟨vb, hvb⟩ : ∃ y, (fb u).getD (.slice none 0 0) = y := ⟨_, rfl⟩
                    have HVB := Lib.hid hvb
                    obtain ⟨ba, bc, hvbs, hbc, -, -⟩ := (hbhw.get u hvb).1.rd
                    obtain ⟨nb, hnb⟩ : ∃ y, (behd L u).length = y := ⟨_, rfl⟩
                    have HNB := Lib.hid hnb
                    rw [hnb] at hvbs hbc
                    subst hvbs
                    have HVO : Hid (∀ W, KeepA (fun k => k = g) wx W → OwnRf W (.slice ba nb bc) (behd L u)) := Lib.hid fun W hW => ((HBHW.out W hW).2.1.get u HVB.out).1
                    have hnb40 : nb ≤ 40 := by rw [← hnb]; exact HBHN.out u
                    have hm1 : m + 1 ≤ i := by
                      have := (Reach.snoc hms.re (hms.pick hlen)).len totR
                      rw [List.length_append, List.length_singleton, hmo, HLN.out] at this
                      exact this
                    have HMO := Lib.hid hmo
                    clear hpop hlen hu hms hbw hbhw hmbw hvb hnb hnh hmo
                    go_upto_block 10 with (first
                      | (go_at_call 30; refine (rlen_any _ _ _ _).mono ?_; rintro _ _ ⟨rfl, rfl⟩)
                      | (go_at_call 31; refine HPOP.out.mono ?_; rintro _ w2 ⟨rfl, v2, H2, hst2, htell⟩; have HST2 := Lib.hid hst2; have HTELL := Lib.hid htell; obtain ⟨bu, hbu⟩ : (∃ y, w2.heap.size = y) := ⟨_, rfl⟩; obtain ⟨w3, hw3⟩ : (∃ y, w2.alloc (.cells #[.string u.1, .int .i64 u.2] 25) = y) := ⟨_, rfl⟩; have hb3 : Below w2.heap.size w2 w3 := (by rw [← hw3]; exact below_alloc _); have hr3 : RowAt w3 bu 25 #[.string u.1, .int .i64 u.2] := (by rw [← hw3, ← hbu]; exact RowAt.new _ _ _); have HC3 : Hid (CellsAt w3 rfC bu 0 u) := RowAt.rf hr3; obtain ⟨G, hG⟩ : (∃ y, w3.heap.size = y) := ⟨_, rfl⟩; obtain ⟨w4, hw4⟩ : (∃ y, w3.alloc (.cells #[.string u.1, .int .i64 u.2] 25) = y) := ⟨_, rfl⟩; have hb4 : Below w3.heap.size w3 w4 := (by rw [← hw4]; exact below_alloc _); have HC4 : Hid (CellsAt w4 rfC G 0 u) := (by rw [← hw4, ← hG]; exact RowAt.rf (RowAt.new _ _ _)); have HG4 : Hid (G < w4.heap.size) := Lib.hid (by rw [← hw4, ← hG]; simp); have HB4 := Lib.hid (below_trans hb3 hb4); have HST4 := Lib.hid (hst2.later (below_trans hb3 hb4)); have HRU4 : Hid (RowAt w4 bu 25 #[.string u.1, .int .i64 u.2]) := RowAt.below hr3 hb4; have hbu2 : w2.heap.size ≤ bu := (by omega); clear hst2 htell hb3 hr3 hb4)
                      | (refine step_loadRf rfl (.tmp 22) rfl HC3.out rfl ?_)
                      | (refine step_pushRf eltRf rfl (.tmp 123) (.tmp 125) rfl _ o rfl G u rfl HST4.out.out HC4.out HG4.out (by have := HMO.out; omega) ?_; intro ov5 w5 q1 q2 q3; obtain ⟨a5, c5, hv5, -, -, -⟩ := q1.rd; have HT5 := Lib.hid (HTELL.out w4 ov5 w5 HB4.out q1 q2 q3); have HRU5 : Hid (CellsAt w5 rfC bu 0 u) := RowAt.rf (row_keep (keep_grownO q2) HRU4.out (fun e => by have := HST2.out.out.lt e; omega)); have HMB5 := Lib.hid (HBHW.out w5 HT5.out.st.keep).2.2; rw [List.length_append, List.length_singleton, HMO.out] at hv5; subst hv5; clear q1 q2 q3)
                      | (refine step_loadRf rfl (.tmp 128) rfl HRU5.out rfl ?_)
                      | (refine step_loadRf rfl (.tmp 22) rfl HRU5.out rfl ?_)
                      | (refine step_lookup1 keyRf Try.underlying54 (by rfl) (.tmp 127) (.tmp 128) rfl HMB5.out u (.slice none 0 0) (znil _) rfl rfl _ HVB.out ?_))
                    clear HPOP HST2 HTELL HC3 HC4 HG4 HB4 HST4 HRU4 HRU5 HMB5
                    clear hcq hcg hvc hbu hw3 hG hw4 hbu2 hn0 hmi
                    go_wp2
                    go_loopw [131] (fun jv wz => ∃ (j : Nat) (v : Value) (H : List Rf), jv = .int .i64 (j : Int) ∧ j ≤ nb ∧ TellSt wx wz g gh q L v H (.slice a5 (m + 1) c5) o u j) (fun jv _ => nb - (intOf jv).toNat)
                    case atStart => exact ⟨0, v2, H2, rfl, Nat.zero_le _, HT5.out⟩
                    case round =>
                      clear HT5
                      obtain ⟨j, v, H, rfl, hjn, hts⟩ := hrel
                      by_cases hjlt : j < nb
                      · have hjb : j < (behd L u).length := by rw [HNB.out]; exact hjlt
                        obtain ⟨t, ht⟩ : ∃ t, (behd L u)[j] = t := ⟨_, rfl⟩
                        obtain ⟨x, hx, hxt, -⟩ := behd_in (L := L) (v := u) (u := t) (by rw [← ht]; exact List.getElem_mem hjb)
                        have hxe : x.1 = (behd L u)[j] := hxt.trans ht.symm
                        obtain ⟨g0, cap0, cur0, hvb0, -, -, hg0, -, -, hcells⟩ := (HVO.out wr hts.st.keep).at (by omega)
                        have hg0l : g0 < wr.heap.size := (Array.getElem?_eq_some_iff.1 hg0).1
                        have hct := hcells j hjb
                        rw [ht] at hct
                        have HCT := Lib.hid hct
                        simp only [Value.slice.injEq] at hvb0
                        obtain ⟨hba0, -, -⟩ := hvb0
                        subst hba0
                        obtain ⟨hval, hl01, hlx⟩ := hts.val HLKS.out hjb hx hxe
                        obtain ⟨l1, hl1⟩ : ∃ y, leftJ L o u (j + 1) x = y := ⟨_, rfl⟩
                        obtain ⟨l0, hl0⟩ : ∃ y, leftJ L o u j x = y := ⟨_, rfl⟩
                        obtain ⟨c0, hc0⟩ : ∃ y, (l0 : Int) = y := ⟨_, rfl⟩
                        obtain ⟨c2, hc2⟩ : ∃ y, c0 - 1 = y := ⟨_, rfl⟩
                        have hx100 : x.2.length ≤ 100 := HTS.out x hx
                        have hc0a : 1 ≤ c0 := by omega
                        have hc0b : c0 ≤ 100 := by omega
                        have hc2l : c2 = (leftJ L o u (j + 1) x : Int) := by omega
                        have hwr : IntKind.i64.wrap (c0 - 1) = c0 - 1 := by
                          unfold IntKind.wrap
                          simp [IntKind.bits, IntKind.signed]
                          omega
                        rw [hc2] at hwr
                        rw [hl0, hc0] at hval
                        obtain ⟨f, hf⟩ : ∃ f, keyF L (fun x => (leftJ L o u j x : Int)) = f := ⟨_, rfl⟩
                        rw [hf, hxt] at hval
                        have HCC : Hid ((f t).getD (.int .i64 0) = .int .i64 c0) := hval
                        obtain ⟨bt, hbt⟩ : ∃ y, wr.heap.size = y := ⟨_, rfl⟩
                        obtain ⟨w6, hw6⟩ : ∃ y, wr.alloc (.cells #[.string t.1, .int .i64 t.2] 25) = y := ⟨_, rfl⟩
                        have hb6 : Below wr.heap.size wr w6 := by rw [← hw6]; exact below_alloc _
                        have HB6 : Hid (Below wr.heap.size wr w6.drew) := drewN_below hb6 1
                        have HRT : Hid (RowAt w6 bt 25 #[.string t.1, .int .i64 t.2]) := by rw [← hw6, ← hbt]; exact RowAt.new _ _ _
                        have hmf : MapR wr g rfV f := by rw [← hf]; exact hts.st.lf
                        have HM : Hid (MapR w6.drew g rfV f) := hmf.same (hb6.block g hmf.lt)
                        have HBT : Hid (CellsAt w6.drew rfC bt 0 t) := RowAt.rf (w := w6.drew) HRT.out
                        have hrb : g < bt := by rw [← hbt]; exact hmf.lt
                        have hbr' : ¬ bt = g := by omega
                        have hbs5 : bt < w6.heap.size := HRT.out.lt
                        have hbs : bt < w6.drew.heap.size := hbs5
                        have HMID : Hid (∀ wb, KeepA (fun k => k = g) w6.drew wb → MapR wb g rfV (fun y => if y = t then some (.int .i64 c2) else f y) → OrdSt wx wb g gh q L v H (.slice a5 (m + 1) c5) (o ++ [u]) (fun x => (leftJ L o u (j + 1) x : Int))) := Lib.hid fun wb k1 k2 =>
                          hts.mid HLKS.out hjb hx hxe HB6.out k1 hc2l (by rw [hxt, hf]; exact k2)
                        have hHl : H.length ≤ 40 := by have := hts.len; have := HLN.out; have := HKI.out; omega
                        have HNX : Hid (l1 ≠ 0 → ∀ wb W, OrdSt wx wb g gh q L v H (.slice a5 (m + 1) c5) (o ++ [u]) (fun x => (leftJ L o u (j + 1) x : Int)) → Below wb.heap.size wb W → TellSt wx W g gh q L v H (.slice a5 (m + 1) c5) o u (j + 1)) := Lib.hid fun hn wb W k1 k2 => hts.next HLKS.out hjb hx hxe k1 (by rw [hl1]; exact hn) k2
                        have HPS : Hid (l1 = 0 → ∀ wb, OrdSt wx wb g gh q L v H (.slice a5 (m + 1) c5) (o ++ [u]) (fun x => (leftJ L o u (j + 1) x : Int)) → Calls Try.prog 28 #[.agg #[.string t.1, .int .i64 t.2], .pointer (some ⟨q, 0, none⟩)] wb fun e w' => e = .returned (.tuple #[]) ∧ ∃ v' H', TellSt wx w' g gh q L v' H' (.slice a5 (m + 1) c5) o u (j + 1)) := Lib.hid fun hn wb k1 =>
                          (push1_any q gh v H t wb k1.box k1.hp k1.is (by omega)).mono fun e w' ⟨q1, v', H', q2, q3, q4, q5⟩ => ⟨q1, v', H', hts.push HLKS.out hjb hx hxe k1 (by rw [hl1]; exact hn) (Below.refl _ _) q2 (by rw [hxt]; exact q3) q4 q5⟩
                        have HL10 : Hid (c2 = (l1 : Int)) := Lib.hid (by omega)
                        clear hts hct hcells hg0 hval hl01 hlx hl1 hl0 hc0 hx hxt hxe ht hjb hmf hf hb6 hx100 hc2l hHl
                        go_upto_region 41 with (refine step_loadRf rfl (.tmp 133) rfl HCT.out rfl ?_)
                        go_cut [] (fun wx2 => MapR wx2 g rfV (fun j => if j = t then some (.int .i64 c2) else f j) ∧ KeepA (fun x => x = g) w6.drew wx2)
                        case first =>
                          as_aux_lemma =>
                          refine wp_region_held_drew (S := fun w' => w'.cell? ⟨bt, 0, none⟩ = some (.string t.1) ∧ w'.cell? ⟨bt, 1, none⟩ = some (.int .i64 t.2)) (by kernel_rfl) (rf_cells HBT.out) (fun hHeld => ?_)
                          refine wpAnyH_take (i := 0) (v := ?_) rfl (by kernel_rfl) (by kernel_rfl) (by kernel_rfl) (fun _ _ _ h => h) (Or.inl ⟨by rfl, ?_⟩) hHeld ?_
                          rotate_left
                          · intro w' hS'
                            (try dsimp only at hS')
                            go_simp
                            try with_reducible rfl
                          try simp only [List.getElem_toArray, List.getElem_cons_zero, Act.put, List.setIfInBounds_toArray, List.set_cons_zero, List.set_cons_succ]
                          refine wpAnyH_take (i := 1) (v := ?_) rfl (by kernel_rfl) (by kernel_rfl) (by kernel_rfl) (fun _ _ _ h => h) (Or.inl ⟨by rfl, ?_⟩) hHeld ?_
                          rotate_left
                          · intro w' hS'
                            (try dsimp only at hS')
                            go_simp
                            try with_reducible rfl
                          try simp only [List.getElem_toArray, List.getElem_cons_succ, List.getElem_cons_zero, Act.put, List.setIfInBounds_toArray, List.set_cons_zero, List.set_cons_succ]
                          refine wpAnyH_ready (rs := [2, 4]) (by kernel_rfl) (by simp) (AllReadyH.cons rfl (fun K hK => ?_) (AllReadyH.cons rfl (fun K hK => ?_) AllReadyH.nil))
                          · rw [if_pos (by rfl)]
                            refine wp_lookup1 keyRf Try.underlying53 (.tmp 135) (.tmp 136) rfl HM.out t (.int .i64 0) (zint _) rfl rfl (.int .i64 c0) HCC.out ?_
                            refine hK.out _ _ hHeld (fun hHeld => ?_)
                            clear hK K
                            try simp only [List.getElem_toArray, List.getElem_cons_succ, List.getElem_cons_zero, Act.put, List.setIfInBounds_toArray, List.set_cons_zero, List.set_cons_succ]
                            refine wpAnyH_take (i := 3) (v := ?_) rfl (by kernel_rfl) (by kernel_rfl) (by kernel_rfl) (fun _ _ _ h => h) (Or.inl ⟨by rfl, ?_⟩) hHeld ?_
                            rotate_left
                            · intro w' hS'
                              (try dsimp only at hS')
                              go_simp
                              try with_reducible rfl
                            try simp only [List.getElem_toArray, List.getElem_cons_succ, List.getElem_cons_zero, Act.put, List.setIfInBounds_toArray, List.set_cons_zero, List.set_cons_succ]
                            refine wpAnyH_ready (rs := [4]) (by kernel_rfl) (by simp) (AllReadyH.cons rfl (fun K hK => ?_) AllReadyH.nil)
                            rw [if_pos (by rfl)]
                            refine wp_entryM keyRf Try.underlying53 (.tmp 135) (.tmp 136) rfl HM.out t (.int .i64 0) (zint _) rfl rfl ?_
                            intro w2 st g2 me2
                            refine hK.out _ _ (cells_grown hbr' hbs g2 hHeld) (fun hHeld => ?_)
                            clear hK K
                            try simp only [List.getElem_toArray, List.getElem_cons_succ, List.getElem_cons_zero, Act.put, List.setIfInBounds_toArray, List.set_cons_zero, List.set_cons_succ]
                            refine wpAnyH_take (i := 5) (v := ?_) rfl (by kernel_rfl) (by kernel_rfl) (by kernel_rfl) (fun _ _ _ h => h) (Or.inl ⟨by rfl, ?_⟩) hHeld ?_
                            rotate_left
                            · intro w' hS'
                              (try dsimp only at hS')
                              go_simp
                              try with_reducible rfl
                            try simp only [List.getElem_toArray, List.getElem_cons_succ, List.getElem_cons_zero, Act.put, List.setIfInBounds_toArray, List.set_cons_zero, List.set_cons_succ]
                            refine wpAnyH_ready (rs := [6]) (by kernel_rfl) (by simp) (AllReadyH.cons rfl (fun K hK => ?_) AllReadyH.nil)
                            rw [if_pos (by rfl)]
                            refine wp_estoreM (.tmp 135) (.tmp 140) (.tmp 138) rfl rfl me2 (.int .i64 c2) rfl rfl rfl ?_
                            intro w3 g3 mr3
                            refine hK.out _ _ (cells_grown hbr' (Nat.lt_of_lt_of_le hbs g2.size) g3 hHeld) (fun _ => ?_)
                            clear hK K
                            try simp only [List.getElem_toArray, List.getElem_cons_succ, List.getElem_cons_zero, Act.put, List.setIfInBounds_toArray, List.set_cons_zero, List.set_cons_succ]
                            refine wpAnyH_done (by kernel_rfl) ?_ _
                            have HMR := Lib.hid (bump_eqf mr3)
                            have HKP := Lib.hid (bump_keep g2 g3)
                            clear mr3 g2 g3 me2
                            go_wp2
                            go_meet
                            exact ⟨HMR.out, HKP.out⟩
                          · rw [if_pos (by rfl)]
                            refine wp_entryM keyRf Try.underlying53 (.tmp 135) (.tmp 136) rfl HM.out t (.int .i64 0) (zint _) rfl rfl ?_
                            intro w2 st g2 me2
                            refine hK.out _ _ (cells_grown hbr' hbs g2 hHeld) (fun hHeld => ?_)
                            clear hK K
                            try simp only [List.getElem_toArray, List.getElem_cons_succ, List.getElem_cons_zero, Act.put, List.setIfInBounds_toArray, List.set_cons_zero, List.set_cons_succ]
                            refine wpAnyH_take (i := 5) (v := ?_) rfl (by kernel_rfl) (by kernel_rfl) (by kernel_rfl) (fun _ _ _ h => h) (Or.inl ⟨by rfl, ?_⟩) hHeld ?_
                            rotate_left
                            · intro w' hS'
                              (try dsimp only at hS')
                              go_simp
                              try with_reducible rfl
                            try simp only [List.getElem_toArray, List.getElem_cons_succ, List.getElem_cons_zero, Act.put, List.setIfInBounds_toArray, List.set_cons_zero, List.set_cons_succ]
                            refine wpAnyH_ready (rs := [2]) (by kernel_rfl) (by simp) (AllReadyH.cons rfl (fun K hK => ?_) AllReadyH.nil)
                            rw [if_pos (by rfl)]
                            refine wp_lookup1 keyRf Try.underlying53 (.tmp 135) (.tmp 136) rfl me2.map t (.int .i64 0) (zint _) rfl rfl (.int .i64 c0) (by rw [if_pos rfl]; exact HCC.out) ?_
                            refine hK.out _ _ hHeld (fun hHeld => ?_)
                            clear hK K
                            try simp only [List.getElem_toArray, List.getElem_cons_succ, List.getElem_cons_zero, Act.put, List.setIfInBounds_toArray, List.set_cons_zero, List.set_cons_succ]
                            refine wpAnyH_take (i := 3) (v := ?_) rfl (by kernel_rfl) (by kernel_rfl) (by kernel_rfl) (fun _ _ _ h => h) (Or.inl ⟨by rfl, ?_⟩) hHeld ?_
                            rotate_left
                            · intro w' hS'
                              (try dsimp only at hS')
                              go_simp
                              try with_reducible rfl
                            try simp only [List.getElem_toArray, List.getElem_cons_succ, List.getElem_cons_zero, Act.put, List.setIfInBounds_toArray, List.set_cons_zero, List.set_cons_succ]
                            refine wpAnyH_ready (rs := [6]) (by kernel_rfl) (by simp) (AllReadyH.cons rfl (fun K hK => ?_) AllReadyH.nil)
                            rw [if_pos (by rfl)]
                            refine wp_estoreM (.tmp 135) (.tmp 140) (.tmp 138) rfl rfl me2 (.int .i64 c2) rfl rfl rfl ?_
                            intro w3 g3 mr3
                            refine hK.out _ _ (cells_grown hbr' (Nat.lt_of_lt_of_le hbs g2.size) g3 hHeld) (fun _ => ?_)
                            clear hK K
                            try simp only [List.getElem_toArray, List.getElem_cons_succ, List.getElem_cons_zero, Act.put, List.setIfInBounds_toArray, List.set_cons_zero, List.set_cons_succ]
                            refine wpAnyH_done (by kernel_rfl) ?_ _
                            have HMR := Lib.hid (bump_eqf mr3)
                            have HKP := Lib.hid (bump_keep g2 g3)
                            clear mr3 g2 g3 me2
                            go_wp2
                            go_meet
                            exact ⟨HMR.out, HKP.out⟩
                        case rest =>
                          obtain ⟨hm9, hk9⟩ := hcut
                          have HM9 := Lib.hid hm9
                          have HC9 : Hid (CellsAt wc rfC bt 0 t) := RowAt.rf (row_keep (w := w6.drew) hk9 HRT.out (by show ¬ bt = g; omega))
                          have HST9 := Lib.hid (HMID.out wc hk9 hm9)
                          clear hm9 hk9 HM HBT HCC HMID
                          by_cases hz : l1 = 0
                          · have hb2 : (c2 == 0) = true := by have := HL10.out; simp; omega
                            have HPU := Lib.hid (HPS.out hz wc HST9.out)
                            clear HPS HNX HL10
                            go_wp2_with (first
                              | (refine step_loadRf rfl (.tmp 24) rfl HC9.out rfl ?_)
                              | (refine step_lookup1 keyRf Try.underlying53 (by rfl) (.tmp 141) (.tmp 142) rfl HM9.out t (.int .i64 0) (zint _) rfl rfl (.int .i64 c2) (by rw [if_pos rfl]; rfl) ?_)
                              | (go_at_call 28; refine HPU.out.mono ?_; rintro _ w9 ⟨rfl, v9, H9, ht9⟩; have HT9 := Lib.hid ht9; clear ht9))
                            exact ⟨⟨j + 1, v9, H9, by go_num, hjlt, HT9.out⟩, by show nb - ((j : Int) + 1).toNat < nb - (j : Int).toNat; omega⟩
                          · have hb2 : (c2 == 0) = false := by have := HL10.out; simp; omega
                            have HT9 := Lib.hid (HNX.out hz wc wc HST9.out (Below.refl _ _))
                            clear HPS HNX HL10
                            go_wp2_with (first
                              | (refine step_loadRf rfl (.tmp 24) rfl HC9.out rfl ?_)
                              | (refine step_lookup1 keyRf Try.underlying53 (by rfl) (.tmp 141) (.tmp 142) rfl HM9.out t (.int .i64 0) (zint _) rfl rfl (.int .i64 c2) (by rw [if_pos rfl]; rfl) ?_))
                            exact ⟨⟨j + 1, v, H, by go_num, hjlt, HT9.out⟩, by show nb - ((j : Int) + 1).toNat < nb - (j : Int).toNat; omega⟩
                      · have hjn' : j = nb := by omega
                        have HMS := Lib.hid (hts.end_ HLKS.out (by rw [HNB.out]; exact hjn'))
                        have hlo : (o ++ [u]).length = m + 1 := by rw [List.length_append, HMO.out]; rfl
                        have HLO := Lib.hid hlo
                        clear hts hlo
                        subst hjn'
                        go_wp2
                        exact ⟨⟨v, H, o ++ [u], a5, c5, m + 1, rfl, HLO.out, hm1, HMS.out⟩, by show i - (m + 1) < i - m; omega⟩
              · obtain ⟨x, hx, hxk, rfl⟩ := keyF_some hfk
                obtain ⟨m, hm⟩ : ∃ m, x.2.length = m := ⟨_, rfl⟩
                have hphi : phi0 x = (m : Int) := by unfold phi0; rw [hm]
                have hmb : m ≤ 100 := by rw [← hm]; exact HTS.out x hx
                rw [hphi] at hrun hent
                obtain ⟨px, hpx⟩ : ∃ y, wk.heap.size = y := ⟨_, rfl⟩
                obtain ⟨w8, hw8⟩ : ∃ y, wk.alloc (.cells #[.string k.1, .int .i64 k.2] 25) = y := ⟨_, rfl⟩
                have hb8 : Below wk.heap.size wk w8 := by rw [← hw8]; exact below_alloc _
                have HC8 : Hid (CellsAt w8 rfC px 0 k) := by rw [← hw8, ← hpx]; exact RowAt.rf (RowAt.new _ _ _)
                have hst8 := hps.at hkeep hb8
                have HPU : Hid (m = 0 → Calls Try.prog 28 #[.agg #[.string k.1, .int .i64 k.2], .pointer (some ⟨q, 0, none⟩)] w8 fun e w' => e = .returned (.tuple #[]) ∧ (∃ v H S, PushSt wx w' g gh q r L v H S) ∧ itLeft w' r < itLeft wr r) := Lib.hid fun hm0 =>
                  (push1_any q gh v H k w8 hst8.box hst8.hp hst8.is (by omega)).mono fun e w' ⟨q1, v', H', q2, q3, q4, q5⟩ => by
                    obtain ⟨r1, r2⟩ := hps.push hkS hkeep hit2 ⟨x, hx, hxk, hm.trans hm0⟩ hb8 q2 q3 q4 q5
                    exact ⟨q1, ⟨v', H', _, r1⟩, by rw [r2]; exact hlt2⟩
                have HSK : Hid (m ≠ 0 → (∃ v H S, PushSt wx w8 g gh q r L v H S) ∧ itLeft w8 r < itLeft wr r) := Lib.hid fun hm0 => by
                  obtain ⟨r1, r2⟩ := hps.skip hkeep hit2 (fun y hy e => by rw [HLKS.out.inj hy hx (e.trans hxk.symm), hm]; exact hm0) hb8
                  exact ⟨⟨v, H, _, r1⟩, by rw [r2]; exact hlt2⟩
                have HRUN := Lib.hid hrun
                have HENT := Lib.hid hent
                unfold rfV at HRUN HENT
                clear hfk hphi hm hb8 hst8 hrun hent hps hkeep hit2 hlt2 hlenH hkS hxk hx
                by_cases hm0 : m = 0
                · subst hm0
                  go_wp2_with (first
                    | (refine step_next rfl (.tmp 103) rfl _ rfl _ _ HRUN.out ?_)
                    | (refine step_entry rfl (.tmp 103) rfl _ rfl _ _ HENT.out ?_)
                    | (refine step_loadRf rfl (.tmp 19) rfl HC8.out rfl ?_)
                    | (go_at_call 28; refine (HPU.out rfl).mono ?_; rintro _ w9 ⟨rfl, hr9⟩; have HR9 := Lib.hid hr9; clear hr9))
                  exact HR9.out
                · have hmb0 : ((m : Int) == 0) = false := by simp; omega
                  have HSK2 := Lib.hid (HSK.out hm0)
                  go_wp2_with (first
                    | (refine step_next rfl (.tmp 103) rfl _ rfl _ _ HRUN.out ?_)
                    | (refine step_entry rfl (.tmp 103) rfl _ rfl _ _ HENT.out ?_)
                    | (refine step_loadRf rfl (.tmp 19) rfl HC8.out rfl ?_))
                  exact HSK2.out
          · have hgne : ∀ k, k < R → ¬ k = R := fun k h => by omega
            have hbk : Below R w3 wk := hbx.trans (hkeep.below (by omega) (fun x e => by omega))
            have hbk0 : Below w3.heap.size w3 wk := by rw [hR]; exact hbk
            obtain ⟨px, hpx⟩ : ∃ y, wk.heap.size = y := ⟨_, rfl⟩
            obtain ⟨w5, hw5⟩ : ∃ y, wk.alloc (.cells #[.string k.1, .int .i64 k.2] 25) = y := ⟨_, rfl⟩
            have hb5 : Below wk.heap.size wk w5 := by rw [← hw5]; exact below_alloc _
            have HC5 : Hid (CellsAt w5 rfC px 0 k) := by rw [← hw5, ← hpx]; exact RowAt.rf (RowAt.new _ _ _)
            have hmlk : MapR wk g rfV (keyF L phi0) := hml.same (hkeep.same g hml.lt (by omega))
            have HM5 : Hid (MapR w5 g rfV (keyF L phi0)) := hmlk.same (hb5.block g hmlk.lt)
            have HIT5 : Hid (ItF w5 R (g + 1) rfV fb (S ++ [k]) ∧ itLeft w5 R < itLeft wr R) := by
              obtain ⟨q1, q2⟩ := hit2.later hb5
              exact ⟨q1, by rw [q2]; exact hlt2⟩
            have HB5 : Hid (Below R w3 w5) := hbk.trans (hb5.mono (by have := hkeep.size; omega))
            have HRUN := Lib.hid hrun
            have HENT := Lib.hid hent
            unfold rfV at HRUN HENT
            obtain ⟨vv, hvv⟩ : ∃ y, (keyF L phi0 k).getD (.int .i64 0) = y := ⟨_, rfl⟩
            have HVV := Lib.hid hvv
            obtain ⟨tw, htw⟩ : ∃ y, (keyF L phi0 k).isSome = y := ⟨_, rfl⟩
            have HTW := Lib.hid htw
            have HS := Lib.hid hS
            have HBY := Lib.hid (HBH.out.yes k v hfk).1
            obtain ⟨vk, hvk⟩ : ∃ y, v = y := ⟨_, rfl⟩
            clear hmlk hml hmb hb5 hbk hbk0 hit2 hlt2 hit hS hrun hent hvv htw hfk hkS hkeep hgne hbx hbx0
            cases tw with
            | true =>
              have HIN : Hid (∀ u ∈ S ++ [k], u ∈ L.map (·.1)) := by
                intro u hu
                rcases List.mem_append.1 hu with hu | hu
                · exact HS.out u hu
                · rw [List.mem_singleton.1 hu]
                  exact keyF_isSome.1 HTW.out
              go_wp2_with (first
                | (refine step_next rfl (.tmp 86) rfl _ rfl _ _ HRUN.out ?_)
                | (refine step_entry rfl (.tmp 86) rfl _ rfl _ _ HENT.out ?_)
                | (refine step_loadRf rfl (.tmp 14) rfl HC5.out rfl ?_)
                | (refine step_lookup2 keyRf Try.underlying53 rfl (.tmp 92) (.tmp 93) rfl HM5.out k (.int .i64 0) (zint _) rfl rfl _ _ HVV.out HTW.out ?_))
              exact ⟨⟨HB5.out, S ++ [k], HIT5.out.1, HIN.out⟩, HIT5.out.2⟩
            | false =>
              have HE2 : Hid (ordR ltR L = ([], 7)) := by
                refine ordR_none HGLL.out HNO3.out ?_
                cases hl : behd L k with
                | nil => exact absurd hl HBY.out
                | cons u l =>
                  obtain ⟨x, hx, -, hk⟩ := behd_in (L := L) (v := k) (u := u) (by rw [hl]; exact List.mem_cons_self)
                  exact ⟨x, hx, k, hk, fun hm => by have := keyF_isSome (φ := phi0).2 hm; rw [HTW.out] at this; cases this⟩
              have HFIN : Hid (K (.returned (.tuple #[.slice none 0 0, .int .i64 7])) w5) := HEND.out _ 7 HE2.out (HBR.out.trans (HB5.out.mono (by omega)))
              go_wp2_with (first
                | (refine step_next rfl (.tmp 86) rfl _ rfl _ _ HRUN.out ?_)
                | (refine step_entry rfl (.tmp 86) rfl _ rfl _ _ HENT.out ?_)
                | (refine step_loadRf rfl (.tmp 14) rfl HC5.out rfl ?_)
                | (refine step_lookup2 keyRf Try.underlying53 rfl (.tmp 92) (.tmp 93) rfl HM5.out k (.int .i64 0) (zint _) rfl rfl _ _ HVV.out HTW.out ?_))
              exact HFIN.out
end Go.Proofs.Ytcakdjnnfonijaa
