/- The document's closure: plainly, and by walk and Closure. -/
import Derived.Test.YtcakdjnnfonijaaRgDAdd
namespace Go.Proofs.Ytcakdjnnfonijaa
open Go.RowKit

/-- The targets of a version. -/
def tgs (D : List (Rf × List Rf)) (v : Rf) : List Rf := ((D.find? (fun x => decide (x.1 = v))).map (·.2)).getD []
theorem tgs_in {D : List (Rf × List Rf)} {v : Rf} : tgs D v = [] ∨ ∃ x ∈ D, x.1 = v ∧ tgs D v = x.2 := by
  unfold tgs
  cases h : D.find? (fun x => decide (x.1 = v)) with
  | none => exact .inl rfl
  | some x => exact .inr ⟨x, List.mem_of_find?_eq_some h, by simpa using List.find?_some h, rfl⟩
theorem tgs_eq {D : List (Rf × List Rf)} (hn : (D.map (·.1)).Nodup) {x : Rf × List Rf} (hx : x ∈ D) : tgs D x.1 = x.2 := by
  unfold tgs
  cases h : D.find? (fun y => decide (y.1 = x.1)) with
  | none =>
    rw [List.find?_eq_none] at h
    exact absurd (decide_eq_true rfl) (h x hx)
  | some y =>
    have hy := List.mem_of_find?_eq_some h
    have e : y.1 = x.1 := by simpa using List.find?_some h
    rw [nodup_inj hn y hy x hx e]
    rfl
/-- What was told, and the closure of v behind it. -/
def wlkR (D : List (Rf × List Rf)) : Nat → Rf → List Rf → List Rf
  | 0, _, told => told
  | f + 1, v, told => (tgs D v).foldl (fun o t => if memB t o = true then o else wlkR D f t o ++ [t]) told
def wstep (D : List (Rf × List Rf)) (f : Nat) (o : List Rf) (t : Rf) : List Rf := if memB t o = true then o else wlkR D f t o ++ [t]
theorem wlkR_succ (D : List (Rf × List Rf)) (f : Nat) (v : Rf) (told : List Rf) : wlkR D (f + 1) v told = (tgs D v).foldl (wstep D f) told := rfl
/-- Targets lie deeper. -/
def Rank (D : List (Rf × List Rf)) (rk : Rf → Nat) : Prop := ∀ x ∈ D, ∀ t ∈ x.2, t ∈ D.map (·.1) ∧ rk t < rk x.1
def TOk (D : List (Rf × List Rf)) (told : List Rf) : Prop := told.Nodup ∧ ∀ u ∈ told, u ∈ D.map (·.1)
theorem TOk.len {D : List (Rf × List Rf)} {told : List Rf} (h : TOk D told) : told.length ≤ D.length := by
  have := nodup_len told (D.map (·.1)) h.1 fun u hu => h.2 u hu
  simpa using this
theorem wfold_ok {D : List (Rf × List Rf)} {rk : Rf → Nat} {f : Nat} (ih : ∀ v told, TOk D told → TOk D (wlkR D f v told) ∧ ∀ u ∈ wlkR D f v told, u ∈ told ∨ rk u < rk v) (r : Nat) :
    ∀ (l : List Rf), (∀ t ∈ l, t ∈ D.map (·.1) ∧ rk t < r) → ∀ o, TOk D o → TOk D (l.foldl (wstep D f) o) ∧ ∀ u ∈ l.foldl (wstep D f) o, u ∈ o ∨ rk u < r
  | [], _, o, ho => ⟨ho, fun u hu => .inl hu⟩
  | t :: l, hl, o, ho => by
    obtain ⟨ht1, ht2⟩ := hl t (List.mem_cons_self)
    have key : TOk D (wstep D f o t) ∧ ∀ u ∈ wstep D f o t, u ∈ o ∨ rk u < r := by
      unfold wstep
      by_cases hm : memB t o = true
      · rw [if_pos hm]
        exact ⟨ho, fun u hu => .inl hu⟩
      · rw [if_neg hm]
        obtain ⟨k1, k2⟩ := ih t o ho
        have hno : t ∉ o := fun h => hm (memB_iff.2 h)
        have hnt : t ∉ wlkR D f t o := fun h => (k2 t h).elim hno (fun h => Nat.lt_irrefl _ h)
        refine ⟨⟨List.nodup_append.2 ⟨k1.1, by simp, fun a ha b hb e => ?_⟩, fun u hu => ?_⟩, fun u hu => ?_⟩
        · rw [List.mem_singleton.1 hb] at e
          subst e
          exact hnt ha
        · rcases List.mem_append.1 hu with hu | hu
          · exact k1.2 u hu
          · rw [List.mem_singleton.1 hu]; exact ht1
        · rcases List.mem_append.1 hu with hu | hu
          · exact (k2 u hu).imp id (fun h => Nat.lt_trans h ht2)
          · rw [List.mem_singleton.1 hu]; exact .inr ht2
    obtain ⟨q1, q2⟩ := wfold_ok ih r l (fun u hu => hl u (List.mem_cons_of_mem _ hu)) _ key.1
    exact ⟨q1, fun u hu => (q2 u hu).elim (key.2 u) .inr⟩
theorem wlk_ok {D : List (Rf × List Rf)} {rk : Rf → Nat} (hr : Rank D rk) : ∀ (f : Nat) (v : Rf) (told : List Rf), TOk D told → TOk D (wlkR D f v told) ∧ ∀ u ∈ wlkR D f v told, u ∈ told ∨ rk u < rk v
  | 0, _, _, h => ⟨h, fun _ hu => .inl hu⟩
  | f + 1, v, told, h => by
    rw [wlkR_succ]
    refine wfold_ok (wlk_ok hr f) (rk v) _ (fun t ht => ?_) _ h
    rcases tgs_in (D := D) (v := v) with e | ⟨x, hx, e1, e2⟩
    · rw [e] at ht; cases ht
    · rw [e2] at ht
      rw [← e1]
      exact hr x hx t ht
/-- The list of the told has changed from w to w'. -/
def WkUp (w : World) (v : Value) (w' : World) (v' : Value) : Prop := KeepA (fun g => v.ownBlock = some g) w w' ∧ NewRow w v v'
theorem WkUp.refl (w : World) (v : Value) : WkUp w v w v := ⟨KeepA.of_below (Below.refl _ _), fun _ h => .inl h⟩
theorem WkUp.trans {w w1 w2 : World} {a b c : Value} (h : WkUp w a w1 b) (k : WkUp w1 b w2 c) : WkUp w a w2 c :=
  ⟨keep_into h.1 k.1 fun g e => h.2 g e, fun g e => (k.2 g e).elim (h.2 g) fun e => .inr (Nat.le_trans h.1.size e)⟩
theorem WkUp.below {w w' : World} (v : Value) (h : Below w.heap.size w w') : WkUp w v w' v := ⟨KeepA.of_below h, fun _ h => .inl h⟩
structure WkAt (w0 w : World) (tv : Value) (told : List Rf) : Prop where
  below : Below w0.heap.size w0 w
  own : OwnRf w tv told
  low : ∀ g, tv.ownBlock = some g → w0.heap.size ≤ g
theorem WkAt.later {w0 w w' : World} {tv : Value} {told : List Rf} (h : WkAt w0 w tv told) (hb : Below w.heap.size w w') : WkAt w0 w' tv told := ⟨below_trans h.below hb, h.own.later hb, h.low⟩
theorem WkAt.push {w0 w w' : World} {tv tv' : Value} {told l : List Rf} (h : WkAt w0 w tv told) (ho : OwnRf w' tv' l) (hg : w.grownBy w' tv.ownBlock) (hn : NewRow w tv tv') : WkAt w0 w' tv' l ∧ WkUp w tv w' tv' :=
  ⟨⟨below_grown h.below hg h.below.size h.low, ho, fun g e => (hn g e).elim (h.low g) fun e => Nat.le_trans h.below.size e⟩, keep_grownO hg, hn⟩
def WkOk (w0 : World) (rb : Nat) (D : List (Rf × List Rf)) (rk : Rf → Nat) (f : Nat) : Prop :=
  ∀ (w : World) (tv : Value) (told : List Rf) (v : Rf) (d : Nat), rk v < f → d + f ≤ 201 → v ∈ D.map (·.1) → WkAt w0 w tv told → TOk D told →
    Calls Try.prog 44 #[.pointer (some ⟨rb, 0, none⟩), .agg #[.string v.1, .int .i64 v.2], tv, .int .i64 (d : Int)] w fun e w' => ∃ tv', e = .returned tv' ∧ WkAt w0 w' tv' (wlkR D f v told) ∧ WkUp w tv w' tv'
set_option maxRecDepth 100000 in
set_option maxHeartbeats 4000000 in
theorem walk_step (w0 : World) (U : Nat → Prop) (rb : Nat) (D : List (Rf × List Rf)) (h : DocS w0 U rb D) (hd : D.length ≤ 1000) (hlk : Lks D) (hts : ∀ x ∈ D, x.2.length ≤ 1000) (rk : Rf → Nat) (hrk : Rank D rk) (f : Nat) (ih : WkOk w0 rb D rk f) : WkOk w0 rb D rk (f + 1) := by
  intro w tv told v d hrv hdf hvD hat hok
  obtain ⟨px, hpx⟩ : ∃ y, w.heap.size = y := ⟨_, rfl⟩
  obtain ⟨w1, hw1⟩ : ∃ y, w.alloc (.cells #[.string v.1, .int .i64 v.2] 25) = y := ⟨_, rfl⟩
  have hb1 : Below w.heap.size w w1 := by rw [← hw1]; exact below_alloc _
  have HP1 : Hid (RowAt w1 px 25 #[.string v.1, .int .i64 v.2]) := by rw [← hw1, ← hpx]; exact RowAt.new _ _ _
  have HC1 : Hid (CellsAt w1 rfC px 0 v) := RowAt.rf HP1.out
  have HAT1 := Lib.hid (hat.later hb1)
  have HUP1 : Hid (WkUp w tv w1 tv) := WkUp.below tv hb1
  have HD := Lib.hid h
  obtain ⟨gv, ls, hm⟩ := h
  obtain ⟨a, c, b, off, hvv, ha, hrows⟩ := hm.view
  obtain ⟨n, hn⟩ : ∃ y, D.length = y := ⟨_, rfl⟩
  have HN := Lib.hid hn
  have hbox := hm.box
  rw [hvv, hn] at hbox
  obtain ⟨p, hpD, hfp, hpv⟩ : ∃ (p : Nat) (h : p < D.length), findR D v = (p : Int) ∧ D[p].1 = v := by
    rcases findR_in D v with ⟨-, e⟩ | ⟨i, hi, e1, e2, -⟩
    · exact absurd hvD (memB_not.1 e)
    · exact ⟨i, hi, e1, e2⟩
  obtain ⟨ha, hbl⟩ := ha (by omega)
  subst ha
  obtain ⟨ta, tc, hrow⟩ := hrows p hpD
  obtain ⟨x, hx⟩ : ∃ x, D[p] = x := ⟨_, rfl⟩
  rw [hx] at hrow hpv
  have hxD : x ∈ D := by rw [← hx]; exact List.getElem_mem hpD
  have hpn : p < n := by rw [← hn]; exact hpD
  obtain ⟨m, hmm⟩ : ∃ y, x.2.length = y := ⟨_, rfl⟩
  have hm1000 : m ≤ 1000 := by rw [← hmm]; exact hts x hxD
  have HM := Lib.hid hmm
  have HXK : Hid (∀ t ∈ x.2, t ∈ D.map (·.1) ∧ rk t < rk v) := Lib.hid fun t ht => by rw [← hpv]; exact hrk x hxD t ht
  have HTG : Hid (tgs D v = x.2) := by rw [← hpv]; exact tgs_eq hlk.one hxD
  have HBOX := Lib.hid hbox
  have HROW : Hid (∀ W, Below w0.heap.size w0 W → W.cell? ⟨b, off + p * 3 + 2, none⟩ = some (.slice ta m tc) ∧ RdRf W ta x.2) := Lib.hid fun W hW => by
    have := hrow W hW
    rw [← hmm]
    exact this.2
  have HFI : Hid (Calls Try.prog 12 #[.pointer (some ⟨rb, 0, none⟩), .agg #[.string v.1, .int .i64 v.2]] w1 fun e w' => e = .returned (.int .i64 (p : Int)) ∧ Below w1.heap.size w1 w') := by rw [← hfp]; exact docfind_any w1 U rb D (HD.out.later HAT1.out.below) hd v
  have HWOK := Lib.hid (fun v told => wlk_ok hrk f v told)
  have HIH := Lib.hid ih
  have HFOK : Hid (∀ k, TOk D ((x.2.take k).foldl (wstep D f) told)) := Lib.hid fun k => (wfold_ok (wlk_ok hrk f) (rk v) (x.2.take k) (fun t ht => HXK.out t (List.mem_of_mem_take ht)) told hok).1
  have hdn : (d : Int) ≤ 200 := by omega
  obtain ⟨K, hK⟩ : ∃ K, (fun (e : Ending) (w' : World) => ∃ tv', e = .returned tv' ∧ WkAt w0 w' tv' (wlkR D (f + 1) v told) ∧ WkUp w tv w' tv') = K := ⟨_, rfl⟩
  rw [hK]
  have HK : Hid (∀ tv' W, WkAt w0 W tv' ((x.2.take m).foldl (wstep D f) told) → WkUp w tv W tv' → K (.returned tv') W) := Lib.hid fun tv' W h1 h2 => by
    rw [← hK]
    refine ⟨tv', rfl, ?_, h2⟩
    rw [wlkR_succ, HTG.out]
    rw [← HM.out, List.take_length] at h1
    exact h1
  have HRV := Lib.hid hrv
  have HLEN := Lib.hid hd
  clear hm hvv hrows hbox hrow hx hxD hmm hpv hfp hpD hn hlk hts hrk ih hvD hat hok hb1 hK hd hrv hbl
  go_enter Try.func44, Try.ntmps44
  go_upto_region 4 with (first
    | (refine step_loadRf rfl (.tmp 5) rfl HC1.out rfl ?_)
    | (go_at_call 12; refine HFI.out.mono ?_; rintro _ w2 ⟨rfl, hb2⟩; have HB2 := Lib.hid hb2; clear hb2))
  have HAT2 := Lib.hid (HAT1.out.later HB2.out)
  have HUP2 := Lib.hid (HUP1.out.trans (WkUp.below tv HB2.out))
  clear HAT1 HUP1
  go_wp2
  go_loopw [2, 10] (fun pv kv wr => ∃ k : Nat, kv = .int .i64 (k : Int) ∧ k ≤ m ∧ WkAt w0 wr pv ((x.2.take k).foldl (wstep D f) told) ∧ WkUp w tv wr pv) (fun _ kv _ => m - (intOf kv).toNat)
  case atStart => exact ⟨0, rfl, Nat.zero_le _, by rw [List.take_zero]; exact HAT2.out, HUP2.out⟩
  case round =>
    clear HAT2 HUP2
    obtain ⟨k, rfl, hk, hat, hup⟩ := hrel
    have HAT := Lib.hid hat
    have HUP := Lib.hid hup
    have hc0 : wr.cell? ⟨rb, 0, none⟩ = some (.slice (some ⟨b, off, none⟩) n c) := (RowAt.below HBOX.out hat.below).cell 0
    obtain ⟨hc2, hrd⟩ := HROW.out wr hat.below
    clear hat hup
    by_cases hkm : k < m
    · obtain ⟨told', htold⟩ : ∃ y, (x.2.take k).foldl (wstep D f) told = y := ⟨_, rfl⟩
      have HTOLD := Lib.hid htold
      rw [htold] at HAT
      have HOKK : Hid (TOk D told') := by rw [← htold]; exact HFOK.out k
      obtain ⟨pa, pc, hpv, -, -, hprd⟩ := HAT.out.own.rd
      obtain ⟨q, hq⟩ : ∃ y, told'.length = y := ⟨_, rfl⟩
      have HQ := Lib.hid hq
      have hq1000 : q ≤ 1000 := by rw [← hq]; exact Nat.le_trans HOKK.out.len HLEN.out
      rw [hq] at hpv
      subst hpv
      have hkx : k < x.2.length := by rw [HM.out]; exact hkm
      obtain ⟨tb, toff, hta, hcell⟩ := hrd.get k hkx
      subst hta
      obtain ⟨t, ht⟩ : ∃ t, x.2[k] = t := ⟨_, rfl⟩
      rw [ht] at hcell
      have HT : Hid (∃ h : k < x.2.length, x.2[k] = t) := ⟨hkx, ht⟩
      have HTK : Hid (t ∈ D.map (·.1) ∧ rk t < rk v) := HXK.out t (by rw [← ht]; exact List.getElem_mem hkx)
      have HCT := Lib.hid (hcell wr (Below.refl _ _))
      obtain ⟨bt, hbt⟩ : ∃ y, wr.heap.size = y := ⟨_, rfl⟩
      obtain ⟨wa, hwa⟩ : ∃ y, wr.alloc (.cells #[.string t.1, .int .i64 t.2] 25) = y := ⟨_, rfl⟩
      have hba : Below wr.heap.size wr wa := by rw [← hwa]; exact below_alloc _
      have HBA := Lib.hid hba
      have HRT : Hid (RowAt wa bt 25 #[.string t.1, .int .i64 t.2]) := by rw [← hwa, ← hbt]; exact RowAt.new _ _ _
      have HCA : Hid (CellsAt wa rfC bt 0 t) := RowAt.rf HRT.out
      obtain ⟨e, he⟩ : ∃ e, memB t told' = e := ⟨_, rfl⟩
      have HE := Lib.hid he
      have HIN : Hid (Calls Try.prog 34 #[.slice pa q pc, .agg #[.string t.1, .int .i64 t.2]] wa fun e' w' => e' = .returned (.bool e) ∧ Below wa.heap.size wa w') := by rw [← he]; exact docin_any pa q pc told' t wa hq (by omega) (hprd.later hba)
      have HATA : Hid (WkAt w0 wa (.slice pa q pc) told') := HAT.out.later hba
      have HUPA : Hid (WkUp w tv wa (.slice pa q pc)) := HUP.out.trans (WkUp.below _ hba)
      have HLTB : Hid (∀ g, (Value.slice pa q pc).ownBlock = some g → g < bt) := Lib.hid fun g e => by rw [← hbt]; exact HAT.out.own.lt e
      have HSUCC : Hid ((x.2.take (k + 1)).foldl (wstep D f) told = wstep D f told' t) := by
        show _ = _
        rw [fold_succ hkx, htold, ht]
      clear hprd hcell hkx ht hba he hq htold hrd
      cases e with
      | true =>
        as_aux_lemma =>
        have HNX : Hid (wstep D f told' t = told') := by show _ = _; unfold wstep; rw [if_pos HE.out]
        go_wp2_with (first
          | (refine step_loadRf rfl (.tmp 45) rfl HCT.out rfl ?_)
          | (refine step_loadRf rfl (.tmp 11) rfl HCA.out rfl ?_)
          | (go_at_call 34; refine HIN.out.mono ?_; rintro _ w2 ⟨rfl, hb2⟩; have HBZ := Lib.hid hb2; clear hb2))
        exact ⟨⟨k + 1, by go_num, hkm, by rw [HSUCC.out, HNX.out]; exact HATA.out.later HBZ.out, HUPA.out.trans (WkUp.below _ HBZ.out)⟩, by show m - ((k : Int) + 1).toNat < m - (k : Int).toNat; omega⟩
      | false =>
        as_aux_lemma =>
        have HNX : Hid (wstep D f told' t = wlkR D f t told' ++ [t]) := by show _ = _; unfold wstep; rw [if_neg (by rw [HE.out]; simp)]
        obtain ⟨H, hH⟩ : ∃ y, wlkR D f t told' = y := ⟨_, rfl⟩
        have HSZ : Hid (H.length ≤ 1000000) := by
          rw [← hH]
          exact Nat.le_trans (HWOK.out t told' HOKK.out).1.len (Nat.le_trans HLEN.out (by decide))
        have HNX2 : Hid (wstep D f told' t = H ++ [t]) := by rw [← hH]; exact HNX.out
        have HREC : Hid (∀ W, WkAt w0 W (.slice pa q pc) told' → Calls Try.prog 44 #[.pointer (some ⟨rb, 0, none⟩), .agg #[.string t.1, .int .i64 t.2], .slice pa q pc, .int .i64 ((d : Int) + 1)] W fun e w' => ∃ tv', e = .returned tv' ∧ WkAt w0 w' tv' H ∧ WkUp W (.slice pa q pc) w' tv') := Lib.hid fun W hW => by
          rw [← hH]
          have := HIH.out W _ told' t (d + 1) (by have := HTK.out.2; have := HRV.out; omega) (by omega) HTK.out.1 hW HOKK.out
          exact this
        clear hH HNX
        go_upto_region 11 with (first
          | (refine step_loadRf rfl (.tmp 45) rfl HCT.out rfl ?_)
          | (refine step_loadRf rfl (.tmp 11) rfl HCA.out rfl ?_)
          | (go_at_call 34; refine HIN.out.mono ?_; rintro _ w2 ⟨rfl, hb2⟩; have HBZ := Lib.hid hb2; have HRT2 : Hid (RowAt w2 bt 25 #[.string t.1, .int .i64 t.2]) := (RowAt.below HRT.out hb2); have HC2 : Hid (CellsAt w2 rfC bt 0 t) := (RowAt.rf HRT2.out); clear hb2)
          | (refine step_loadRf rfl (.tmp 11) rfl HC2.out rfl ?_)
          | (go_at_call 44; refine (HREC.out w2 (HATA.out.later HBZ.out)).mono ?_; rintro _ w3 ⟨tv3, rfl, ha3, hu3⟩; have HA3 := Lib.hid ha3; have HU3 := Lib.hid hu3; clear ha3 hu3))
        have HRT3 : Hid (RowAt w3 bt 25 #[.string t.1, .int .i64 t.2]) := row_keep HU3.out.1 HRT2.out (fun e => Nat.lt_irrefl _ (HLTB.out bt e))
        have HC3 : Hid (CellsAt w3 rfC bt 0 t) := RowAt.rf HRT3.out
        obtain ⟨G, hG⟩ : ∃ y, w3.heap.size = y := ⟨_, rfl⟩
        obtain ⟨w4, hw4⟩ : ∃ z, w3.alloc (.cells #[.string t.1, .int .i64 t.2] 25) = z := ⟨_, rfl⟩
        have hb4 : Below w3.heap.size w3 w4 := by rw [← hw4]; exact below_alloc _
        have HB4 := Lib.hid hb4
        have HC4 : Hid (CellsAt w4 rfC G 0 t) := by rw [← hw4, ← hG]; exact RowAt.rf (RowAt.new _ _ _)
        have hG4 : G < w4.heap.size := by rw [← hw4, ← hG]; simp
        have HA4 := Lib.hid (HA3.out.later hb4)
        have HU4 : Hid (WkUp w tv w4 tv3) := (HUPA.out.trans (WkUp.below _ HBZ.out)).trans (HU3.out.trans (WkUp.below _ hb4))
        clear hb4
        go_wp2_with (first
          | (refine step_loadRf rfl (.tmp 11) rfl HC3.out rfl ?_)
          | (refine step_pushRf eltRf rfl (.tmp 57) (.tmp 59) rfl _ H rfl G t rfl HA4.out.own HC4.out hG4 HSZ.out ?_; intro v6 w6 ho6 hg6 hn6; have HF6 := Lib.hid (HA4.out.push ho6 hg6 hn6); clear ho6 hg6 hn6))
        exact ⟨⟨k + 1, by go_num, hkm, by rw [HSUCC.out, HNX2.out]; exact HF6.out.1, HU4.out.trans HF6.out.2⟩, by show m - ((k : Int) + 1).toNat < m - (k : Int).toNat; omega⟩
    · have hk' : k = m := by omega
      subst hk'
      go_wp2
      exact HK.out _ _ HAT.out HUP.out
theorem walk_any (w0 : World) (U : Nat → Prop) (rb : Nat) (D : List (Rf × List Rf)) (h : DocS w0 U rb D) (hd : D.length ≤ 1000) (hlk : Lks D) (hts : ∀ x ∈ D, x.2.length ≤ 1000) (rk : Rf → Nat) (hrk : Rank D rk) : ∀ f, WkOk w0 rb D rk f
  | 0 => fun _ _ _ _ _ h0 => absurd h0 (Nat.not_lt_zero _)
  | f + 1 => walk_step w0 U rb D h hd hlk hts rk hrk f (walk_any w0 U rb D h hd hlk hts rk hrk f)
set_option maxRecDepth 100000 in
set_option maxHeartbeats 1000000 in
theorem docclo_any (w : World) (U : Nat → Prop) (rb : Nat) (D : List (Rf × List Rf)) (h : DocS w U rb D) (hd : D.length ≤ 1000) (hlk : Lks D) (hts : ∀ x ∈ D, x.2.length ≤ 1000) (rk : Rf → Nat) (hrk : Rank D rk) (v : Rf) (hv : v ∈ D.map (·.1)) (hr : rk v < 201) :
    Calls Try.prog 22 #[.pointer (some ⟨rb, 0, none⟩), .agg #[.string v.1, .int .i64 v.2]] w fun e w' => ∃ vv, e = .returned vv ∧ OwnRf w' vv (wlkR D 201 v []) ∧ (∀ g, vv.ownBlock = some g → w.heap.size ≤ g) ∧ Below w.heap.size w w' := by
  obtain ⟨px, hpx⟩ : ∃ y, w.heap.size = y := ⟨_, rfl⟩
  obtain ⟨w1, hw1⟩ : ∃ y, w.alloc (.cells #[.string v.1, .int .i64 v.2] 25) = y := ⟨_, rfl⟩
  have hb1 : Below w.heap.size w w1 := by rw [← hw1]; exact below_alloc _
  have HP1 : Hid (RowAt w1 px 25 #[.string v.1, .int .i64 v.2]) := by rw [← hw1, ← hpx]; exact RowAt.new _ _ _
  have HC1 : Hid (CellsAt w1 rfC px 0 v) := RowAt.rf HP1.out
  have HW : Hid (Calls Try.prog 44 #[.pointer (some ⟨rb, 0, none⟩), .agg #[.string v.1, .int .i64 v.2], .slice none 0 0, .int .i64 0] w1 fun e w' => ∃ tv', e = .returned tv' ∧ WkAt w w' tv' (wlkR D 201 v []) ∧ WkUp w1 (.slice none 0 0) w' tv') := by
    have := walk_any w U rb D h hd hlk hts rk hrk 201 w1 (.slice none 0 0) [] v 0 hr (by decide) hv ⟨hb1, OwnRf.nil _, fun g e => by simp [Value.ownBlock] at e⟩ ⟨List.nodup_nil, fun u hu => by cases hu⟩
    exact this
  clear h hd hlk hts hrk hv hr hb1
  go_enter Try.func22, Try.ntmps22
  go_wp2_with (first
    | (refine step_loadRf rfl (.tmp 3) rfl HC1.out rfl ?_)
    | (go_at_call 44; refine HW.out.mono ?_; rintro _ w2 ⟨tv', rfl, ha, hu⟩; have HA := Lib.hid ha; clear ha hu))
  go_ret
  exact ⟨_, rfl, HA.out.own, HA.out.low, HA.out.below⟩
end Go.Proofs.Ytcakdjnnfonijaa
