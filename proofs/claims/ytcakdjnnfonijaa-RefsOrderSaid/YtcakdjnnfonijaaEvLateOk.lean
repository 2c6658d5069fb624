/- A reckoner of closed runs, 18g: every order of a region with groups comes to one end, proved. Nothing of the program is used here. -/
import Derived.Test.YtcakdjnnfonijaaEvDrawL
namespace Go.Proofs.Ytcakdjnnfonijaa
open Go.RowKit

section
variable {P : Program} {ops : Array Oper} {gs : List Grp} {base : Kp} {w0 : World} {f0 : Fr}
/-- Every order comes to one end. -/
theorem evDrawL_ok {cf : Cf} {rf : RfF} (C : ∀ base w0, CfOk P base w0 cf) (D : ∀ base w0, RfOk P base w0 rf) {rl : Option Nat} {nn : Nat} (S : Sound ops) (LO : LateOk P ops gs) (HF : ∀ g ∈ gs, ∀ (p i : Nat) (o : Oper) (t : Tmp), g[p]? = some (i, o) → o.dst = some t → t < f0.n) {k : Fr → Hp → Ans} {Q : Exit → Act → World → Prop} {ρ0 : Env}
    (K : ∀ f h ρ' a w, k f h = .yes → Env.le ρ0 ρ' → Emb ρ' base w0 h w → FrR ρ' f a → DfR ρ' f.ds a.defers → Q .normal a w) :
    ∀ (n done : Nat) (f : Fr) (h : Hp) (pend : List Pend) (vv : Nat → AV) (listed listedV : Array Bool) (a aV : Act) (w : World) (ρ : Env) (T : Nat → Prop) (M : Nat → Nat) (L : Nat → Option Loc) (F : Nat), evDrawL P cf rf ops (tabOf ops) gs n done f h pend k = .yes →
      Inv P ops base w0 f0 vv done f h pend listedV aV w ρ → OI P ops gs base done h ρ listed listedV a aV w T M L → Env.le ρ0 ρ → (∀ i o, ops[i]? = some o → ∀ t, o.dst = some t → done.testBit i = true → t < f0.n) → Room ops listed F → wpAnyIn (fen rl) nn P .any ops Q F listed a w
  | 0, done, f, h, pend, vv, listed, listedV, a, aV, w, ρ, T, M, L, F, hk, _, _, _, _, _ => by cases hk
  | n + 1, done, f, h, pend, vv, listed, listedV, a, aV, w, ρ, T, M, L, F, hk, I, O, hle, hdst, hroom => by
    have hlate : ∀ j, (lateMask gs).testBit j = true ↔ ∃ g ∈ gs, ∃ (p : Nat) (o : Oper), g[p]? = some (j, o) := lateMask_bit gs
    simp only [evDrawL] at hk
    split at hk
    · rename_i i o hns
      obtain ⟨p, m, A, hp0, hget, hst, hrd⟩ := nextStill_some _ _ _ _ hns
      rw [Nat.zero_add] at hp0
      subst hp0
      obtain ⟨ho, rfl, _⟩ := tab_get hget
      obtain ⟨hi, hr⟩ := (isReady_iff ho).1 hrd
      split at hk
      case h_2 => cases hk
      rename_i v hv
      split at hk
      case h_2 => cases hk
      rename_i f' hf'
      have hng : ∀ g ∈ gs, ∀ (p : Nat) (o' : Oper), g[p]? ≠ some (i, o') := fun g hg p o' hp => by
        have h1 := LO.still g hg p i o' hp
        have h2 := LO.mem g hg p i o' hp
        obtain rfl := Option.some.inj (ho.symm.trans h2)
        rw [hst] at h1
        cases h1
      have O' : OI P ops gs base (done ||| 2 ^ i) h ρ listed listedV a aV w T M L := ⟨O.sz, O.lv, O.vl, O.lcl, O.asz, O.ad, O.at, O.gi, O.dj, O.pw, fun q g hq => ⟨fun hT p j oj hp => (by
        cases hb : (done ||| 2 ^ i).testBit j with
        | false => rfl
        | true =>
          rcases (bit_set _ _ _).1 hb with rfl | e
          · exact absurd hp (hng g (List.mem_of_getElem? hq) p oj)
          · rw [(O.ud q g hq).1 hT p j oj hp] at e; cases e), fun hT p j oj hp => ⟨(bit_set _ _ _).2 (.inr ((O.ud q g hq).2 hT p j oj hp).1), ((O.ud q g hq).2 hT p j oj hp).2⟩⟩⟩
      refine evDrawL_ok C D S LO HF K n _ f' h _ _ listed listedV a aV w ρ T M L F hk (I.ahead S ho hi hr hv hf') O' hle (fun j oj hj t ht hb => ?_) hroom
      rcases (bit_set _ _ _).1 hb with rfl | hb
      · obtain rfl := Option.some.inj (ho.symm.trans hj)
        rw [← I.fn]; exact ((frput hf').2.1 t ht).2
      · exact hdst j oj hj t ht hb
    · rename_i hns
      have hend : ∀ (listed listedV : Array Bool) (a aV : Act) (w : World) (M : Nat → Nat) (L : Nat → Option Loc), Inv P ops base w0 f0 vv done f h pend listedV aV w ρ → OI P ops gs base done h ρ listed listedV a aV w T M L → (∀ i, i < ops.size → Lst listed i) → Q .normal a w := fun listed listedV a aV w M L I O hall => by
        split at hk
        · split at hk
          case h_2 => cases hk
          rename_i d1 f1 h1 p1 had
          obtain ⟨vv', lV', aV', ρ', T', I', O', le', k4, k5, k6, k7⟩ := OI.adoptSel S LO HF (undone done) gs 0 done f h pend vv listedV aV ρ T (fun q g hq => by rw [Nat.zero_add]; exact hq) had I O fun q g hq hs => by
            rw [Nat.zero_add]
            obtain ⟨p, r, rfl, hb⟩ := undone_spec hs
            refine ⟨fun hT => ?_, fun p' i o hp => hall i (Array.getElem?_eq_some_iff.1 (LO.mem _ (List.mem_of_getElem? hq) p' i o hp)).1⟩
            have := ((O.ud q _ hq).2 hT 0 p.1 p.2 rfl).1
            rw [hb] at this; cases this
          have hallV : ∀ i, i < ops.size → Lst lV' i := fun i hi => by
            rcases O'.vl i (hall i hi) with e | ⟨q, g, p, o, hq, hT', hp⟩
            · exact e
            · exfalso
              cases g with
              | nil => simp at hp
              | cons p0 r =>
                have hu : done.testBit p0.1 = true := by
                  cases hb : done.testBit p0.1 with
                  | true => rfl
                  | false =>
                    have := k4 q (p0 :: r) hq (by simp only [undone, hb])
                    rw [Nat.zero_add] at this
                    exact absurd this hT'
                by_cases hT : T q
                · exact hT' (k5 q hT)
                · have := (O.ud q _ hq).1 hT 0 p0.1 p0.2 rfl
                  rw [hu] at this; cases this
          obtain ⟨hfr, _⟩ := I'.ended hallV
          have hat : ∀ t, a.tmps.getD t undef = aV'.tmps.getD t undef := fun t => O'.at t fun i o _ hni ho => absurd (hallV i (Array.getElem?_eq_some_iff.1 ho).1) hni
          exact K f1 h1 ρ' a w hk (Env.le_trans hle le') I'.emb ⟨by rw [O'.asz]; exact hfr.1, fun t => by rw [hat t]; exact hfr.2 t⟩ (by rw [O'.ad]; exact I'.ad)
        · rename_i hne
          exfalso
          have : done ||| lateMask gs = 2 ^ ops.size - 1 := by
            apply Nat.eq_of_testBit_eq
            intro i
            rw [Nat.testBit_two_pow_sub_one]
            by_cases hi : i < ops.size
            · rw [decide_eq_true hi, Nat.testBit_or, Bool.or_eq_true]
              rcases O.vl i (hall i hi) with e | ⟨q, g, p, o, hq, _, hp⟩
              · exact .inl (I.sub i e)
              · exact .inr ((hlate i).2 ⟨g, List.mem_of_getElem? hq, p, o, hp⟩)
            · rw [decide_eq_false hi, Nat.testBit_or, Bool.or_eq_false_iff]
              constructor
              · cases hb : done.testBit i with
                | false => rfl
                | true => exact absurd (I.dlt i hb) hi
              · cases hb : (lateMask gs).testBit i with
                | false => rfl
                | true =>
                  obtain ⟨g, hg, p, o, hp⟩ := (hlate i).1 hb
                  exact absurd (Array.getElem?_eq_some_iff.1 (LO.mem g hg p i o hp)).1 hi
          have h2 : (done ||| lateMask gs) + 1 = 2 ^ ops.size := by have := Nat.two_pow_pos ops.size; omega
          rw [h2] at hne
          simp at hne
      induction F generalizing listed listedV a aV w M L with
      | zero =>
        have hall := hroom.zero
        refine ⟨?_, hend listed listedV a aV w M L I O hall⟩
        cases hr : Region.ready .any ops listed with
        | nil => rfl
        | cons x xs =>
          have hm : x ∈ Region.ready .any ops listed := by rw [hr]; exact List.mem_cons_self
          obtain ⟨h1, o, ho, _⟩ := mem_ready.1 hm
          have h2 := hall x (Array.getElem?_eq_some_iff.1 ho).1
          rw [Lst, getD_both h1] at h2
          cases h2
      | succ F ih =>
        refine ⟨fun hnil => hend listed listedV a aV w M L I O (ready_all S O.sz hnil), fun i hi => ?_⟩
        obtain ⟨h1, o, ho, hall⟩ := mem_ready.1 hi
        have his := (Array.getElem?_eq_some_iff.1 ho).1
        have hn : ¬ Lst listed i := fun hh => by rw [Lst, getD_both h1] at hh; cases hh
        have hr : ∀ j, Waits ops i j → Lst listed j := fun j ⟨o', ho', e, he, hb, hj⟩ => by
          obtain rfl := Option.some.inj (ho.symm.trans ho')
          rw [← hj]; exact hall e he hb
        have hroom' := hroom.set O.sz his hn
        have hnV : ¬ Lst listedV i := fun e => hn (O.lv i e)
        unfold wpOpIn
        rw [ho]
        dsimp only
        cases hd : done.testBit i with
        | true =>
          have hrV : ∀ j, Waits ops i j → Lst listedV j := fun j hj => (O.vl j (hr j hj)).elim id fun ⟨q, g, p, o', e1, e2, e3⟩ => by
            have := (O.ud q g e1).1 e2 p j o' e3
            rw [I.dcl i j hd hj] at this; cases this
          have hng : ∀ (q : Nat) (g : Grp), gs[q]? = some g → ¬ T q → ∀ (p : Nat) (o' : Oper), g[p]? ≠ some (i, o') := fun q g hq hT p o' hp => by
            have := (O.ud q g hq).1 hT p i o' hp
            rw [hd] at this; cases this
          have hlook : ∀ t ∈ o.looksAt ops, a.tmps.getD t undef = aV.tmps.getD t undef := fun t ht => O.at t fun i' o' hi' hni' ho' hot => by
            obtain ⟨q, g, p, o'', e1, e2, e3⟩ := (O.vl i' hi').resolve_left hni'
            rcases S.pair i' i o' o (fun e => hn (by rw [← e]; exact hi')) ho' ho with e4 | e4 | e4
            · exact hni' (hrV i' e4)
            · obtain ⟨q2, o2, _, e5⟩ := LO.wait g (List.mem_of_getElem? e1) p i' o'' e3 i e4
              exact hng q g e1 e2 q2 o2 e5
            · exact e4 t hot ht
          obtain ⟨o', fi, hm⟩ := I.pen i hd hnV
          obtain ⟨_, he⟩ := I.ent _ _ _ _ hm
          obtain ⟨ho', _, hev, ⟨ai, hai⟩, hlk⟩ := he hnV
          obtain rfl := Option.some.inj (ho.symm.trans ho')
          obtain ⟨hsz0, hag0⟩ := agree I hnV hrV hlk hai
          have hsz : ai.tmps.size = a.tmps.size := hsz0.trans O.asz.symm
          have hag : ∀ t ∈ o.looksAt ops, ai.tmps.getD t undef = a.tmps.getD t undef := fun t ht => (hag0 t ht).trans (hlook t ht).symm
          have hwa := wanted_agree hsz hag
          have hea := exec_agree (S.sel i o ho) hag
          have step : ∀ x, (vv i).real ρ = some x → wpAnyIn (fen rl) nn P .any ops Q F (listed.setIfInBounds i true) (a.put o.dst x) w := fun x hx => by
            have I' := I.later S ho hd hnV hrV hx (fun t ht => hdst i o ho t ht hd)
            have O' := O.exec S LO ho hn hr hng I.size x (fun t ht => by rw [O.asz, I.an]; exact hdst i o ho t ht hd) (done' := done) (h' := h) (ρ' := ρ) (w' := w) (fun j => ⟨.inr, fun e => e.elim (fun e => by rw [e]; exact hd) id⟩) (Nat.le_refl _) (fun _ _ _ _ _ _ => rfl) (fun q g l e1 e2 e3 => (O.dj q g l e1 e2 e3).2.2)
            exact ih (listed.setIfInBounds i true) (listedV.setIfInBounds i true) (a.put o.dst x) (aV.put o.dst x) w M L I' O' hroom'
          rcases evStillG_real I.emb hai hev with ⟨hw, hv⟩ | ⟨hw, x, hx1, hx2⟩
          · rw [if_neg (by rw [← hwa, hw]; exact Bool.false_ne_true)]
            exact ⟨fun _ _ => trivial, step undef (by rw [hv]; rfl)⟩
          · rw [if_pos (by rw [← hwa, hw])]
            refine ⟨fun _ _ => trivial, ?_⟩
            rw [Oper.semAt_eq _ _ _ (not_defer (S.sel i o ho)), ← hea, hx1]
            exact step x hx2
        | false =>
          cases hl : (lateMask gs).testBit i with
          | true =>
            obtain ⟨g, hg, p, o', hp⟩ := (hlate i).1 hl
            obtain rfl := Option.some.inj (ho.symm.trans (LO.mem g hg p i o' hp))
            obtain ⟨q, hq⟩ := List.mem_iff_getElem?.1 hg
            have hT : ¬ T q := fun hT => by
              have := ((O.ud q g hq).2 hT p i o hp).1
              rw [hd] at this; cases this
            have G := O.gi q g hq hT
            have hM : M q = p := by
              have h1 : ¬ p < M q := fun e => hn ((G.cnt p i o hp).2 e)
              refine Nat.le_antisymm (by omega) (Nat.le_of_not_lt fun hlt => ?_)
              obtain ⟨p', rfl⟩ : ∃ p', p = p' + 1 := ⟨p - 1, by omega⟩
              obtain ⟨io, hio⟩ : ∃ io, g[p']? = some io := ⟨_, List.getElem?_eq_getElem (by have := (List.getElem?_eq_some_iff.1 hp).1; omega)⟩
              have := (G.cnt p' io.1 io.2 hio).1 (hr _ (LO.chain g hg p' io.1 io.2 i o hio hp))
              omega
            rw [hM] at G
            obtain ⟨hgd, hst⟩ := G.step S LO hg O.sz hp (fun t ht => by rw [O.asz, I.an]; exact HF g hg p i o t hp ht) (rl := rl) (n := nn) (Q := Q) (next := fun a' w' => wpAnyIn (fen rl) nn P .any ops Q F (listed.setIfInBounds i true) a' w') fun w' x l' k1 k2 k3 k4 => by
              obtain ⟨E', O'⟩ := O.early S LO I.emb hq hT hp hn hnV hr k1 k2 k3 k4
              exact ih (listed.setIfInBounds i true) listedV (a.put o.dst x) aV w' _ _ (I.world E') O' hroom'
            rw [if_pos (by unfold Region.wanted; rw [hgd])]
            exact hst
          | false =>
            have hngA : ∀ g ∈ gs, ∀ (p : Nat) (o' : Oper), g[p]? ≠ some (i, o') := fun g hg p o' hp => by
              rw [(hlate i).2 ⟨g, hg, p, o', hp⟩] at hl; cases hl
            have hrD : ∀ j, Waits ops i j → (done ||| lateMask gs).testBit j = true := fun j hj => by
              rw [Nat.testBit_or, Bool.or_eq_true]
              rcases O.vl j (hr j hj) with e | ⟨q, g, p, o', e1, _, e3⟩
              · exact .inl (I.sub j e)
              · exact .inr ((hlate j).2 ⟨g, List.mem_of_getElem? e1, p, o', e3⟩)
            obtain ⟨m, A, hget⟩ := tab_some ho
            obtain ⟨_, rfl, hA⟩ := tab_get hget
            have hdl : (done ||| lateMask gs).testBit i = false := by rw [Nat.testBit_or, hd, hl]; rfl
            have hrd := (isReady_iff ho).2 ⟨hdl, hrD⟩
            split at hk
            · rename_i hfull
              exfalso
              have h2 := Nat.eq_of_beq_eq_true hfull
              have : done ||| lateMask gs = 2 ^ ops.size - 1 := by omega
              rw [this, Nat.testBit_two_pow_sub_one, decide_eq_true his] at hdl
              cases hdl
            · have hone := allA_spec _ _ hk (i, o, A) (by have := readyMs_mem (tabOf ops) 0 i o _ A hget (by rw [Nat.zero_add]; exact hrd); rwa [Nat.zero_add] at this)
              dsimp only at hone
              split at hone
              · cases hone
              rename_i d1 f1 h1' p1 had
              obtain ⟨vv1, lV1, aV1, ρ1, T1, I1, O1, le1, k4, k5, k6, k7⟩ := OI.adoptSel S LO HF (needs done (maskOf ops o).2.2) gs 0 done f h pend vv listedV aV ρ T (fun q g hq => by rw [Nat.zero_add]; exact hq) had I O fun q g hq hs => by
                rw [Nat.zero_add]
                obtain ⟨p, r, rfl, hb, hm⟩ := needs_spec hs
                have hwt := (waits_bit ho).1 hm
                refine ⟨fun hT => ?_, fun p' i' o' hp => ?_⟩
                · have := ((O.ud q _ hq).2 hT 0 p.1 p.2 rfl).1
                  rw [hb] at this; cases this
                · rcases LO.outer _ (List.mem_of_getElem? hq) 0 p.1 p.2 rfl i hwt with ⟨q2, o2, e⟩ | e
                  · exact absurd e (hngA _ (List.mem_of_getElem? hq) q2 o2)
                  · exact hr i' (e p' i' o' hp)
              have hd1 : d1.testBit i = false := by
                cases hb : d1.testBit i with
                | false => rfl
                | true =>
                  rcases k7 i hb with e | ⟨g, hg, p, o', hp⟩
                  · rw [hd] at e; cases e
                  · exact absurd hp (hngA g hg p o')
              have hnV1 : ¬ Lst lV1 i := fun e => hn (O1.lv i e)
              have hrV : ∀ j, Waits ops i j → Lst lV1 j := fun j hj => (O1.vl j (hr j hj)).elim id fun ⟨q, g, p, o', e1, e2, e3⟩ => by
                exfalso
                cases g with
                | nil => simp at e3
                | cons p0 r =>
                  have hw0 : Waits ops i p0.1 := by
                    rcases LO.outer _ (List.mem_of_getElem? e1) p j o' e3 i hj with ⟨q2, o2, e⟩ | e
                    · exact absurd e (hngA _ (List.mem_of_getElem? e1) q2 o2)
                    · exact e 0 p0.1 p0.2 rfl
                  have hu : done.testBit p0.1 = true := by
                    cases hb : done.testBit p0.1 with
                    | true => rfl
                    | false =>
                      have := k4 q (p0 :: r) e1 (by simp only [needs, hb]; exact (waits_bit ho).2 hw0)
                      rw [Nat.zero_add] at this
                      exact absurd this e2
                  by_cases hT : T q
                  · exact e2 (k5 q hT)
                  · have := (O.ud q _ e1).1 hT 0 p0.1 p0.2 rfl
                    rw [hu] at this; cases this
              have hrD1 : ∀ j, Waits ops i j → d1.testBit j = true := fun j hj => I1.sub j (hrV j hj)
              have hng : ∀ (q : Nat) (g : Grp), gs[q]? = some g → ¬ T1 q → ∀ (p : Nat) (o' : Oper), g[p]? ≠ some (i, o') := fun q g hq _ => hngA g (List.mem_of_getElem? hq)
              have hlook : ∀ t ∈ o.looksAt ops, a.tmps.getD t undef = aV1.tmps.getD t undef := fun t ht => O1.at t fun i' o' hi' hni' ho' hot => by
                obtain ⟨q, g, p, o'', e1, e2, e3⟩ := (O1.vl i' hi').resolve_left hni'
                rcases S.pair i' i o' o (fun e => hn (by rw [← e]; exact hi')) ho' ho with e4 | e4 | e4
                · exact hni' (hrV i' e4)
                · obtain ⟨q2, o2, _, e5⟩ := LO.wait g (List.mem_of_getElem? e1) p i' o'' e3 i e4
                  exact hng q g e1 e2 q2 o2 e5
                · exact e4 t hot ht
              obtain ⟨ag, hag⟩ := I1.gho
              have hlk := lookOk_now S I1 ho hd1 hrD1
              obtain ⟨hsz0, hagr0⟩ := agree I1 hnV1 hrV hlk hag
              have hsz : ag.tmps.size = a.tmps.size := hsz0.trans O1.asz.symm
              have hagr : ∀ t ∈ o.looksAt ops, ag.tmps.getD t undef = a.tmps.getD t undef := fun t ht => (hagr0 t ht).trans (hlook t ht).symm
              have hwa := wanted_agree hsz hagr
              have hea := exec_agree (S.sel i o ho) hagr
              have hdst1 : ∀ t, o.dst = some t → ∀ (f' : Fr) (v : AV), f1.put o.dst v = some f' → t < a.tmps.size := fun t ht f' v hf' => by
                rw [O1.asz, I1.an, ← I1.fn]; exact ((frput hf').2.1 t ht).2
              let X : Nat → Prop := fun b => ∃ (q : Nat) (g : Grp) (l : Loc), gs[q]? = some g ∧ ¬ T1 q ∧ L q = some l ∧ b = l.blk
              have E1 := I1.emb.rebase X (fun b ⟨q, g, l, e1, e2, e3, e4⟩ => by rw [e4]; exact (O1.dj q g l e1 e2 e3).2.1) (fun id l0 hid hl0 ⟨q, g, l, e1, e2, e3, e4⟩ => (O1.dj q g l e1 e2 e3).2.2 id l0 hid hl0 e4)
              have go : ∀ (v : AV) (h' : Hp) (ρ' : Env) (w' : World) (x : Value) (pend' : List Pend) (f' : Fr), f1.put o.dst v = some f' → checkPend P ops A h' p1 = some pend' → evDrawL P cf rf ops (tabOf ops) gs n (d1 ||| 2 ^ i) f' h' pend' k = .yes →
                  v.real ρ' = some x → Env.le ρ1 ρ' → Emb ρ' ⟨base.n, fun b => base.B b ∨ X b⟩ w h' w' → wpAnyIn (fen rl) nn P .any ops Q F (listed.setIfInBounds i true) (a.put o.dst x) w' := fun v h' ρ' w' x pend' f' hf' hc hk' hx hle' E' => by
                obtain ⟨c1, c2⟩ := checkPend_ok _ _ hc
                have I2 := I1.now S ho hd1 hrV hA hf' hx hle' (I1.emb.unbase E') c1 c2
                have O2 := O1.exec S LO ho hn hr hng I1.size x (fun t ht => hdst1 t ht f' v hf') (done' := d1 ||| 2 ^ i) (h' := h') (ρ' := ρ') (w' := w') (fun j => bit_set _ _ _) E'.below.size (fun q g l e1 e2 e3 => (E'.kept l.blk (.inr ⟨q, g, l, e1, e2, e3, rfl⟩)).2)
                  (fun q g l e1 e2 e3 id l' hid hl' e => by
                    obtain ⟨l2, hl2, hok, _⟩ := E'.live id hid
                    obtain rfl := Option.some.inj (hl'.symm.trans hl2)
                    exact hok.2 (.inr ⟨q, g, l, e1, e2, e3, e⟩))
                refine evDrawL_ok C D S LO HF K n _ f' h' pend' _ _ _ _ _ w' ρ' T1 M L F hk' I2 O2 (Env.le_trans hle (Env.le_trans le1 hle')) (fun j oj hj t ht hb => ?_) hroom'
                rcases (bit_set _ _ _).1 hb with rfl | hb
                · obtain rfl := Option.some.inj (ho.symm.trans hj)
                  rw [← I1.fn]; exact ((frput hf').2.1 t ht).2
                · rcases k7 j hb with e | ⟨g, hg, p, o', hp⟩
                  · exact hdst j oj hj t ht e
                  · obtain rfl := Option.some.inj (hj.symm.trans (LO.mem g hg p j o' hp))
                    exact HF g hg p j oj t hp ht
              have go2 : ∀ (v : AV) (h' : Hp) (ρ' : Env) (w' : World) (x : Value), (match f1.put o.dst v with
                  | some f' => match checkPend P ops A h' p1 with
                    | some pend' => evDrawL P cf rf ops (tabOf ops) gs n (d1 ||| 2 ^ i) f' h' pend' k
                    | none => .at o
                  | none => .at o) = .yes → v.real ρ' = some x → Env.le ρ1 ρ' → Emb ρ' ⟨base.n, fun b => base.B b ∨ X b⟩ w h' w' → wpAnyIn (fen rl) nn P .any ops Q F (listed.setIfInBounds i true) (a.put o.dst x) w' := fun v h' ρ' w' x q1 q2 q3 q4 => by
                split at q1
                case h_2 => cases q1
                rename_i f' hf'
                split at q1
                case h_2 => cases q1
                rename_i pend' hc
                exact go v h' ρ' w' x pend' f' hf' hc q1 q2 q3 q4
              split at hone
              · cases hone
              · rename_i hw
                have hw := evWanted_ok hag hw
                rw [if_neg (by rw [← hwa, hw]; exact Bool.false_ne_true)]
                exact ⟨fun _ _ => trivial, go2 (.v undef) h1' ρ1 w undef hone rfl (Env.le_refl ρ1) E1⟩
              · rename_i hw
                have hw := evWanted_ok hag hw
                rw [if_pos (by rw [← hwa, hw])]
                exact evOp_step (C _ _) (D _ _) E1 hag hea (fun hb => by rw [hb] at hone; cases hone) (fun v h' ρ' w' x hr q2 q3 q4 => go2 v h' ρ' w' x (by rw [hr] at hone; exact hone) q2 q3 q4) (fun h' ρ' w' hr q3 q4 => go2 (.v undef) h' ρ' w' undef (by rw [hr] at hone; exact hone) rfl q3 q4)
                  (fun v h' => match f1.put o.dst v with
                    | some f' => match checkPend P ops A h' p1 with
                      | some pend' => evDrawL P cf rf ops (tabOf ops) gs n (d1 ||| 2 ^ i) f' h' pend' k
                      | none => .at o
                    | none => .at o) (fun g args hr => by rw [hr] at hone; exact hone) (fun id args hr => by rw [hr] at hone; exact hone) (fun v h' ρ' x w' q1 q2 q3 q4 => go2 v h' ρ' w' x q1 q4 q2 q3)
                  (fun l p ρ' w' x hr hp q2 q3 q4 => go2 p.1 p.2 ρ' w' x (by rw [hr] at hone; exact allA_spec l _ hone p hp) q2 q3 q4)
end
end Go.Proofs.Ytcakdjnnfonijaa
