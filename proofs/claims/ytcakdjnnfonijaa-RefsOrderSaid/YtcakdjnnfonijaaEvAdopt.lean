/- A reckoner of closed runs, 18d: a group is taken in. Nothing of the program is used here. -/
import Derived.Test.YtcakdjnnfonijaaEvGrp
namespace Go.Proofs.Ytcakdjnnfonijaa
open Go.RowKit

noncomputable def slcTo (nx : Nat) : AV → Option AV
  | .slc id off len cap ex => match Nat.beq id 0 with
    | true => some (.slc nx off len cap ex)
    | false => none
  | _ => none
theorem slcTo_real {nx : Nat} {v v' : AV} (h : slcTo nx v = some v') {ρ ρ' : Env} {x : Value} (hx : v.real ρ = some x) (he : ρ 0 = ρ' nx) : v'.real ρ' = some x := by
  unfold slcTo at h
  split at h
  · split at h
    · rename_i hb
      have := Nat.eq_of_beq_eq_true hb
      subst this
      obtain rfl := Option.some.inj h
      simp only [AV.real] at hx ⊢
      rw [← he]
      exact hx
    · cases h
  · cases h
noncomputable def adSlots (fe : Fr) (nx : Nat) : Grp → Fr → Option Fr
  | [], f => some f
  | p :: r, f => match p.2.dst with
    | some t => match slcTo nx (fe.get t) with
      | some v => match f.put (some t) v with
        | some f' => adSlots fe nx r f'
        | none => none
      | none => none
    | none => none
def doneAdd : Grp → Nat → Nat
  | [], d => d
  | p :: r, d => doneAdd r (d ||| 2 ^ p.1)
theorem doneAdd_bit : ∀ (r : Grp) (d j : Nat), (doneAdd r d).testBit j = true ↔ (∃ (p : Nat) (o : Oper), r[p]? = some (j, o)) ∨ d.testBit j = true
  | [], d, j => by simp [doneAdd]
  | (i, o) :: r, d, j => by
    simp only [doneAdd]
    rw [doneAdd_bit r, bit_set]
    constructor
    · rintro (⟨p, o', h⟩ | rfl | h)
      · exact .inl ⟨p + 1, o', by simpa using h⟩
      · exact .inl ⟨0, o, rfl⟩
      · exact .inr h
    · rintro (⟨p, o', h⟩ | h)
      · cases p with
        | zero =>
          simp only [List.getElem?_cons_zero, Option.some.injEq, Prod.mk.injEq] at h
          exact .inr (.inl h.1.symm)
        | succ p => exact .inl ⟨p, o', by simpa using h⟩
      · exact .inr (.inr h)
def lstAdd : Grp → Array Bool → Array Bool
  | [], l => l
  | p :: r, l => lstAdd r (l.setIfInBounds p.1 true)
def actAdd (ag : Act) : Grp → Act → Act
  | [], a => a
  | p :: r, a => actAdd ag r (a.put p.2.dst (ag.tmps.getD (p.2.dst.getD 0) undef))
theorem lstAdd_size : ∀ (r : Grp) (l : Array Bool), (lstAdd r l).size = l.size
  | [], l => rfl
  | p :: r, l => by simp only [lstAdd]; rw [lstAdd_size r]; simp
theorem lstAdd_lst {n : Nat} : ∀ (r : Grp) (l : Array Bool) (j : Nat), l.size = n → (∀ (p i : Nat) (o : Oper), r[p]? = some (i, o) → i < n) → (Lst (lstAdd r l) j ↔ (∃ (p : Nat) (o : Oper), r[p]? = some (j, o)) ∨ Lst l j)
  | [], l, j, hs, hi => by simp [lstAdd]
  | (i, o) :: r, l, j, hs, hi => by
    simp only [lstAdd]
    rw [lstAdd_lst r _ j (by simpa using hs) fun p i' o' hp => hi (p + 1) i' o' (by simpa using hp)]
    have hset : Lst (l.setIfInBounds i true) j ↔ j = i ∨ Lst l j := by
      have h0 := hi 0 i o rfl
      unfold Lst
      by_cases e : j = i
      · subst e
        simp [hs, h0]
      · rw [getD_set_ne false (Ne.symm e)]
        simp [e]
    rw [hset]
    constructor
    · rintro (⟨p, o', h⟩ | rfl | h)
      · exact .inl ⟨p + 1, o', by simpa using h⟩
      · exact .inl ⟨0, o, rfl⟩
      · exact .inr h
    · rintro (⟨p, o', h⟩ | h)
      · cases p with
        | zero =>
          simp only [List.getElem?_cons_zero, Option.some.injEq, Prod.mk.injEq] at h
          exact .inr (.inl h.1.symm)
        | succ p => exact .inl ⟨p, o', by simpa using h⟩
      · exact .inr (.inr h)
theorem actAdd_size (ag : Act) : ∀ (r : Grp) (a : Act), (actAdd ag r a).tmps.size = a.tmps.size ∧ (actAdd ag r a).defers = a.defers
  | [], a => ⟨rfl, rfl⟩
  | p :: r, a => by
    simp only [actAdd]
    obtain ⟨h1, h2⟩ := actAdd_size ag r (a.put p.2.dst (ag.tmps.getD (p.2.dst.getD 0) undef))
    exact ⟨h1.trans put_size, h2.trans (put_defers _ _ _)⟩
theorem actAdd_at (ag : Act) : ∀ (r : Grp) (a : Act) (t : Tmp), ((∀ (p i : Nat) (o : Oper), r[p]? = some (i, o) → o.dst ≠ some t) → (actAdd ag r a).tmps.getD t undef = a.tmps.getD t undef) ∧
    (t < a.tmps.size → (∃ (p i : Nat) (o : Oper), r[p]? = some (i, o) ∧ o.dst = some t) ∨ a.tmps.getD t undef = ag.tmps.getD t undef → (actAdd ag r a).tmps.getD t undef = ag.tmps.getD t undef)
  | [], a, t => ⟨fun _ => rfl, fun _ h => by
    rcases h with ⟨p, i, o, h, _⟩ | h
    · simp at h
    · exact h⟩
  | (i, o) :: r, a, t => by
    obtain ⟨h1, h2⟩ := actAdd_at ag r (a.put o.dst (ag.tmps.getD (o.dst.getD 0) undef)) t
    refine ⟨fun hn => ?_, fun hlt h => ?_⟩
    · simp only [actAdd]
      rw [h1 fun p i' o' hp => hn (p + 1) i' o' (by simpa using hp), put_ne (hn 0 i o rfl)]
    · simp only [actAdd]
      refine h2 (by rw [put_size]; exact hlt) ?_
      by_cases e : o.dst = some t
      · refine .inr ?_
        rw [e, Option.getD_some, put_eq hlt]
      · rcases h with ⟨p, i', o', hp, ht⟩ | h
        · cases p with
          | zero =>
            simp only [List.getElem?_cons_zero, Option.some.injEq, Prod.mk.injEq] at hp
            obtain ⟨rfl, rfl⟩ := hp
            exact absurd ht e
          | succ p => exact .inl ⟨p, i', o', by simpa using hp, ht⟩
        · exact .inr (by rw [put_ne e]; exact h)
section
variable {P : Program} {ops : Array Oper} {base : Kp} {w0 : World} {f0 : Fr} {vv : Nat → AV} {done : Nat} {f : Fr} {h : Hp} {pend : List Pend} {listed : Array Bool} {a : Act} {w : World} {ρ : Env}
theorem Inv.world (I : Inv P ops base w0 f0 vv done f h pend listed a w ρ) {w' : World} (E : Emb ρ base w0 h w') : Inv P ops base w0 f0 vv done f h pend listed a w' ρ :=
  ⟨I.size, I.sub, I.dcl, I.lcl, I.dlt, I.pen, I.ent, I.fn, I.fis, I.gho, I.an, I.ad, I.act, E⟩
theorem Inv.heap (I : Inv P ops base w0 f0 vv done f h pend listed a w ρ) {h' : Hp} {ρ' : Env} {pend' : List Pend} (hle : Env.le ρ ρ') (E' : Emb ρ' base w0 h' w)
    (hc1 : ∀ p ∈ pend', p ∈ pend ∧ (evStillG P ops p.2.2.1 h' p.2.1 = some p.2.2.2 ∨ isPure p.2.1 = true)) (hc2 : ∀ p ∈ pend, p ∈ pend') : Inv P ops base w0 f0 vv done f h' pend' listed a w ρ' := by
  obtain ⟨ag, hag⟩ := I.gho
  refine ⟨I.size, I.sub, I.dcl, I.lcl, I.dlt, fun i hi hn => ?_, fun i o fi vi hm => ?_, I.fn, I.fis, ⟨ag, hag.mono hle⟩, I.an, I.ad.mono hle, fun t => ⟨fun i o hi h1 h2 => AV.real_mono hle _ _ ((I.act t).1 i o hi h1 h2), fun hno => AV.real_mono hle _ _ ((I.act t).2 hno)⟩, E'⟩
  · obtain ⟨o, fi, hm⟩ := I.pen i hi hn
    exact ⟨o, fi, hc2 _ hm⟩
  · obtain ⟨hm', hev⟩ := hc1 _ hm
    obtain ⟨h1, h2⟩ := I.ent i o fi vi hm'
    refine ⟨h1, fun hn => ?_⟩
    obtain ⟨h3, h4, h5, ⟨ai, h6⟩, h7⟩ := h2 hn
    exact ⟨h3, h4, hev.elim id (fun hpu => by rw [← h5]; exact evStillG_pure P ops fi h' h o hpu), ⟨ai, h6.mono hle⟩, h7⟩
theorem adSlots_ok (S : Sound ops) {fe : Fr} {nx : Nat} {l : Loc} {ag : Act} (hF : FrR (one (some l)) fe ag) (hnx : ρ nx = some l) (HC : ∀ p ∈ pend, evStillG P ops p.2.2.1 h p.2.1 = some p.2.2.2 ∨ isPure p.2.1 = true) :
    ∀ (r : Grp) (done : Nat) (f f' : Fr) (vv : Nat → AV) (listed : Array Bool) (a : Act), adSlots fe nx r f = some f' → Inv P ops base w0 f0 vv done f h pend listed a w ρ → (∀ (p i : Nat) (o : Oper), r[p]? = some (i, o) → ops[i]? = some o ∧ done.testBit i = false) →
      (∀ (p i : Nat) (o : Oper), r[p]? = some (i, o) → ∀ k, Waits ops i k → Lst listed k ∨ ∃ (q : Nat) (o' : Oper), q < p ∧ r[q]? = some (k, o')) → (∀ (p q i : Nat) (o o' : Oper), r[p]? = some (i, o) → r[q]? = some (i, o') → p = q) →
      ∃ vv', Inv P ops base w0 f0 vv' (doneAdd r done) f' h pend (lstAdd r listed) (actAdd ag r a) w ρ
  | [], done, f, f', vv, listed, a, hs, I, _, _, _ => by
    obtain rfl := Option.some.inj hs
    exact ⟨vv, I⟩
  | (i, o) :: r, done, f, f', vv, listed, a, hs, I, hm, hw, hn => by
    simp only [adSlots] at hs
    split at hs
    case h_2 => cases hs
    rename_i t ht
    split at hs
    case h_2 => cases hs
    rename_i v hv
    split at hs
    case h_2 => cases hs
    rename_i f1 hf1
    obtain ⟨ho, hi⟩ := hm 0 i o rfl
    have hr : ∀ k, Waits ops i k → Lst listed k := fun k hk => (hw 0 i o rfl k hk).elim id fun ⟨q, o', hq, _⟩ => by omega
    have hx : v.real ρ = some (ag.tmps.getD t undef) := slcTo_real hv (hF.2 t) (by rw [hnx]; rfl)
    have I1 := I.now (v := v) (f' := f1) (pend' := pend) S ho hi hr (A := 0) (fun j hj => by simp at hj) (by rw [ht]; exact hf1) hx (Env.le_refl ρ) I.emb (fun p hp => ⟨hp, HC p hp⟩) (fun p hp _ => hp)
    have his := (Array.getElem?_eq_some_iff.1 ho).1
    have e1 : ag.tmps.getD (o.dst.getD 0) undef = ag.tmps.getD t undef := by rw [ht]; rfl
    simp only [doneAdd, lstAdd, actAdd]
    rw [e1]
    refine adSlots_ok S hF hnx HC r _ f1 f' _ _ _ hs I1 (fun p i' o' hp => ?_) (fun p i' o' hp k hk => ?_) fun p q i' o1 o2 h1 h2 => ?_
    · obtain ⟨h1, h2⟩ := hm (p + 1) i' o' (by simpa using hp)
      refine ⟨h1, ?_⟩
      cases hb : (done ||| 2 ^ i).testBit i' with
      | false => rfl
      | true =>
        rcases (bit_set _ _ _).1 hb with e | e
        · subst e
          have := hn 0 (p + 1) i' o o' rfl (by simpa using hp)
          omega
        · rw [h2] at e; cases e
    · rcases hw (p + 1) i' o' (by simpa using hp) k hk with h1 | ⟨q, o'', hq, h1⟩
      · exact .inl ((lst_set I.size his).2 (.inr h1))
      · cases q with
        | zero =>
          simp only [List.getElem?_cons_zero, Option.some.injEq, Prod.mk.injEq] at h1
          exact .inl ((lst_set I.size his).2 (.inl h1.1.symm))
        | succ q => exact .inr ⟨q, o'', by omega, by simpa using h1⟩
    · have := hn (p + 1) (q + 1) i' o1 o2 (by simpa using h1) (by simpa using h2)
      omega
end
end Go.Proofs.Ytcakdjnnfonijaa
