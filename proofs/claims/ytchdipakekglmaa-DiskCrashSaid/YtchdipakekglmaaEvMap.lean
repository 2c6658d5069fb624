/- A reckoner of closed runs, 10: maps. Nothing of the program is used here. -/
import Derived.Test.YtchdipakekglmaaEvBuild
import Derived.MapKept
namespace Go.Proofs.Ytchdipakekglmaa
open Go.RowKit

/-- A block that is no row is changed. -/
theorem Emb.setBlk {ρ : Env} {base : Kp} {w0 : World} {h : Hp} {w : World} (E : Emb ρ base w0 h w) {id : Nat} {b' : Blk} (hlive : h.get id ≠ .gone) {l : Loc} (hl : ρ id = some l) {o o' : Obj} (ho : w.heap[l.blk]? = some o) (hr : BlkR ρ l b' (some o')) :
    Emb ρ base w0 (h.put id b') { w with heap := w.heap.setIfInBounds l.blk o' } := by
  obtain ⟨l0, hl0, hb, _⟩ := E.live id hlive
  obtain rfl := Option.some.inj (hl.symm.trans hl0)
  have hlt : l.blk < w.heap.size := (Array.getElem?_eq_some_iff.1 ho).1
  have hgone : ∀ j, (h.put id b').get j ≠ .gone → h.get j ≠ .gone := fun j hj => by
    rw [Hp.get_put] at hj
    by_cases e : j = id
    · subst e; exact hlive
    · rw [if_neg e] at hj; exact hj
  refine ⟨⟨E.below.os, E.below.tape, E.below.output, by simpa using E.below.size, fun k hk => ?_⟩, by simpa using E.bw, (fun b hB => ⟨by simpa using (E.kept b hB).1, by
    rw [← (E.kept b hB).2]
    simp only [Array.getElem?_setIfInBounds]
    exact if_neg (fun e : l.blk = b => hb.2 (by rw [e]; exact hB))⟩), (fun j l1 hj => ⟨(E.fresh j l1 hj).1, by simpa using (E.fresh j l1 hj).2⟩), fun j hj => ?_, fun j j' l1 l1' hj hj' h0 h0' e => E.apart j j' l1 l1' (hgone j hj) (hgone j' hj') h0 h0' e⟩
  · rw [← E.below.block k hk]
    simp only [Array.getElem?_setIfInBounds]
    rw [if_neg (by have := hb.1; omega)]
  · rw [Hp.get_put]
    by_cases e : j = id
    · subst e
      rw [if_pos rfl]
      refine ⟨l, hl, hb, ?_⟩
      simp only [Array.getElem?_setIfInBounds, if_true, hlt]
      exact hr
    · rw [if_neg e]
      obtain ⟨l1, hl1, hb1, hr1⟩ := E.live j (hgone j hj)
      have hne : l.blk ≠ l1.blk := fun e' => e (E.apart j id l1 l (hgone j hj) hlive hl1 hl e'.symm)
      refine ⟨l1, hl1, hb1, ?_⟩
      simp only [Array.getElem?_setIfInBounds]
      rw [if_neg hne]
      exact hr1
noncomputable def quickKey : TypeDesc → Bool
  | .int _ => true
  | .string => true
  | .bool => true
  | _ => false
/-- Where a key lies: 'some none' is nowhere, 'none' is not known. -/
noncomputable def evFind (P : Program) (kt : TypeId) (kd : TypeDesc) (k : Value) : List (AV × AV × Nat) → Nat → Option (Option Nat)
  | [], _ => some none
  | e :: r, i => match e.1.plain with
    | none => none
    | some ek => match quickKey kd with
      | true => match Instr.sameNow kd k ek with
        | some true => some (some i)
        | some false => evFind P kt kd k r (i + 1)
        | none => none
      | false => match runS P (Op.equal kt k ek) with
        | some true => some (some i)
        | some false => evFind P kt kd k r (i + 1)
        | none => none
noncomputable def hit (es : List MapEntry) (i0 : Nat) : Option Nat → Option (Nat × Value)
  | none => none
  | some i => some (i, ((es[i - i0]?).map (·.val)).getD undef)
theorem sameNow_slow {kd : TypeDesc} (h : quickKey kd = false) (x y : Value) : Instr.sameNow kd x y = none := by
  cases kd <;> first | (cases h; done) | (unfold Instr.sameNow; split <;> first | rfl | simp_all)
theorem evFind_now {P : Program} {ρ : Env} {kt : TypeId} {kd : TypeDesc} {k : Value} (hq : quickKey kd = true) : ∀ {es : List (AV × AV × Nat)} {ms : List MapEntry} (i : Nat) (r : Option Nat), All2 (entR ρ) es ms → evFind P kt kd k es i = some r →
    (∀ j, r = some j → i ≤ j ∧ j < i + es.length) ∧ Instr.findNow kd k ms i = some (hit ms i r)
  | [], ms, i, r, ha, h => by
    cases ha
    obtain rfl := Option.some.inj h
    exact ⟨fun j hj => (by cases hj), rfl⟩
  | e :: es, ms, i, r, ha, h => by
    cases ha with
    | cons he hr =>
      rename_i m ms
      simp only [evFind, hq] at h
      cases hp : e.1.plain with
      | none => rw [hp] at h; cases h
      | some ek =>
        rw [hp] at h
        dsimp only at h
        have hk : ek = m.key := by have := plain_real ρ _ _ hp; rw [he.1] at this; exact (Option.some.inj this).symm
        subst hk
        simp only [Instr.findNow]
        cases hs : Instr.sameNow kd k m.key with
        | none => rw [hs] at h; cases h
        | some b =>
          rw [hs] at h
          cases b with
          | true =>
            obtain rfl := Option.some.inj h
            refine ⟨fun j hj => by obtain rfl := Option.some.inj hj; simp, ?_⟩
            simp [hit]
          | false =>
            obtain ⟨h1, h2⟩ := evFind_now hq (i + 1) r hr h
            refine ⟨fun j hj => by have := h1 j hj; simp; omega, ?_⟩
            dsimp only
            rw [h2]
            cases r with
            | none => rfl
            | some j =>
              have := h1 j rfl
              simp only [hit, Option.some.injEq, Prod.mk.injEq, true_and]
              rw [show j - i = (j - (i + 1)) + 1 by omega]
              rfl
theorem evFind_ask {P : Program} {ρ : Env} {kt : TypeId} {kd : TypeDesc} {k : Value} (hq : quickKey kd = false) (w : World) : ∀ {es : List (AV × AV × Nat)} {ms : List MapEntry} (i : Nat) (r : Option Nat), All2 (entR ρ) es ms → evFind P kt kd k es i = some r →
    (∀ j, r = some j → i ≤ j ∧ j < i + es.length) ∧ (Instr.findAsking kt k ms i).run P w = .ok (hit ms i r) w
  | [], ms, i, r, ha, h => by
    cases ha
    obtain rfl := Option.some.inj h
    exact ⟨fun j hj => (by cases hj), rfl⟩
  | e :: es, ms, i, r, ha, h => by
    cases ha with
    | cons he hr =>
      rename_i m ms
      simp only [evFind, hq] at h
      cases hp : e.1.plain with
      | none => rw [hp] at h; cases h
      | some ek =>
        rw [hp] at h
        dsimp only at h
        have hk : ek = m.key := by have := plain_real ρ _ _ hp; rw [he.1] at this; exact (Option.some.inj this).symm
        subst hk
        simp only [Instr.findAsking]
        cases hs : runS P (Op.equal kt k m.key) with
        | none => rw [hs] at h; cases h
        | some b =>
          rw [hs] at h
          rw [Sem.run_bind, runS_run _ _ w hs]
          cases b with
          | true =>
            obtain rfl := Option.some.inj h
            refine ⟨fun j hj => by obtain rfl := Option.some.inj hj; simp, ?_⟩
            simp [hit]
          | false =>
            obtain ⟨h1, h2⟩ := evFind_ask hq w (i + 1) r hr h
            refine ⟨fun j hj => by have := h1 j hj; simp; omega, ?_⟩
            simp only [Result.andThen_ok, Bool.false_eq_true, if_false]
            rw [h2]
            cases r with
            | none => rfl
            | some j =>
              have := h1 j rfl
              simp only [hit, Result.ok.injEq, Option.some.injEq, Prod.mk.injEq, true_and, and_true]
              rw [show j - i = (j - (i + 1)) + 1 by omega]
              rfl
theorem evFind_ok {P : Program} {ρ : Env} {kt : TypeId} {kd : TypeDesc} {k : Value} (hd : P.underlying kt = some kd) (w : World) {es : List (AV × AV × Nat)} {ms : List MapEntry} {r : Option Nat} (ha : All2 (entR ρ) es ms) (h : evFind P kt kd k es 0 = some r) :
    (∀ j, r = some j → j < es.length) ∧ (Instr.findKey kt k ms).run P w = .ok (hit ms 0 r) w := by
  unfold Instr.findKey
  rw [Sem.run_bind, run_underlying hd]
  cases hq : quickKey kd with
  | true =>
    obtain ⟨h1, h2⟩ := evFind_now hq 0 r ha h
    refine ⟨fun j hj => by have := h1 j hj; omega, ?_⟩
    simp only [Result.andThen_ok, h2]
    rfl
  | false =>
    obtain ⟨h1, h2⟩ := evFind_ask hq w 0 r ha h
    refine ⟨fun j hj => by have := h1 j hj; omega, ?_⟩
    simp only [Result.andThen_ok]
    cases ms with
    | nil =>
      cases ha
      obtain rfl := Option.some.inj h
      rfl
    | cons m ms =>
      simp only [Instr.findNow, sameNow_slow hq]
      exact h2
theorem all2_at {α β : Type} {R : α → β → Prop} {xs : List α} {ys : List β} (h : All2 R xs ys) : ∀ (i : Nat) (x : α), xs[i]? = some x → ∃ y, ys[i]? = some y ∧ R x y := by
  induction h with
  | nil => intro i x hi; simp at hi
  | cons hh _ ih =>
    intro i x hi
    cases i with
    | zero => simp at hi; subst hi; exact ⟨_, rfl, hh⟩
    | succ i => exact ih i x (by simpa using hi)
theorem all2_modify {α β : Type} {R : α → β → Prop} {xs : List α} {ys : List β} (h : All2 R xs ys) : ∀ (i : Nat) (f : α → α) (g : β → β), (∀ x y, xs[i]? = some x → ys[i]? = some y → R x y → R (f x) (g y)) → All2 R (xs.modify i f) (ys.modify i g) := by
  induction h with
  | nil => intro i f g _; cases i <;> exact .nil
  | cons hh ht ih =>
    intro i f g hf
    cases i with
    | zero => exact .cons (hf _ _ rfl rfl hh) ht
    | succ i => exact .cons hh (ih i f g fun x y h1 h2 => hf x y (by simpa using h1) (by simpa using h2))
theorem all2_push {α β : Type} {R : α → β → Prop} {xs : List α} {ys : List β} (h : All2 R xs ys) {x : α} {y : β} (hr : R x y) : All2 R (xs ++ [x]) (ys ++ [y]) := by
  induction h with
  | nil => exact .cons hr .nil
  | cons hh _ ih => exact .cons hh ih
theorem all2_erase {α β : Type} {R : α → β → Prop} {xs : List α} {ys : List β} (h : All2 R xs ys) : ∀ i, All2 R (xs.eraseIdx i) (ys.eraseIdx i) := by
  induction h with
  | nil => intro i; exact .nil
  | cons hh ht ih =>
    intro i
    cases i with
    | zero => exact ht
    | succ i => exact .cons hh (ih i)
noncomputable def evLookup (P : Program) (h : Hp) (t : TypeId) (m k : AV) (ok : Bool) : Option AV := match P.underlying t with
  | some (.map kt et) => match P.underlying kt, k.plain, m with
    | some kd, some kv, .mp id => match h.get id with
      | .map es _ => match runS P (Instr.checkKey es.isEmpty 10000 kt kv) with
        | some _ => match evFind P kt kd kv es 0 with
          | some (some i) => match es[i]? with
            | some e => some (match ok with
              | true => .tup [e.2.1, .v (.bool true)]
              | false => e.2.1)
            | none => none
          | some none => match P.info? et with
            | some ie => match ie.zero with
              | some z => some (match ok with
                | true => .tup [.v z, .v (.bool false)]
                | false => .v z)
              | none => none
            | none => none
          | none => none
        | none => none
      | _ => none
    | _, _, _ => none
  | _ => none
theorem isEmpty_same {ρ : Env} {es : List (AV × AV × Nat)} {ms : Array MapEntry} (h : All2 (entR ρ) es ms.toList) : ms.isEmpty = es.isEmpty := by
  have := all2_len h
  rw [Array.length_toList] at this
  unfold Array.isEmpty
  cases es with
  | nil => simp at this; simp [this]
  | cons e r => simp at this; simp [this]
theorem evLookup_ok {P : Program} {ρ : Env} {base : Kp} {w0 : World} {h : Hp} {w : World} (E : Emb ρ base w0 h w) {t : TypeId} {m k v : AV} {x y : Value} {ok : Bool} (hm : m.real ρ = some x) (hk : k.real ρ = some y) (hv : evLookup P h t m k ok = some v) :
    Gives P ρ (Instr.lookup t x y ok) w v := by
  unfold evLookup at hv
  split at hv
  · rename_i kt et hd
    split at hv
    · rename_i kd kv id hkd hkv
      have hky : kv = y := by have := plain_real ρ _ _ hkv; rw [hk] at this; exact (Option.some.inj this).symm
      subst hky
      simp only [AV.real, Option.map_eq_some_iff] at hm
      obtain ⟨l, hl, rfl⟩ := hm
      split at hv
      · rename_i es clock hg
        obtain ⟨l', es', hl', _, ho, ha⟩ := E.map hg
        obtain rfl := Option.some.inj (hl.symm.trans hl')
        split at hv
        · rename_i u hck
          have hck := runS_run _ _ w hck
          rw [← isEmpty_same ha] at hck
          split at hv
          · rename_i i hf
            obtain ⟨_, hfk⟩ := evFind_ok hkd w ha hf
            split at hv
            · rename_i e he
              obtain rfl := Option.some.inj hv
              obtain ⟨me, hme, hr⟩ := all2_at ha i e he
              have hhit : hit es'.toList 0 (some i) = some (i, me.val) := by simp [hit, hme]
              rw [hhit] at hfk
              refine ⟨if ok then .tuple #[me.val, .bool true] else me.val, ?_, ?_⟩
              · simp [Instr.lookup, Sem.run_bind, run_underlying hd, MapKept.run_getObj_map ho, hck, hfk]
              · cases ok with
                | true => simp [AV.real, AV.reals, hr.2.1]
                | false => simpa using hr.2.1
            · cases hv
          · rename_i hf
            obtain ⟨_, hfk⟩ := evFind_ok hkd w ha hf
            split at hv
            · rename_i ie hie
              split at hv
              · rename_i z hz
                obtain rfl := Option.some.inj hv
                refine ⟨if ok then .tuple #[z, .bool false] else z, ?_, ?_⟩
                · simp [Instr.lookup, Sem.run_bind, run_underlying hd, MapKept.run_getObj_map ho, hck, hfk, hit, zeroValue, typeInfo, hie, hz]
                · cases ok <;> simp [AV.real, AV.reals]
              · cases hv
            · cases hv
          · cases hv
        · cases hv
      · cases hv
    · cases hv
  · cases hv
noncomputable def evUpdate (P : Program) (h : Hp) (t : TypeId) (m k v : AV) : Option Hp := match P.underlying t with
  | some (.map kt _) => match P.underlying kt, k.plain, m with
    | some kd, some kv, .mp id => match h.get id with
      | .map es clock => match runS P (Instr.checkKey false 10000 kt kv) with
        | some _ => match evFind P kt kd kv es 0 with
          | some (some i) => match es[i]? with
            | some e => match e.1.plain with
              | some ek => match Instr.sameBits 10000 ek kv with
                | true => some (h.put id (.map (es.modify i fun e => (k, v, e.2.2)) clock))
                | false => none
              | none => none
            | none => none
          | some none => some (h.put id (.map (es ++ [(k, v, clock)]) (clock + 1)))
          | none => none
        | none => none
      | _ => none
    | _, _, _ => none
  | _ => none
theorem evUpdate_ok {P : Program} {ρ : Env} {base : Kp} {w0 : World} {h h' : Hp} {w : World} (E : Emb ρ base w0 h w) {t : TypeId} {m k v : AV} {x y z : Value} (hm : m.real ρ = some x) (hk : k.real ρ = some y) (hz : v.real ρ = some z) (hv : evUpdate P h t m k v = some h') :
    ∃ w', (Instr.mapUpdate t x y z).run P w = .ok () w' ∧ Emb ρ base w0 h' w' := by
  unfold evUpdate at hv
  split at hv
  · rename_i kt et hd
    split at hv
    · rename_i kd kv id hkd hkv
      have hky : kv = y := by have := plain_real ρ _ _ hkv; rw [hk] at this; exact (Option.some.inj this).symm
      subst hky
      simp only [AV.real, Option.map_eq_some_iff] at hm
      obtain ⟨l, hl, rfl⟩ := hm
      split at hv
      · rename_i es clock hg
        have hlive : h.get id ≠ .gone := by rw [hg]; exact fun e => by cases e
        obtain ⟨l', es', hl', _, ho, ha⟩ := E.map hg
        obtain rfl := Option.some.inj (hl.symm.trans hl')
        split at hv
        · rename_i u hck
          have hck := runS_run _ _ w hck
          split at hv
          · rename_i i hf
            obtain ⟨_, hfk⟩ := evFind_ok hkd w ha hf
            split at hv
            · rename_i e he
              obtain ⟨me, hme, hr⟩ := all2_at ha i e he
              have hhit : hit es'.toList 0 (some i) = some (i, me.val) := by simp [hit, hme]
              rw [hhit] at hfk
              split at hv
              · rename_i ek hek
                have hekk : ek = me.key := by have := plain_real ρ _ _ hek; rw [hr.1] at this; exact (Option.some.inj this).symm
                subst hekk
                split at hv
                · rename_i hsb
                  obtain rfl := Option.some.inj hv
                  have hmi : es'[i]? = some me := by simpa using hme
                  refine ⟨_, ?_, E.setBlk hlive hl ho (o' := .map (es'.modify i fun e => { e with key := kv, val := z }) clock) ⟨_, rfl, ?_⟩⟩
                  · simp [Instr.mapUpdate, Sem.run_bind, run_underlying hd, MapKept.run_getObj_map ho, hck, hfk, hmi, Instr.keyThatStays, hsb, MapKept.run_setObj_map _ ho]
                  · rw [Array.toList_modify]
                    exact all2_modify ha i _ _ fun a b h1 h2 h3 => ⟨hk, hz, h3.2.2⟩
                · cases hv
              · cases hv
            · cases hv
          · rename_i hf
            obtain ⟨_, hfk⟩ := evFind_ok hkd w ha hf
            obtain rfl := Option.some.inj hv
            refine ⟨_, ?_, E.setBlk hlive hl ho (o' := .map (es'.push { key := kv, val := z, born := clock }) (clock + 1)) ⟨_, rfl, ?_⟩⟩
            · simp [Instr.mapUpdate, Sem.run_bind, run_underlying hd, MapKept.run_getObj_map ho, hck, hfk, hit, MapKept.run_setObj_map _ ho]
            · rw [Array.toList_push]
              exact all2_push ha ⟨hk, hz, rfl⟩
          · cases hv
        · cases hv
      · cases hv
    · cases hv
  · cases hv
noncomputable def evDelete (P : Program) (h : Hp) (t : TypeId) (m k : AV) : Option Hp := match P.underlying t with
  | some (.map kt _) => match P.underlying kt, k.plain, m with
    | some kd, some kv, .mp id => match h.get id with
      | .map es clock => match runS P (Instr.checkKey es.isEmpty 10000 kt kv) with
        | some _ => match evFind P kt kd kv es 0 with
          | some (some i) => some (h.put id (.map (es.eraseIdx i) clock))
          | some none => some (h.put id (.map es clock))
          | none => none
        | none => none
      | _ => none
    | _, _, _ => none
  | _ => none
theorem evDelete_ok {P : Program} {ρ : Env} {base : Kp} {w0 : World} {h h' : Hp} {w : World} (E : Emb ρ base w0 h w) {t : TypeId} {m k : AV} {x y : Value} (ats : Array TypeId) (ty : TypeId) (hat : ats[0]? = some t) (hm : m.real ρ = some x) (hk : k.real ρ = some y) (hv : evDelete P h t m k = some h') :
    ∃ w', (Builtin.delete_ ats ty #[x, y]).run P w = .ok (.tuple #[]) w' ∧ Emb ρ base w0 h' w' := by
  unfold evDelete at hv
  split at hv
  · rename_i kt et hd
    split at hv
    · rename_i kd kv id hkd hkv
      have hky : kv = y := by have := plain_real ρ _ _ hkv; rw [hk] at this; exact (Option.some.inj this).symm
      subst hky
      simp only [AV.real, Option.map_eq_some_iff] at hm
      obtain ⟨l, hl, rfl⟩ := hm
      split at hv
      · rename_i es clock hg
        have hlive : h.get id ≠ .gone := by rw [hg]; exact fun e => by cases e
        obtain ⟨l', es', hl', _, ho, ha⟩ := E.map hg
        obtain rfl := Option.some.inj (hl.symm.trans hl')
        split at hv
        · rename_i u hck
          have hck := runS_run _ _ w hck
          rw [← isEmpty_same ha] at hck
          split at hv
          · rename_i i hf
            obtain ⟨hlt, hfk⟩ := evFind_ok hkd w ha hf
            obtain rfl := Option.some.inj hv
            refine ⟨_, ?_, E.setBlk hlive hl ho (o' := .map (es'.eraseIdxIfInBounds i) clock) ⟨_, rfl, ?_⟩⟩
            · simp [Builtin.delete_, Sem.run_bind, run_underlying hd, MapKept.run_getObj_map ho, hck, hfk, hit, hat, MapKept.run_setObj_map _ ho]
            · have hi := hlt i rfl
              have hlen := all2_len ha
              rw [Array.length_toList] at hlen
              have : i < es'.size := by omega
              simp only [Array.eraseIdxIfInBounds, this, dif_pos, Array.toList_eraseIdx]
              exact all2_erase ha i
          · rename_i hf
            obtain ⟨_, hfk⟩ := evFind_ok hkd w ha hf
            obtain rfl := Option.some.inj hv
            refine ⟨_, ?_, E.setBlk hlive hl ho (o' := .map es' clock) ⟨_, rfl, ha⟩⟩
            simp [Builtin.delete_, Sem.run_bind, run_underlying hd, MapKept.run_getObj_map ho, hck, hfk, hit, hat, MapKept.run_setObj_map _ ho]
          · cases hv
        · cases hv
      · cases hv
    · cases hv
  · cases hv
/-- A map is emptied. -/
noncomputable def evClear (P : Program) (h : Hp) (t : TypeId) (m : AV) : Option Hp := match P.underlying t with
  | some _ => match m with
    | .mp id => match h.get id with
      | .map _ clock => some (h.put id (.map [] clock))
      | _ => none
    | .v (.map none) => some h
    | _ => none
  | none => none
theorem evClear_ok {P : Program} {ρ : Env} {base : Kp} {w0 : World} {h h' : Hp} {w : World} (E : Emb ρ base w0 h w) {t : TypeId} {m : AV} {x : Value} (ats : Array TypeId) (ty : TypeId) (hat : ats[0]? = some t) (hm : m.real ρ = some x) (hv : evClear P h t m = some h') :
    ∃ w', (Builtin.clear_ ats ty #[x]).run P w = .ok (.tuple #[]) w' ∧ Emb ρ base w0 h' w' := by
  unfold evClear at hv
  split at hv
  · rename_i d hd
    split at hv
    · rename_i id
      simp only [AV.real, Option.map_eq_some_iff] at hm
      obtain ⟨l, hl, rfl⟩ := hm
      split at hv
      · rename_i es clock hg
        have hlive : h.get id ≠ .gone := by rw [hg]; exact fun e => by cases e
        obtain ⟨l', es', hl', _, ho, ha⟩ := E.map hg
        obtain rfl := Option.some.inj (hl.symm.trans hl')
        obtain rfl := Option.some.inj hv
        refine ⟨_, ?_, E.setBlk hlive hl ho (o' := .map #[] clock) ⟨_, rfl, .nil⟩⟩
        simp [Builtin.clear_, Sem.run_bind, run_underlying hd, MapKept.run_getObj_map ho, hat, MapKept.run_setObj_map _ ho]
      · cases hv
    · obtain rfl := Option.some.inj hm
      obtain rfl := Option.some.inj hv
      refine ⟨w, ?_, E⟩
      simp [Builtin.clear_, run_underlying hd, hat]
    · cases hv
  · cases hv
end Go.Proofs.Ytchdipakekglmaa
