/- A reckoner of closed runs, 10b: entries of maps in place. Nothing of the program is used here. -/
import Derived.Test.YtchdipakekglmaaEvMap
namespace Go.Proofs.Ytchdipakekglmaa
open Go.RowKit

noncomputable def evMapEntry (P : Program) (h : Hp) (t : TypeId) (m k : AV) : Option (AV × Hp) := match P.underlying t with
  | some (.map kt et) => match P.underlying kt, k.plain, m with
    | some kd, some kv, .mp id => match h.get id with
      | .map es clock => match runS P (Instr.checkKey false 10000 kt kv) with
        | some _ => match evFind P kt kd kv es 0 with
          | some (some i) => match es[i]? with
            | some e => match e.1.plain with
              | some ek => match Instr.sameBits 10000 ek kv with
                | true => some (.tup [e.2.1, .v (.int .i64 ((e.2.2 : Nat) : Int))], h.put id (.map (es.modify i fun e => (k, e.2.1, e.2.2)) clock))
                | false => none
              | none => none
            | none => none
          | some none => match P.info? et with
            | some ie => match ie.zero with
              | some z => some (.tup [.v z, .v (.int .i64 ((clock : Nat) : Int))], h.put id (.map (es ++ [(k, .v z, clock)]) (clock + 1)))
              | none => none
            | none => none
          | none => none
        | none => none
      | _ => none
    | _, _, _ => none
  | _ => none
theorem evMapEntry_ok {P : Program} {ρ : Env} {base : Kp} {w0 : World} {h h' : Hp} {w : World} (E : Emb ρ base w0 h w) {t : TypeId} {m k v : AV} {x y : Value} (hm : m.real ρ = some x) (hk : k.real ρ = some y) (hv : evMapEntry P h t m k = some (v, h')) :
    Does P ρ base w0 (Instr.mapEntry t x y) w v h' := by
  unfold evMapEntry at hv
  split at hv
  · rename_i kt et hd
    split at hv
    · rename_i kd kv id hkd hkv
      have hky : kv = y := by have := plain_real ρ _ _ hkv; rw [hk] at this; exact (Option.some.inj this).symm
      subst hky
      simp only [AV.real, Option.map_eq_some_iff] at hm
      obtain ⟨l, hl, rfl⟩ := hm
      split at hv
      · rename_i es clock hg
        have hlive : h.get id ≠ .gone := by rw [hg]; exact fun e => by cases e
        obtain ⟨l', es', hl', _, ho, ha⟩ := E.map hg
        obtain rfl := Option.some.inj (hl.symm.trans hl')
        split at hv
        · rename_i u hck
          have hck := runS_run _ _ w hck
          split at hv
          · rename_i i hf
            obtain ⟨_, hfk⟩ := evFind_ok hkd w ha hf
            split at hv
            · rename_i e he
              obtain ⟨me, hme, hr⟩ := all2_at ha i e he
              have hhit : hit es'.toList 0 (some i) = some (i, me.val) := by simp [hit, hme]
              rw [hhit] at hfk
              split at hv
              · rename_i ek hek
                have hekk : ek = me.key := by have := plain_real ρ _ _ hek; rw [hr.1] at this; exact (Option.some.inj this).symm
                subst hekk
                split at hv
                · rename_i hsb
                  obtain ⟨rfl, rfl⟩ := Prod.mk.inj (Option.some.inj hv)
                  have hmi : es'[i]? = some me := by simpa using hme
                  refine ⟨ρ, _, .tuple #[me.val, .int .i64 (me.born : Int)], ?_, ?_, Env.le_refl ρ, E.setBlk hlive hl ho (o' := .map (es'.modify i fun e => { e with key := kv }) clock) ⟨_, rfl, ?_⟩⟩
                  · simp [Instr.mapEntry, Sem.run_bind, run_underlying hd, MapKept.run_getObj_map ho, hck, hfk, hmi, Instr.keyThatStays, hsb, MapKept.run_setObj_map _ ho, goInt]
                  · simp [AV.real, AV.reals, hr.2.1, hr.2.2]
                  · rw [Array.toList_modify]
                    exact all2_modify ha i _ _ fun a b h1 h2 h3 => ⟨hk, h3.2.1, h3.2.2⟩
                · cases hv
              · cases hv
            · cases hv
          · rename_i hf
            obtain ⟨_, hfk⟩ := evFind_ok hkd w ha hf
            split at hv
            · rename_i ie hie
              split at hv
              · rename_i z hz
                obtain ⟨rfl, rfl⟩ := Prod.mk.inj (Option.some.inj hv)
                refine ⟨ρ, _, .tuple #[z, .int .i64 (clock : Int)], ?_, ?_, Env.le_refl ρ, E.setBlk hlive hl ho (o' := .map (es'.push { key := kv, val := z, born := clock }) (clock + 1)) ⟨_, rfl, ?_⟩⟩
                · simp [Instr.mapEntry, Sem.run_bind, run_underlying hd, MapKept.run_getObj_map ho, hck, hfk, hit, zeroValue, typeInfo, hie, hz, MapKept.run_setObj_map _ ho, goInt]
                · simp [AV.real, AV.reals]
                · rw [Array.toList_push]
                  exact all2_push ha ⟨hk, rfl, rfl⟩
              · cases hv
            · cases hv
          · cases hv
        · cases hv
      · cases hv
    · cases hv
  · cases hv
noncomputable def evEntryStore (h : Hp) (m s v : AV) : Option Hp := match m, natOf s with
  | .mp id, some b => match h.get id with
    | .map es clock => match es.findIdx? (fun e => Nat.beq e.2.2 b) with
      | some i => some (h.put id (.map (es.modify i fun e => (e.1, v, e.2.2)) clock))
      | none => none
    | _ => none
  | _, _ => none
theorem all2_idx {ρ : Env} {es : List (AV × AV × Nat)} {ms : List MapEntry} (h : All2 (entR ρ) es ms) (b : Nat) : ms.findIdx? (fun e => (e.born : Int) == (b : Int)) = es.findIdx? (fun e => Nat.beq e.2.2 b) := by
  induction h with
  | nil => rfl
  | @cons e m es ms hh _ ih =>
    rw [List.findIdx?_cons, List.findIdx?_cons, ih]
    have : ((m.born : Int) == (b : Int)) = Nat.beq e.2.2 b := by
      rw [hh.2.2]
      cases hb : Nat.beq m.born b with
      | true => obtain h1 := Nat.eq_of_beq_eq_true hb; simp [h1]
      | false =>
        have h1 : m.born ≠ b := fun e => by rw [e] at hb; simp at hb
        exact beq_false_of_ne fun e => h1 (by omega)
    rw [this]
theorem evEntryStore_ok {P : Program} {ρ : Env} {base : Kp} {w0 : World} {h h' : Hp} {w : World} (E : Emb ρ base w0 h w) {t : TypeId} {m s v : AV} {x y z : Value} (hm : m.real ρ = some x) (hs : s.real ρ = some y) (hz : v.real ρ = some z) (hv : evEntryStore h m s v = some h') :
    ∃ w', (Instr.entryStore t x y z).run P w = .ok () w' ∧ Emb ρ base w0 h' w' := by
  unfold evEntryStore at hv
  split at hv
  case h_2 => cases hv
  rename_i id b hb
  simp only [AV.real, Option.map_eq_some_iff] at hm
  obtain ⟨l, hl, rfl⟩ := hm
  obtain ⟨kk, rfl⟩ := natOf_real hb hs
  split at hv
  case h_2 => cases hv
  rename_i es clock hg
  have hlive : h.get id ≠ .gone := by rw [hg]; exact fun e => by cases e
  obtain ⟨l', es', hl', _, ho, ha⟩ := E.map hg
  obtain rfl := Option.some.inj (hl.symm.trans hl')
  split at hv
  case h_2 => cases hv
  rename_i i hi
  obtain rfl := Option.some.inj hv
  have hidx : es'.findIdx? (fun e => (e.born : Int) == (b : Int)) = some i := by
    have h1 := List.findIdx?_toArray (p := fun e : MapEntry => (e.born : Int) == (b : Int)) (l := es'.toList)
    rw [Array.toArray_toList] at h1
    rw [h1, all2_idx ha b]
    exact hi
  refine ⟨_, ?_, E.setBlk hlive hl ho (o' := .map (es'.modify i fun e => { e with val := z }) clock) ⟨_, rfl, ?_⟩⟩
  · simp [Instr.entryStore, Sem.run_bind, MapKept.run_getObj_map ho, asInt, asIntOf, hidx, MapKept.run_setObj_map _ ho]
  · rw [Array.toList_modify]
    exact all2_modify ha i _ _ fun a b h1 h2 h3 => ⟨h3.1, hz, h3.2.2⟩
end Go.Proofs.Ytchdipakekglmaa
