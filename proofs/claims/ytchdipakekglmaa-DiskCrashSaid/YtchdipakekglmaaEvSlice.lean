/- A reckoner of closed runs, 8: slice expressions, lengths, nil checks. Nothing of the program is used here. -/
import Derived.Test.YtchdipakekglmaaEvLo
namespace Go.Proofs.Ytchdipakekglmaa
open Go.RowKit

def natOf : AV → Option Nat
  | .v (.int _ (.ofNat i)) => some i
  | _ => none
theorem natOf_real {ρ : Env} {a : AV} {x : Value} {i : Nat} (h : natOf a = some i) (ha : a.real ρ = some x) : ∃ k, x = .int k (i : Int) := by
  unfold natOf at h
  split at h
  · rename_i k j
    obtain rfl := Option.some.inj h
    simp only [AV.real, Option.some.injEq] at ha
    exact ⟨k, ha.symm⟩
  · cases h
noncomputable def boundOf (d top : Nat) : Option AV → Option Nat
  | none => some d
  | some a => match natOf a with
    | some i => match Nat.ble i top with
      | true => some i
      | false => none
    | none => none
theorem run_sliceBound {P : Program} (w : World) (k : IntKind) (i y : Nat) (c : BoundsCode) (h : i ≤ y) : (Instr.sliceBound (.int k (i : Int)) y c).run P w = .ok i w := by
  have h1 : (0 : Int) ≤ (i : Int) ∧ (i : Int) ≤ (y : Int) := ⟨Int.natCast_nonneg i, Int.ofNat_le.2 h⟩
  simp [Instr.sliceBound, asIntOf, h]
theorem bound_some {ρ : Env} {f : Fr} {a : Act} (hf : FrR ρ f a) {d top : Nat} {o : Option Operand} {i : Nat} (h : boundOf d top (o.map (evA f)) = some i) :
    (o.map a.eval = none ∧ i = d) ∨ ∃ k, o.map a.eval = some (.int k (i : Int)) ∧ i ≤ top := by
  cases o with
  | none => exact .inl ⟨rfl, (Option.some.inj h).symm⟩
  | some x =>
    simp only [Option.map_some, boundOf] at h
    split at h
    · rename_i j hj
      split at h
      · rename_i hle
        obtain rfl := Option.some.inj h
        obtain ⟨k, hk⟩ := natOf_real hj (evA_real hf x)
        exact .inr ⟨k, by rw [Option.map_some, hk], Nat.le_of_ble_eq_true hle⟩
      · cases h
    · cases h
theorem run_bounds2 {P : Program} {ρ : Env} {f : Fr} {a : Act} (hf : FrR ρ f a) (w : World) (isS : Bool) {len cap top l h : Nat} {lo hi : Option Operand} (hh : boundOf len top (hi.map (evA f)) = some h) (hl : boundOf 0 h (lo.map (evA f)) = some l) (hc : top ≤ cap) :
    (Instr.sliceBounds isS len cap (lo.map a.eval) (hi.map a.eval) none).run P w = .ok (l, h, cap) w := by
  unfold Instr.sliceBounds
  rcases bound_some hf hh with ⟨e1, rfl⟩ | ⟨k, e1, e2⟩ <;> rcases bound_some hf hl with ⟨e3, rfl⟩ | ⟨k', e3, e4⟩
  · rw [e1, e3]; rfl
  · rw [e1, e3]; simp [run_sliceBound _ _ _ _ _ e4]
  · rw [e1, e3]; simp [run_sliceBound _ _ _ _ _ (Nat.le_trans e2 hc)]
  · rw [e1, e3]; simp [Sem.run_bind, run_sliceBound _ _ _ _ _ (Nat.le_trans e2 hc), run_sliceBound _ _ _ _ _ e4]
theorem run_bounds3 {P : Program} {ρ : Env} {f : Fr} {a : Act} (hf : FrR ρ f a) (w : World) (isS : Bool) {len cap top l h m : Nat} {lo : Option Operand} {hi mx : Operand} (hm : boundOf 0 top (some (evA f mx)) = some m) (hh : boundOf 0 m (some (evA f hi)) = some h) (hl : boundOf 0 h (lo.map (evA f)) = some l) (hc : top ≤ cap) :
    (Instr.sliceBounds isS len cap (lo.map a.eval) (some (a.eval hi)) (some (a.eval mx))).run P w = .ok (l, h, m) w := by
  have hm' : boundOf 0 top ((some mx).map (evA f)) = some m := hm
  have hh' : boundOf 0 m ((some hi).map (evA f)) = some h := hh
  unfold Instr.sliceBounds
  rcases bound_some hf hm' with ⟨e, _⟩ | ⟨k0, e0, e00⟩
  · cases e
  rcases bound_some hf hh' with ⟨e, _⟩ | ⟨k, e1, e2⟩
  · cases e
  simp only [Option.map_some, Option.some.injEq] at e0 e1
  rw [e0, e1]
  rcases bound_some hf hl with ⟨e3, rfl⟩ | ⟨k', e3, e4⟩
  · rw [e3]; simp [Sem.run_bind, run_sliceBound _ _ _ _ _ e2, run_sliceBound _ _ _ _ _ (Nat.le_trans e00 hc)]
  · rw [e3]; simp [Sem.run_bind, run_sliceBound _ _ _ _ _ e2, run_sliceBound _ _ _ _ _ (Nat.le_trans e00 hc), run_sliceBound _ _ _ _ _ e4]
/-- A name for a place of which nothing is known. -/
theorem Emb.name {ρ : Env} {base : Kp} {w0 : World} {h : Hp} {w : World} (E : Emb ρ base w0 h w) (l : Loc) (hb : l.blk < w.heap.size) : Emb (ρ.add h.nx l) base w0 (h.new .gone) w := by
  have hn := E.fresh0
  have hgo : ∀ j, (h.new .gone).get j ≠ .gone → j ≠ h.nx ∧ h.get j ≠ .gone := fun j hj => by
    rw [Hp.get_new] at hj
    by_cases e : j = h.nx
    · rw [if_pos e] at hj; exact absurd rfl hj
    · rw [if_neg e] at hj; exact ⟨e, hj⟩
  refine ⟨E.below, E.bw, E.kept, fun j l0 hj => ?_, fun j hj => ?_, fun j j' l0 l0' hj hj' h0 h0' e => ?_⟩
  · unfold Env.add at hj
    by_cases e : j = h.nx
    · rw [if_pos e] at hj
      obtain rfl := Option.some.inj hj
      subst e
      exact ⟨Nat.lt_succ_self _, hb⟩
    · rw [if_neg e] at hj
      have := E.fresh j l0 hj
      exact ⟨Nat.lt_succ_of_lt this.1, this.2⟩
  · obtain ⟨e, hg⟩ := hgo j hj
    obtain ⟨l0, hl, hb0, hr0⟩ := E.live j hg
    refine ⟨l0, (by unfold Env.add; rw [if_neg e]; exact hl), hb0, ?_⟩
    rw [Hp.get_new, if_neg e]
    exact hr0.mono (Env.le_add hn)
  · obtain ⟨e1, hg1⟩ := hgo j hj
    obtain ⟨e2, hg2⟩ := hgo j' hj'
    unfold Env.add at h0 h0'
    rw [if_neg e1] at h0
    rw [if_neg e2] at h0'
    exact E.apart j j' l0 l0' hg1 hg2 h0 h0' e
noncomputable def evSlice (P : Program) (f : Fr) (h : Hp) (t : TypeId) (x : Operand) (lo hi mx : Option Operand) : Option (AV × Hp) := match P.underlying t, evA f x with
  | some (.slice elem), .slc id off len cap ex => match P.info? elem with
    | some i => match mx with
      | none => match boundOf len cap (hi.map (evA f)) with
        | some hh => match boundOf 0 hh (lo.map (evA f)) with
          | some l => match Nat.blt l cap with
            | true => some (.slc id (off + l * i.size) (hh - l) (cap - l) ex, h)
            | false => match Nat.beq l cap with
              | false => none
              | true => match ex with
                | true => some (.slc id off (hh - l) (cap - l) true, h)
                | false => some (.slc h.nx 0 (hh - l) 0 false, h.new .gone)
          | none => none
        | none => none
      | some mx => match hi with
        | none => none
        | some hi => match boundOf 0 cap (some (evA f mx)) with
          | some m => match boundOf 0 m (some (evA f hi)) with
            | some hh => match boundOf 0 hh (lo.map (evA f)) with
              | some l => match Nat.beq m l with
                | true => some (.slc id off (hh - l) (m - l) true, h)
                | false => some (.slc id (off + l * i.size) (hh - l) (m - l) true, h)
              | none => none
            | none => none
          | none => none
    | none => none
  | some (.array n elem), .ptr id off => match P.info? elem with
    | some i => match mx with
      | none => match boundOf n n (hi.map (evA f)) with
        | some hh => match boundOf 0 hh (lo.map (evA f)) with
          | some l => match Nat.beq n l with
            | true => some (.slc id off (hh - l) (n - l) true, h)
            | false => some (.slc id (off + l * i.size) (hh - l) (n - l) true, h)
          | none => none
        | none => none
      | some _ => none
    | none => none
  | _, _ => none
theorem evSlice_any {P : Program} {ρ : Env} {base : Kp} {w0 : World} {h h' : Hp} {w : World} (E : Emb ρ base w0 h w) {f : Fr} {a : Act} (hf : FrR ρ f a) {t : TypeId} {x : Operand} {lo hi mx : Option Operand} {v : AV} (hv : evSlice P f h t x lo hi mx = some (v, h')) :
    (Gives P ρ (Instr.sliceAt t (a.eval x) (lo.map a.eval) (hi.map a.eval) (mx.map a.eval)) w v ∧ h' = h) ∨ (Does P ρ base w0 (Instr.sliceAt t (a.eval x) (lo.map a.eval) (hi.map a.eval) (mx.map a.eval)) w v h' ∧ ∃ n, v = .slc h.nx 0 n 0 false) := by
  have hx := evA_real hf x
  unfold evSlice at hv
  split at hv
  · rename_i elem id off len cap ex hd he
    rw [he] at hx
    simp only [AV.real, Option.map_eq_some_iff] at hx
    obtain ⟨l0, hl0, hx⟩ := hx
    rw [← hx]
    have hrl : cap ≤ (if ex = true then cap else cap + l0.extra) := by split <;> omega
    split at hv
    · rename_i i hi0
      split at hv
      · split at hv
        · rename_i hh hhe
          split at hv
          · rename_i l hle
            have hb := run_bounds2 (P := P) hf w true hhe hle hrl
            have hrun : ∀ y, (Value.slice (if (if ex = true then cap else cap + l0.extra) = l then some ⟨l0.blk, l0.off + off, none⟩ else Option.map (fun x : Addr => x.add (l * i.size)) (some (⟨l0.blk, l0.off + off, none⟩ : Addr))) (hh - l) ((if ex = true then cap else cap + l0.extra) - l)) = y →
                (Instr.sliceAt t (.slice (some ⟨l0.blk, l0.off + off, none⟩) len (if ex = true then cap else cap + l0.extra)) (lo.map a.eval) (hi.map a.eval) (none : Option Value)).run P w = .ok y w := fun y hy => by
              rw [← hy]
              simp only [Instr.sliceAt, Sem.run_bind, run_underlying hd, Result.andThen_ok, Instr.slice, hb, run_size hi0, Sem.run_pure]
            split at hv
            · rename_i hlt
              rw [blt_eq] at hlt
              have hlt := of_decide_eq_true hlt
              obtain ⟨rfl, rfl⟩ := Prod.mk.inj (Option.some.inj hv)
              refine .inl ⟨⟨_, hrun _ rfl, ?_⟩, rfl⟩
              rw [if_neg (by omega)]
              simp only [AV.real, hl0, Option.map_some, Addr.add_plain, Nat.add_assoc, Option.some.injEq, Value.slice.injEq, true_and]
              split <;> omega
            · split at hv
              · cases hv
              · rename_i heq
                have heq := Nat.eq_of_beq_eq_true heq
                split at hv
                · obtain ⟨rfl, rfl⟩ := Prod.mk.inj (Option.some.inj hv)
                  refine .inl ⟨⟨_, hrun _ rfl, ?_⟩, rfl⟩
                  rw [if_pos (by simp; exact heq.symm)]
                  simp [AV.real, hl0]
                · obtain ⟨rfl, rfl⟩ := Prod.mk.inj (Option.some.inj hv)
                  have hfr := E.fresh id l0 hl0
                  refine .inr ⟨⟨ρ.add h.nx ⟨l0.blk, (if cap + l0.extra = l then l0.off + off else l0.off + off + l * i.size), l0.extra⟩, w, _, hrun _ rfl, ?_, Env.le_add E.fresh0, E.name _ hfr.2⟩, _, rfl⟩
                  simp only [AV.real, add_self, Option.map_some, Option.some.injEq, Value.slice.injEq, Bool.false_eq_true, if_false, Nat.add_zero, Nat.zero_add, true_and]
                  refine ⟨?_, by omega⟩
                  split <;> simp [Addr.add_plain]
          · cases hv
        · cases hv
      · rename_i mx0
        split at hv
        · cases hv
        · rename_i hi1
          split at hv
          · rename_i m hme
            split at hv
            · rename_i hh hhe
              split at hv
              · rename_i l hle
                have hb := run_bounds3 (P := P) (len := len) hf w true hme hhe hle hrl
                have hrun : ∀ y, (Value.slice (if m = l then some ⟨l0.blk, l0.off + off, none⟩ else Option.map (fun x : Addr => x.add (l * i.size)) (some (⟨l0.blk, l0.off + off, none⟩ : Addr))) (hh - l) (m - l)) = y →
                    (Instr.sliceAt t (.slice (some ⟨l0.blk, l0.off + off, none⟩) len (if ex = true then cap else cap + l0.extra)) (lo.map a.eval) (some (a.eval hi1)) (some (a.eval mx0))).run P w = .ok y w := fun y hy => by
                  rw [← hy]
                  simp only [Instr.sliceAt, Sem.run_bind, run_underlying hd, Result.andThen_ok, Instr.slice, hb, run_size hi0, Sem.run_pure]
                split at hv
                · rename_i heq
                  have heq := Nat.eq_of_beq_eq_true heq
                  obtain ⟨rfl, rfl⟩ := Prod.mk.inj (Option.some.inj hv)
                  refine .inl ⟨⟨_, hrun _ rfl, ?_⟩, rfl⟩
                  rw [if_pos heq]
                  simp [AV.real, hl0]
                · rename_i heq
                  obtain ⟨rfl, rfl⟩ := Prod.mk.inj (Option.some.inj hv)
                  have hne : m ≠ l := fun e => by rw [e] at heq; simp at heq
                  refine .inl ⟨⟨_, hrun _ rfl, ?_⟩, rfl⟩
                  rw [if_neg hne]
                  simp [AV.real, hl0, Addr.add_plain, Nat.add_assoc]
              · cases hv
            · cases hv
          · cases hv
    · cases hv
  · rename_i n elem id off hd he
    rw [he] at hx
    simp only [AV.real, Option.map_eq_some_iff] at hx
    obtain ⟨l0, hl0, hx⟩ := hx
    rw [← hx]
    split at hv
    · rename_i i hi0
      split at hv
      · split at hv
        · rename_i hh hhe
          split at hv
          · rename_i l hle
            have hb := run_bounds2 (P := P) hf w false hhe hle (Nat.le_refl _)
            have hrun : ∀ y, (Value.slice (some (if n = l then (⟨l0.blk, l0.off + off, none⟩ : Addr) else (⟨l0.blk, l0.off + off, none⟩ : Addr).add (l * i.size))) (hh - l) (n - l)) = y →
                (Instr.sliceAt t (.pointer (some ⟨l0.blk, l0.off + off, none⟩)) (lo.map a.eval) (hi.map a.eval) (none : Option Value)).run P w = .ok y w := fun y hy => by
              rw [← hy]
              simp only [Instr.sliceAt, Sem.run_bind, run_underlying hd, Result.andThen_ok, Instr.sureAddr, hb, run_size hi0, Sem.run_pure]
            split at hv
            · rename_i heq
              have heq := Nat.eq_of_beq_eq_true heq
              obtain ⟨rfl, rfl⟩ := Prod.mk.inj (Option.some.inj hv)
              refine .inl ⟨⟨_, hrun _ rfl, ?_⟩, rfl⟩
              rw [if_pos heq]
              simp [AV.real, hl0]
            · rename_i heq
              obtain ⟨rfl, rfl⟩ := Prod.mk.inj (Option.some.inj hv)
              have hne : n ≠ l := fun e => by rw [e] at heq; simp at heq
              refine .inl ⟨⟨_, hrun _ rfl, ?_⟩, rfl⟩
              rw [if_neg hne]
              simp [AV.real, hl0, Addr.add_plain, Nat.add_assoc]
          · cases hv
        · cases hv
      · cases hv
    · cases hv
  · cases hv
theorem evSlice_ok {P : Program} {ρ : Env} {base : Kp} {w0 : World} {h h' : Hp} {w : World} (E : Emb ρ base w0 h w) {f : Fr} {a : Act} (hf : FrR ρ f a) {t : TypeId} {x : Operand} {lo hi mx : Option Operand} {v : AV} (hv : evSlice P f h t x lo hi mx = some (v, h')) :
    Does P ρ base w0 (Instr.sliceAt t (a.eval x) (lo.map a.eval) (hi.map a.eval) (mx.map a.eval)) w v h' := by
  rcases evSlice_any E hf hv with ⟨h1, rfl⟩ | ⟨h1, _⟩
  · exact h1.does E
  · exact h1
def evNilCheck (a : AV) : Option AV := match a with
  | .ptr id off => some (.ptr id off)
  | .fn (.func g) x y => some (.fn (.func g) x y)
  | .ifc t x => some (.ifc t x)
  | _ => none
noncomputable def evLen (P : Program) (h : Hp) (t : TypeId) (a : AV) : Option AV := match P.underlying t, a with
  | some (.slice _), .slc _ _ len _ _ => some (.v (.int .i64 (len : Nat)))
  | some (.map _ _), .mp id => match h.get id with
    | .map es _ => some (.v (.int .i64 (es.length : Nat)))
    | _ => none
  | _, _ => none
theorem all2_len {α β : Type} {R : α → β → Prop} {xs : List α} {ys : List β} (h : All2 R xs ys) : ys.length = xs.length := by
  induction h with
  | nil => rfl
  | cons _ _ ih => simp [ih]
theorem Emb.map {ρ : Env} {base : Kp} {w0 : World} {h : Hp} {w : World} (E : Emb ρ base w0 h w) {id : Nat} {es : List (AV × AV × Nat)} {clock : Nat} (hg : h.get id = .map es clock) :
    ∃ l es', ρ id = some l ∧ base.ok l.blk ∧ w.heap[l.blk]? = some (.map es' clock) ∧ All2 (entR ρ) es es'.toList := by
  obtain ⟨l, hl, hb, hr⟩ := E.live id (by rw [hg]; exact fun e => by cases e)
  rw [hg] at hr
  obtain ⟨es', h1, h2⟩ := hr
  exact ⟨l, es', hl, hb, h1, h2⟩
theorem run_getMap {P : Program} {w : World} {b c : Nat} {es : Array MapEntry} (h : w.heap[b]? = some (.map es c)) : (getObj b).run P w = .ok (.map es c) w := by
  simp [getObj, Sem.run, h]
theorem evLen_ok {P : Program} {ρ : Env} {base : Kp} {w0 : World} {h : Hp} {w : World} (E : Emb ρ base w0 h w) {t : TypeId} {a v : AV} {x : Value} (ty : TypeId) (ats : Array TypeId) (hat : ats[0]? = some t) (args : Array Value) (harg : args[0]? = some x) (ha : a.real ρ = some x) (hv : evLen P h t a = some v) :
    Gives P ρ (Builtin.len_ ats ty args) w v := by
  unfold evLen at hv
  split at hv
  · rename_i e id off len cap ex hd
    obtain rfl := Option.some.inj hv
    simp only [AV.real, Option.map_eq_some_iff] at ha
    obtain ⟨l, hl, rfl⟩ := ha
    refine ⟨_, ?_, rfl⟩
    simp [Builtin.len_, hat, harg, Sem.run_bind, run_underlying hd, goInt]
  · rename_i k e id hd
    simp only [AV.real, Option.map_eq_some_iff] at ha
    obtain ⟨l, hl, rfl⟩ := ha
    split at hv
    · rename_i es clock hg
      obtain rfl := Option.some.inj hv
      obtain ⟨l', es', hl', _, ho, hr⟩ := E.map hg
      obtain rfl := Option.some.inj (hl.symm.trans hl')
      refine ⟨_, ?_, rfl⟩
      have := all2_len hr
      simp [Builtin.len_, hat, harg, Sem.run_bind, run_underlying hd, goInt, run_getMap ho]
      rw [← this]; simp
    · cases hv
  · cases hv
end Go.Proofs.Ytchdipakekglmaa
