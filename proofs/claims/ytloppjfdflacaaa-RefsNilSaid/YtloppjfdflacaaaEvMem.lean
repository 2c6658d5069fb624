/- A reckoner of closed runs, 4: loads, stores, blocks that are made. Nothing of the program is used here. -/
import Derived.Test.YtloppjfdflacaaaEvOne
namespace Go.Proofs.Ytloppjfdflacaaa
open Go.RowKit

def cellsFrom (t : Tr AV) (n : Nat) (dfl : AV) : Nat → Nat → Option (List AV)
  | 0, _ => some []
  | k + 1, i => match cellAt t n dfl i with
    | some a => (cellsFrom t n dfl k (i + 1)).map fun r => a :: r
    | none => none
theorem Addr.add_plain (b o j : Nat) : (⟨b, o, none⟩ : Addr).add j = ⟨b, o + j, none⟩ := by unfold Addr.add; split <;> simp_all
theorem Emb.loads {ρ : Env} {base : Nat} {w0 : World} {h : Hp} {w : World} (E : Emb ρ base w0 h w) {id : Nat} {t : Tr AV} {n : Nat} {dfl : AV} {elem : TypeId} {opn : Option Nat} (hg : h.get id = .cells t n dfl elem opn) {l : Loc} (hl : ρ id = some l) :
    ∀ (k i : Nat) (cz : List AV), cellsFrom t n dfl k i = some cz → ∃ xs, AV.reals ρ cz = some xs ∧ xs.length = k ∧ cz.length = k ∧ (∀ j v, xs[j]? = some v → w.cell? ⟨l.blk, l.off + i + j, none⟩ = some v)
  | 0, i, cz, h => by
    simp only [cellsFrom, Option.some.injEq] at h
    subst h
    exact ⟨[], rfl, rfl, rfl, fun j v hj => by simp at hj⟩
  | k + 1, i, cz, h => by
    simp only [cellsFrom] at h
    split at h
    · rename_i a ha
      simp only [Option.map_eq_some_iff] at h
      obtain ⟨r, hr, rfl⟩ := h
      obtain ⟨xs, h1, h2, h3, h4⟩ := Emb.loads E hg hl k (i + 1) r hr
      obtain ⟨x, hx, hc, _⟩ := E.load hg hl ha
      refine ⟨x :: xs, by simp [AV.reals, hx, h1], by simp [h2], by simp [h3], fun j v hj => ?_⟩
      cases j with
      | zero => simp only [List.getElem?_cons_zero, Option.some.injEq] at hj; subst hj; exact hc
      | succ j =>
        simp only [List.getElem?_cons_succ] at hj
        have := h4 j v hj
        rw [show l.off + i + (j + 1) = l.off + (i + 1) + j by omega]
        exact this
    · cases h
theorem Emb.loadsRun {ρ : Env} {base : Nat} {w0 : World} {h : Hp} {w : World} {P : Program} (E : Emb ρ base w0 h w) {id : Nat} {t : Tr AV} {n : Nat} {dfl : AV} {elem : TypeId} {opn : Option Nat} (hg : h.get id = .cells t n dfl elem opn) {l : Loc} (hl : ρ id = some l)
    {k i : Nat} {cz : List AV} (hc : cellsFrom t n dfl k i = some cz) : ∃ xs, AV.reals ρ cz = some xs ∧ xs.length = k ∧ cz.length = k ∧ (loadCells ⟨l.blk, l.off + i, none⟩ k).run P w = .ok xs.toArray w := by
  obtain ⟨xs, h1, h2, h3, h4⟩ := E.loads hg hl k i cz hc
  refine ⟨xs, h1, h2, h3, ?_⟩
  have := run_loadCells_list (P := P) w ⟨l.blk, l.off + i, none⟩ xs (fun j v hj => by rw [Addr.add_plain]; exact h4 j v hj)
  rwa [h2] at this
def isAggD : TypeDesc → Bool
  | .struct _ => true
  | .array _ _ => true
  | _ => false
theorem run_isAgg {P : Program} {t : TypeId} {d : TypeDesc} (h : P.underlying t = some d) (w : World) : (isAgg t).run P w = .ok (isAggD d) w := by
  unfold isAgg
  rw [Sem.run_bind, run_underlying h w]
  cases d <;> rfl
def evLoad (P : Program) (h : Hp) (t : TypeId) (a : AV) : Option AV := match a with
  | .ptr id off => match h.get id with
    | .cells tr n dfl _ _ => match P.underlying t with
      | some d => match isAggD d with
        | true => match P.info? t with
          | some i => (cellsFrom tr n dfl i.size off).map .agg
          | none => none
        | false => cellAt tr n dfl off
      | none => none
    | _ => none
  | _ => none
theorem evLoad_run {P : Program} {ρ : Env} {base : Nat} {w0 : World} {h : Hp} {w : World} (E : Emb ρ base w0 h w) {t : TypeId} {a v : AV} {x : Value} (ha : a.real ρ = some x) (hv : evLoad P h t a = some v) : Does P ρ base w0 (Instr.loadAt t x) w v h := by
  unfold evLoad at hv
  split at hv
  · rename_i id off
    simp only [AV.real, Option.map_eq_some_iff] at ha
    obtain ⟨l, hl, rfl⟩ := ha
    split at hv
    · rename_i tr n dfl elem opn hg
      split at hv
      · rename_i d hd
        split at hv
        · rename_i hag
          split at hv
          · rename_i i hi
            simp only [Option.map_eq_some_iff] at hv
            obtain ⟨cz, has, rfl⟩ := hv
            obtain ⟨xs, h1, h2, h3, h4⟩ := E.loadsRun (P := P) hg hl has
            refine does_pure E (x := .agg xs.toArray) ?_ (by simp [AV.real, h1])
            simp [Instr.loadAt, Instr.sureAddr, loadVar, Sem.run_bind, run_isAgg hd, hag, sizeOf, typeInfo, hi, h4]
          · cases hv
        · rename_i hag
          obtain ⟨x, hx, hc, _⟩ := E.load hg hl hv
          refine does_pure E (x := x) ?_ hx
          simp [Instr.loadAt, Instr.sureAddr, loadVar, Sem.run_bind, run_isAgg hd, hag, load, Sem.run, hc]
      · cases hv
    · cases hv
  · cases hv

def AV.cells : AV → List AV
  | .agg cs => cs
  | .v (.agg xs) => xs.toList.map .v
  | a => [a]
theorem reals_v (ρ : Env) : ∀ l : List Value, AV.reals ρ (l.map .v) = some l
  | [] => rfl
  | x :: r => by simp [AV.reals, AV.real, reals_v ρ r]
theorem AV.cells_real {ρ : Env} {a : AV} {x : Value} (h : a.real ρ = some x) : AV.reals ρ a.cells = some x.cells.toList := by
  cases a with
  | v y =>
    simp only [AV.real, Option.some.injEq] at h
    subst h
    cases y <;> simp [AV.cells, AV.reals, AV.real, Value.cells, reals_v]
  | agg cs =>
    simp only [AV.real, Option.map_eq_some_iff] at h
    obtain ⟨l, hl, rfl⟩ := h
    simp [AV.cells, Value.cells, hl]
  | ptr id off => simp only [AV.real, Option.map_eq_some_iff] at h; obtain ⟨l, hl, rfl⟩ := h; simp [AV.cells, AV.reals, AV.real, hl, Value.cells]
  | slc id off len cap ex => simp only [AV.real, Option.map_eq_some_iff] at h; obtain ⟨l, hl, rfl⟩ := h; simp [AV.cells, AV.reals, AV.real, hl, Value.cells]
  | mp id => simp only [AV.real, Option.map_eq_some_iff] at h; obtain ⟨l, hl, rfl⟩ := h; simp [AV.cells, AV.reals, AV.real, hl, Value.cells]
  | yld id => simp only [AV.real, Option.map_eq_some_iff] at h; obtain ⟨l, hl, rfl⟩ := h; simp [AV.cells, AV.reals, AV.real, hl, Value.cells]
  | fn f p q =>
    simp only [AV.real, Option.bind_eq_some_iff, Option.map_eq_some_iff] at h
    obtain ⟨y, hy, z, hz, rfl⟩ := h
    simp [AV.cells, AV.reals, AV.real, hy, hz, Value.cells]
  | ifc t y => simp only [AV.real, Option.map_eq_some_iff] at h; obtain ⟨l, hl, rfl⟩ := h; simp [AV.cells, AV.reals, AV.real, hl, Value.cells]
  | tup vs => simp only [AV.real, Option.map_eq_some_iff] at h; obtain ⟨l, hl, rfl⟩ := h; simp [AV.cells, AV.reals, AV.real, hl, Value.cells]
def AV.one : AV → Bool
  | .agg _ => false
  | .tup _ => false
  | .v x => x.oneCell'
  | _ => true
theorem AV.one_real {ρ : Env} {a : AV} {x : Value} (h : a.real ρ = some x) (h1 : a.one = true) : x.oneCell' = true := by
  cases a with
  | v y => simp only [AV.real, Option.some.injEq] at h; subst h; exact h1
  | agg cs => cases h1
  | tup cs => cases h1
  | ptr id off => simp only [AV.real, Option.map_eq_some_iff] at h; obtain ⟨l, hl, rfl⟩ := h; rfl
  | slc id off len cap ex => simp only [AV.real, Option.map_eq_some_iff] at h; obtain ⟨l, hl, rfl⟩ := h; rfl
  | mp id => simp only [AV.real, Option.map_eq_some_iff] at h; obtain ⟨l, hl, rfl⟩ := h; rfl
  | yld id => simp only [AV.real, Option.map_eq_some_iff] at h; obtain ⟨l, hl, rfl⟩ := h; rfl
  | fn f p q => simp only [AV.real, Option.bind_eq_some_iff, Option.map_eq_some_iff] at h; obtain ⟨y, hy, z, hz, rfl⟩ := h; rfl
  | ifc t y => simp only [AV.real, Option.map_eq_some_iff] at h; obtain ⟨l, hl, rfl⟩ := h; rfl
def setCells (n : Nat) : List AV → Tr AV → Nat → Option (Tr AV)
  | [], t, _ => some t
  | a :: r, t, i => match Nat.blt i n with
    | true => match a.one with
      | true => setCells n r (t.set i a) (i + 1)
      | false => none
    | false => none
theorem setCells_spec (n : Nat) : ∀ (cz : List AV) (t : Tr AV) (i : Nat) (t' : Tr AV), setCells n cz t i = some t' →
    (cz = [] ∨ i + cz.length ≤ n) ∧ (∀ a ∈ cz, a.one = true) ∧ ∀ j, t'.get j = if i ≤ j ∧ j < i + cz.length then cz[j - i]? else t.get j
  | [], t, i, t', h => by
    simp only [setCells, Option.some.injEq] at h
    subst h
    exact ⟨.inl rfl, by simp, fun j => by rw [if_neg (by rw [List.length_nil]; omega)]⟩
  | a :: r, t, i, t', h => by
    simp only [setCells, blt_eq] at h
    cases hd : decide (i < n) with
    | false => rw [hd] at h; cases h
    | true =>
      rw [hd] at h
      have hlt := of_decide_eq_true hd
      cases ho : a.one with
      | false => rw [ho] at h; cases h
      | true =>
        rw [ho] at h
        obtain ⟨h1, h2, h3⟩ := setCells_spec n r _ _ _ h
        refine ⟨.inr ?_, fun b hb => ?_, fun j => ?_⟩
        · rcases h1 with h1 | h1
          · subst h1; simp; omega
          · simp; omega
        · rcases List.mem_cons.1 hb with rfl | hb
          · exact ho
          · exact h2 b hb
        · rw [h3 j, Tr.get_set]
          by_cases e : j = i
          · subst e
            rw [if_neg (by omega), if_pos rfl, if_pos (by simp), Nat.sub_self]
            rfl
          · by_cases e2 : i + 1 ≤ j ∧ j < i + 1 + r.length
            · rw [if_pos e2, if_pos (by simp; omega), show j - i = (j - (i + 1)) + 1 by omega]
              rfl
            · rw [if_neg e2, if_neg e, if_neg (by simp; omega)]
theorem splice_get (C vs : List Value) (k p : Nat) (h : k + vs.length ≤ C.length) : (C.take k ++ vs ++ C.drop (k + vs.length))[p]? = if k ≤ p ∧ p < k + vs.length then vs[p - k]? else C[p]? := by
  by_cases h1 : p < k
  · rw [if_neg (by omega), List.append_assoc, List.getElem?_append_left (by rw [List.length_take]; omega), List.getElem?_take, if_pos h1]
  · by_cases h2 : p < k + vs.length
    · rw [if_pos (by omega), List.append_assoc, List.getElem?_append_right (by rw [List.length_take]; omega), List.length_take, Nat.min_eq_left (by omega), List.getElem?_append_left (by omega)]
    · rw [if_neg (by omega), List.getElem?_append_right (by simp; omega), List.getElem?_drop]
      congr 1
      simp
      omega
theorem reals_len {ρ : Env} : ∀ {cz : List AV} {xs : List Value}, AV.reals ρ cz = some xs → xs.length = cz.length
  | [], xs, h => by cases h; rfl
  | a :: r, xs, h => by
    simp only [AV.reals, Option.bind_eq_some_iff, Option.map_eq_some_iff] at h
    obtain ⟨x, _, y, hy, rfl⟩ := h
    simp [reals_len hy]
theorem reals_at {ρ : Env} : ∀ {cz : List AV} {xs : List Value}, AV.reals ρ cz = some xs → ∀ (j : Nat) (a : AV), cz[j]? = some a → ∃ x, a.real ρ = some x ∧ xs[j]? = some x
  | [], xs, h, j, a, hj => by simp at hj
  | b :: r, xs, h, j, a, hj => by
    simp only [AV.reals, Option.bind_eq_some_iff, Option.map_eq_some_iff] at h
    obtain ⟨x, hx, y, hy, rfl⟩ := h
    cases j with
    | zero => simp at hj; subst hj; exact ⟨x, hx, rfl⟩
    | succ j => exact reals_at hy j a (by simpa using hj)
theorem reals_mem {ρ : Env} {cz : List AV} {xs : List Value} (h : AV.reals ρ cz = some xs) {x : Value} (hx : x ∈ xs) : ∃ a ∈ cz, a.real ρ = some x := by
  obtain ⟨j, hj⟩ := List.mem_iff_getElem?.1 hx
  have hlt : j < cz.length := by have := reals_len h; have := (List.getElem?_eq_some_iff.1 hj).1; omega
  obtain ⟨y, hy, hyj⟩ := reals_at h j cz[j] (List.getElem?_eq_getElem hlt)
  rw [hj] at hyj
  obtain rfl := Option.some.inj hyj
  exact ⟨cz[j], List.getElem_mem hlt, hy⟩
theorem run_storeCells_fz (P : Program) (g o : Nat) (t : TypeId) (fz : Nat × Nat) (n : Nat) (opn : Option Nat) (hf : FzOk opn n fz) : ∀ (vs : List Value) (i : Nat) (cur : Array Value) (w : World), cur.size = n → w.heap[g]? = some (.cells cur t fz) → o + i + vs.length ≤ n → (∀ v ∈ vs, v.oneCell' = true) →
    (storeCells ⟨g, o, none⟩ vs i).run P w = .ok () (w.setRow g (cur.toList.take (o + i) ++ vs ++ cur.toList.drop (o + i + vs.length)).toArray)
  | [], i, cur, w, _, hg, _, _ => by
    simp only [storeCells, List.append_nil, List.length_nil, Nat.add_zero, List.take_append_drop, Array.toArray_toList]
    rw [setRow_self w g cur t fz hg]
    rfl
  | v :: rest, i, cur, w, hn, hg, hl, h1 => by
    have hi : o + i < cur.size := by simp at hl; omega
    have hcell : w.cell? ⟨g, o + i, none⟩ = some cur[o + i] := by simp [World.cell?, hg, hi]
    have hfro : w.frozen? ⟨g, o + i, none⟩ = false := frozen_free hg (by rw [hn]; exact hf) hi
    have hst : (store ((⟨g, o, none⟩ : Addr).add i) v).run P w = .ok () (w.setRow g (cur.setIfInBounds (o + i) v)) := by
      rw [Addr.add_plain, run_store P w _ v _ (h1 v (by simp)), hcell]
      simp [hfro, setCell_eq_setRow w g (o + i) cur t fz v hg]
    have ih := run_storeCells_fz P g o t fz n opn hf rest (i + 1) (cur.setIfInBounds (o + i) v) (w.setRow g (cur.setIfInBounds (o + i) v)) (by simpa using hn) (setRow_heap w g cur _ t _ hg) (by simp at hl ⊢; omega) (fun x hx => h1 x (by simp [hx]))
    simp only [storeCells, Sem.run_bind, hst, Result.andThen_ok, ih, setRow_setRow]
    congr 3
    have e := list_seg_step cur.toList (o + i) v rest (by simp at hl ⊢; omega)
    simpa [Array.toList_setIfInBounds, Nat.add_assoc] using e
/-- Cells are written. -/
theorem Emb.stores {ρ : Env} {base : Nat} {w0 : World} {h : Hp} {w : World} {P : Program} (E : Emb ρ base w0 h w) {id : Nat} {t t' : Tr AV} {n : Nat} {dfl : AV} {elem : TypeId} {opn : Option Nat} (hg : h.get id = .cells t n dfl elem opn) {l : Loc} (hl : ρ id = some l)
    {cz : List AV} {xs : List Value} (ha : AV.reals ρ cz = some xs) {i : Nat} (hs : setCells n cz t i = some t') :
    ∃ w', (storeCells ⟨l.blk, l.off + i, none⟩ xs).run P w = .ok () w' ∧ Emb ρ base w0 (h.put id (.cells t' n dfl elem opn)) w' := by
  obtain ⟨h1, h2, h3⟩ := setCells_spec n cz t i t' hs
  obtain ⟨l', C, fz, hl', hb, hC, hfz, hn, _, _, hc⟩ := E.cells hg
  obtain rfl := Option.some.inj (hl.symm.trans hl')
  have hlen := reals_len ha
  rcases h1 with rfl | h1
  · simp at hlen
    subst hlen
    have : t'.get = t.get := funext fun j => by rw [h3 j, if_neg (by rw [List.length_nil]; omega)]
    have hput : Emb ρ base w0 (h.put id (.cells t' n dfl elem opn)) (w.setRow l.blk C) := E.setRow hg hl hC rfl (fun j a hj => hc j a (by unfold cellAt at hj ⊢; rw [this] at hj; exact hj))
    rw [setRow_self w l.blk C elem fz hC] at hput
    exact ⟨w, rfl, hput⟩
  · have hfit : l.off + i + xs.length ≤ C.toList.length := by have := Array.length_toList (xs := C); omega
    have hrun := run_storeCells_fz P l.blk (l.off + i) elem fz C.size opn hfz xs 0 C w rfl hC (by rw [← Array.length_toList]; have := hfit; simp only [Nat.add_zero]; exact this) (fun v hv => by obtain ⟨a, ha', hr⟩ := reals_mem ha hv; exact AV.one_real hr (h2 a ha'))
    rw [Nat.add_zero] at hrun
    refine ⟨_, hrun, E.setRow hg hl hC ?_ fun j a hj => ?_⟩
    · simp; simp at hfit; omega
    · rw [List.getElem?_toArray, splice_get _ _ _ _ hfit]
      have hget := h3 j
      obtain ⟨hjn, rfl⟩ := cellAt_some hj
      by_cases e : i ≤ j ∧ j < i + cz.length
      · rw [if_pos e] at hget
        rw [if_pos (by omega), hget]
        have hlt : j - i < cz.length := by omega
        obtain ⟨x, hx, hxj⟩ := reals_at ha (j - i) cz[j - i] (List.getElem?_eq_getElem hlt)
        rw [List.getElem?_eq_getElem hlt]
        exact ⟨x, hx, by rw [show l.off + j - (l.off + i) = j - i by omega]; exact hxj⟩
      · rw [if_neg e] at hget
        rw [if_neg (by omega), hget]
        obtain ⟨x, hx, hxj⟩ := hc j _ (cellAt_lt hjn)
        exact ⟨x, hx, by rw [Array.getElem?_toList]; exact hxj⟩
def evStore (P : Program) (h : Hp) (t : TypeId) (a v : AV) : Option Hp := match a with
  | .ptr id off => match h.get id with
    | .cells tr n dfl elem opn => match P.info? t with
      | some i => match Nat.beq v.cells.length i.size with
        | true => (setCells n v.cells tr off).map fun t' => h.put id (.cells t' n dfl elem opn)
        | false => none
      | none => none
    | _ => none
  | _ => none
theorem evStore_run {P : Program} {ρ : Env} {base : Nat} {w0 : World} {h h' : Hp} {w : World} (E : Emb ρ base w0 h w) {t : TypeId} {a v : AV} {x y : Value} (ha : a.real ρ = some x) (hv : v.real ρ = some y) (hs : evStore P h t a v = some h') :
    ∃ w', (Instr.storeAt t x y).run P w = .ok () w' ∧ Emb ρ base w0 h' w' := by
  unfold evStore at hs
  split at hs
  · rename_i id off
    simp only [AV.real, Option.map_eq_some_iff] at ha
    obtain ⟨l, hl, rfl⟩ := ha
    split at hs
    · rename_i tr n dfl elem opn hg
      split at hs
      · rename_i i hi
        split at hs
        · rename_i hb
          simp only [Option.map_eq_some_iff] at hs
          obtain ⟨t', ht', rfl⟩ := hs
          have hc := AV.cells_real hv
          obtain ⟨w', hr, E'⟩ := E.stores (P := P) hg hl hc ht'
          refine ⟨w', ?_, E'⟩
          have hsz : y.cells.size = i.size := by have := reals_len hc; have h1 := Nat.eq_of_beq_eq_true hb; rw [Array.length_toList] at this; omega
          simp [Instr.storeAt, Instr.sureAddr, storeVar, Sem.run_bind, sizeOf, typeInfo, hi, hsz, hr]
        · cases hs
      · cases hs
    · cases hs
  · cases hs
end Go.Proofs.Ytloppjfdflacaaa
