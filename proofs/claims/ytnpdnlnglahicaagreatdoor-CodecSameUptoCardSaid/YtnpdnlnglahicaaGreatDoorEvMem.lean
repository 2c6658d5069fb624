/- A reckoner of closed runs, 4: loads, stores, blocks that are made. Nothing of the program is used here. -/
import Derived.Test.YtnpdnlnglahicaaGreatDoorEvOne
namespace Go.Proofs.YtnpdnlnglahicaaGreatDoor
open Go.RowKit

noncomputable def cellsFrom (c : Cl) (n : Nat) : Nat → Nat → Option (List AV)
  | 0, _ => some []
  | k + 1, i => match cellAt c n i with
    | some a => (cellsFrom c n k (i + 1)).map fun r => a :: r
    | none => none
theorem cellsFrom_at (c : Cl) (n : Nat) : ∀ (k i : Nat) (cz : List AV), cellsFrom c n k i = some cz → cz.length = k ∧ ∀ j, j < k → cz[j]? = cellAt c n (i + j)
  | 0, i, cz, h => by
    obtain rfl := Option.some.inj h
    exact ⟨rfl, fun j hj => by omega⟩
  | k + 1, i, cz, h => by
    simp only [cellsFrom] at h
    split at h
    · rename_i a ha
      obtain ⟨r, hr, rfl⟩ := Option.map_eq_some_iff.1 h
      obtain ⟨h1, h2⟩ := cellsFrom_at c n k (i + 1) r hr
      refine ⟨by simp [h1], fun j hj => ?_⟩
      cases j with
      | zero => simp [ha]
      | succ j => rw [List.getElem?_cons_succ, h2 j (by omega), show i + 1 + j = i + (j + 1) by omega]
    · cases h
theorem cellsFrom_mk (c : Cl) (n : Nat) : ∀ (k i : Nat) (cz : List AV), cz.length = k → (∀ j, j < k → cz[j]? = cellAt c n (i + j)) → cellsFrom c n k i = some cz
  | 0, i, cz, h, _ => by
    obtain rfl := List.length_eq_zero_iff.1 h
    rfl
  | k + 1, i, [], h, _ => by cases h
  | k + 1, i, a :: r, h, hj => by
    have h0 := hj 0 (by omega)
    simp only [List.getElem?_cons_zero, Nat.add_zero] at h0
    have ih := cellsFrom_mk c n k (i + 1) r (by simpa using h) fun j hlt => by
      have := hj (j + 1) (by omega)
      rw [List.getElem?_cons_succ] at this
      rw [this, show i + (j + 1) = i + 1 + j by omega]
    simp only [cellsFrom, ← h0, ih, Option.map_some]
/-- Cells that were read, or that are to be written: one by one, or packed. -/
inductive Ck where
  | l (cs : List AV)
  | p (n N : Nat)
noncomputable def Ck.list : Ck → List AV
  | .l cs => cs
  | .p n N => (unpackL n N).map .v
def Ck.len : Ck → Nat
  | .l cs => cs.length
  | .p n _ => n
theorem Ck.len_eq (ck : Ck) : ck.list.length = ck.len := by
  cases ck with
  | l cs => rfl
  | p n N => simp [Ck.list, Ck.len, unpackL_len]
noncomputable def Ck.av : Ck → AV
  | .l cs => .agg cs
  | .p n N => .flat n N
noncomputable def readC (c : Cl) (n k i : Nat) : Option Ck :=
  Cl.rec (fun t N => Tr.rec (Bool.rec none (some (.p k (chunkN N i k))) (Nat.ble (Nat.add i k) n)) (fun l o r _ _ => (cellsFrom ⟨.node l o r, N⟩ n k i).map .l) t) c
theorem readC_ok {c : Cl} {n k i : Nat} {ck : Ck} (h : readC c n k i = some ck) : cellsFrom c n k i = some ck.list := by
  obtain ⟨t, N⟩ := c
  cases t with
  | nil =>
    have h : (Bool.rec none (some (.p k (chunkN N i k))) (Nat.ble (Nat.add i k) n) : Option Ck) = some ck := h
    cases hb : Nat.ble (Nat.add i k) n with
    | false => rw [hb] at h; cases h
    | true =>
      rw [hb] at h
      obtain rfl := Option.some.inj h
      have hle : i + k ≤ n := Nat.le_of_ble_eq_true hb
      refine cellsFrom_mk _ _ k i _ (by simp [Ck.list, unpackL_len]) fun j hj => ?_
      rw [cellAt_lt (by omega), Cl.at_nil]
      show ((unpackL k (chunkN N i k)).map AV.v)[j]? = some (.v (unpackV (cellN N (i + j))))
      rw [List.getElem?_map, unpackL_get _ _ _ hj, cellN_chunk _ _ _ _ hj]
      rfl
  | node l o r =>
    have h : (cellsFrom ⟨.node l o r, N⟩ n k i).map Ck.l = some ck := h
    obtain ⟨cs, hcs, rfl⟩ := Option.map_eq_some_iff.1 h
    exact hcs
theorem Addr.add_plain (b o j : Nat) : (⟨b, o, none⟩ : Addr).add j = ⟨b, o + j, none⟩ := by unfold Addr.add; split <;> simp_all
theorem Emb.loads {ρ : Env} {base : Kp} {w0 : World} {h : Hp} {w : World} (E : Emb ρ base w0 h w) {id : Nat} {c : Cl} {n : Nat} {elem : TypeId} {opn : Option Nat} (hg : h.get id = .cells c n elem opn) {l : Loc} (hl : ρ id = some l) :
    ∀ (k i : Nat) (cz : List AV), cellsFrom c n k i = some cz → ∃ xs, AV.reals ρ cz = some xs ∧ xs.length = k ∧ cz.length = k ∧ (∀ j v, xs[j]? = some v → w.cell? ⟨l.blk, l.off + i + j, none⟩ = some v)
  | 0, i, cz, h => by
    simp only [cellsFrom, Option.some.injEq] at h
    subst h
    exact ⟨[], rfl, rfl, rfl, fun j v hj => by simp at hj⟩
  | k + 1, i, cz, h => by
    simp only [cellsFrom] at h
    split at h
    · rename_i a ha
      simp only [Option.map_eq_some_iff] at h
      obtain ⟨r, hr, rfl⟩ := h
      obtain ⟨xs, h1, h2, h3, h4⟩ := Emb.loads E hg hl k (i + 1) r hr
      obtain ⟨x, hx, hc, _⟩ := E.load hg hl ha
      refine ⟨x :: xs, by simp [AV.reals, hx, h1], by simp [h2], by simp [h3], fun j v hj => ?_⟩
      cases j with
      | zero => simp only [List.getElem?_cons_zero, Option.some.injEq] at hj; subst hj; exact hc
      | succ j =>
        simp only [List.getElem?_cons_succ] at hj
        have := h4 j v hj
        rw [show l.off + i + (j + 1) = l.off + (i + 1) + j by omega]
        exact this
    · cases h
theorem reals_v (ρ : Env) : ∀ l : List Value, AV.reals ρ (l.map .v) = some l
  | [] => rfl
  | x :: r => by simp [AV.reals, AV.real, reals_v ρ r]
theorem ck_real {ρ : Env} {ck : Ck} {xs : List Value} (h : AV.reals ρ ck.list = some xs) : ck.av.real ρ = some (.agg xs.toArray) := by
  cases ck with
  | l cs => simp only [Ck.av, AV.real]; rw [show AV.reals ρ cs = some xs from h]; rfl
  | p n N =>
    have := (reals_v ρ (unpackL n N)).symm.trans h
    obtain rfl := Option.some.inj this
    rfl
theorem Emb.loadsRun {ρ : Env} {base : Kp} {w0 : World} {h : Hp} {w : World} {P : Program} (E : Emb ρ base w0 h w) {id : Nat} {c : Cl} {n : Nat} {elem : TypeId} {opn : Option Nat} (hg : h.get id = .cells c n elem opn) {l : Loc} (hl : ρ id = some l)
    {k i : Nat} {cz : List AV} (hc : cellsFrom c n k i = some cz) : ∃ xs, AV.reals ρ cz = some xs ∧ xs.length = k ∧ cz.length = k ∧ (loadCells ⟨l.blk, l.off + i, none⟩ k).run P w = .ok xs.toArray w := by
  obtain ⟨xs, h1, h2, h3, h4⟩ := E.loads hg hl k i cz hc
  refine ⟨xs, h1, h2, h3, ?_⟩
  have := run_loadCells_list (P := P) w ⟨l.blk, l.off + i, none⟩ xs (fun j v hj => by rw [Addr.add_plain]; exact h4 j v hj)
  rwa [h2] at this
def isAggD : TypeDesc → Bool
  | .struct _ => true
  | .array _ _ => true
  | _ => false
theorem run_isAgg {P : Program} {t : TypeId} {d : TypeDesc} (h : P.underlying t = some d) (w : World) : (isAgg t).run P w = .ok (isAggD d) w := by
  unfold isAgg
  rw [Sem.run_bind, run_underlying h w]
  cases d <;> rfl
noncomputable def evLoad (P : Program) (h : Hp) (t : TypeId) (a : AV) : Option AV := match a with
  | .ptr id off => match h.get id with
    | .cells c n _ _ => match P.underlying t with
      | some d => match isAggD d with
        | true => match P.info? t with
          | some i => (readC c n i.size off).map Ck.av
          | none => none
        | false => cellAt c n off
      | none => none
    | _ => none
  | _ => none
theorem evLoad_run {P : Program} {ρ : Env} {base : Kp} {w0 : World} {h : Hp} {w : World} (E : Emb ρ base w0 h w) {t : TypeId} {a v : AV} {x : Value} (ha : a.real ρ = some x) (hv : evLoad P h t a = some v) : Does P ρ base w0 (Instr.loadAt t x) w v h := by
  unfold evLoad at hv
  split at hv
  · rename_i id off
    simp only [AV.real, Option.map_eq_some_iff] at ha
    obtain ⟨l, hl, rfl⟩ := ha
    split at hv
    · rename_i tr n elem opn hg
      split at hv
      · rename_i d hd
        split at hv
        · rename_i hag
          split at hv
          · rename_i i hi
            simp only [Option.map_eq_some_iff] at hv
            obtain ⟨cz, has, rfl⟩ := hv
            obtain ⟨xs, h1, h2, h3, h4⟩ := E.loadsRun (P := P) hg hl (readC_ok has)
            refine does_pure E (x := .agg xs.toArray) ?_ (ck_real h1)
            simp [Instr.loadAt, Instr.sureAddr, loadVar, Sem.run_bind, run_isAgg hd, hag, sizeOf, typeInfo, hi, h4]
          · cases hv
        · rename_i hag
          obtain ⟨x, hx, hc, _⟩ := E.load hg hl hv
          refine does_pure E (x := x) ?_ hx
          simp [Instr.loadAt, Instr.sureAddr, loadVar, Sem.run_bind, run_isAgg hd, hag, load, Sem.run, hc]
      · cases hv
    · cases hv
  · cases hv

noncomputable def AV.ck : AV → Ck
  | .agg cs => .l cs
  | .v (.agg xs) => .l (xs.toList.map .v)
  | .flat n N => .p n N
  | a => .l [a]
noncomputable def AV.cells (a : AV) : List AV := a.ck.list
theorem AV.cells_real {ρ : Env} {a : AV} {x : Value} (h : a.real ρ = some x) : AV.reals ρ a.cells = some x.cells.toList := by
  cases a with
  | v y =>
    simp only [AV.real, Option.some.injEq] at h
    subst h
    cases y <;> simp [AV.cells, AV.ck, Ck.list, AV.reals, AV.real, Value.cells, reals_v]
  | agg cs =>
    simp only [AV.real, Option.map_eq_some_iff] at h
    obtain ⟨l, hl, rfl⟩ := h
    simp [AV.cells, AV.ck, Ck.list, Value.cells, hl]
  | ptr id off => simp only [AV.real, Option.map_eq_some_iff] at h; obtain ⟨l, hl, rfl⟩ := h; simp [AV.cells, AV.ck, Ck.list, AV.reals, AV.real, hl, Value.cells]
  | slc id off len cap ex => simp only [AV.real, Option.map_eq_some_iff] at h; obtain ⟨l, hl, rfl⟩ := h; simp [AV.cells, AV.ck, Ck.list, AV.reals, AV.real, hl, Value.cells]
  | mp id => simp only [AV.real, Option.map_eq_some_iff] at h; obtain ⟨l, hl, rfl⟩ := h; simp [AV.cells, AV.ck, Ck.list, AV.reals, AV.real, hl, Value.cells]
  | yld id => simp only [AV.real, Option.map_eq_some_iff] at h; obtain ⟨l, hl, rfl⟩ := h; simp [AV.cells, AV.ck, Ck.list, AV.reals, AV.real, hl, Value.cells]
  | fn f p q =>
    simp only [AV.real, Option.bind_eq_some_iff, Option.map_eq_some_iff] at h
    obtain ⟨y, hy, z, hz, rfl⟩ := h
    simp [AV.cells, AV.ck, Ck.list, AV.reals, AV.real, hy, hz, Value.cells]
  | ifc t y => simp only [AV.real, Option.map_eq_some_iff] at h; obtain ⟨l, hl, rfl⟩ := h; simp [AV.cells, AV.ck, Ck.list, AV.reals, AV.real, hl, Value.cells]
  | flat n N =>
    obtain rfl := Option.some.inj h
    simp [AV.cells, AV.ck, Ck.list, Value.cells, reals_v]
  | tup vs => simp only [AV.real, Option.map_eq_some_iff] at h; obtain ⟨l, hl, rfl⟩ := h; simp [AV.cells, AV.ck, Ck.list, AV.reals, AV.real, hl, Value.cells]
def AV.one : AV → Bool
  | .agg _ => false
  | .flat _ _ => false
  | .tup _ => false
  | .v x => x.oneCell'
  | _ => true
theorem AV.one_real {ρ : Env} {a : AV} {x : Value} (h : a.real ρ = some x) (h1 : a.one = true) : x.oneCell' = true := by
  cases a with
  | v y => simp only [AV.real, Option.some.injEq] at h; subst h; exact h1
  | agg cs => cases h1
  | flat n N => cases h1
  | tup cs => cases h1
  | ptr id off => simp only [AV.real, Option.map_eq_some_iff] at h; obtain ⟨l, hl, rfl⟩ := h; rfl
  | slc id off len cap ex => simp only [AV.real, Option.map_eq_some_iff] at h; obtain ⟨l, hl, rfl⟩ := h; rfl
  | mp id => simp only [AV.real, Option.map_eq_some_iff] at h; obtain ⟨l, hl, rfl⟩ := h; rfl
  | yld id => simp only [AV.real, Option.map_eq_some_iff] at h; obtain ⟨l, hl, rfl⟩ := h; rfl
  | fn f p q => simp only [AV.real, Option.bind_eq_some_iff, Option.map_eq_some_iff] at h; obtain ⟨y, hy, z, hz, rfl⟩ := h; rfl
  | ifc t y => simp only [AV.real, Option.map_eq_some_iff] at h; obtain ⟨l, hl, rfl⟩ := h; rfl
noncomputable def setCells (n : Nat) : List AV → Tr AV → Nat → Option (Tr AV)
  | [], t, _ => some t
  | a :: r, t, i => match Nat.blt i n with
    | true => match a.one with
      | true => setCells n r (t.set i a) (i + 1)
      | false => none
    | false => none
theorem setCells_spec (n : Nat) : ∀ (cz : List AV) (t : Tr AV) (i : Nat) (t' : Tr AV), setCells n cz t i = some t' →
    (cz = [] ∨ i + cz.length ≤ n) ∧ (∀ a ∈ cz, a.one = true) ∧ ∀ j, t'.get j = if i ≤ j ∧ j < i + cz.length then cz[j - i]? else t.get j
  | [], t, i, t', h => by
    simp only [setCells, Option.some.injEq] at h
    subst h
    exact ⟨.inl rfl, by simp, fun j => by rw [if_neg (by rw [List.length_nil]; omega)]⟩
  | a :: r, t, i, t', h => by
    simp only [setCells, blt_eq] at h
    cases hd : decide (i < n) with
    | false => rw [hd] at h; cases h
    | true =>
      rw [hd] at h
      have hlt := of_decide_eq_true hd
      cases ho : a.one with
      | false => rw [ho] at h; cases h
      | true =>
        rw [ho] at h
        obtain ⟨h1, h2, h3⟩ := setCells_spec n r _ _ _ h
        refine ⟨.inr ?_, fun b hb => ?_, fun j => ?_⟩
        · rcases h1 with h1 | h1
          · subst h1; simp; omega
          · simp; omega
        · rcases List.mem_cons.1 hb with rfl | hb
          · exact ho
          · exact h2 b hb
        · rw [h3 j, Tr.get_set]
          by_cases e : j = i
          · subst e
            rw [if_neg (by omega), if_pos rfl, if_pos (by simp), Nat.sub_self]
            rfl
          · by_cases e2 : i + 1 ≤ j ∧ j < i + 1 + r.length
            · rw [if_pos e2, if_pos (by simp; omega), show j - i = (j - (i + 1)) + 1 by omega]
              rfl
            · rw [if_neg e2, if_neg e, if_neg (by simp; omega)]
noncomputable def packL : List AV → Option Nat
  | [] => some 0
  | .v x :: r => match packV x with
    | some c => match packL r with
      | some M => some (Nat.add c (Nat.mul M 4722366482869645213696))
      | none => none
    | none => none
  | _ :: _ => none
theorem packL_ok : ∀ {l : List AV} {M : Nat}, packL l = some M → l = (unpackL l.length M).map .v
  | [], M, h => rfl
  | a :: r, M, h => by
    cases a with
    | v x =>
      simp only [packL] at h
      split at h
      case h_2 => cases h
      rename_i c hc
      split at h
      case h_2 => cases h
      rename_i M' hM
      obtain rfl := Option.some.inj h
      obtain ⟨h1, h2⟩ := packV_ok hc
      rw [List.length_cons, unpackL_cons _ _ _ h1, h2, List.map_cons, ← packL_ok hM]
    | _ => cases h
/-- Packed cells, their number laid out. -/
noncomputable def clN (N : Nat) : Cl := Nat.rec ⟨.nil, 0⟩ (fun m _ => ⟨.nil, Nat.succ m⟩) N
theorem clN_eq (N : Nat) : clN N = ⟨.nil, N⟩ := by cases N <;> rfl
noncomputable def writeC (n : Nat) (ck : Ck) (c : Cl) (i : Nat) : Option Cl :=
  Cl.rec (fun t N => Tr.rec
    (Ck.rec (fun cs => Option.rec ((setCells n cs .nil i).map fun t => ⟨t, N⟩) (fun M => Bool.rec none (some (clN (spliceN N i cs.length M))) (Nat.ble (Nat.add i cs.length) n)) (packL cs))
      (fun k M => Bool.rec none (some (clN (spliceN N i k M))) (Nat.ble (Nat.add i k) n)) ck)
    (fun l o r _ _ => (setCells n ck.list (.node l o r) i).map fun t => ⟨t, N⟩) t) c
theorem writeC_trie {n i N : Nat} {cz : List AV} {t : Tr AV} {c' : Cl} (ho : ∀ a ∈ cz, a.one = true ∨ True) (h : (setCells n cz t i).map (fun t => (⟨t, N⟩ : Cl)) = some c') :
    (cz = [] ∨ i + cz.length ≤ n) ∧ (∀ a ∈ cz, a.one = true) ∧ ∀ j, some (c'.at j) = if i ≤ j ∧ j < i + cz.length then cz[j - i]? else some ((⟨t, N⟩ : Cl).at j) := by
  obtain ⟨t', ht', rfl⟩ := Option.map_eq_some_iff.1 h
  obtain ⟨h1, h2, h3⟩ := setCells_spec n cz t i t' ht'
  refine ⟨h1, h2, fun j => ?_⟩
  rw [Cl.at_eq, Cl.at_eq, h3 j]
  split
  · rename_i e
    rw [List.getElem?_eq_getElem (by omega)]
    rfl
  · rfl
theorem writeC_flat {n i k N M : Nat} {cz : List AV} {c' : Cl} (hcz : cz = (unpackL k M).map .v) (h : (Bool.rec none (some (clN (spliceN N i k M))) (Nat.ble (Nat.add i k) n) : Option Cl) = some c') :
    (cz = [] ∨ i + cz.length ≤ n) ∧ (∀ a ∈ cz, a.one = true) ∧ ∀ j, some (c'.at j) = if i ≤ j ∧ j < i + cz.length then cz[j - i]? else some ((⟨.nil, N⟩ : Cl).at j) := by
  have hl : cz.length = k := by rw [hcz]; simp [unpackL_len]
  cases hb : Nat.ble (Nat.add i k) n with
  | false => rw [hb] at h; cases h
  | true =>
    rw [hb] at h
    obtain rfl := Option.some.inj h
    rw [clN_eq]
    have hle : i + k ≤ n := Nat.le_of_ble_eq_true hb
    refine ⟨.inr (by omega), fun a ha => ?_, fun j => ?_⟩
    · rw [hcz] at ha
      obtain ⟨u, hu, rfl⟩ := List.mem_map.1 ha
      exact unpackL_one _ _ u hu
    · rw [Cl.at_nil, Cl.at_nil]
      rw [cellN_splice, hl]
      by_cases e : i ≤ j ∧ j < i + k
      · rw [if_pos e, if_pos e, hcz, List.getElem?_map, unpackL_get _ _ _ (by omega)]
        rfl
      · rw [if_neg e, if_neg e]
theorem writeC_spec (n : Nat) (ck : Ck) (c : Cl) (i : Nat) (c' : Cl) (h : writeC n ck c i = some c') :
    (ck.list = [] ∨ i + ck.list.length ≤ n) ∧ (∀ a ∈ ck.list, a.one = true) ∧ ∀ j, some (c'.at j) = if i ≤ j ∧ j < i + ck.list.length then ck.list[j - i]? else some (c.at j) := by
  obtain ⟨t, N⟩ := c
  cases t with
  | node l o r => exact writeC_trie (fun _ _ => .inr trivial) h
  | nil =>
    cases ck with
    | p k M => exact writeC_flat rfl h
    | l cs =>
      have h : (Option.rec ((setCells n cs .nil i).map fun t => ⟨t, N⟩) (fun M => Bool.rec none (some (clN (spliceN N i cs.length M))) (Nat.ble (Nat.add i cs.length) n)) (packL cs) : Option Cl) = some c' := h
      cases hp : packL cs with
      | none => rw [hp] at h; exact writeC_trie (fun _ _ => .inr trivial) h
      | some M => rw [hp] at h; exact writeC_flat (packL_ok hp) h
theorem splice_get (C vs : List Value) (k p : Nat) (h : k + vs.length ≤ C.length) : (C.take k ++ vs ++ C.drop (k + vs.length))[p]? = if k ≤ p ∧ p < k + vs.length then vs[p - k]? else C[p]? := by
  by_cases h1 : p < k
  · rw [if_neg (by omega), List.append_assoc, List.getElem?_append_left (by rw [List.length_take]; omega), List.getElem?_take, if_pos h1]
  · by_cases h2 : p < k + vs.length
    · rw [if_pos (by omega), List.append_assoc, List.getElem?_append_right (by rw [List.length_take]; omega), List.length_take, Nat.min_eq_left (by omega), List.getElem?_append_left (by omega)]
    · rw [if_neg (by omega), List.getElem?_append_right (by simp; omega), List.getElem?_drop]
      congr 1
      simp
      omega
theorem reals_len {ρ : Env} : ∀ {cz : List AV} {xs : List Value}, AV.reals ρ cz = some xs → xs.length = cz.length
  | [], xs, h => by cases h; rfl
  | a :: r, xs, h => by
    simp only [AV.reals, Option.bind_eq_some_iff, Option.map_eq_some_iff] at h
    obtain ⟨x, _, y, hy, rfl⟩ := h
    simp [reals_len hy]
theorem reals_at {ρ : Env} : ∀ {cz : List AV} {xs : List Value}, AV.reals ρ cz = some xs → ∀ (j : Nat) (a : AV), cz[j]? = some a → ∃ x, a.real ρ = some x ∧ xs[j]? = some x
  | [], xs, h, j, a, hj => by simp at hj
  | b :: r, xs, h, j, a, hj => by
    simp only [AV.reals, Option.bind_eq_some_iff, Option.map_eq_some_iff] at h
    obtain ⟨x, hx, y, hy, rfl⟩ := h
    cases j with
    | zero => simp at hj; subst hj; exact ⟨x, hx, rfl⟩
    | succ j => exact reals_at hy j a (by simpa using hj)
theorem reals_mem {ρ : Env} {cz : List AV} {xs : List Value} (h : AV.reals ρ cz = some xs) {x : Value} (hx : x ∈ xs) : ∃ a ∈ cz, a.real ρ = some x := by
  obtain ⟨j, hj⟩ := List.mem_iff_getElem?.1 hx
  have hlt : j < cz.length := by have := reals_len h; have := (List.getElem?_eq_some_iff.1 hj).1; omega
  obtain ⟨y, hy, hyj⟩ := reals_at h j cz[j] (List.getElem?_eq_getElem hlt)
  rw [hj] at hyj
  obtain rfl := Option.some.inj hyj
  exact ⟨cz[j], List.getElem_mem hlt, hy⟩
theorem run_storeCells_fz (P : Program) (g o : Nat) (t : TypeId) (fz : Nat × Nat) (n : Nat) (opn : Option Nat) (hf : FzOk opn n fz) : ∀ (vs : List Value) (i : Nat) (cur : Array Value) (w : World), cur.size = n → w.heap[g]? = some (.cells cur t fz) → o + i + vs.length ≤ n → (∀ v ∈ vs, v.oneCell' = true) →
    (storeCells ⟨g, o, none⟩ vs i).run P w = .ok () (w.setRow g (cur.toList.take (o + i) ++ vs ++ cur.toList.drop (o + i + vs.length)).toArray)
  | [], i, cur, w, _, hg, _, _ => by
    simp only [storeCells, List.append_nil, List.length_nil, Nat.add_zero, List.take_append_drop, Array.toArray_toList]
    rw [setRow_self w g cur t fz hg]
    rfl
  | v :: rest, i, cur, w, hn, hg, hl, h1 => by
    have hi : o + i < cur.size := by simp at hl; omega
    have hcell : w.cell? ⟨g, o + i, none⟩ = some cur[o + i] := by simp [World.cell?, hg, hi]
    have hfro : w.frozen? ⟨g, o + i, none⟩ = false := frozen_free hg (by rw [hn]; exact hf) hi
    have hst : (store ((⟨g, o, none⟩ : Addr).add i) v).run P w = .ok () (w.setRow g (cur.setIfInBounds (o + i) v)) := by
      rw [Addr.add_plain, run_store P w _ v _ (h1 v (by simp)), hcell]
      simp [hfro, setCell_eq_setRow w g (o + i) cur t fz v hg]
    have ih := run_storeCells_fz P g o t fz n opn hf rest (i + 1) (cur.setIfInBounds (o + i) v) (w.setRow g (cur.setIfInBounds (o + i) v)) (by simpa using hn) (setRow_heap w g cur _ t _ hg) (by simp at hl ⊢; omega) (fun x hx => h1 x (by simp [hx]))
    simp only [storeCells, Sem.run_bind, hst, Result.andThen_ok, ih, setRow_setRow]
    congr 3
    have e := list_seg_step cur.toList (o + i) v rest (by simp at hl ⊢; omega)
    simpa [Array.toList_setIfInBounds, Nat.add_assoc] using e
/-- Cells are written. -/
theorem Emb.stores {ρ : Env} {base : Kp} {w0 : World} {h : Hp} {w : World} {P : Program} (E : Emb ρ base w0 h w) {id : Nat} {c c' : Cl} {n : Nat} {elem : TypeId} {opn : Option Nat} (hg : h.get id = .cells c n elem opn) {l : Loc} (hl : ρ id = some l)
    {ck : Ck} {xs : List Value} (ha : AV.reals ρ ck.list = some xs) {i : Nat} (hs : writeC n ck c i = some c') :
    ∃ w', (storeCells ⟨l.blk, l.off + i, none⟩ xs).run P w = .ok () w' ∧ Emb ρ base w0 (h.put id (.cells c' n elem opn)) w' := by
  obtain ⟨h1, h2, h3⟩ := writeC_spec n ck c i c' hs
  revert ha h1 h2 h3
  generalize ck.list = cz
  intro ha h1 h2 h3
  obtain ⟨l', C, fz, hl', hb, hC, hfz, hn, _, _, hc⟩ := E.cells hg
  obtain rfl := Option.some.inj (hl.symm.trans hl')
  have hlen := reals_len ha
  rcases h1 with rfl | h1
  · simp at hlen
    subst hlen
    have : ∀ j, c'.at j = c.at j := fun j => by have := h3 j; rw [if_neg (by rw [List.length_nil]; omega)] at this; exact Option.some.inj this
    have hput : Emb ρ base w0 (h.put id (.cells c' n elem opn)) (w.setRow l.blk C) := E.setRow hg hl hC rfl (fun j a hj => hc j a (by unfold cellAt at hj ⊢; rw [this] at hj; exact hj))
    rw [setRow_self w l.blk C elem fz hC] at hput
    exact ⟨w, rfl, hput⟩
  · have hfit : l.off + i + xs.length ≤ C.toList.length := by have := Array.length_toList (xs := C); omega
    have hrun := run_storeCells_fz P l.blk (l.off + i) elem fz C.size opn hfz xs 0 C w rfl hC (by rw [← Array.length_toList]; have := hfit; simp only [Nat.add_zero]; exact this) (fun v hv => by obtain ⟨a, ha', hr⟩ := reals_mem ha hv; exact AV.one_real hr (h2 a ha'))
    rw [Nat.add_zero] at hrun
    refine ⟨_, hrun, E.setRow hg hl hC ?_ fun j a hj => ?_⟩
    · simp; simp at hfit; omega
    · rw [List.getElem?_toArray, splice_get _ _ _ _ hfit]
      have hget := h3 j
      obtain ⟨hjn, rfl⟩ := cellAt_some hj
      by_cases e : i ≤ j ∧ j < i + cz.length
      · rw [if_pos e] at hget
        rw [if_pos (by omega)]
        have hlt : j - i < cz.length := by omega
        obtain ⟨x, hx, hxj⟩ := reals_at ha (j - i) (c'.at j) hget.symm
        exact ⟨x, hx, by rw [show l.off + j - (l.off + i) = j - i by omega]; exact hxj⟩
      · rw [if_neg e] at hget
        rw [if_neg (by omega), Option.some.inj hget]
        obtain ⟨x, hx, hxj⟩ := hc j _ (cellAt_lt hjn)
        exact ⟨x, hx, by rw [Array.getElem?_toList]; exact hxj⟩
noncomputable def evStore (P : Program) (h : Hp) (t : TypeId) (a v : AV) : Option Hp := match a with
  | .ptr id off => match h.get id with
    | .cells tr n elem opn => match P.info? t with
      | some i => match Nat.beq v.ck.len i.size with
        | true => (writeC n v.ck tr off).map fun t' => h.put id (.cells t' n elem opn)
        | false => none
      | none => none
    | _ => none
  | _ => none
theorem evStore_run {P : Program} {ρ : Env} {base : Kp} {w0 : World} {h h' : Hp} {w : World} (E : Emb ρ base w0 h w) {t : TypeId} {a v : AV} {x y : Value} (ha : a.real ρ = some x) (hv : v.real ρ = some y) (hs : evStore P h t a v = some h') :
    ∃ w', (Instr.storeAt t x y).run P w = .ok () w' ∧ Emb ρ base w0 h' w' := by
  unfold evStore at hs
  split at hs
  · rename_i id off
    simp only [AV.real, Option.map_eq_some_iff] at ha
    obtain ⟨l, hl, rfl⟩ := ha
    split at hs
    · rename_i tr n elem opn hg
      split at hs
      · rename_i i hi
        split at hs
        · rename_i hb
          simp only [Option.map_eq_some_iff] at hs
          obtain ⟨t', ht', rfl⟩ := hs
          have hc := AV.cells_real hv
          obtain ⟨w', hr, E'⟩ := E.stores (P := P) hg hl hc ht'
          refine ⟨w', ?_, E'⟩
          have hsz : y.cells.size = i.size := by have := reals_len hc; have h1 := Nat.eq_of_beq_eq_true hb; have h2 : v.cells.length = v.ck.len := Ck.len_eq _; rw [Array.length_toList] at this; omega
          simp [Instr.storeAt, Instr.sureAddr, storeVar, Sem.run_bind, sizeOf, typeInfo, hi, hsz, hr]
        · cases hs
      · cases hs
    · cases hs
  · cases hs
end Go.Proofs.YtnpdnlnglahicaaGreatDoor
