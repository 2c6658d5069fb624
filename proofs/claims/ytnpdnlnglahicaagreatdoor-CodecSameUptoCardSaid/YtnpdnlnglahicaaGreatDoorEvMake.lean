/- A reckoner of closed runs, 5: blocks that are made; addresses. Nothing of the program is used here. -/
import Derived.Test.YtnpdnlnglahicaaGreatDoorEvMem
import Derived.Laws.MakeOwn
namespace Go.Proofs.YtnpdnlnglahicaaGreatDoor
open Go.RowKit

def isSame : Value → Value → Bool
  | .int k a, .int k' b => (match k, k' with
    | .i8, .i8 | .i16, .i16 | .i32, .i32 | .i64, .i64 | .u8, .u8 | .u16, .u16 | .u32, .u32 | .u64, .u64 => true
    | _, _ => false) && (match a, b with
      | .ofNat x, .ofNat y => Nat.beq x y
      | _, _ => false)
  | .bool a, .bool b => a == b
  | _, _ => false
theorem isSame_eq {x y : Value} (h : isSame x y = true) : x = y := by
  cases x <;> cases y <;> simp only [isSame] at h <;> try (cases h; done)
  · rename_i a b; rw [eq_of_beq h]
  · rename_i k a k' b
    rw [Bool.and_eq_true] at h
    obtain ⟨h1, h2⟩ := h
    have hk : k = k' := by cases k <;> cases k' <;> first | rfl | cases h1
    subst hk
    cases a <;> cases b <;> first | (rw [Nat.eq_of_beq_eq_true h2]) | cases h2
def sameAV : AV → AV → Bool
  | .v x, .v y => isSame x y
  | _, _ => false
theorem sameAV_real {a b : AV} (h : sameAV a b = true) : a = b := by
  cases a <;> cases b <;> simp only [sameAV] at h <;> first | (rw [isSame_eq h]) | cases h
noncomputable def spreadT (d : AV) : List AV → Nat → Tr AV → Tr AV
  | [], _, t => t
  | a :: r, i, t => match sameAV a d with
    | true => spreadT d r (i + 1) t
    | false => spreadT d r (i + 1) (t.set i a)
theorem spreadT_get (d : AV) : ∀ (cs : List AV) (i : Nat) (t : Tr AV) (j : Nat), (spreadT d cs i t).get j = if i ≤ j ∧ j < i + cs.length then (match cs[j - i]? with | some a => (match sameAV a d with | true => t.get j | false => some a) | none => t.get j) else t.get j
  | [], i, t, j => by rw [if_neg (by rw [List.length_nil]; omega)]; rfl
  | a :: r, i, t, j => by
    simp only [spreadT]
    cases hs : sameAV a d with
    | true =>
      simp only [spreadT_get d r (i + 1) t j]
      by_cases e : j = i
      · subst e
        rw [if_neg (by omega), if_pos (by simp), Nat.sub_self]
        simp [hs]
      · by_cases e2 : i + 1 ≤ j ∧ j < i + 1 + r.length
        · rw [if_pos e2, if_pos (by simp; omega), show j - i = (j - (i + 1)) + 1 by omega]
          rfl
        · rw [if_neg e2, if_neg (by simp; omega)]
    | false =>
      simp only [spreadT_get d r (i + 1) (t.set i a) j, Tr.get_set]
      by_cases e : j = i
      · subst e
        rw [if_neg (by omega), if_pos rfl, if_pos (by simp), Nat.sub_self]
        simp [hs]
      · by_cases e2 : i + 1 ≤ j ∧ j < i + 1 + r.length
        · rw [if_pos e2, if_neg e, if_pos (by simp; omega), show j - i = (j - (i + 1)) + 1 by omega]
          rfl
        · rw [if_neg e2, if_neg e, if_neg (by simp; omega)]
/-- A row of cells out of what lies in them. -/
noncomputable def newCl (ck : Ck) : Cl :=
  Ck.rec (fun cs => List.rec ⟨.nil, 0⟩ (fun a r _ => List.rec ⟨.node .nil (some a) .nil, 0⟩ (fun _ _ _ => Option.rec ⟨spreadT (.tup []) cs 0 .nil, 0⟩ (fun N => clN N) (packL cs)) r) cs) (fun _ N => clN N) ck
theorem newCl_at (ck : Ck) (i : Nat) (a : AV) (h : ck.list[i]? = some a) : (newCl ck).at i = a := by
  have flat : ∀ (cs : List AV) (n N : Nat), cs = (unpackL n N).map .v → cs[i]? = some a → (⟨.nil, N⟩ : Cl).at i = a := fun cs n N hcs hi => by
    rw [hcs, List.getElem?_map] at hi
    have hlt : i < n := by
      cases hn : (unpackL n N)[i]? with
      | none => rw [hn] at hi; cases hi
      | some u => have := (List.getElem?_eq_some_iff.1 hn).1; rwa [unpackL_len] at this
    rw [unpackL_get _ _ _ hlt] at hi
    rw [Cl.at_nil]
    exact Option.some.inj hi
  cases ck with
  | p n N =>
    show (clN N).at i = a
    rw [clN_eq]
    exact flat _ n N rfl h
  | l cs =>
    have h : cs[i]? = some a := h
    match cs, h with
    | [b], h =>
      have hi : i = 0 := by have := (List.getElem?_eq_some_iff.1 h).1; simpa using this
      subst hi
      exact Option.some.inj h
    | b :: d :: r, h =>
      show Cl.at (Option.rec _ _ (packL (b :: d :: r))) i = a
      cases hp : packL (b :: d :: r) with
      | some M =>
        show (clN M).at i = a
        rw [clN_eq]
        exact flat _ _ M (packL_ok hp) h
      | none =>
        show (⟨spreadT (.tup []) (b :: d :: r) 0 .nil, 0⟩ : Cl).at i = a
        have hlt := (List.getElem?_eq_some_iff.1 h).1
        rw [Cl.at_eq, spreadT_get, if_pos (by omega), Nat.sub_zero, h]
        have hs : sameAV a (.tup []) = false := by cases a <;> rfl
        dsimp only
        rw [hs]
        rfl
noncomputable def newBlk (ck : Ck) (elem : TypeId) : Blk := .cells (newCl ck) ck.len elem none
theorem run_newRow {P : Program} (w : World) (elem : TypeId) (cells : Array Value) : (newRow elem cells).run P w = .ok ⟨w.heap.size, 0, none⟩ (w.alloc (.cells cells elem)) := rfl
theorem Emb.row {ρ : Env} {base : Kp} {w0 : World} {h : Hp} {w : World} (E : Emb ρ base w0 h w) {ck : Ck} {xs : List Value} (hx : AV.reals ρ ck.list = some xs) (elem : TypeId) :
    Emb (ρ.add h.nx ⟨w.heap.size, 0, 0⟩) base w0 (h.new (newBlk ck elem)) (w.alloc (.cells xs.toArray elem)) := by
  have hlen := reals_len hx
  rw [Ck.len_eq] at hlen
  refine E.alloc _ _ 0 ⟨xs.toArray, (0, 0), rfl, .inl rfl, by show 0 + ck.len ≤ xs.toArray.size; rw [List.size_toArray]; omega, fun _ => ⟨rfl, by rw [List.size_toArray]; exact hlen⟩, (fun sz hs => by cases hs), fun i a hi => ?_⟩
  obtain ⟨hlt, rfl⟩ := cellAt_some hi
  have hlt2 : i < ck.list.length := by rw [Ck.len_eq]; exact hlt
  have hcell := List.getElem?_eq_getElem hlt2
  rw [newCl_at ck i _ hcell]
  obtain ⟨x, hr, hj⟩ := reals_at hx i _ hcell
  exact ⟨x, AV.real_mono (Env.le_add E.fresh0) _ _ hr, by simpa using hj⟩
theorem add_self (ρ : Env) (id : Nat) (l : Loc) : ρ.add id l id = some l := by unfold Env.add; rw [if_pos rfl]
noncomputable def evBox (h : Hp) (elem : TypeId) (v : AV) : AV × Hp := (.ptr h.nx 0, h.new (newBlk v.ck elem))
theorem newVar_run {P : Program} {ρ : Env} {base : Kp} {w0 : World} {h : Hp} {w : World} (E : Emb ρ base w0 h w) (elem : TypeId) {v : AV} {x : Value} (hv : v.real ρ = some x) :
    Does P ρ base w0 (do pure (.pointer (some (← newVar elem x)))) w (.ptr h.nx 0) (h.new (newBlk v.ck elem)) := by
  refine ⟨_, _, .pointer (some ⟨w.heap.size, 0, none⟩), ?_, ?_, Env.le_add E.fresh0, E.row (AV.cells_real hv) elem⟩
  · simp [newVar, run_newRow]
  · simp [AV.real, add_self]
/-- A zero, packed if it can be. -/
noncomputable def zeroA (z : Value) : AV := Value.rec (motive_1 := fun _ => AV) (motive_2 := fun _ => Unit) (motive_3 := fun _ => Unit) (fun b => .v (.bool b)) (fun k n => .v (.int k n)) (fun _ _ => .v z) (fun _ _ _ => .v z) (fun _ => .v z) (fun _ => .v z) (fun _ _ _ => .v z) (fun _ => .v z) (fun _ => .v z) (fun _ _ _ _ _ => .v z) (.v z) (fun _ _ _ => .v z) (.v z) (fun xs _ => Option.rec (.v z) (fun N => .flat xs.size N) (packVs xs.toList)) (fun _ _ => .v z) (fun _ _ => ()) () (fun _ _ _ _ => ()) z
theorem zeroA_real (ρ : Env) (z : Value) : (zeroA z).real ρ = some z := by
  cases z with
  | agg xs =>
    show (Option.rec (.v (.agg xs)) (fun N => .flat xs.size N) (packVs xs.toList) : AV).real ρ = _
    cases hp : packVs xs.toList with
    | none => rfl
    | some N =>
      show some (Value.agg (unpackL xs.size N).toArray) = _
      have := packVs_ok hp
      rw [Array.length_toList] at this
      rw [this]
  | _ => rfl
noncomputable def evAlloc (P : Program) (h : Hp) (elem : TypeId) : Option (AV × Hp) := match P.info? elem with
  | some i => match i.zero with
    | some z => some (evBox h elem (zeroA z))
    | none => none
  | none => none
theorem evAlloc_run {P : Program} {ρ : Env} {base : Kp} {w0 : World} {h h' : Hp} {w : World} (E : Emb ρ base w0 h w) {elem : TypeId} {v : AV} (hs : evAlloc P h elem = some (v, h')) : Does P ρ base w0 (Instr.alloc elem true (.tuple #[])) w v h' := by
  unfold evAlloc at hs
  split at hs
  · rename_i i hi
    split at hs
    · rename_i z hz
      obtain ⟨rfl, rfl⟩ := Prod.mk.inj (Option.some.inj hs)
      obtain ⟨ρ', w', x, h1, h2⟩ := newVar_run (P := P) E elem (v := zeroA z) (zeroA_real ρ z)
      refine ⟨ρ', w', x, ?_, h2⟩
      rw [← h1]
      simp [Instr.alloc, zeroValue, typeInfo, hi, hz, Sem.run_bind]
    · cases hs
  · cases hs
/-- Parts are laid into cells. -/
noncomputable def fillL (place : Nat → Option (Nat × Nat)) (cs : List AV) : List (Nat × AV) → Option (List AV)
  | [] => some cs
  | (i, v) :: r => match place i with
    | none => none
    | some (off, size) => match Nat.beq v.cells.length size with
      | true => match Nat.ble (off + size) cs.length with
        | true => fillL place (cs.take off ++ v.cells ++ cs.drop (off + size)) r
        | false => none
      | false => none
theorem foldl_splice (vs : List Value) : ∀ (k off : Nat) (C : Array Value), off + k + vs.length ≤ C.size →
    ((vs.zipIdx k).foldl (fun cs (c, j) => cs.setIfInBounds (off + j) c) C).toList = C.toList.take (off + k) ++ vs ++ C.toList.drop (off + k + vs.length) := by
  induction vs with
  | nil => intro k off C h; simp
  | cons v r ih =>
    intro k off C h
    rw [List.zipIdx_cons, List.foldl_cons]
    simp only [List.length_cons] at h
    rw [ih (k + 1) off _ (by simp; omega)]
    simp only [Array.toList_setIfInBounds]
    have hk : off + k < C.toList.length := by rw [Array.length_toList]; omega
    apply List.ext_getElem?
    intro p
    rw [splice_get _ _ _ _ (by simp; omega), splice_get _ _ _ _ (by simp; omega), List.getElem?_set]
    by_cases e : p = off + k
    · subst e
      rw [if_neg (by omega), if_pos rfl, if_pos hk, if_pos (by simp), Nat.sub_self]
      rfl
    · by_cases e2 : off + (k + 1) ≤ p ∧ p < off + (k + 1) + r.length
      · rw [if_pos e2, if_pos (by simp; omega), show p - (off + k) = (p - (off + (k + 1))) + 1 by omega]
        rfl
      · rw [if_neg e2, if_neg (Ne.symm e), if_neg (by simp; omega)]
theorem reals_append {ρ : Env} : ∀ {cz : List AV} {xs : List Value} {bs : List AV} {ys : List Value}, AV.reals ρ cz = some xs → AV.reals ρ bs = some ys → AV.reals ρ (cz ++ bs) = some (xs ++ ys)
  | [], xs, bs, ys, h, k => by cases h; exact k
  | a :: r, xs, bs, ys, h, k => by
    simp only [AV.reals, Option.bind_eq_some_iff, Option.map_eq_some_iff] at h
    obtain ⟨x, hx, y, hy, rfl⟩ := h
    simp [AV.reals, hx, reals_append hy k]
theorem reals_take {ρ : Env} : ∀ {cz : List AV} {xs : List Value} (k : Nat), AV.reals ρ cz = some xs → AV.reals ρ (cz.take k) = some (xs.take k)
  | cz, xs, 0, h => by simp [AV.reals]
  | [], xs, k + 1, h => by cases h; rfl
  | a :: r, xs, k + 1, h => by
    simp only [AV.reals, Option.bind_eq_some_iff, Option.map_eq_some_iff] at h
    obtain ⟨x, hx, y, hy, rfl⟩ := h
    simp [AV.reals, hx, reals_take k hy]
theorem reals_drop {ρ : Env} : ∀ {cz : List AV} {xs : List Value} (k : Nat), AV.reals ρ cz = some xs → AV.reals ρ (cz.drop k) = some (xs.drop k)
  | cz, xs, 0, h => by simpa using h
  | [], xs, k + 1, h => by cases h; rfl
  | a :: r, xs, k + 1, h => by
    simp only [AV.reals, Option.bind_eq_some_iff, Option.map_eq_some_iff] at h
    obtain ⟨x, hx, y, hy, rfl⟩ := h
    simpa using reals_drop k hy
/-- Parts, each with what it stands for. -/
inductive PartsR (ρ : Env) : List (Nat × AV) → List (Nat × Value) → Prop where
  | nil : PartsR ρ [] []
  | cons {i : Nat} {a : AV} {x : Value} {r : List (Nat × AV)} {s : List (Nat × Value)} (h : a.real ρ = some x) (k : PartsR ρ r s) : PartsR ρ ((i, a) :: r) ((i, x) :: s)
theorem fillL_fill {ρ : Env} (place : Nat → Option (Nat × Nat)) : ∀ (ps : List (Nat × AV)) (qs : List (Nat × Value)) (cs cs' : List AV) (C : Array Value), PartsR ρ ps qs → AV.reals ρ cs = some C.toList → fillL place cs ps = some cs' →
    ∃ C', Instr.fill place C qs = some C' ∧ AV.reals ρ cs' = some C'.toList
  | [], qs, cs, cs', C, hp, hc, h => by
    cases hp
    simp only [fillL, Option.some.injEq] at h
    subst h
    exact ⟨C, rfl, hc⟩
  | (i, a) :: r, qs, cs, cs', C, hp, hc, h => by
    cases hp with
    | cons ha hr =>
      rename_i x s
      simp only [fillL] at h
      cases hpl : place i with
      | none => rw [hpl] at h; cases h
      | some os =>
        obtain ⟨off, size⟩ := os
        rw [hpl] at h
        dsimp only at h
        cases h1 : Nat.beq a.cells.length size with
        | false => rw [h1] at h; cases h
        | true =>
          rw [h1] at h
          dsimp only at h
          cases h2 : Nat.ble (off + size) cs.length with
          | false => rw [h2] at h; cases h
          | true =>
            rw [h2] at h
            dsimp only at h
            have hxc := AV.cells_real ha
            have hl1 := reals_len hxc
            have hl2 := reals_len hc
            rw [Array.length_toList (xs := x.cells)] at hl1
            rw [Array.length_toList (xs := C)] at hl2
            have e1 := Nat.eq_of_beq_eq_true h1
            have e2 := Nat.le_of_ble_eq_true h2
            have hsz : x.cells.size = size := by omega
            have hle : off + x.cells.size ≤ C.size := by omega
            have hsp : (x.cells.zipIdx.foldl (fun cs (c, j) => cs.setIfInBounds (off + j) c) C).toList = C.toList.take off ++ x.cells.toList ++ C.toList.drop (off + size) := by
              have := foldl_splice x.cells.toList 0 off C (by rw [Array.length_toList]; omega)
              rw [Nat.add_zero, Array.length_toList, hsz] at this
              rw [← this, ← Array.foldl_toList, Array.toList_zipIdx]
            have hcs : AV.reals ρ (cs.take off ++ a.cells ++ cs.drop (off + size)) = some (x.cells.zipIdx.foldl (fun cs (c, j) => cs.setIfInBounds (off + j) c) C).toList := by
              rw [hsp]
              exact reals_append (reals_append (reals_take off hc) hxc) (reals_drop (off + size) hc)
            obtain ⟨C', hC', hr'⟩ := fillL_fill place r s _ cs' _ hr hcs h
            refine ⟨C', ?_, hr'⟩
            simp only [Instr.fill, hpl]
            rw [if_neg (by simp; omega)]
            exact hC'
end Go.Proofs.YtnpdnlnglahicaaGreatDoor
