/- A reckoner of closed runs, 9: structs, rows and maps that are made. Nothing of the program is used here. -/
import Derived.Test.YtchdipakekglmaaEvSlice
import Derived.Laws.Tables
import Derived.Great.BuildSlice
namespace Go.Proofs.Ytchdipakekglmaa
open Go.RowKit

noncomputable def partsA (f : Fr) : List (Nat × Operand) → List (Nat × AV)
  | [] => []
  | p :: r => (p.1, evA f p.2) :: partsA f r
theorem partsA_R {ρ : Env} {f : Fr} {a : Act} (hf : FrR ρ f a) : ∀ ps : List (Nat × Operand), PartsR ρ (partsA f ps) (ps.map fun (i, x) => (i, a.eval x))
  | [] => .nil
  | p :: r => .cons (evA_real hf p.2) (partsA_R hf r)
/-- Parts are laid into packed cells. -/
noncomputable def fillN (place : Nat → Option (Nat × Nat)) (n : Nat) : List (Nat × AV) → Nat → Option Nat
  | [], N => some N
  | (i, v) :: r, N => match place i with
    | none => none
    | some (off, size) => match Nat.ble (off + size) n with
      | false => none
      | true => match v.ck with
        | .p k M => match Nat.beq k size with
          | true => fillN place n r (spliceN N off size M)
          | false => none
        | .l cs => match Nat.beq cs.length size with
          | true => match packL cs with
            | some M => fillN place n r (spliceN N off size M)
            | none => none
          | false => none
theorem unpackL_splice {n N off k M : Nat} (h : off + k ≤ n) : (unpackL n (spliceN N off k M)).map AV.v = ((unpackL n N).map AV.v).take off ++ (unpackL k M).map AV.v ++ ((unpackL n N).map AV.v).drop (off + k) := by
  have e : unpackL n (spliceN N off k M) = (unpackL n N).take off ++ unpackL k M ++ (unpackL n N).drop (off + (unpackL k M).length) := by
    apply List.ext_getElem?
    intro j
    rw [splice_get _ _ _ _ (by rw [unpackL_len, unpackL_len]; exact h), unpackL_len]
    by_cases hj : j < n
    · rw [unpackL_get _ _ _ hj, cellN_splice]
      by_cases e : off ≤ j ∧ j < off + k
      · rw [if_pos e, if_pos e, unpackL_get _ _ _ (by omega)]
      · rw [if_neg e, if_neg e, unpackL_get _ _ _ hj]
    · rw [if_neg (by omega), List.getElem?_eq_none (by rw [unpackL_len]; omega), List.getElem?_eq_none (by rw [unpackL_len]; omega)]
  rw [e, List.map_append, List.map_append, List.map_take, List.map_drop, unpackL_len]
theorem fillN_fillL (place : Nat → Option (Nat × Nat)) (n : Nat) : ∀ (ps : List (Nat × AV)) (N N' : Nat), fillN place n ps N = some N' → fillL place ((unpackL n N).map .v) ps = some ((unpackL n N').map .v)
  | [], N, N', h => by obtain rfl := Option.some.inj h; rfl
  | (i, v) :: r, N, N', h => by
    simp only [fillN] at h
    simp only [fillL]
    cases hpl : place i with
    | none => rw [hpl] at h; cases h
    | some os =>
      obtain ⟨off, size⟩ := os
      rw [hpl] at h
      dsimp only at h ⊢
      split at h
      · cases h
      rename_i hle0
      have hle : off + size ≤ n := Nat.le_of_ble_eq_true hle0
      have key : ∀ M, v.cells = (unpackL size M).map .v → fillN place n r (spliceN N off size M) = some N' →
          (match Nat.beq v.cells.length size with
            | true => match Nat.ble (off + size) ((unpackL n N).map AV.v).length with
              | true => fillL place (((unpackL n N).map AV.v).take off ++ v.cells ++ ((unpackL n N).map AV.v).drop (off + size)) r
              | false => none
            | false => none) = some ((unpackL n N').map AV.v) := fun M hM hf => by
        have ih := fillN_fillL place n r _ _ hf
        rw [unpackL_splice hle] at ih
        have h1 : Nat.beq v.cells.length size = true := by rw [hM, List.length_map, unpackL_len]; exact Nat.beq_refl _
        have h2 : Nat.ble (off + size) ((unpackL n N).map AV.v).length = true := by rw [List.length_map, unpackL_len]; exact hle0
        rw [h1, h2, hM]
        exact ih
      split at h
      · rename_i k M hck
        split at h
        case h_2 => cases h
        rename_i hk
        obtain rfl := Nat.eq_of_beq_eq_true hk
        exact key M (by show v.ck.list = _; rw [hck]; rfl) h
      · rename_i cs hck
        split at h
        case h_2 => cases h
        rename_i hk
        have hk := Nat.eq_of_beq_eq_true hk
        split at h
        case h_2 => cases h
        rename_i M hM
        refine key M ?_ h
        show v.ck.list = _
        rw [hck, ← hk]
        exact packL_ok hM
/-- The zero of a long value, packed. -/
noncomputable def longZ (z : Value) : Option (Nat × Nat) :=
  AV.rec (motive_1 := fun _ => Option (Nat × Nat)) (motive_2 := fun _ => Unit) (fun _ => none) (fun _ _ => none) (fun _ _ _ _ _ => none) (fun _ => none) (fun _ => none) (fun _ _ _ _ _ => none) (fun _ _ _ => none) (fun _ _ => none) (fun n N => Bool.rec none (some (n, N)) (Nat.ble 16 n)) (fun _ _ => none) () (fun _ _ _ _ => ()) (zeroA z)
theorem longZ_ok {z : Value} {n N : Nat} (h : longZ z = some (n, N)) : z.cells.toList.map AV.v = (unpackL n N).map .v := by
  unfold longZ at h
  have hz := zeroA_real (fun _ => none) z
  revert h hz
  generalize zeroA z = a
  intro h hz
  cases a with
  | flat m M =>
    have h : (Bool.rec none (some (m, M)) (Nat.ble 16 m) : Option (Nat × Nat)) = some (n, N) := h
    cases hb : Nat.ble 16 m with
    | false => rw [hb] at h; cases h
    | true =>
      rw [hb] at h
      obtain ⟨rfl, rfl⟩ := Prod.mk.inj (Option.some.inj h)
      obtain rfl := Option.some.inj hz
      simp [Value.cells]
  | _ => cases h
noncomputable def fillA (place : Nat → Option (Nat × Nat)) (z : Value) (ps : List (Nat × AV)) : Option AV := match longZ z with
  | some (n, N) => match fillN place n ps N with
    | some N' => some (.flat n N')
    | none => (fillL place (z.cells.toList.map .v) ps).map .agg
  | none => (fillL place (z.cells.toList.map .v) ps).map .agg
theorem fillA_ok {ρ : Env} (place : Nat → Option (Nat × Nat)) {z : Value} {ps : List (Nat × AV)} {qs : List (Nat × Value)} {v : AV} (hp : PartsR ρ ps qs) (h : fillA place z ps = some v) : ∃ C, Instr.fill place z.cells qs = some C ∧ v.real ρ = some (.agg C) := by
  have slow : (fillL place (z.cells.toList.map .v) ps).map AV.agg = some v → ∃ C, Instr.fill place z.cells qs = some C ∧ v.real ρ = some (.agg C) := fun h => by
    obtain ⟨cs, hcs, rfl⟩ := Option.map_eq_some_iff.1 h
    obtain ⟨C, h1, h2⟩ := fillL_fill _ _ _ _ _ z.cells hp (reals_v ρ _) hcs
    exact ⟨C, h1, by simp [AV.real, h2]⟩
  unfold fillA at h
  split at h
  · rename_i n N hz
    split at h
    · rename_i N' hf
      obtain rfl := Option.some.inj h
      have hL := fillN_fillL place n ps N N' hf
      rw [← longZ_ok hz] at hL
      obtain ⟨C, h1, h2⟩ := fillL_fill _ _ _ _ _ z.cells hp (reals_v ρ _) hL
      refine ⟨C, h1, ?_⟩
      rw [reals_v] at h2
      show some (Value.agg (unpackL n N').toArray) = _
      rw [Option.some.inj h2]
    · exact slow h
  · exact slow h
noncomputable def evBuild (P : Program) (f : Fr) (t : TypeId) (parts : Array (Nat × Operand)) : Option AV := match P.info? t, P.underlying t with
  | some it, some (.array _ e) => match it.zero, P.info? e with
    | some z, some ie => fillA (fun i => some (i * ie.size, ie.size)) z (partsA f parts.toList)
    | _, _ => none
  | some it, some (.struct fields) => match it.zero, fields.toList.mapM (fun f => (P.info? f.type).map fun i => (f.offset, i.size)) with
    | some z, some places => fillA (places.toArray[·]?) z (partsA f parts.toList)
    | _, _ => none
  | _, _ => none
theorem evBuild_ok {P : Program} {ρ : Env} {f : Fr} {a : Act} (hf : FrR ρ f a) (w : World) {t : TypeId} {parts : Array (Nat × Operand)} {v : AV} (h : evBuild P f t parts = some v) : Gives P ρ (Instr.build t (parts.map fun (i, x) => (i, a.eval x))) w v := by
  have hps := partsA_R hf parts.toList
  have key : ∀ C, P.built t (parts.toList.map fun (i, x) => (i, a.eval x)) = some C → v.real ρ = some (.agg C) → Gives P ρ (Instr.build t (parts.map fun (i, x) => (i, a.eval x))) w v := fun C h1 h2 =>
    ⟨.agg C, run_build w t _ C (by rw [Array.toList_map]; exact h1), h2⟩
  unfold evBuild at h
  unfold Program.built at key
  split at h
  · rename_i it n e hi hd
    split at h
    · rename_i z ie hz0 he
      obtain ⟨C, h1, h2⟩ := fillA_ok _ hps h
      refine key C ?_ h2
      simp only [hi, hd, hz0, he]
      exact h1
    · cases h
  · rename_i it fields hi hd
    split at h
    · rename_i z places hz0 he
      obtain ⟨C, h1, h2⟩ := fillA_ok _ hps h
      refine key C ?_ h2
      simp only [hi, hd, hz0, he]
      exact h1
    · cases h
  · cases h
def zerosL (z : Array Value) (n : Nat) : List AV := (List.range n).map fun i => .v z[i % z.size]!
theorem zerosL_real (ρ : Env) (z : Array Value) (n : Nat) : AV.reals ρ (zerosL z n) = some ((Array.range n).map (z[· % z.size]!)).toList := by
  have : zerosL z n = (((Array.range n).map (z[· % z.size]!)).toList).map .v := by simp [zerosL, List.map_map, Function.comp_def]
  rw [this]
  exact reals_v ρ _
/-- One long element alone. -/
noncomputable def quickPart (len size : Nat) : List (Nat × AV) → Option Ck
  | [(0, x)] => match Nat.beq len 1 with
    | true => match x.ck with
      | .p k M => match Nat.beq k size with
        | true => some (.p k M)
        | false => none
      | .l _ => none
    | false => none
  | _ => none
theorem quickPart_ok {len size : Nat} {ps : List (Nat × AV)} {ck : Ck} (h : quickPart len size ps = some ck) (zc : Array Value) : fillL (fun i => some (i * size, size)) (zerosL zc (len * size)) ps = some ck.list := by
  unfold quickPart at h
  split at h
  case h_2 => cases h
  rename_i x
  split at h
  case h_2 => cases h
  rename_i hl
  have hl := Nat.eq_of_beq_eq_true hl
  split at h
  case h_2 => cases h
  rename_i k M hck
  split at h
  case h_2 => cases h
  rename_i hk
  have hk := Nat.eq_of_beq_eq_true hk
  obtain rfl := Option.some.inj h
  have hc : x.cells = (Ck.p k M).list := by unfold AV.cells; rw [hck]
  have hlen : x.cells.length = size := by rw [hc]; simp [Ck.list, unpackL_len, hk]
  have hz : (zerosL zc (len * size)).length = size := by simp [zerosL, hl]
  have h1 : Nat.beq x.cells.length size = true := by rw [hlen]; simp
  have h2 : Nat.ble (0 * size + size) (zerosL zc (len * size)).length = true := by rw [hz]; exact Nat.ble_eq_true_of_le (by omega)
  simp only [fillL]
  rw [h1]
  dsimp only
  rw [h2]
  dsimp only
  rw [Nat.zero_mul, Nat.zero_add, List.take_zero, List.nil_append, List.drop_of_length_le (by omega), List.append_nil, hc]
noncomputable def evBuildSlice (P : Program) (f : Fr) (h : Hp) (t : TypeId) (len : Nat) (parts : Array (Nat × Operand)) : Option (AV × Hp) := match P.underlying t with
  | some (.slice e) => match P.info? e with
    | some ie => match ie.zero with
      | some z => match Nat.beq (len * ie.size) 0 with
        | true => match parts.toList with
          | [] => some (.slc h.nx 0 len len true, h.new (newBlk (.l []) e))
          | _ :: _ => none
        | false => match Nat.ble (len * ie.size) 16777216 with
          | true => match quickPart len ie.size (partsA f parts.toList) with
            | some ck => some (.slc h.nx 0 len len true, h.new (newBlk ck e))
            | none => match fillL (fun i => some (i * ie.size, ie.size)) (zerosL z.cells (len * ie.size)) (partsA f parts.toList) with
              | some cs => some (.slc h.nx 0 len len true, h.new (newBlk (.l cs) e))
              | none => none
          | false => none
      | none => none
    | none => none
  | _ => none
theorem evBuildSlice_ok {P : Program} {ρ : Env} {base : Kp} {w0 : World} {h h' : Hp} {w : World} (E : Emb ρ base w0 h w) {f : Fr} {a : Act} (hf : FrR ρ f a) {t : TypeId} {len : Nat} {parts : Array (Nat × Operand)} {v : AV} (hv : evBuildSlice P f h t len parts = some (v, h')) :
    Does P ρ base w0 (Instr.buildSlice t len (parts.map fun (i, x) => (i, a.eval x))) w v h' := by
  have hps := partsA_R hf parts.toList
  unfold evBuildSlice at hv
  split at hv
  · rename_i e hd
    split at hv
    · rename_i ie hi
      split at hv
      · rename_i z hz
        split at hv
        · rename_i h0
          have h0 := Nat.eq_of_beq_eq_true h0
          split at hv
          · rename_i hnil
            obtain ⟨rfl, rfl⟩ := Prod.mk.inj (Option.some.inj hv)
            have hp : parts = #[] := by cases parts; simpa using hnil
            subst hp
            have E' := E.row (ρ := ρ) (ck := .l []) (xs := []) rfl e
            refine ⟨ρ.add h.nx ⟨w.heap.size, 0, 0⟩, _, .slice (some ⟨w.heap.size, 0, none⟩) len len, ?_, ?_, Env.le_add E.fresh0, E'⟩
            · simp [Instr.buildSlice, run_underlying hd, sizeOf, typeInfo, hi, h0, newRow, Instr.fill, Array.range_zero']
            · simp [AV.real, add_self]
          · cases hv
        · rename_i h0
          split at hv
          · rename_i hle
            have hle := Nat.le_of_ble_eq_true hle
            have hne : ¬ len * ie.size = 0 := fun e' => by rw [e'] at h0; cases h0
            split at hv
            · rename_i ck hck
              obtain ⟨rfl, rfl⟩ := Prod.mk.inj (Option.some.inj hv)
              obtain ⟨C, h1, h2⟩ := fillL_fill _ _ _ _ _ ((Array.range (len * ie.size)).map (z.cells[· % z.cells.size]!)) hps (zerosL_real ρ _ _) (quickPart_ok hck z.cells)
              have hrun := run_buildSlice (P := P) w t e len (parts.map fun (i, x) => (i, a.eval x)) C ie z hd hi hz (by omega) hne (by rw [Array.toList_map]; exact h1)
              refine ⟨ρ.add h.nx ⟨w.heap.size, 0, 0⟩, _, _, hrun, ?_, Env.le_add E.fresh0, ?_⟩
              · simp [AV.real, add_self]
              · have := E.row (ck := ck) h2 e
                simpa using this
            split at hv
            · rename_i cs hcs
              obtain ⟨rfl, rfl⟩ := Prod.mk.inj (Option.some.inj hv)
              obtain ⟨C, h1, h2⟩ := fillL_fill _ _ _ _ _ ((Array.range (len * ie.size)).map (z.cells[· % z.cells.size]!)) hps (zerosL_real ρ _ _) hcs
              have hrun := run_buildSlice (P := P) w t e len (parts.map fun (i, x) => (i, a.eval x)) C ie z hd hi hz (by omega) hne (by rw [Array.toList_map]; exact h1)
              refine ⟨ρ.add h.nx ⟨w.heap.size, 0, 0⟩, _, _, hrun, ?_, Env.le_add E.fresh0, ?_⟩
              · simp [AV.real, add_self]
              · have := E.row (ck := .l cs) h2 e
                simpa using this
            · cases hv
          · cases hv
      · cases hv
    · cases hv
  · cases hv
noncomputable def evMakeSlice (P : Program) (f : Fr) (h : Hp) (t : TypeId) (l c : Operand) : Option (AV × Hp) := match P.underlying t with
  | some (.slice e) => match P.info? e with
    | some ie => match ie.zero with
      | some z => match natOf (evA f l), natOf (evA f c) with
        | some l, some c => match Nat.ble l c with
          | true => match Nat.ble (ie.bytes * c) 281474976710656 with
            | true => match Nat.ble c 9223372036854775807 with
              | true => match Nat.beq ie.size 1, z.cells.toList with
                | true, [z0] => match packV z0 with
                  | some 0 => some (.slc h.nx 0 l c true, h.new (.cells ⟨.nil, 0⟩ c e none))
                  | _ => some (.slc h.nx 0 l c true, h.new (newBlk (.l (zerosL z.cells (c * ie.size))) e))
                | _, _ => some (.slc h.nx 0 l c true, h.new (newBlk (.l (zerosL z.cells (c * ie.size))) e))
              | false => none
            | false => none
          | false => none
        | _, _ => none
      | none => none
    | none => none
  | _ => none
theorem evMakeSlice_ok {P : Program} {ρ : Env} {base : Kp} {w0 : World} {h h' : Hp} {w : World} (E : Emb ρ base w0 h w) {f : Fr} {a : Act} (hf : FrR ρ f a) {t : TypeId} {l c : Operand} {v : AV} (hv : evMakeSlice P f h t l c = some (v, h')) :
    Does P ρ base w0 (Instr.makeSlice t (a.eval l) (a.eval c)) w v h' := by
  unfold evMakeSlice at hv
  split at hv
  · rename_i e hd
    split at hv
    · rename_i ie hi
      split at hv
      · rename_i z hz
        split at hv
        · rename_i l' c' hl hc
          obtain ⟨kl, hl⟩ := natOf_real hl (evA_real hf l)
          obtain ⟨kc, hc⟩ := natOf_real hc (evA_real hf c)
          rw [hl, hc]
          split at hv
          · rename_i hlc
            have hlc := Nat.le_of_ble_eq_true hlc
            split at hv
            · rename_i hb
              have hb := Nat.le_of_ble_eq_true hb
              split at hv
              · rename_i h63
                have h63 := Nat.le_of_ble_eq_true h63
                have hrun := run_make (P := P) w t e ie z hd hi hz kl kc l' c' (by omega) (by omega) (by have : ((ie.bytes * c' : Nat) : Int) ≤ 281474976710656 := by omega
                                                                                                         rwa [Int.natCast_mul] at this) (by omega)
                simp only [Int.toNat_natCast] at hrun
                have slow : some (AV.slc h.nx 0 l' c' true, h.new (newBlk (.l (zerosL z.cells (c' * ie.size))) e)) = some (v, h') → Does P ρ base w0 (Instr.makeSlice t (.int kl (l' : Int)) (.int kc (c' : Int))) w v h' := fun hv => by
                  obtain ⟨rfl, rfl⟩ := Prod.mk.inj (Option.some.inj hv)
                  refine ⟨ρ.add h.nx ⟨w.heap.size, 0, 0⟩, _, _, hrun, (by simp [AV.real, add_self]), Env.le_add E.fresh0, ?_⟩
                  have := E.row (ck := .l (zerosL z.cells (c' * ie.size))) (zerosL_real ρ z.cells (c' * ie.size)) e
                  rwa [Array.toArray_toList] at this
                split at hv
                · rename_i z0 hs1 hz0
                  split at hv
                  · rename_i hp0
                    have hs1 := Nat.eq_of_beq_eq_true hs1
                    obtain ⟨rfl, rfl⟩ := Prod.mk.inj (Option.some.inj hv)
                    refine ⟨ρ.add h.nx ⟨w.heap.size, 0, 0⟩, _, _, hrun, (by simp [AV.real, add_self]), Env.le_add E.fresh0, E.alloc _ _ 0 ⟨_, (0, 0), rfl, .inl rfl, ?_, fun _ => ⟨rfl, ?_⟩, (fun sz hs => by cases hs), fun i b hb => ?_⟩⟩
                    · show 0 + c' ≤ _
                      rw [size_madeCells, hs1]; omega
                    · rw [size_madeCells, hs1]; omega
                    · obtain ⟨hlt, rfl⟩ := cellAt_some hb
                      have hz1 := (packV_ok hp0).2
                      refine ⟨z0, ?_, ?_⟩
                      · rw [Cl.at_nil, cellN_zero, hz1]
                        rfl
                      have hzc : z.cells = #[z0] := by apply Array.ext'; simpa using hz0
                      show (madeCells z.cells (c' * ie.size))[0 + i]? = some z0
                      rw [hzc, hs1]
                      simp [madeCells, hlt, Nat.mod_one]
                  · exact slow hv
                · exact slow hv
              · cases hv
            · cases hv
          · cases hv
        · cases hv
      · cases hv
    · cases hv
  · cases hv
noncomputable def evMakeMap (P : Program) (f : Fr) (h : Hp) (t : TypeId) (r : Option Operand) : Option (AV × Hp) := match r with
  | none => some (.mp h.nx, h.new (.map [] 0))
  | some r => match P.underlying t with
    | some (.map _ _) => match natOf (evA f r) with
      | some _ => some (.mp h.nx, h.new (.map [] 0))
      | none => none
    | _ => none
theorem evMakeMap_ok {P : Program} {ρ : Env} {base : Kp} {w0 : World} {h h' : Hp} {w : World} (E : Emb ρ base w0 h w) {f : Fr} {a : Act} (hf : FrR ρ f a) {t : TypeId} {r : Option Operand} {v : AV} (hv : evMakeMap P f h t r = some (v, h')) :
    Does P ρ base w0 (Instr.makeMap t (r.map a.eval)) w v h' := by
  have fin : v = .mp h.nx → h' = h.new (.map [] 0) → (Instr.makeMap t (r.map a.eval)).run P w = .ok (.map (some w.heap.size)) (w.alloc (.map #[] 0)) → Does P ρ base w0 (Instr.makeMap t (r.map a.eval)) w v h' := fun e1 e2 h3 => by
    subst e1 e2
    exact ⟨ρ.add h.nx ⟨w.heap.size, 0, 0⟩, _, _, h3, by simp [AV.real, add_self], Env.le_add E.fresh0, E.alloc _ _ 0 ⟨#[], rfl, .nil⟩⟩
  unfold evMakeMap at hv
  split at hv
  · obtain ⟨rfl, rfl⟩ := Prod.mk.inj (Option.some.inj hv)
    exact fin rfl rfl rfl
  · rename_i r
    split at hv
    · rename_i k e hd
      split at hv
      · rename_i n hn
        obtain ⟨rfl, rfl⟩ := Prod.mk.inj (Option.some.inj hv)
        obtain ⟨kk, hk⟩ := natOf_real hn (evA_real hf r)
        refine fin rfl rfl ?_
        rw [Option.map_some, hk]
        simp [Instr.makeMap, Sem.run_bind, run_underlying hd, asInt, asIntOf]
      · cases hv
    · cases hv
end Go.Proofs.Ytchdipakekglmaa
