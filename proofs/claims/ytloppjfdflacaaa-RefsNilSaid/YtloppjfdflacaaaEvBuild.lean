/- A reckoner of closed runs, 9: structs, rows and maps that are made. Nothing of the program is used here. -/
import Derived.Test.YtloppjfdflacaaaEvSlice
import Derived.Laws.Tables
import Derived.Great.BuildSlice
namespace Go.Proofs.Ytloppjfdflacaaa
open Go.RowKit

def partsA (f : Fr) : List (Nat × Operand) → List (Nat × AV)
  | [] => []
  | p :: r => (p.1, evA f p.2) :: partsA f r
theorem partsA_R {ρ : Env} {f : Fr} {a : Act} (hf : FrR ρ f a) : ∀ ps : List (Nat × Operand), PartsR ρ (partsA f ps) (ps.map fun (i, x) => (i, a.eval x))
  | [] => .nil
  | p :: r => .cons (evA_real hf p.2) (partsA_R hf r)
def evBuild (P : Program) (f : Fr) (t : TypeId) (parts : Array (Nat × Operand)) : Option AV := match P.info? t, P.underlying t with
  | some it, some (.array _ e) => match it.zero, P.info? e with
    | some z, some ie => (fillL (fun i => some (i * ie.size, ie.size)) (z.cells.toList.map .v) (partsA f parts.toList)).map .agg
    | _, _ => none
  | some it, some (.struct fields) => match it.zero, fields.toList.mapM (fun f => (P.info? f.type).map fun i => (f.offset, i.size)) with
    | some z, some places => (fillL (places.toArray[·]?) (z.cells.toList.map .v) (partsA f parts.toList)).map .agg
    | _, _ => none
  | _, _ => none
theorem evBuild_ok {P : Program} {ρ : Env} {f : Fr} {a : Act} (hf : FrR ρ f a) (w : World) {t : TypeId} {parts : Array (Nat × Operand)} {v : AV} (h : evBuild P f t parts = some v) : Gives P ρ (Instr.build t (parts.map fun (i, x) => (i, a.eval x))) w v := by
  have hz : ∀ z : Value, AV.reals ρ (z.cells.toList.map .v) = some z.cells.toList := fun z => reals_v ρ _
  have hps := partsA_R hf parts.toList
  have key : ∀ C cs, P.built t (parts.toList.map fun (i, x) => (i, a.eval x)) = some C → AV.reals ρ cs = some C.toList → v = .agg cs → Gives P ρ (Instr.build t (parts.map fun (i, x) => (i, a.eval x))) w v := fun C cs h1 h2 h3 => by
    refine ⟨.agg C, run_build w t _ C (by rw [Array.toList_map]; exact h1), ?_⟩
    subst h3
    simp [AV.real, h2]
  unfold evBuild at h
  unfold Program.built at key
  split at h
  · rename_i it n e hi hd
    split at h
    · rename_i z ie hz0 he
      obtain ⟨cs, hcs, rfl⟩ := Option.map_eq_some_iff.1 h
      obtain ⟨C, h1, h2⟩ := fillL_fill _ _ _ _ _ z.cells hps (hz z) hcs
      refine key C cs ?_ h2 rfl
      simp only [hi, hd, hz0, he]
      exact h1
    · cases h
  · rename_i it fields hi hd
    split at h
    · rename_i z places hz0 he
      obtain ⟨cs, hcs, rfl⟩ := Option.map_eq_some_iff.1 h
      obtain ⟨C, h1, h2⟩ := fillL_fill _ _ _ _ _ z.cells hps (hz z) hcs
      refine key C cs ?_ h2 rfl
      simp only [hi, hd, hz0, he]
      exact h1
    · cases h
  · cases h
def zerosL (z : Array Value) (n : Nat) : List AV := (List.range n).map fun i => .v z[i % z.size]!
theorem zerosL_real (ρ : Env) (z : Array Value) (n : Nat) : AV.reals ρ (zerosL z n) = some ((Array.range n).map (z[· % z.size]!)).toList := by
  have : zerosL z n = (((Array.range n).map (z[· % z.size]!)).toList).map .v := by simp [zerosL, List.map_map, Function.comp_def]
  rw [this]
  exact reals_v ρ _
def evBuildSlice (P : Program) (f : Fr) (h : Hp) (t : TypeId) (len : Nat) (parts : Array (Nat × Operand)) : Option (AV × Hp) := match P.underlying t with
  | some (.slice e) => match P.info? e with
    | some ie => match ie.zero with
      | some z => match Nat.beq (len * ie.size) 0 with
        | true => match parts.toList with
          | [] => some (.slc h.nx 0 len len true, h.new (newBlk [] e))
          | _ :: _ => none
        | false => match Nat.ble (len * ie.size) 16777216 with
          | true => match fillL (fun i => some (i * ie.size, ie.size)) (zerosL z.cells (len * ie.size)) (partsA f parts.toList) with
            | some cs => some (.slc h.nx 0 len len true, h.new (newBlk cs e))
            | none => none
          | false => none
      | none => none
    | none => none
  | _ => none
theorem evBuildSlice_ok {P : Program} {ρ : Env} {base : Nat} {w0 : World} {h h' : Hp} {w : World} (E : Emb ρ base w0 h w) {f : Fr} {a : Act} (hf : FrR ρ f a) {t : TypeId} {len : Nat} {parts : Array (Nat × Operand)} {v : AV} (hv : evBuildSlice P f h t len parts = some (v, h')) :
    Does P ρ base w0 (Instr.buildSlice t len (parts.map fun (i, x) => (i, a.eval x))) w v h' := by
  have hps := partsA_R hf parts.toList
  unfold evBuildSlice at hv
  split at hv
  · rename_i e hd
    split at hv
    · rename_i ie hi
      split at hv
      · rename_i z hz
        split at hv
        · rename_i h0
          have h0 := Nat.eq_of_beq_eq_true h0
          split at hv
          · rename_i hnil
            obtain ⟨rfl, rfl⟩ := Prod.mk.inj (Option.some.inj hv)
            have hp : parts = #[] := by cases parts; simpa using hnil
            subst hp
            have E' := E.row (ρ := ρ) (cs := []) (xs := []) rfl e
            refine ⟨ρ.add h.nx ⟨w.heap.size, 0, 0⟩, _, .slice (some ⟨w.heap.size, 0, none⟩) len len, ?_, ?_, Env.le_add E.fresh0, E'⟩
            · simp [Instr.buildSlice, run_underlying hd, sizeOf, typeInfo, hi, h0, newRow, Instr.fill, Array.range_zero']
            · simp [AV.real, add_self]
          · cases hv
        · rename_i h0
          split at hv
          · rename_i hle
            have hle := Nat.le_of_ble_eq_true hle
            split at hv
            · rename_i cs hcs
              obtain ⟨rfl, rfl⟩ := Prod.mk.inj (Option.some.inj hv)
              obtain ⟨C, h1, h2⟩ := fillL_fill _ _ _ _ _ ((Array.range (len * ie.size)).map (z.cells[· % z.cells.size]!)) hps (zerosL_real ρ _ _) hcs
              have hne : ¬ len * ie.size = 0 := fun e' => by rw [e'] at h0; cases h0
              have hrun := run_buildSlice (P := P) w t e len (parts.map fun (i, x) => (i, a.eval x)) C ie z hd hi hz (by omega) hne (by rw [Array.toList_map]; exact h1)
              refine ⟨ρ.add h.nx ⟨w.heap.size, 0, 0⟩, _, _, hrun, ?_, Env.le_add E.fresh0, ?_⟩
              · simp [AV.real, add_self]
              · have := E.row h2 e
                simpa using this
            · cases hv
          · cases hv
      · cases hv
    · cases hv
  · cases hv
def evMakeSlice (P : Program) (f : Fr) (h : Hp) (t : TypeId) (l c : Operand) : Option (AV × Hp) := match P.underlying t with
  | some (.slice e) => match P.info? e with
    | some ie => match ie.zero with
      | some z => match natOf (evA f l), natOf (evA f c) with
        | some l, some c => match Nat.ble l c with
          | true => match Nat.ble (ie.bytes * c) 281474976710656 with
            | true => match Nat.ble c 9223372036854775807 with
              | true => match Nat.beq ie.size 1, z.cells.toList with
                | true, [z0] => some (.slc h.nx 0 l c true, h.new (.cells .nil c (.v z0) e none))
                | _, _ => some (.slc h.nx 0 l c true, h.new (newBlk (zerosL z.cells (c * ie.size)) e))
              | false => none
            | false => none
          | false => none
        | _, _ => none
      | none => none
    | none => none
  | _ => none
theorem evMakeSlice_ok {P : Program} {ρ : Env} {base : Nat} {w0 : World} {h h' : Hp} {w : World} (E : Emb ρ base w0 h w) {f : Fr} {a : Act} (hf : FrR ρ f a) {t : TypeId} {l c : Operand} {v : AV} (hv : evMakeSlice P f h t l c = some (v, h')) :
    Does P ρ base w0 (Instr.makeSlice t (a.eval l) (a.eval c)) w v h' := by
  unfold evMakeSlice at hv
  split at hv
  · rename_i e hd
    split at hv
    · rename_i ie hi
      split at hv
      · rename_i z hz
        split at hv
        · rename_i l' c' hl hc
          obtain ⟨kl, hl⟩ := natOf_real hl (evA_real hf l)
          obtain ⟨kc, hc⟩ := natOf_real hc (evA_real hf c)
          rw [hl, hc]
          split at hv
          · rename_i hlc
            have hlc := Nat.le_of_ble_eq_true hlc
            split at hv
            · rename_i hb
              have hb := Nat.le_of_ble_eq_true hb
              split at hv
              · rename_i h63
                have h63 := Nat.le_of_ble_eq_true h63
                have hrun := run_make (P := P) w t e ie z hd hi hz kl kc l' c' (by omega) (by omega) (by have : ((ie.bytes * c' : Nat) : Int) ≤ 281474976710656 := by omega
                                                                                                         rwa [Int.natCast_mul] at this) (by omega)
                simp only [Int.toNat_natCast] at hrun
                split at hv
                · rename_i z0 hs1 hz0
                  have hs1 := Nat.eq_of_beq_eq_true hs1
                  obtain ⟨rfl, rfl⟩ := Prod.mk.inj (Option.some.inj hv)
                  refine ⟨ρ.add h.nx ⟨w.heap.size, 0, 0⟩, _, _, hrun, (by simp [AV.real, add_self]), Env.le_add E.fresh0, E.alloc _ _ 0 ⟨_, (0, 0), rfl, .inl rfl, ?_, fun _ => ⟨rfl, ?_⟩, (fun sz hs => by cases hs), fun i b hb => ?_⟩⟩
                  · show 0 + c' ≤ _
                    rw [size_madeCells, hs1]; omega
                  · rw [size_madeCells, hs1]; omega
                  · obtain ⟨hlt, rfl⟩ := cellAt_some hb
                    refine ⟨z0, rfl, ?_⟩
                    have hzc : z.cells = #[z0] := by apply Array.ext'; simpa using hz0
                    show (madeCells z.cells (c' * ie.size))[0 + i]? = some z0
                    rw [hzc, hs1]
                    simp [madeCells, hlt, Nat.mod_one]
                · obtain ⟨rfl, rfl⟩ := Prod.mk.inj (Option.some.inj hv)
                  refine ⟨ρ.add h.nx ⟨w.heap.size, 0, 0⟩, _, _, hrun, (by simp [AV.real, add_self]), Env.le_add E.fresh0, ?_⟩
                  have := E.row (zerosL_real ρ z.cells (c' * ie.size)) e
                  rwa [Array.toArray_toList] at this
              · cases hv
            · cases hv
          · cases hv
        · cases hv
      · cases hv
    · cases hv
  · cases hv
def evMakeMap (P : Program) (f : Fr) (h : Hp) (t : TypeId) (r : Option Operand) : Option (AV × Hp) := match r with
  | none => some (.mp h.nx, h.new (.map [] 0))
  | some r => match P.underlying t with
    | some (.map _ _) => match natOf (evA f r) with
      | some _ => some (.mp h.nx, h.new (.map [] 0))
      | none => none
    | _ => none
theorem evMakeMap_ok {P : Program} {ρ : Env} {base : Nat} {w0 : World} {h h' : Hp} {w : World} (E : Emb ρ base w0 h w) {f : Fr} {a : Act} (hf : FrR ρ f a) {t : TypeId} {r : Option Operand} {v : AV} (hv : evMakeMap P f h t r = some (v, h')) :
    Does P ρ base w0 (Instr.makeMap t (r.map a.eval)) w v h' := by
  have fin : v = .mp h.nx → h' = h.new (.map [] 0) → (Instr.makeMap t (r.map a.eval)).run P w = .ok (.map (some w.heap.size)) (w.alloc (.map #[] 0)) → Does P ρ base w0 (Instr.makeMap t (r.map a.eval)) w v h' := fun e1 e2 h3 => by
    subst e1 e2
    exact ⟨ρ.add h.nx ⟨w.heap.size, 0, 0⟩, _, _, h3, by simp [AV.real, add_self], Env.le_add E.fresh0, E.alloc _ _ 0 ⟨#[], rfl, .nil⟩⟩
  unfold evMakeMap at hv
  split at hv
  · obtain ⟨rfl, rfl⟩ := Prod.mk.inj (Option.some.inj hv)
    exact fin rfl rfl rfl
  · rename_i r
    split at hv
    · rename_i k e hd
      split at hv
      · rename_i n hn
        obtain ⟨rfl, rfl⟩ := Prod.mk.inj (Option.some.inj hv)
        obtain ⟨kk, hk⟩ := natOf_real hn (evA_real hf r)
        refine fin rfl rfl ?_
        rw [Option.map_some, hk]
        simp [Instr.makeMap, Sem.run_bind, run_underlying hd, asInt, asIntOf]
      · cases hv
    · cases hv
end Go.Proofs.Ytloppjfdflacaaa
