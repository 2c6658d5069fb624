/- A reckoner of closed runs, 7: operations over values that name blocks, and that change none. Nothing of the program is used here. -/
import Derived.Test.YtnpdnlnglahicaaGreatDoorEvPlain
namespace Go.Proofs.YtnpdnlnglahicaaGreatDoor
open Go.RowKit

/-- A value's work that leaves the world as it is. -/
def Gives (P : Program) (ρ : Env) (s : Sem Value) (w : World) (v : AV) : Prop := ∃ x, s.run P w = .ok x w ∧ v.real ρ = some x
theorem Gives.does {P : Program} {ρ : Env} {base : Kp} {w0 : World} {h : Hp} {w : World} (E : Emb ρ base w0 h w) {s : Sem Value} {v : AV} (G : Gives P ρ s w v) : Does P ρ base w0 s w v h :=
  let ⟨_, h1, h2⟩ := G; does_pure E h1 h2

theorem evLoad_gives {P : Program} {ρ : Env} {base : Kp} {w0 : World} {h : Hp} {w : World} (E : Emb ρ base w0 h w) {t : TypeId} {a v : AV} {x : Value} (ha : a.real ρ = some x) (hv : evLoad P h t a = some v) : Gives P ρ (Instr.loadAt t x) w v := by
  unfold evLoad at hv
  split at hv
  · rename_i id off
    simp only [AV.real, Option.map_eq_some_iff] at ha
    obtain ⟨l, hl, rfl⟩ := ha
    split at hv
    · rename_i tr n elem opn hg
      split at hv
      · rename_i d hd
        split at hv
        · rename_i hag
          split at hv
          · rename_i i hi
            simp only [Option.map_eq_some_iff] at hv
            obtain ⟨cz, has, rfl⟩ := hv
            obtain ⟨xs, h1, h2, h3, h4⟩ := E.loadsRun (P := P) hg hl (readC_ok has)
            refine ⟨.agg xs.toArray, ?_, ck_real h1⟩
            simp [Instr.loadAt, Instr.sureAddr, loadVar, Sem.run_bind, run_isAgg hd, hag, sizeOf, typeInfo, hi, h4]
          · cases hv
        · rename_i hag
          obtain ⟨x, hx, hc, _⟩ := E.load hg hl hv
          refine ⟨x, ?_, hx⟩
          simp [Instr.loadAt, Instr.sureAddr, loadVar, Sem.run_bind, run_isAgg hd, hag, load, Sem.run, hc]
      · cases hv
    · cases hv
  · cases hv

noncomputable def evExtract (a : AV) (ix : Nat) : Option AV := match a with
  | .tup vs => vs[ix]?
  | _ => none
theorem evExtract_ok {P : Program} {ρ : Env} {a v : AV} {x : Value} {ix : Nat} (w : World) (ha : a.real ρ = some x) (h : evExtract a ix = some v) : Gives P ρ (Instr.extract x ix) w v := by
  unfold evExtract at h
  split at h
  · rename_i vs
    simp only [AV.real, Option.map_eq_some_iff] at ha
    obtain ⟨l, hl, rfl⟩ := ha
    obtain ⟨y, hy, hj⟩ := reals_at hl ix v h
    refine ⟨y, ?_, hy⟩
    have : l.toArray[ix]? = some y := by simpa using hj
    simp [Instr.extract, this]
  · cases h

noncomputable def evPart (P : Program) (t : TypeId) (cs : List AV) (off : Nat) : Option AV := match P.underlying t with
  | some d => match isAggD d with
    | true => match P.info? t with
      | some i => some (.agg ((cs.drop off).take i.size))
      | none => none
    | false => cs[off]?
  | none => none
theorem evPart_ok {P : Program} {ρ : Env} {t : TypeId} {cs : List AV} {C : Array Value} {off : Nat} {v : AV} (w : World) (hc : AV.reals ρ cs = some C.toList) (h : evPart P t cs off = some v) : Gives P ρ (part t C off) w v := by
  unfold evPart at h
  split at h
  · rename_i d hd
    split at h
    · rename_i hag
      split at h
      · rename_i i hi
        obtain rfl := Option.some.inj h
        refine ⟨.agg (C.extract off (off + i.size)), ?_, ?_⟩
        · simp [part, Sem.run_bind, run_isAgg hd, hag, sizeOf, typeInfo, hi]
        · have := reals_take i.size (reals_drop off hc)
          simp only [AV.real, this, Option.map_some, Option.some.injEq, Value.agg.injEq]
          apply Array.ext'
          simp
      · cases h
    · rename_i hag
      obtain ⟨y, hy, hj⟩ := reals_at hc off v h
      refine ⟨y, ?_, hy⟩
      have : C[off]? = some y := by simpa using hj
      simp [part, Sem.run_bind, run_isAgg hd, hag, this]
  · cases h
/-- A part of packed cells. -/
noncomputable def evPartF (P : Program) (t : TypeId) (n N off : Nat) : Option AV := match P.underlying t with
  | some d => match isAggD d with
    | true => match P.info? t with
      | some i => match Nat.ble (Nat.add off i.size) n with
        | true => some (.flat i.size (chunkN N off i.size))
        | false => none
      | none => none
    | false => match Nat.blt off n with
      | true => some (unpackA (cellN N off))
      | false => none
  | none => none
theorem evPartF_ok {P : Program} {ρ : Env} {t : TypeId} {n N off : Nat} {v : AV} (w : World) (h : evPartF P t n N off = some v) : Gives P ρ (part t (unpackL n N).toArray off) w v := by
  unfold evPartF at h
  split at h
  · rename_i d hd
    split at h
    · rename_i hag
      split at h
      · rename_i i hi
        split at h
        case h_2 => cases h
        rename_i hle
        have hle : off + i.size ≤ n := Nat.le_of_ble_eq_true hle
        obtain rfl := Option.some.inj h
        refine ⟨.agg ((unpackL n N).toArray.extract off (off + i.size)), ?_, ?_⟩
        · simp [part, Sem.run_bind, run_isAgg hd, hag, sizeOf, typeInfo, hi]
        · simp only [AV.real, Option.some.injEq, Value.agg.injEq]
          apply Array.ext'
          apply List.ext_getElem?
          intro j
          simp only [List.toList_toArray, List.extract_toArray, List.extract_eq_take_drop, Nat.add_sub_cancel_left]
          rw [List.getElem?_take]
          by_cases hj : j < i.size
          · rw [if_pos hj, List.getElem?_drop, unpackL_get _ _ _ hj, unpackL_get _ _ _ (by omega), cellN_chunk _ _ _ _ hj]
          · rw [if_neg hj, List.getElem?_eq_none (by rw [unpackL_len]; omega)]
      · cases h
    · rename_i hag
      split at h
      case h_2 => cases h
      rename_i hlt
      rw [blt_eq] at hlt
      have hlt := of_decide_eq_true hlt
      obtain rfl := Option.some.inj h
      refine ⟨unpackV (cellN N off), ?_, by rw [unpackA_eq]; rfl⟩
      have : (unpackL n N).toArray[off]? = some (unpackV (cellN N off)) := by rw [List.getElem?_toArray]; exact unpackL_get _ _ _ hlt
      simp [part, Sem.run_bind, run_isAgg hd, hag, this]
  · cases h
noncomputable def evField (P : Program) (t : TypeId) (a : AV) (ix : Nat) : Option AV := match a with
  | .agg cs => match P.underlying t with
    | some (.struct fields) => match fields[ix]? with
      | some f => evPart P f.type cs f.offset
      | none => none
    | _ => none
  | .flat n N => match P.underlying t with
    | some (.struct fields) => match fields[ix]? with
      | some f => evPartF P f.type n N f.offset
      | none => none
    | _ => none
  | _ => none
theorem evField_ok {P : Program} {ρ : Env} {t : TypeId} {a v : AV} {x : Value} {ix : Nat} (w : World) (ha : a.real ρ = some x) (h : evField P t a ix = some v) : Gives P ρ (Instr.field t x ix) w v := by
  unfold evField at h
  split at h
  · rename_i cs
    simp only [AV.real, Option.map_eq_some_iff] at ha
    obtain ⟨l, hl, rfl⟩ := ha
    split at h
    · rename_i fields hd
      split at h
      · rename_i f hf
        obtain ⟨y, h1, h2⟩ := evPart_ok (C := l.toArray) w (by simpa using hl) h
        refine ⟨y, ?_, h2⟩
        simp [Instr.field, Sem.run_bind, run_underlying hd, hf, asAgg, h1]
      · cases h
    · cases h
  · rename_i n N
    obtain rfl := Option.some.inj ha
    split at h
    · rename_i fields hd
      split at h
      · rename_i f hf
        obtain ⟨y, h1, h2⟩ := evPartF_ok (ρ := ρ) w h
        refine ⟨y, ?_, h2⟩
        simp [Instr.field, Sem.run_bind, run_underlying hd, hf, asAgg, h1]
      · cases h
    · cases h
  · cases h
def evIface (P : Program) (t : TypeId) (a : AV) : Option AV := match P.underlying t with
  | some (.interface _) => none
  | some _ => some (.ifc t a)
  | none => none
theorem evIface_ok {P : Program} {ρ : Env} {t : TypeId} {a v : AV} {x : Value} (w : World) (ha : a.real ρ = some x) (h : evIface P t a = some v) : Gives P ρ (Instr.makeInterface t x) w v := by
  unfold evIface at h
  split at h
  · cases h
  · rename_i d hn hd
    obtain rfl := Option.some.inj h
    refine ⟨.iface t x, ?_, by simp [AV.real, ha]⟩
    unfold Instr.makeInterface
    rw [Sem.run_bind, run_underlying hd]
    cases d <;> first | rfl | exact (hn _ rfl).elim
  · cases h
noncomputable def evFn (f : Fr) (fn : Fn) (first captured : Array Operand) : AV := .fn fn (evAs f first.toList) (evAs f captured.toList)
theorem evFn_ok {P : Program} {ρ : Env} {f : Fr} {a : Act} (hf : FrR ρ f a) (w : World) (fn : Fn) (first captured : Array Operand) : Gives P ρ (Instr.makeFunc fn (first.map a.eval) (captured.map a.eval)) w (evFn f fn first captured) := by
  refine ⟨.func fn (first.map a.eval) (captured.map a.eval), rfl, ?_⟩
  simp only [evFn, AV.real, evAs_real hf, Option.bind_some, Option.map_some, Option.some.injEq, Value.func.injEq, true_and]
  exact ⟨by apply Array.ext'; simp, by apply Array.ext'; simp⟩
def evHolds (ok : Bool) (v : AV) : AV := match ok with
  | true => .tup [v, .v (.bool true)]
  | false => v
def evAssert (P : Program) (a : AV) (asserted : TypeId) (ok : Bool) : Option AV := match a with
  | .ifc t v => match P.underlying asserted with
    | some (.interface want) => match P.info? t with
      | some i => match Instr.missingMethod want i.methods with
        | none => some (evHolds ok a)
        | some _ => none
      | none => none
    | some _ => match Nat.beq t asserted with
      | true => some (evHolds ok v)
      | false => match ok with
        | true => match P.info? asserted with
          | some i => match i.zero with
            | some z => some (.tup [.v z, .v (.bool false)])
            | none => none
          | none => none
        | false => none
    | none => none
  | _ => none
theorem evHolds_real {ρ : Env} {v : AV} {y : Value} (h : v.real ρ = some y) (ok : Bool) : (evHolds ok v).real ρ = some (if ok then .tuple #[y, .bool true] else y) := by
  cases ok with
  | true => simp [evHolds, AV.real, AV.reals, h]
  | false => simpa [evHolds] using h
theorem evAssert_ok {P : Program} {ρ : Env} {a v : AV} {x : Value} (w : World) (xType asserted : TypeId) (ok : Bool) (ha : a.real ρ = some x) (h : evAssert P a asserted ok = some v) : Gives P ρ (Instr.typeAssert x xType asserted ok) w v := by
  unfold evAssert at h
  split at h
  · rename_i t b
    have ha0 := ha
    simp only [AV.real, Option.map_eq_some_iff] at ha
    obtain ⟨y, hy, rfl⟩ := ha
    split at h
    · rename_i want hd
      split at h
      · rename_i i hi
        split at h
        · rename_i hm
          obtain rfl := Option.some.inj h
          refine ⟨_, ?_, evHolds_real ha0 ok⟩
          unfold Instr.typeAssert
          rw [Sem.run_bind, run_underlying hd]
          simp [Sem.run_bind, typeInfo, hi, hm]
        · cases h
      · cases h
    · rename_i d hn hd
      split at h
      · rename_i he
        obtain rfl := Nat.eq_of_beq_eq_true he
        obtain rfl := Option.some.inj h
        refine ⟨_, ?_, evHolds_real hy ok⟩
        unfold Instr.typeAssert
        rw [Sem.run_bind, run_underlying hd]
        cases d <;> first | (exact (hn _ rfl).elim) | simp
      · rename_i he
        have hne : t ≠ asserted := fun e => by rw [e] at he; simp at he
        split at h
        · split at h
          · rename_i i hi
            split at h
            · rename_i z hz
              obtain rfl := Option.some.inj h
              refine ⟨.tuple #[z, .bool false], ?_, by simp [AV.real, AV.reals]⟩
              unfold Instr.typeAssert
              rw [Sem.run_bind, run_underlying hd]
              cases d <;> first | (exact (hn _ rfl).elim) | simp [hne, Sem.run_bind, zeroValue, typeInfo, hi, hz]
            · cases h
          · cases h
        · cases h
    · cases h
  · cases h
def evFieldAddr (P : Program) (s : TypeId) (a : AV) (ix : Nat) : Option AV := match a with
  | .ptr id off => match P.underlying s with
    | some (.struct fields) => match fields[ix]? with
      | some f => match P.info? f.type with
        | some i => match Nat.beq i.size 0 with
          | true => none
          | false => some (.ptr id (off + f.offset))
        | none => none
      | none => none
    | _ => none
  | _ => none
theorem evFieldAddr_ok {P : Program} {ρ : Env} {s : TypeId} {a v : AV} {x : Value} {ix : Nat} (w : World) (ha : a.real ρ = some x) (h : evFieldAddr P s a ix = some v) : Gives P ρ (Instr.fieldAt s x ix) w v := by
  unfold evFieldAddr at h
  split at h
  · rename_i id off
    simp only [AV.real, Option.map_eq_some_iff] at ha
    obtain ⟨l, hl, rfl⟩ := ha
    split at h
    · rename_i fields hd
      split at h
      · rename_i f hf
        split at h
        · rename_i i hi
          split at h
          · cases h
          · rename_i hz
            obtain rfl := Option.some.inj h
            have hne : i.size ≠ 0 := fun e => by rw [e] at hz; cases hz
            refine ⟨.pointer (some ⟨l.blk, l.off + (off + f.offset), none⟩), ?_, by simp [AV.real, hl]⟩
            simp [Instr.fieldAt, Sem.run_bind, run_underlying hd, hf, Instr.sureAddr, fieldPlace, sizeOf, typeInfo, hi, hne, Addr.add_plain, Nat.add_assoc]
        · cases h
      · cases h
    · cases h
  · cases h
theorem run_size {P : Program} {t : TypeId} {i : TypeInfo} (h : P.info? t = some i) (w : World) : (sizeOf t).run P w = .ok i.size w := by
  simp [sizeOf, typeInfo, h, Sem.run_bind]
def evIndexAddr (P : Program) (t : TypeId) (a ix : AV) : Option AV := match ix with
  | .v (.int _ (.ofNat i)) => match P.underlying t, a with
    | some (.slice elem), .slc id off len _ _ => match Nat.blt i len with
      | true => match P.info? elem with
        | some j => some (.ptr id (off + i * j.size))
        | none => none
      | false => none
    | some (.array len elem), .ptr id off => match Nat.blt i len with
      | true => match P.info? elem with
        | some j => some (.ptr id (off + i * j.size))
        | none => none
      | false => none
    | _, _ => none
  | _ => none
theorem evIndexAddr_ok {P : Program} {ρ : Env} {t : TypeId} {a ix v : AV} {x y : Value} (w : World) (ha : a.real ρ = some x) (hi : ix.real ρ = some y) (h : evIndexAddr P t a ix = some v) : Gives P ρ (Instr.indexAt t x y) w v := by
  unfold evIndexAddr at h
  split at h
  · rename_i k i
    simp only [AV.real, Option.some.injEq] at hi
    subst hi
    split at h
    · rename_i elem id off len cap ex hd
      simp only [AV.real, Option.map_eq_some_iff] at ha
      obtain ⟨l, hl, rfl⟩ := ha
      split at h
      · rename_i hlt
        rw [blt_eq] at hlt
        have hlt := of_decide_eq_true hlt
        split at h
        · rename_i j hj
          obtain rfl := Option.some.inj h
          refine ⟨.pointer (some ⟨l.blk, l.off + (off + i * j.size), none⟩), ?_, by simp [AV.real, hl]⟩
          have h1 : (0 : Int) ≤ Int.ofNat i ∧ Int.ofNat i < (len : Int) := ⟨Int.natCast_nonneg i, Int.ofNat_lt.2 hlt⟩
          have h2 : (Int.ofNat i).toNat = i := rfl
          simp only [Instr.indexAt, Sem.run_bind, run_underlying hd, asIntOf, Result.andThen_ok, Sem.run_pure, h1, and_self, if_true, run_size hj, h2, Addr.add_plain, Nat.add_assoc]
        · cases h
      · cases h
    · rename_i len elem id off hd
      simp only [AV.real, Option.map_eq_some_iff] at ha
      obtain ⟨l, hl, rfl⟩ := ha
      split at h
      · rename_i hlt
        rw [blt_eq] at hlt
        have hlt := of_decide_eq_true hlt
        split at h
        · rename_i j hj
          obtain rfl := Option.some.inj h
          refine ⟨.pointer (some ⟨l.blk, l.off + (off + i * j.size), none⟩), ?_, by simp [AV.real, hl]⟩
          have h1 : (0 : Int) ≤ Int.ofNat i ∧ Int.ofNat i < (len : Int) := ⟨Int.natCast_nonneg i, Int.ofNat_lt.2 hlt⟩
          have h2 : (Int.ofNat i).toNat = i := rfl
          simp only [Instr.indexAt, Sem.run_bind, run_underlying hd, asIntOf, Result.andThen_ok, Sem.run_pure, h1, and_self, if_true, run_size hj, h2, Addr.add_plain, Nat.add_assoc, Instr.sureAddr]
        · cases h
      · cases h
    · cases h
  · cases h
end Go.Proofs.YtnpdnlnglahicaaGreatDoor
