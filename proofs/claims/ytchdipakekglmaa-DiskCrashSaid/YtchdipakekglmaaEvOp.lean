/- A reckoner of closed runs, 13: equality of values that name blocks; every operation. Nothing of the program is used here. -/
import Derived.Test.YtchdipakekglmaaEvMark
import Derived.LaidEql
namespace Go.Proofs.Ytchdipakekglmaa
open Go.RowKit

noncomputable def evStr (P : Program) (h : Hp) (src dst : TypeId) (a : AV) : Option AV := match a with
  | .slc id off len _ _ => match P.underlying src, P.underlying dst with
    | some (.slice e), some .string => match P.underlying e with
      | some (.int .u8) => match Nat.beq len 0 with
        | true => some (.v (.string (str [])))
        | false => match h.get id with
          | .cells t n _ _ => match readC t n len off with
            | some cs => match bytesA cs.list with
              | some l => some (.v (.string (str l)))
              | none => none
            | none => none
          | _ => none
      | _ => none
    | _, _ => none
  | _ => none
theorem evStr_ok {P : Program} {ρ : Env} {base : Kp} {w0 : World} {h : Hp} {w : World} (E : Emb ρ base w0 h w) {src dst : TypeId} {a v : AV} {x : Value} (ha : a.real ρ = some x) (hv : evStr P h src dst a = some v) : Gives P ρ (convert src dst x) w v := by
  unfold evStr at hv
  split at hv
  case h_2 => cases hv
  rename_i id off len cap ex
  simp only [AV.real, Option.map_eq_some_iff] at ha
  obtain ⟨l, hl, rfl⟩ := ha
  split at hv
  case h_2 => cases hv
  rename_i e hs hd
  split at hv
  case h_2 => cases hv
  rename_i he
  split at hv
  · rename_i h0
    obtain rfl := Nat.eq_of_beq_eq_true h0
    obtain rfl := Option.some.inj hv
    exact ⟨.string (str []), run_str w src dst e _ _ _ [] hs he hd rfl (.inl rfl), rfl⟩
  split at hv
  case h_2 => cases hv
  rename_i t n elem opn hg
  split at hv
  case h_2 => cases hv
  rename_i cs hcs
  split at hv
  case h_2 => cases hv
  rename_i bs hbs
  obtain rfl := Option.some.inj hv
  obtain ⟨xs, h1, h2, _, h4⟩ := E.loads hg hl _ _ _ (readC_ok hcs)
  have h5 := bytesA_real ρ cs.list bs hbs
  rw [h1] at h5
  obtain rfl := Option.some.inj h5
  rw [List.length_map] at h2
  refine ⟨.string (str bs), run_str w src dst e _ _ _ bs hs he hd h2.symm (.inr ⟨l.blk, l.off + off, rfl, (E.fresh id l hl).2, fun k hk => ?_⟩), rfl⟩
  exact h4 k _ (List.getElem?_eq_getElem (by simpa using hk))
noncomputable def tight (h : Hp) (id : Nat) : Bool := match h.get id with
  | .cells _ _ _ none => true
  | _ => false
theorem tight_row {ρ : Env} {base : Kp} {w0 : World} {h : Hp} {w : World} (E : Emb ρ base w0 h w) {id : Nat} (ht : tight h id = true) {l : Loc} (hl : ρ id = some l) : h.get id ≠ .gone ∧ ∃ C e, w.heap[l.blk]? = some (.cells C e (0, 0)) := by
  unfold tight at ht
  split at ht
  · rename_i t n elem hg
    obtain ⟨l', C, fz, hl', _, hC, hfz, _⟩ := E.cells hg
    obtain rfl := Option.some.inj (hl.symm.trans hl')
    rcases hfz with rfl | ⟨h1, _⟩
    · exact ⟨(by rw [hg]; exact fun e => by cases e), C, elem, hC⟩
    · exact absurd rfl h1
  · cases ht
noncomputable def evEq (P : Program) (h : Hp) : Nat → TypeId → AV → AV → Option Bool
  | 0, _, _, _ => none
  | d + 1, t, a, b => match a, b with
    | .ptr _ _, .v (.pointer none) => match P.underlying t with
      | some (.pointer _) => some false
      | _ => none
    | .v (.pointer none), .ptr _ _ => match P.underlying t with
      | some (.pointer _) => some false
      | _ => none
    | .ptr id off, .ptr id' off' => match P.underlying t with
      | some (.pointer e) => match P.info? e with
        | some i => match Nat.beq i.size 0 with
          | true => none
          | false => match Nat.beq id id' with
            | true => some (Nat.beq off off')
            | false => match tight h id with
              | true => match tight h id' with
                | true => some false
                | false => none
              | false => none
        | none => none
      | _ => none
    | .slc _ _ _ _ _, .v (.slice none _ _) => match P.underlying t with
      | some (.slice _) => some false
      | _ => none
    | .v (.slice none _ _), .slc _ _ _ _ _ => match P.underlying t with
      | some (.slice _) => some false
      | _ => none
    | .mp _, .v (.map none) => match P.underlying t with
      | some (.map _ _) => some false
      | _ => none
    | .v (.map none), .mp _ => match P.underlying t with
      | some (.map _ _) => some false
      | _ => none
    | .fn _ _ _, .v .nilFunc => match P.underlying t with
      | some (.func _ _ _) => some false
      | _ => none
    | .ifc _ _, .v .nilIface => match P.underlying t with
      | some (.interface _) => some false
      | _ => none
    | .v .nilIface, .ifc _ _ => match P.underlying t with
      | some (.interface _) => some false
      | _ => none
    | .ifc s x, .ifc s' y => match P.underlying t with
      | some (.interface _) => match Nat.beq s s' with
        | false => some false
        | true => match P.info? s with
          | some i => match i.comparable with
            | true => evEq P h d s x y
            | false => none
          | none => none
      | _ => none
    | .ifc s x, .v (.iface s' y) => match P.underlying t with
      | some (.interface _) => match Nat.beq s s' with
        | false => some false
        | true => match P.info? s with
          | some i => match i.comparable with
            | true => evEq P h d s x (.v y)
            | false => none
          | none => none
      | _ => none
    | .v (.iface s x), .ifc s' y => match P.underlying t with
      | some (.interface _) => match Nat.beq s s' with
        | false => some false
        | true => match P.info? s with
          | some i => match i.comparable with
            | true => evEq P h d s (.v x) y
            | false => none
          | none => none
      | _ => none
    | _, _ => none
noncomputable def eqish : Value → Value → Bool
  | .pointer _, _ => true
  | .slice _ _ _, _ => true
  | .map _, _ => true
  | .func _ _ _, _ => true
  | .iface _ _, _ => true
  | .nilIface, .iface _ _ => true
  | _, _ => false
theorem iface_eq {P : Program} {w : World} {d : Nat} {t s s' : TypeId} {x y : Value} {ms : Array (String × TypeId)} (hd : P.underlying t = some (.interface ms)) :
    (Nat.beq s s' = false → (Op.equalIn (d + 1) t (.iface s x) (.iface s' y)).run P w = .ok false w) ∧
    (∀ i b, Nat.beq s s' = true → P.info? s = some i → i.comparable = true → (Op.equalIn d s x y).run P w = .ok b w → (Op.equalIn (d + 1) t (.iface s x) (.iface s' y)).run P w = .ok b w) := by
  constructor
  · intro h
    have hne : s ≠ s' := fun e => by rw [e] at h; simp at h
    simp [Op.equalIn, run_underlying hd, hne]
  · intro i b h hi hc hr
    obtain rfl := Nat.eq_of_beq_eq_true h
    simp [Op.equalIn, run_underlying hd, typeInfo, hi, hc, hr]
theorem evEq_ok {P : Program} {ρ : Env} {base : Kp} {w0 : World} {h : Hp} {w : World} (E : Emb ρ base w0 h w) : ∀ (d : Nat) (t : TypeId) (a b : AV) (x y : Value) (r : Bool), a.real ρ = some x → b.real ρ = some y → evEq P h d t a b = some r →
    eqish x y = true ∧ ∀ d', d ≤ d' → (Op.equalIn d' t x y).run P w = .ok r w
  | 0, t, a, b, x, y, r, _, _, hr => by cases hr
  | d + 1, t, a, b, x, y, r, ha, hb, hr => by
    have key : (∀ d', (Op.equalIn (d' + 1) t x y).run P w = .ok r w) → ∀ d', d + 1 ≤ d' → (Op.equalIn d' t x y).run P w = .ok r w := fun k d' hd' => by
      obtain ⟨d'', rfl⟩ : ∃ d'', d' = d'' + 1 := ⟨d' - 1, by omega⟩
      exact k d''
    unfold evEq at hr
    split at hr
    case h_1 =>
      simp only [AV.real, Option.map_eq_some_iff, Option.some.injEq] at ha hb
      obtain ⟨l, _, rfl⟩ := ha
      subst hb
      split at hr
      · rename_i e hd
        obtain rfl := Option.some.inj hr
        exact ⟨rfl, key fun d' => by simp [Op.equalIn, run_underlying hd]⟩
      · cases hr
    case h_2 =>
      simp only [AV.real, Option.map_eq_some_iff, Option.some.injEq] at ha hb
      obtain ⟨l, _, rfl⟩ := hb
      subst ha
      split at hr
      · rename_i e hd
        obtain rfl := Option.some.inj hr
        exact ⟨rfl, key fun d' => by simp [Op.equalIn, run_underlying hd]⟩
      · cases hr
    case h_3 =>
      rename_i id off id' off'
      simp only [AV.real, Option.map_eq_some_iff] at ha hb
      obtain ⟨l, hl, rfl⟩ := ha
      obtain ⟨l', hl', rfl⟩ := hb
      split at hr
      case h_2 => cases hr
      rename_i e hd
      split at hr
      case h_2 => cases hr
      rename_i i hi
      split at hr
      · cases hr
      · rename_i hz
        have hne : i.size ≠ 0 := fun e' => by rw [e'] at hz; cases hz
        have hsz := run_size hi w
        split at hr
        · rename_i hid
          obtain rfl := Nat.eq_of_beq_eq_true hid
          obtain rfl := Option.some.inj (hl.symm.trans hl')
          obtain rfl := Option.some.inj hr
          refine ⟨rfl, key fun d' => ?_⟩
          have : ((⟨l.blk, l.off + off, none⟩ : Addr) == ⟨l.blk, l.off + off', none⟩) = Nat.beq off off' := by
            cases hb : Nat.beq off off' with
            | true => obtain rfl := Nat.eq_of_beq_eq_true hb; simp
            | false =>
              have h1 : off ≠ off' := fun e' => by rw [e'] at hb; simp at hb
              exact beq_false_of_ne fun e' => h1 (by have := congrArg Addr.off e'; simpa using this)
          simp [Op.equalIn, run_underlying hd, hsz, hne, sameAddr, this]
        · rename_i hid
          have hidn : id ≠ id' := fun e' => by rw [e'] at hid; simp at hid
          split at hr
          case h_2 => cases hr
          rename_i ht
          split at hr
          case h_2 => cases hr
          rename_i ht'
          obtain rfl := Option.some.inj hr
          obtain ⟨hg, C, e1, hC⟩ := tight_row E ht hl
          obtain ⟨hg', C', e2, hC'⟩ := tight_row E ht' hl'
          have hbn : l.blk ≠ l'.blk := fun e' => hidn (E.apart id id' l l' hg hg' hl hl' e')
          refine ⟨rfl, key fun d' => ?_⟩
          have := run_sameAddr_other (P := P) (w := w) (a := ⟨l.blk, l.off + off, none⟩) (b := ⟨l'.blk, l'.off + off', none⟩) (fun e' => hbn (by injection e')) hC hC'
          simp [Op.equalIn, run_underlying hd, hsz, hne, this]
    case h_4 =>
      simp only [AV.real, Option.map_eq_some_iff, Option.some.injEq] at ha hb
      obtain ⟨l, _, rfl⟩ := ha
      subst hb
      split at hr
      · rename_i e hd
        obtain rfl := Option.some.inj hr
        exact ⟨rfl, key fun d' => by simp [Op.equalIn, run_underlying hd]⟩
      · cases hr
    case h_5 =>
      simp only [AV.real, Option.map_eq_some_iff, Option.some.injEq] at ha hb
      obtain ⟨l, _, rfl⟩ := hb
      subst ha
      split at hr
      · rename_i e hd
        obtain rfl := Option.some.inj hr
        exact ⟨rfl, key fun d' => by simp [Op.equalIn, run_underlying hd]⟩
      · cases hr
    case h_6 =>
      simp only [AV.real, Option.map_eq_some_iff, Option.some.injEq] at ha hb
      obtain ⟨l, _, rfl⟩ := ha
      subst hb
      split at hr
      · rename_i k e hd
        obtain rfl := Option.some.inj hr
        exact ⟨rfl, key fun d' => by simp [Op.equalIn, run_underlying hd]⟩
      · cases hr
    case h_7 =>
      simp only [AV.real, Option.map_eq_some_iff, Option.some.injEq] at ha hb
      obtain ⟨l, _, rfl⟩ := hb
      subst ha
      split at hr
      · rename_i k e hd
        obtain rfl := Option.some.inj hr
        exact ⟨rfl, key fun d' => by simp [Op.equalIn, run_underlying hd]⟩
      · cases hr
    case h_8 =>
      simp only [AV.real, Option.bind_eq_some_iff, Option.map_eq_some_iff, Option.some.injEq] at ha hb
      obtain ⟨_, _, _, _, rfl⟩ := ha
      subst hb
      split at hr
      · rename_i p q v hd
        obtain rfl := Option.some.inj hr
        exact ⟨rfl, key fun d' => by simp [Op.equalIn, run_underlying hd]⟩
      · cases hr
    case h_9 =>
      simp only [AV.real, Option.map_eq_some_iff, Option.some.injEq] at ha hb
      obtain ⟨_, _, rfl⟩ := ha
      subst hb
      split at hr
      · rename_i ms hd
        obtain rfl := Option.some.inj hr
        exact ⟨rfl, key fun d' => by simp [Op.equalIn, run_underlying hd]⟩
      · cases hr
    case h_10 =>
      simp only [AV.real, Option.map_eq_some_iff, Option.some.injEq] at ha hb
      obtain ⟨_, _, rfl⟩ := hb
      subst ha
      split at hr
      · rename_i ms hd
        obtain rfl := Option.some.inj hr
        exact ⟨rfl, key fun d' => by simp [Op.equalIn, run_underlying hd]⟩
      · cases hr
    case h_11 =>
      rename_i s x1 s' y1
      simp only [AV.real, Option.map_eq_some_iff] at ha hb
      obtain ⟨x2, hx2, rfl⟩ := ha
      obtain ⟨y2, hy2, rfl⟩ := hb
      split at hr
      case h_2 => cases hr
      rename_i ms hd
      refine ⟨rfl, fun d' hd' => ?_⟩
      obtain ⟨d'', rfl⟩ : ∃ d'', d' = d'' + 1 := ⟨d' - 1, by omega⟩
      split at hr
      · rename_i hs
        obtain rfl := Option.some.inj hr
        exact (iface_eq hd).1 hs
      · rename_i hs
        split at hr
        case h_2 => cases hr
        rename_i i hi
        split at hr
        case h_2 => cases hr
        rename_i hc
        exact (iface_eq hd).2 i r hs hi hc ((evEq_ok E d s x1 y1 x2 y2 r hx2 hy2 hr).2 d'' (by omega))
    case h_12 =>
      rename_i s x1 s' y1
      simp only [AV.real, Option.map_eq_some_iff, Option.some.injEq] at ha hb
      obtain ⟨x2, hx2, rfl⟩ := ha
      subst hb
      split at hr
      case h_2 => cases hr
      rename_i ms hd
      refine ⟨rfl, fun d' hd' => ?_⟩
      obtain ⟨d'', rfl⟩ : ∃ d'', d' = d'' + 1 := ⟨d' - 1, by omega⟩
      split at hr
      · rename_i hs
        obtain rfl := Option.some.inj hr
        exact (iface_eq hd).1 hs
      · rename_i hs
        split at hr
        case h_2 => cases hr
        rename_i i hi
        split at hr
        case h_2 => cases hr
        rename_i hc
        exact (iface_eq hd).2 i r hs hi hc ((evEq_ok E d s x1 (.v y1) x2 y1 r hx2 rfl hr).2 d'' (by omega))
    case h_13 =>
      rename_i s x1 s' y1
      simp only [AV.real, Option.map_eq_some_iff, Option.some.injEq] at ha hb
      obtain ⟨y2, hy2, rfl⟩ := hb
      subst ha
      split at hr
      case h_2 => cases hr
      rename_i ms hd
      refine ⟨rfl, fun d' hd' => ?_⟩
      obtain ⟨d'', rfl⟩ : ∃ d'', d' = d'' + 1 := ⟨d' - 1, by omega⟩
      split at hr
      · rename_i hs
        obtain rfl := Option.some.inj hr
        exact (iface_eq hd).1 hs
      · rename_i hs
        split at hr
        case h_2 => cases hr
        rename_i i hi
        split at hr
        case h_2 => cases hr
        rename_i hc
        exact (iface_eq hd).2 i r hs hi hc ((evEq_ok E d s (.v x1) y1 x1 y2 r rfl hy2 hr).2 d'' (by omega))
    case h_14 => cases hr
theorem run_eql {P : Program} {w : World} {t : TypeId} {x y : Value} {xo yo : Operand} {b : Bool} (he : eqish x y = true) (h : (Op.equalIn 10000 t x y).run P w = .ok b w) :
    (do eqGuard .eql t xo yo x y; binOp .eql t x y : Sem Value).run P w = .ok (.bool b) w ∧ (do eqGuard .neq t xo yo x y; binOp .neq t x y : Sem Value).run P w = .ok (.bool !b) w := by
  have h' : (Op.equal t x y).run P w = .ok b w := h
  have hg : ∀ op, (eqGuard op t xo yo x y).run P w = .ok () w := fun op => by
    cases x <;> simp only [eqish, Bool.false_eq_true] at he <;> (cases op <;> first | rfl | (cases y <;> first | rfl | (cases he; done)))
  constructor
  · rw [Sem.run_bind, hg, Result.andThen_ok]
    cases x <;> simp only [eqish, Bool.false_eq_true] at he <;> simp [binOp, h']
  · rw [Sem.run_bind, hg, Result.andThen_ok]
    cases x <;> simp only [eqish, Bool.false_eq_true] at he <;> simp [binOp, h']
noncomputable def evBin0 (P : Program) (f : Fr) (h : Hp) (op : BinOp) (t : TypeId) (x y : Operand) : R := match op with
  | .eql => match evEq P h 8 t (evA f x) (evA f y) with
    | some b => .val (.v (.bool b)) h
    | none => .bad
  | .neq => match evEq P h 8 t (evA f x) (evA f y) with
    | some b => .val (.v (.bool !b)) h
    | none => .bad
  | _ => .bad
noncomputable def evBin (P : Program) (f : Fr) (h : Hp) (op : BinOp) (t : TypeId) (x y : Operand) : R := match evI2 op (evA f x) (evA f y) with
  | some v => .val (.v v) h
  | none => evBin0 P f h op t x y
noncomputable def evConv (P : Program) (h : Hp) (src dst : TypeId) (x : AV) : Option AV := match evConvI P src dst x with
  | some v => some v
  | none => evStr P h src dst x
theorem evConv_ok {P : Program} {ρ : Env} {base : Kp} {w0 : World} {h : Hp} {w : World} (E : Emb ρ base w0 h w) {src dst : TypeId} {a v : AV} {x : Value} (ha : a.real ρ = some x) (hv : evConv P h src dst a = some v) : Gives P ρ (convert src dst x) w v := by
  unfold evConv at hv
  split at hv
  · rename_i u hu
    obtain rfl := Option.some.inj hv
    exact evConvI_ok ha hu
  · exact evStr_ok E ha hv
noncomputable def evConvR (P : Program) (h : Hp) (src dst : TypeId) (x : AV) : Option (AV × Hp) := match evConv P h src dst x with
  | some v => some (v, h)
  | none => evMark P h src dst x
theorem evConvR_ok {P : Program} {ρ : Env} {base : Kp} {w0 : World} {h h' : Hp} {w : World} (E : Emb ρ base w0 h w) {src dst : TypeId} {a v : AV} {x : Value} (ha : a.real ρ = some x) (hv : evConvR P h src dst a = some (v, h')) : Does P ρ base w0 (convert src dst x) w v h' := by
  unfold evConvR at hv
  split at hv
  · rename_i u hu
    obtain ⟨rfl, rfl⟩ := Prod.mk.inj (Option.some.inj hv)
    exact (evConv_ok E ha hu).does E
  · exact evMark_ok E ha hv
noncomputable def optR : Option (AV × Hp) → R
  | some (v, h) => .val v h
  | none => .bad
noncomputable def optV (h : Hp) : Option AV → R
  | some v => .val v h
  | none => .bad
noncomputable def optS : Option Hp → R
  | some h => .skip h
  | none => .bad
noncomputable def evOpS (P : Program) (f : Fr) (h : Hp) (o : Oper) : R := match o.op with
  | .move x => .val (evA f x) h
  | .assign x => .val (evA f x) h
  | .pick c a b => match evA f c with
    | .v (.bool true) => .val (evA f a) h
    | .v (.bool false) => .val (evA f b) h
    | _ => .bad
  | .alloc elem => optR (evAlloc P h elem)
  | .box elem x => .val (.ptr h.nx 0) (h.new (newBlk (evA f x).ck elem))
  | .build t parts => optV h (evBuild P f t parts)
  | .buildSlice t len parts => optR (evBuildSlice P f h t len parts)
  | .load t a => optV h (evLoad P h t (evA f a))
  | .store t a x => optS (evStore P h t (evA f a) (evA f x))
  | .binOp op t x y _ => evBin P f h op t x y
  | .makeInterface t x => optV h (evIface P t (evA f x))
  | .makeFunc fn first captured => .val (evFn f fn first captured) h
  | .makeMap t r => optR (evMakeMap P f h t r)
  | .makeSlice t l c => optR (evMakeSlice P f h t l c)
  | .slice t x lo hi mx => optR (evSlice P f h t x lo hi mx)
  | .fieldAddr t x i => optV h (evFieldAddr P t (evA f x) i)
  | .field t x i => optV h (evField P t (evA f x) i)
  | .indexAddr t x i => optV h (evIndexAddr P t (evA f x) (evA f i))
  | .lookup t x i ok => optV h (evLookup P h t (evA f x) (evA f i) ok)
  | .mapUpdate t m k x => optS (evUpdate P h t (evA f m) (evA f k) (evA f x))
  | .insert t m k x => optS (evUpdate P h t (evA f m) (evA f k) (evA f x))
  | .typeAssert x _ t ok => optV h (evAssert P (evA f x) t ok)
  | .extract x i => optV h (evExtract (evA f x) i)
  | .nilCheck x => optV h (evNilCheck (evA f x))
  | .mapEntry t m k => optR (evMapEntry P h t (evA f m) (evA f k))
  | .entryStore _ m s x => optS (evEntryStore h (evA f m) (evA f s) (evA f x))
  | .convert s d x => optR (evConvR P h s d (evA f x))
  | .call c => evCall P f h c
  | .range t x => optR (evRange P h t (evA f x))
  | .next x s => evNext h s (evA f x)
  | .entry x => optV h (evEntry h (evA f x))
  | _ => .bad
theorem optR_ok {P : Program} {ρ : Env} {base : Kp} {w0 : World} {w : World} {s : Sem Value} {r : Option (AV × Hp)} (h : ∀ v h', r = some (v, h') → Does P ρ base w0 s w v h') : OpR P ρ base w0 (do pure (.value (← s))) w (optR r) := by
  cases r with
  | none => trivial
  | some p => exact OpR.ofDoes (h p.1 p.2 rfl)
theorem optV_ok {P : Program} {ρ : Env} {base : Kp} {w0 : World} {h : Hp} {w : World} (E : Emb ρ base w0 h w) {s : Sem Value} {r : Option AV} (hh : ∀ v, r = some v → Gives P ρ s w v) : OpR P ρ base w0 (do pure (.value (← s))) w (optV h r) := by
  cases r with
  | none => trivial
  | some v => exact OpR.ofDoes (Gives.does E (hh v rfl))
theorem optS_ok {P : Program} {ρ : Env} {base : Kp} {w0 : World} {w : World} {s : Sem Unit} {r : Option Hp} (hh : ∀ h', r = some h' → ∃ w', s.run P w = .ok () w' ∧ Emb ρ base w0 h' w') : OpR P ρ base w0 (do s; pure .skip) w (optS r) := by
  cases r with
  | none => trivial
  | some h' =>
    obtain ⟨w', h1, h2⟩ := hh h' rfl
    exact ⟨ρ, w', by rw [Sem.run_bind, h1]; rfl, Env.le_refl ρ, h2⟩
theorem evOpS_ok {P : Program} {ρ : Env} {base : Kp} {w0 : World} {h : Hp} {w : World} (E : Emb ρ base w0 h w) {f : Fr} {a : Act} (hf : FrR ρ f a) (o : Oper) : OpR P ρ base w0 (execOp a.eval o) w (evOpS P f h o) := by
  have ev := fun x => evA_real hf x
  have hbad : OpR P ρ base w0 (execOp a.eval o) w .bad := trivial
  unfold evOpS
  cases ho : o.op with
  | move x => unfold execOp; rw [ho]; exact ⟨ρ, w, _, rfl, ev x, Env.le_refl ρ, E⟩
  | assign x => unfold execOp; rw [ho]; exact ⟨ρ, w, _, rfl, ev x, Env.le_refl ρ, E⟩
  | pick c x y =>
    have hc := ev c
    dsimp only
    split
    · rename_i he
      rw [he] at hc
      have hc : Value.bool true = a.eval c := Option.some.inj hc
      unfold execOp; rw [ho]; dsimp only; rw [← hc]
      exact ⟨ρ, w, _, rfl, ev x, Env.le_refl ρ, E⟩
    · rename_i he
      rw [he] at hc
      have hc : Value.bool false = a.eval c := Option.some.inj hc
      unfold execOp; rw [ho]; dsimp only; rw [← hc]
      exact ⟨ρ, w, _, rfl, ev y, Env.le_refl ρ, E⟩
    · trivial
  | alloc elem => unfold execOp; rw [ho]; exact optR_ok fun v h' hv => evAlloc_run E hv
  | box elem x => unfold execOp; rw [ho]; exact OpR.ofDoes (newVar_run E elem (ev x))
  | build t parts => unfold execOp; rw [ho]; exact optV_ok E fun v hv => evBuild_ok hf w hv
  | buildSlice t len parts => unfold execOp; rw [ho]; exact optR_ok fun v h' hv => evBuildSlice_ok E hf hv
  | load t x => unfold execOp; rw [ho]; exact optV_ok E fun v hv => evLoad_gives E (ev x) hv
  | store t x y => unfold execOp; rw [ho]; exact optS_ok fun h' hv => evStore_run E (ev x) (ev y) hv
  | binOp op t x y yt =>
    unfold execOp; rw [ho]
    dsimp only
    unfold evBin
    split
    · rename_i b hb
      exact OpR.ofDoes (does_pure E (evI2_ok (ev x) (ev y) hb) rfl)
    unfold evBin0
    split
    · split
      · rename_i b hb
        obtain ⟨h1, h2⟩ := evEq_ok E 8 t _ _ _ _ b (ev x) (ev y) hb
        exact OpR.ofDoes (does_pure E ((run_eql h1 (h2 10000 (by decide))).1) rfl)
      · trivial
    · split
      · rename_i b hb
        obtain ⟨h1, h2⟩ := evEq_ok E 8 t _ _ _ _ b (ev x) (ev y) hb
        exact OpR.ofDoes (does_pure E ((run_eql h1 (h2 10000 (by decide))).2) rfl)
      · trivial
    · trivial
  | makeInterface t x => unfold execOp; rw [ho]; exact optV_ok E fun v hv => evIface_ok w (ev x) hv
  | makeFunc fn first captured => unfold execOp; rw [ho]; exact OpR.ofDoes (Gives.does E (evFn_ok hf w fn first captured))
  | makeMap t r => unfold execOp; rw [ho]; exact optR_ok fun v h' hv => evMakeMap_ok E hf hv
  | makeSlice t l c => unfold execOp; rw [ho]; exact optR_ok fun v h' hv => evMakeSlice_ok E hf hv
  | slice t x lo hi mx => unfold execOp; rw [ho]; exact optR_ok fun v h' hv => evSlice_ok E hf hv
  | fieldAddr t x i => unfold execOp; rw [ho]; exact optV_ok E fun v hv => evFieldAddr_ok w (ev x) hv
  | field t x i => unfold execOp; rw [ho]; exact optV_ok E fun v hv => evField_ok w (ev x) hv
  | indexAddr t x i => unfold execOp; rw [ho]; exact optV_ok E fun v hv => evIndexAddr_ok w (ev x) (ev i) hv
  | lookup t x i ok => unfold execOp; rw [ho]; exact optV_ok E fun v hv => evLookup_ok E (ev x) (ev i) hv
  | mapUpdate t m k x => unfold execOp; rw [ho]; exact optS_ok fun h' hv => evUpdate_ok E (ev m) (ev k) (ev x) hv
  | insert t m k x => unfold execOp; rw [ho]; exact optS_ok fun h' hv => evUpdate_ok E (ev m) (ev k) (ev x) hv
  | typeAssert x xt t ok => unfold execOp; rw [ho]; exact optV_ok E fun v hv => evAssert_ok w xt t ok (ev x) hv
  | extract x i => unfold execOp; rw [ho]; exact optV_ok E fun v hv => evExtract_ok w (ev x) hv
  | nilCheck x =>
    have hx := ev x
    dsimp only
    unfold evNilCheck
    split
    · rename_i he
      rw [he] at hx
      simp only [AV.real, Option.map_eq_some_iff] at hx
      obtain ⟨l, hl, hx⟩ := hx
      unfold execOp; rw [ho]; dsimp only; rw [← hx]
      exact ⟨ρ, w, _, rfl, by simp [AV.real, hl], Env.le_refl ρ, E⟩
    · rename_i he
      rw [he] at hx
      have hx0 := hx
      simp only [AV.real, Option.bind_eq_some_iff, Option.map_eq_some_iff] at hx
      obtain ⟨x1, h1, x2, h2, hx⟩ := hx
      unfold execOp; rw [ho]; dsimp only; rw [← hx]
      exact ⟨ρ, w, _, rfl, by rw [hx0, hx], Env.le_refl ρ, E⟩
    · rename_i he
      rw [he] at hx
      have hx0 := hx
      simp only [AV.real, Option.map_eq_some_iff] at hx
      obtain ⟨x1, h1, hx⟩ := hx
      unfold execOp; rw [ho]; dsimp only; rw [← hx]
      exact ⟨ρ, w, _, rfl, by rw [hx0, hx], Env.le_refl ρ, E⟩
    · trivial
  | mapEntry t m k => unfold execOp; rw [ho]; exact optR_ok fun v h' hv => evMapEntry_ok E (ev m) (ev k) hv
  | entryStore t m s x => unfold execOp; rw [ho]; exact optS_ok fun h' hv => evEntryStore_ok E (ev m) (ev s) (ev x) hv
  | convert s d x => unfold execOp; rw [ho]; exact optR_ok fun v h' hv => evConvR_ok E (ev x) hv
  | call c => exact evCall_ok E hf ho
  | range t x => unfold execOp; rw [ho]; exact optR_ok fun v h' hv => evRange_ok E (ev x) hv
  | next x s => unfold execOp; rw [ho]; exact evNext_ok E o.type (ev x)
  | entry x => unfold execOp; rw [ho]; exact optV_ok E fun v hv => evEntry_ok E (ev x) hv
  | _ => trivial
theorem evOp_nd {P : Program} {f : Fr} {h : Hp} {o : Oper} {c : Call} (ho : o.op = .defer c) : evPlain P f h o = .bad ∧ evOpS P f h o = .bad := by
  constructor
  · unfold evPlain Oper.isSelect
    rw [ho]
  · unfold evOpS
    rw [ho]
noncomputable def evOp (P : Program) (f : Fr) (h : Hp) (o : Oper) : R := match evOpS P f h o with
  | .bad => evPlain P f h o
  | r => r
theorem evOp_ok {P : Program} {ρ : Env} {base : Kp} {w0 : World} {h : Hp} {w : World} (E : Emb ρ base w0 h w) {f : Fr} {a : Act} (hf : FrR ρ f a) (o : Oper) : OpR P ρ base w0 (execOp a.eval o) w (evOp P f h o) := by
  unfold evOp
  split
  · exact evPlain_ok E hf o
  · exact evOpS_ok E hf o
theorem evOp_good {P : Program} {f : Fr} {h : Hp} {o : Oper} (hb : evOp P f h o ≠ .bad) (c : Call) : o.op ≠ .defer c := fun ho => by
  obtain ⟨h1, h2⟩ := evOp_nd (P := P) (f := f) (h := h) ho
  apply hb
  unfold evOp
  rw [h2]
  exact h1
end Go.Proofs.Ytchdipakekglmaa
