/- A reckoner of closed runs, 12: calls; copy. Nothing of the program is used here. -/
import Derived.Test.YtchdipakekglmaaEvAppend
namespace Go.Proofs.Ytchdipakekglmaa
open Go.RowKit

theorem reals_two {ρ : Env} {a b : AV} {xs : Array Value} (h : AV.reals ρ [a, b] = some xs.toList) : ∃ x y, a.real ρ = some x ∧ b.real ρ = some y ∧ xs = #[x, y] := by
  simp only [AV.reals, Option.bind_eq_some_iff, Option.map_eq_some_iff] at h
  obtain ⟨x, hx, r, ⟨y, hy, s, hs, rfl⟩, hr⟩ := h
  obtain rfl := Option.some.inj hs
  exact ⟨x, y, hx, hy, by apply Array.ext'; exact hr.symm⟩
theorem reals_one {ρ : Env} {a : AV} {xs : Array Value} (h : AV.reals ρ [a] = some xs.toList) : ∃ x, a.real ρ = some x ∧ xs = #[x] := by
  simp only [AV.reals, Option.bind_eq_some_iff, Option.map_eq_some_iff] at h
  obtain ⟨x, hx, r, hs, hr⟩ := h
  obtain rfl := Option.some.inj hs
  exact ⟨x, hx, by apply Array.ext'; exact hr.symm⟩
theorem all2_mono {ρ ρ' : Env} (hle : Env.le ρ ρ') {es : List (AV × AV × Nat)} {ms : List MapEntry} (h : All2 (entR ρ) es ms) : All2 (entR ρ') es ms := by
  induction h with
  | nil => exact .nil
  | cons hh _ ih => exact .cons ⟨AV.real_mono hle _ _ hh.1, AV.real_mono hle _ _ hh.2.1, hh.2.2⟩ ih
theorem clone_find (fn : Func) (h : fn.name = "maps.clone") : Extern.find fn = some Extern.MapsClone.clone := by
  unfold Extern.find
  rw [h]
  rfl
theorem clone_next (fn : Func) (h : fn.name = "maps.clone") (ho : fn.origin = "") : Extern.findNext fn = none := by
  unfold Extern.findNext
  rw [h, ho]
  rfl
theorem run_clone {P : Program} {w : World} {r clock : Nat} {es : Array MapEntry} (t : TypeId) (hb : w.heap[r]? = some (.map es clock)) : (Extern.MapsClone.clone #[.iface t (.map (some r))]).run P w = .ok (.iface t (.map (some w.heap.size))) (w.alloc (.map es clock)) := by
  have e : Extern.MapsClone.clone #[.iface t (.map (some r))] = (do
      let .map entries clock ← getObj r | stuck "maps.clone: a map expected"
      pure (.iface t (.map (some (← newObj (.map entries clock)))))) := rfl
  rw [e, Sem.run_bind, MapKept.run_getObj_map hb]
  rfl
/-- maps.clone, for which the model stands in. -/
noncomputable def evClone (h : Hp) (args : List AV) : R := match args with
  | [.ifc t (.mp id)] => match h.get id with
    | .map es clock => .val (.ifc t (.mp h.nx)) (h.new (.map es clock))
    | _ => .bad
  | _ => .bad
noncomputable def bytesA : List AV → Option (List UInt8)
  | [] => some []
  | .v (.int .u8 (.ofNat n)) :: r => match Nat.blt n 256 with
    | true => (bytesA r).map fun l => UInt8.ofNat n :: l
    | false => none
  | _ => none
theorem bytesA_real (ρ : Env) : ∀ (cz : List AV) (l : List UInt8), bytesA cz = some l → AV.reals ρ cz = some (l.map bv)
  | [], l, h => by obtain rfl := Option.some.inj h; rfl
  | a :: r, l, h => by
    unfold bytesA at h
    split at h
    · rename_i he
      cases he
    · rename_i n r' he
      cases he
      split at h
      case h_2 => cases h
      rename_i hlt
      rw [blt_eq] at hlt
      have hlt := of_decide_eq_true hlt
      obtain ⟨l', hl', rfl⟩ := Option.map_eq_some_iff.1 h
      have : (UInt8.ofNat n).toNat = n := by simp; omega
      simp only [AV.reals, AV.real, bytesA_real ρ r l' hl', Option.bind_some, Option.map_some, List.map_cons, Option.some.injEq, List.cons.injEq, and_true]
      unfold bv
      rw [this]
      rfl
    · cases h
/-- The bytes of a slice, of a text. -/
noncomputable def evBytes (h : Hp) (a : AV) : Option (List UInt8) := match a with
  | .slc id off len _ _ => match h.get id with
    | .cells t n _ _ => match readC t n len off with
      | some cs => bytesA cs.list
      | none => none
    | _ => none
  | .v (.slice none _ _) => some []
  | .v (.string s) => some s.data.toList
  | _ => none
theorem run_loadBytes {P : Program} {w : World} : ∀ (l : List UInt8) (b o : Nat) (acc : ByteArray), (∀ k v, (l.map bv)[k]? = some v → w.cell? ⟨b, o + k, none⟩ = some v) → (Extern.Bytes.loadBytes ⟨b, o, none⟩ l.length acc).run P w = .ok ⟨acc.data ++ l.toArray⟩ w
  | [], b, o, acc, _ => by
    show Result.ok _ _ = _
    simp
  | x :: l, b, o, acc, H => by
    have h0 : w.cell? ⟨b, o, none⟩ = some (bv x) := H 0 (bv x) (by simp)
    have hl : (load ⟨b, o, none⟩).run P w = .ok (bv x) w := by simp [load, Sem.run, h0]
    have ih := run_loadBytes (P := P) l b (o + 1) (acc.push x) fun k v hk => by
      have := H (k + 1) v (by simpa using hk)
      rw [show o + 1 + k = o + (k + 1) by omega]
      exact this
    rw [List.length_cons, Extern.Bytes.loadBytes, Sem.run_bind, hl, Result.andThen_ok]
    have hb : ((x.toNat : Int)).toNat.toUInt8 = x := by simp
    simp only [bv]
    rw [hb, Addr.add_plain, ih]
    simp [ByteArray.push]
theorem evBytes_ok {P : Program} {ρ : Env} {base : Kp} {w0 : World} {h : Hp} {w : World} (E : Emb ρ base w0 h w) {a : AV} {x : Value} {l : List UInt8} (ha : a.real ρ = some x) (hv : evBytes h a = some l) : (Extern.Bytes.bytesOf x).run P w = .ok (str l) w := by
  unfold evBytes at hv
  split at hv
  · rename_i id off len cap ex
    simp only [AV.real, Option.map_eq_some_iff] at ha
    obtain ⟨lo, hl, rfl⟩ := ha
    split at hv
    case h_2 => cases hv
    rename_i t n elem opn hg
    split at hv
    case h_2 => cases hv
    rename_i cs hcs
    obtain ⟨xs, h1, h2, _, h4⟩ := E.loads hg hl _ _ _ (readC_ok hcs)
    have h5 := bytesA_real ρ cs.list l hv
    rw [h1] at h5
    obtain rfl := Option.some.inj h5
    rw [List.length_map] at h2
    have := run_loadBytes (P := P) (w := w) l lo.blk (lo.off + off) .empty h4
    rw [h2] at this
    show (Extern.Bytes.loadBytes _ _ _).run P w = _
    rw [this]
    have e0 : (ByteArray.empty).data = #[] := rfl
    rw [e0]
    simp [str]
  · obtain rfl := Option.some.inj hv
    obtain rfl := Option.some.inj ha
    rfl
  · obtain rfl := Option.some.inj hv
    obtain rfl := Option.some.inj ha
    rfl
  · cases hv
theorem cmp_find (fn : Func) (h : fn.name = "internal/bytealg.Compare") : Extern.find fn = some Extern.BytealgCompare.compare := by
  unfold Extern.find
  rw [h]
  rfl
theorem cmp_next (fn : Func) (h : fn.name = "internal/bytealg.Compare") (ho : fn.origin = "") : Extern.findNext fn = none := by
  unfold Extern.findNext
  rw [h, ho]
  rfl
theorem run_cmp {P : Program} {w : World} {u v : Value} {x y : ByteArray} (hu : (Extern.Bytes.bytesOf u).run P w = .ok x w) (hv : (Extern.Bytes.bytesOf v).run P w = .ok y w) : (Extern.BytealgCompare.compare #[u, v]).run P w = .ok (goInt (Extern.BytealgCompare.cmp x y)) w := by
  have e : Extern.BytealgCompare.compare #[u, v] = (do
      let p ← Extern.Bytes.bytesOf u
      let q ← Extern.Bytes.bytesOf v
      pure (goInt (Extern.BytealgCompare.cmp p q))) := rfl
  rw [e, Sem.run_bind, hu, Result.andThen_ok, Sem.run_bind, hv]
  rfl
/-- internal/bytealg.Compare, for which the model stands in. -/
noncomputable def evCmp (h : Hp) (args : List AV) : R := match args with
  | [a, b] => match evBytes h a with
    | some x => match evBytes h b with
      | some y => .val (.v (goInt (Extern.BytealgCompare.cmp (str x) (str y)))) h
      | none => .bad
    | none => .bad
  | _ => .bad
noncomputable def evCallFn (P : Program) (h : Hp) (g : FuncId) (args : List AV) : R := match P.funcs[g]? with
  | some fn => match fn.name == "runtime.NumGoroutine" with
    | true => .bad
    | false => match fn.body with
      | some _ => .enter g args
      | none => match fn.name == "maps.clone" with
        | true => match fn.origin == "" with
          | true => evClone h args
          | false => .bad
        | false => match fn.name == "internal/bytealg.Compare" with
          | true => match fn.origin == "" with
            | true => evCmp h args
            | false => .bad
          | false => .bad
  | none => .bad
theorem evCallFn_ok {P : Program} {ρ : Env} {base : Kp} {w0 : World} {h : Hp} {w : World} (E : Emb ρ base w0 h w) {g : FuncId} {args : List AV} {xs : Array Value} (hr : AV.reals ρ args = some xs.toList) : OpR P ρ base w0 (callFunc g xs) w (evCallFn P h g args) := by
  unfold evCallFn
  split
  · rename_i fn hf
    split
    · trivial
    · rename_i hn
      have h1 : fn.name ≠ "runtime.NumGoroutine" := by simpa using hn
      split
      · rename_i c hb
        exact ⟨xs, by simp [callFunc, hf, h1, hb], hr⟩
      · rename_i hb
        split
        · rename_i hname
          have hname : fn.name = "maps.clone" := by simpa using hname
          split
          · rename_i horg
            have horg : fn.origin = "" := by simpa using horg
            unfold evClone
            split
            · rename_i t id
              split
              · rename_i es clock hg
                obtain ⟨x, hx, rfl⟩ := reals_one hr
                simp only [AV.real, Option.map_eq_some_iff] at hx
                obtain ⟨y, ⟨l, hl, rfl⟩, rfl⟩ := hx
                obtain ⟨l', es', hl', _, ho, ha⟩ := E.map hg
                obtain rfl := Option.some.inj (hl.symm.trans hl')
                refine ⟨ρ.add h.nx ⟨w.heap.size, 0, 0⟩, w.alloc (.map es' clock), .iface t (.map (some w.heap.size)), ?_, by simp [AV.real, add_self], Env.le_add E.fresh0, E.alloc _ _ 0 ⟨es', rfl, ?_⟩⟩
                · simp [callFunc, hf, h1, hb, clone_find fn hname, clone_next fn hname horg, Sem.run_bind, run_clone t ho]
                · exact all2_mono (Env.le_add E.fresh0) ha
              · trivial
            · trivial
          · trivial
        · split
          · rename_i hname
            have hname : fn.name = "internal/bytealg.Compare" := by simpa using hname
            split
            · rename_i horg
              have horg : fn.origin = "" := by simpa using horg
              unfold evCmp
              split
              · rename_i a b
                split
                · rename_i x hx
                  split
                  · rename_i y hy
                    obtain ⟨u, v, hu, hv, rfl⟩ := reals_two hr
                    refine ⟨ρ, w, _, ?_, rfl, Env.le_refl ρ, E⟩
                    simp [callFunc, hf, h1, hb, cmp_find fn hname, cmp_next fn hname horg, Sem.run_bind, run_cmp (evBytes_ok E hu hx) (evBytes_ok E hv hy)]
                  · trivial
                · trivial
              · trivial
            · trivial
          · trivial
  · trivial
noncomputable def evMethod (P : Program) (t : TypeId) (name : String) : Option FuncId := match P.info? t with
  | some i => match i.methods.find? (·.name == name) with
    | some m => match m.path.toList, m.func with
      | [], some (g, pr) => match P.underlying t with
        | some (.pointer _) => match pr with
          | true => some g
          | false => none
        | some _ => match pr with
          | true => none
          | false => some g
        | none => none
      | _, _ => none
    | none => none
  | none => none
theorem evMethod_ok {P : Program} {t : TypeId} {name : String} {g : FuncId} (h : evMethod P t name = some g) (k : Nat) (v : Value) (w : World) : (method (k + 1) t v name).run P w = .ok (g, v) w := by
  unfold evMethod at h
  split at h
  case h_2 => cases h
  rename_i i hi
  split at h
  case h_2 => cases h
  rename_i m hm
  split at h
  case h_2 => cases h
  rename_i g' pr hp hf
  split at h
  · rename_i e hd
    split at h
    · obtain rfl := Option.some.inj h
      simp [method, typeInfo, hi, hm, hp, follow, hf, receiverAt, run_underlying hd, Place.get]
    · cases h
  · rename_i d hn hd
    split at h
    · cases h
    · obtain rfl := Option.some.inj h
      unfold method
      cases d <;> first | (exact (hn _ rfl).elim) | simp [typeInfo, hi, hm, hp, follow, hf, receiverAt, run_underlying hd, Place.get]
  · cases h
noncomputable def evInvoke (P : Program) (h : Hp) (recv : AV) (name : String) (rest : List AV) : R := match recv with
  | .ifc t v => match evMethod P t name with
    | some g => evCallFn P h g (v :: rest)
    | none => .bad
  | .v (.iface t v) => match evMethod P t name with
    | some g => evCallFn P h g (.v v :: rest)
    | none => .bad
  | _ => .bad
theorem evInvoke_ok {P : Program} {ρ : Env} {base : Kp} {w0 : World} {h : Hp} {w : World} (E : Emb ρ base w0 h w) {recv : AV} {name : String} {rest : List AV} {x : Value} {xs : Array Value} (hx : recv.real ρ = some x) (hr : AV.reals ρ rest = some xs.toList) :
    OpR P ρ base w0 (callMethod x name xs) w (evInvoke P h recv name rest) := by
  have key : ∀ (t : TypeId) (v : AV) (y : Value) (g : FuncId), v.real ρ = some y → evMethod P t name = some g → OpR P ρ base w0 (callMethod (.iface t y) name xs) w (evCallFn P h g (v :: rest)) := fun t v y g hv hg => by
    have hm := evMethod_ok hg (P.types.size + 99) y w
    have hc := evCallFn_ok (P := P) E (g := g) (args := v :: rest) (xs := #[y] ++ xs) (ρ := ρ) (by simp [AV.reals, hv, hr])
    have hrun : (callMethod (.iface t y) name xs).run P w = (callFunc g (#[y] ++ xs)).run P w := by
      simp only [callMethod, Sem.run_bind, Made.depth]
      rw [show (program).run P w = .ok P w from rfl]
      simp only [Result.andThen_ok]
      rw [show P.types.size + 100 = (P.types.size + 99) + 1 from rfl, hm]
      rfl
    unfold OpR at hc ⊢
    rw [hrun]
    exact hc
  unfold evInvoke
  split
  · rename_i t v
    simp only [AV.real, Option.map_eq_some_iff] at hx
    obtain ⟨y, hy, rfl⟩ := hx
    split
    · rename_i g hg
      exact key t v y g hy hg
    · trivial
  · rename_i t v
    simp only [AV.real, Option.some.injEq] at hx
    subst hx
    split
    · rename_i g hg
      exact key t (.v v) v g rfl hg
    · trivial
  · trivial
noncomputable def evCopySrc (h : Hp) (size n : Nat) (x : AV) : Option Ck := match x with
  | .slc id off _ _ _ => match h.get id with
    | .cells t m _ _ => match readC t m (n * size) off with
      | some cs => match oneCk cs with
        | true => some cs
        | false => none
      | none => none
    | _ => none
  | .v (.string s) => match Nat.beq size 1 with
    | true => some (.l ((byteCells (s.extract 0 n)).map .v))
    | false => none
  | _ => none
noncomputable def evLenOf : AV → Option Nat
  | .slc _ _ len _ _ => some len
  | .v (.slice _ len _) => some len
  | .v (.string s) => some s.size
  | _ => none
theorem evLenOf_ok {P : Program} {ρ : Env} {x : AV} {y : Value} {n : Nat} (w : World) (hx : x.real ρ = some y) (h : evLenOf x = some n) : (Builtin.lenOf y).run P w = .ok n w := by
  unfold evLenOf at h
  split at h
  · obtain rfl := Option.some.inj h
    simp only [AV.real, Option.map_eq_some_iff] at hx
    obtain ⟨l, _, rfl⟩ := hx
    rfl
  · obtain rfl := Option.some.inj h
    simp only [AV.real, Option.some.injEq] at hx
    subst hx
    rfl
  · obtain rfl := Option.some.inj h
    simp only [AV.real, Option.some.injEq] at hx
    subst hx
    rfl
  · cases h
theorem evCopySrc_ok {P : Program} {ρ : Env} {base : Kp} {w0 : World} {h : Hp} {w : World} (E : Emb ρ base w0 h w) {size n : Nat} {x : AV} {y : Value} {cz : Ck} (hx : x.real ρ = some y) (hs : evCopySrc h size n x = some cz) :
    ∃ xs, AV.reals ρ cz.list = some xs ∧ (Builtin.firstCells size n y).run P w = .ok xs.toArray w := by
  unfold evCopySrc at hs
  split at hs
  · rename_i id off len cap ex
    simp only [AV.real, Option.map_eq_some_iff] at hx
    obtain ⟨l, hl, rfl⟩ := hx
    split at hs
    case h_2 => cases hs
    rename_i t m elem opn hg
    split at hs
    case h_2 => cases hs
    rename_i cs hcs
    split at hs
    · obtain rfl := Option.some.inj hs
      obtain ⟨xs, h1, _, _, h4⟩ := E.loadsRun (P := P) hg hl (readC_ok hcs)
      exact ⟨xs, h1, by simpa [Builtin.firstCells] using h4⟩
    · cases hs
  · rename_i s
    split at hs
    · obtain rfl := Option.some.inj hs
      simp only [AV.real, Option.some.injEq] at hx
      subst hx
      refine ⟨byteCells (s.extract 0 n), reals_v ρ _, ?_⟩
      simp [Builtin.firstCells, byteCells]
      apply Array.ext'
      simp
    · cases hs
  · cases hs
noncomputable def evCopy (P : Program) (h : Hp) (t : TypeId) (d s : AV) : Option (AV × Hp) := match P.underlying t with
  | some (.slice e) => match P.info? e with
    | some i => match evLenOf s, evLenOf d with
      | some ls, some ld => match Nat.beq (Nat.min ls ld) 0 with
        | true => none
        | false => match evCopySrc h i.size (Nat.min ls ld) s with
          | some cz => match d with
            | .slc id off _ _ _ => match h.get id with
              | .cells tr m elem opn => (writeC m cz tr off).map fun t' => (.v (.int .i64 ((Nat.min ls ld : Nat) : Int)), h.put id (.cells t' m elem opn))
              | _ => none
            | _ => none
          | none => none
      | _, _ => none
    | none => none
  | _ => none
theorem evCopy_ok {P : Program} {ρ : Env} {base : Kp} {w0 : World} {h h' : Hp} {w : World} (E : Emb ρ base w0 h w) {t tx ty : TypeId} {d s v : AV} {x y : Value} (hd : d.real ρ = some x) (hs : s.real ρ = some y) (hv : evCopy P h t d s = some (v, h')) :
    Does P ρ base w0 (Builtin.copy_ #[t, tx] ty #[x, y]) w v h' := by
  unfold evCopy at hv
  split at hv
  case h_2 => cases hv
  rename_i e ht
  split at hv
  case h_2 => cases hv
  rename_i i hi
  split at hv
  case h_2 => cases hv
  rename_i ls ld hls hld
  split at hv
  · cases hv
  · split at hv
    case h_2 => cases hv
    rename_i cz has
    obtain ⟨xs, hxs, hfc⟩ := evCopySrc_ok (P := P) E hs has
    split at hv
    case h_2 => cases hv
    rename_i id off len cap ex
    simp only [AV.real, Option.map_eq_some_iff] at hd
    obtain ⟨l, hl, rfl⟩ := hd
    obtain rfl : len = ld := by simpa [evLenOf] using hld
    split at hv
    case h_2 => cases hv
    rename_i tr m elem opn hg
    obtain ⟨t', ht', h2⟩ := Option.map_eq_some_iff.1 hv
    obtain ⟨rfl, rfl⟩ := Prod.mk.inj h2
    obtain ⟨w', hst, E'⟩ := E.stores (P := P) hg hl hxs ht'
    refine ⟨ρ, w', _, ?_, rfl, Env.le_refl ρ, E'⟩
    simp [Builtin.copy_, run_underlying ht, evLenOf_ok w hs hls, sizeOf, typeInfo, hi, hfc, hst, goInt]
noncomputable def evBuiltin (P : Program) (h : Hp) (b : Builtin) (ats : List TypeId) (args : List AV) : R := match b, ats, args with
  | .append, [t, tx], [s, x] => match evAppend P h t tx s x with
    | some (v, h') => .val v h'
    | none => .bad
  | .len, [t], [x] => match evLen P h t x with
    | some v => .val v h
    | none => .bad
  | .delete, t :: _, [m, k] => match evDelete P h t m k with
    | some h' => .val (.v (.tuple #[])) h'
    | none => .bad
  | .copy, [t, _], [d, s] => match evCopy P h t d s with
    | some (v, h') => .val v h'
    | none => .bad
  | .clear, [t], [m] => match evClear P h t m with
    | some h' => .val (.v (.tuple #[])) h'
    | none => .bad
  | _, _, _ => .bad
theorem evBuiltin_ok {P : Program} {ρ : Env} {base : Kp} {w0 : World} {h : Hp} {w : World} (E : Emb ρ base w0 h w) {b : Builtin} {ats : Array TypeId} {ty : TypeId} {cs : Array Bool} {args : List AV} {xs : Array Value} (hr : AV.reals ρ args = some xs.toList) :
    OpR P ρ base w0 (builtin b ats ty cs xs) w (evBuiltin P h b ats.toList args) := by
  unfold evBuiltin
  split
  · rename_i t tx s x hat
    have hat : ats = #[t, tx] := by apply Array.ext'; exact hat
    subst hat
    obtain ⟨u, v, hu, hv, rfl⟩ := reals_two hr
    split
    · rename_i z h' hz
      exact OpR.ofDoes (evAppend_ok E hu hv hz)
    · trivial
  · rename_i t x hat
    have hat : ats = #[t] := by apply Array.ext'; exact hat
    subst hat
    obtain ⟨u, hu, rfl⟩ := reals_one hr
    split
    · rename_i z hz
      exact OpR.ofDoes (Gives.does E (evLen_ok E ty _ rfl _ rfl hu hz))
    · trivial
  · rename_i t r m k hat
    obtain ⟨u, v, hu, hv, rfl⟩ := reals_two hr
    split
    · rename_i h' hz
      obtain ⟨w', h1, h2⟩ := evDelete_ok E ats ty (by rw [← Array.getElem?_toList, hat]; rfl) hu hv hz
      refine OpR.ofDoes ⟨ρ, w', _, h1, rfl, Env.le_refl ρ, h2⟩
    · trivial
  · rename_i t tx d s hat
    have hat : ats = #[t, tx] := by apply Array.ext'; exact hat
    subst hat
    obtain ⟨u, v, hu, hv, rfl⟩ := reals_two hr
    split
    · rename_i z h' hz
      exact OpR.ofDoes (evCopy_ok E hu hv hz)
    · trivial
  · rename_i t m hat
    have hat : ats = #[t] := by apply Array.ext'; exact hat
    subst hat
    obtain ⟨u, hu, rfl⟩ := reals_one hr
    split
    · rename_i h' hz
      obtain ⟨w', h1, h2⟩ := evClear_ok E #[t] ty rfl hu hz
      refine OpR.ofDoes ⟨ρ, w', _, h1, rfl, Env.le_refl ρ, h2⟩
    · trivial
  · trivial
noncomputable def evCall (P : Program) (f : Fr) (h : Hp) (c : Call) : R := match c.callee with
  | .value fo => match evA f fo with
    | .fn (.func g) first captured => evCallFn P h g (first ++ evAs f c.args.toList ++ captured)
    | .fn (.method name) first _ => match first ++ evAs f c.args.toList with
      | recv :: rest => evInvoke P h recv name rest
      | [] => .bad
    | .yld id => .round id (evAs f c.args.toList)
    | _ => .bad
  | .invoke r name => evInvoke P h (evA f r) name (evAs f c.args.toList)
  | .builtin b => evBuiltin P h b c.argTypes.toList (evAs f c.args.toList)
theorem evCall_ok {P : Program} {ρ : Env} {base : Kp} {w0 : World} {h : Hp} {w : World} (E : Emb ρ base w0 h w) {f : Fr} {a : Act} (hf : FrR ρ f a) {o : Oper} {c : Call} (ho : o.op = .call c) : OpR P ρ base w0 (execOp a.eval o) w (evCall P f h c) := by
  have hargs : AV.reals ρ (evAs f c.args.toList) = some (c.args.map a.eval).toList := by rw [evAs_real hf, Array.toList_map]
  have hexec : execOp a.eval o = (do let d ← resolve a.eval c o.type; invoke d.target d.args) := by unfold execOp; rw [ho]
  rw [hexec]
  unfold evCall
  cases hc : c.callee with
  | value fo =>
    have hfo := evA_real hf fo
    dsimp only
    split
    · rename_i g first captured he
      rw [he] at hfo
      simp only [AV.real, Option.bind_eq_some_iff, Option.map_eq_some_iff] at hfo
      obtain ⟨x1, h1, x2, h2, hx⟩ := hfo
      have hr : AV.reals ρ (first ++ evAs f c.args.toList ++ captured) = some (x1.toArray ++ c.args.map a.eval ++ x2.toArray).toList := by
        rw [reals_append (reals_append h1 hargs) h2]; simp
      have := evCallFn_ok (P := P) E (g := g) hr
      simpa [resolve, hc, ← hx, Deferred.ofValue, invoke] using this
    · rename_i name first captured he
      rw [he] at hfo
      simp only [AV.real, Option.bind_eq_some_iff, Option.map_eq_some_iff] at hfo
      obtain ⟨x1, h1, x2, h2, hx⟩ := hfo
      split
      · rename_i recv rest hl
        have hr : AV.reals ρ (recv :: rest) = some (x1.toArray ++ c.args.map a.eval).toList := by
          rw [← hl, reals_append h1 hargs]; simp
        generalize hA : x1.toArray ++ c.args.map a.eval = A at hr
        simp only [AV.reals, Option.bind_eq_some_iff, Option.map_eq_some_iff] at hr
        obtain ⟨y, hy, r, hrest, hr⟩ := hr
        have hA0 : A[0]? = some y := by rw [← Array.getElem?_toList, ← hr]; rfl
        have hsz : A.size = r.length + 1 := by rw [← Array.length_toList, ← hr]; rfl
        have hAr : (A.extract 1 A.size).toList = r := by simp [← hr, hsz]
        have := evInvoke_ok (P := P) E (name := name) (xs := A.extract 1 A.size) hy (by rw [hAr]; exact hrest)
        simpa [resolve, hc, ← hx, Deferred.ofValue, invoke, hA, hA0] using this
      · trivial
    · rename_i id he
      rw [he] at hfo
      simp only [AV.real, Option.map_eq_some_iff] at hfo
      obtain ⟨l, hl, hx⟩ := hfo
      refine ⟨l, c.args.map a.eval, hl, ?_, hargs⟩
      simp [resolve, hc, ← hx, Deferred.ofValue, invoke]
    · trivial
  | invoke r name =>
    dsimp only
    have := evInvoke_ok (P := P) E (name := name) (evA_real hf r) hargs
    have e0 : (#[a.eval r] ++ Array.map a.eval c.args)[0]? = some (a.eval r) := by rw [← Array.getElem?_toList]; simp
    have e1 : (Array.map a.eval c.args).extract 0 c.args.size = Array.map a.eval c.args := by apply Array.ext'; simp [List.take_of_length_le]
    simpa [resolve, hc, invoke, e0, e1] using this
  | builtin b =>
    dsimp only
    simp only [resolve, hc, pure_bind, invoke]
    exact evBuiltin_ok (P := P) E hargs
end Go.Proofs.Ytchdipakekglmaa
