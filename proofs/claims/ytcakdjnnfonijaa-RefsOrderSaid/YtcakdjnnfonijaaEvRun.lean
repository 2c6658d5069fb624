/- A reckoner of closed runs, 19: code with drawn regions and ranges over functions; closed runs. Nothing of the program is used here. -/
import Derived.Test.YtcakdjnnfonijaaEvEnd
namespace Go.Proofs.Ytcakdjnnfonijaa
open Go.RowKit

theorem evDraw_any {P : Program} {base : Kp} {w0 : World} {cf : Cf} {rf : RfF} (C : CfOk P base w0 cf) (D : RfOk P base w0 rf) {rl : Option Nat} {nn : Nat} {ops : Array Oper} (S : Sound ops) {k : Fr → Hp → Ans} {Q : Exit → Act → World → Prop} {ρ : Env} {f : Fr} {h : Hp} {a : Act} {w : World} {n : Nat}
    (hk : evDraw P cf rf ops (tabOf ops) n 0 f h [] k = .yes) (E : Emb ρ base w0 h w) (F : FrR ρ f a) (hd : DfR ρ f.ds a.defers)
    (K : ∀ f h ρ' a w, k f h = .yes → Env.le ρ ρ' → Emb ρ' base w0 h w → FrR ρ' f a → DfR ρ' f.ds a.defers → Q .normal a w) :
    wpAnyIn (fen rl) nn P .any ops Q ops.size (Array.replicate ops.size false) a { w with drawn := w.drawn + 1 } := by
  have hno : ∀ i, ¬ Lst (Array.replicate ops.size false) i := fun i hh => by rw [Lst, getD_replicate_false] at hh; cases hh
  have h0 : ∀ i, (0 : Nat).testBit i = true → False := fun i hh => by simp at hh
  refine evDraw_ok C D S K n 0 f h [] (fun _ => .v undef) _ a _ ρ ops.size hk (f0 := f) ?_ (Env.le_refl ρ) (fun i o ho t ht hb => (h0 i hb).elim) fun l hl hm => nodup_room _ l hl fun i hi => (hm i hi).1
  exact ⟨by simp, fun i hi => (hno i hi).elim, fun i k hi => (h0 i hi).elim, fun i k hi => (hno i hi).elim, fun i hi => (h0 i hi).elim, fun i hi => (h0 i hi).elim, fun i o fi vi hm => (by cases hm), rfl, fun t => ⟨fun i o hi => (h0 i hi).elim, fun _ => rfl⟩, ⟨a, F⟩, F.1, hd, fun t => ⟨fun i o hi => (hno i hi).elim, fun _ => F.2 t⟩, E.drew _ rfl rfl rfl rfl⟩
/-- A function that is ranged over, called. -/
noncomputable def asFn : AV → Option (FuncId × List AV × List AV)
  | .fn (.func g) a b => some (g, a, b)
  | .v (.func (.func g) a b) => some (g, a.toList.map .v, b.toList.map .v)
  | _ => none
noncomputable def endRange (h : Hp) (L : Nat) (f : Fr) (k : Kf) : Ans := match h.get L with
  | .loop t n ps cz bd st pe d => match st with
    | .busy => .no "a round under way"
    | _ => match pe with
      | none => k .normal f (h.put L (.loop t n ps cz bd .exhausted pe d))
      | some .ret => k .ret f (h.put L (.loop t n ps cz bd .exhausted pe d))
      | some (.exit id) => k (.exit id) f (h.put L (.loop t n ps cz bd .exhausted pe d))
      | _ => .no "a jump"
  | _ => .no "no record"
noncomputable def evRange2 (P : Program) (cf : Cf) (ro : Option Nat) (g : AV) (ps : Array Tmp) (cz bd : Code) (f : Fr) (h : Hp) (k : Kf) : Ans := match asFn g with
  | some (gf, a, b) => match ro with
    | none => match evCallFn P ((h.new .dfr).new (.loop f.tr f.n ps cz bd .ready none h.nx)) gf (a ++ [.yld (h.nx + 1)] ++ b) with
      | .enter g args => cf g args ((h.new .dfr).new (.loop f.tr f.n ps cz bd .ready none h.nx)) fun _ h3 => endRange h3 (h.nx + 1) ⟨f.tr, f.n, .mark h.nx :: f.ds⟩ k
      | _ => .no "what is ranged over"
    | some id => match h.get id with
      | .loop _ _ _ _ _ _ _ d => match evCallFn P (h.new (.loop f.tr f.n ps cz bd .ready none d)) gf (a ++ [.yld h.nx] ++ b) with
        | .enter g args => cf g args (h.new (.loop f.tr f.n ps cz bd .ready none d)) fun _ h3 => endRange h3 h.nx f k
        | _ => .no "what is ranged over"
      | _ => .no "no record"
  | none => .no "what is ranged over"
theorem asFn_ok {ρ : Env} {v : AV} {x : Value} {gf : FuncId} {a b : List AV} (h : asFn v = some (gf, a, b)) (hx : v.real ρ = some x) : ∃ xa xb : List Value, AV.reals ρ a = some xa ∧ AV.reals ρ b = some xb ∧ x = .func (.func gf) xa.toArray xb.toArray := by
  unfold asFn at h
  split at h
  · obtain ⟨rfl, h'⟩ := Prod.mk.inj (Option.some.inj h)
    obtain ⟨rfl, rfl⟩ := Prod.mk.inj h'
    simp only [AV.real, Option.bind_eq_some_iff, Option.map_eq_some_iff] at hx
    obtain ⟨xa, h1, xb, h2, hx⟩ := hx
    exact ⟨xa, xb, h1, h2, hx.symm⟩
  · obtain ⟨rfl, h'⟩ := Prod.mk.inj (Option.some.inj h)
    obtain ⟨rfl, rfl⟩ := Prod.mk.inj h'
    simp only [AV.real, Option.some.injEq] at hx
    exact ⟨_, _, reals_v ρ _, reals_v ρ _, by rw [← hx]⟩
  · cases h
theorem endRange_ok {P : Program} {base : Kp} {w0 : World} {rl : Option Nat} {n : Nat} {ρ ρ' : Env} {h : Hp} {w : World} {L : Nat} {l : Loc} {f : Fr} {a : Act} {k : Kf} {Q : Exit → Act → World → Prop} (hk : endRange h L f k = .yes) (E : Emb ρ' base w0 h w) (hL : ρ' L = some l) (hle : Env.le ρ ρ') (F : FrR ρ' f a) (hd : DfR ρ' f.ds a.defers) (K : Post base w0 ρ k Q) (v : Value) :
    rangePost (fen rl) n P l.blk Q a (.returned v) w := by
  unfold endRange at hk
  split at hk
  case h_2 => cases hk
  rename_i t m ps cz bd st pe d hg
  obtain ⟨hlive, fn, tmps, ld, hW, hld, hsz, hsl⟩ := E.loop hg hL
  split at hk
  · cases hk
  rename_i hst
  have hrun := run_endLoop (P := P) hW (fun e => hst e)
  have E' := E.setObj hlive hL _ (.loop t m ps cz bd .exhausted pe d) ⟨fn, tmps, ld, rfl, hld, hsz, hsl⟩
  split at hk
  · exact ⟨_, _, hrun, K .normal f _ ρ' a _ hk hle E' F hd⟩
  · exact ⟨_, _, hrun, wpIn_ret (K .ret f _ ρ' a _ hk hle E' F hd)⟩
  · exact ⟨_, _, hrun, wpIn_exit (K (.exit _) f _ ρ' a _ hk hle E' F hd)⟩
  · cases hk
theorem evRange2_ok {P : Program} {base : Kp} {w0 : World} {cf : Cf} (C : CfOk P base w0 cf) {ro rl : Option Nat} {n : Nat} {g : Operand} {ps : Array Tmp} {cz bd : Code} {f : Fr} {h : Hp} {k : Kf} {ρ : Env} {a : Act} {w : World} {Q : Exit → Act → World → Prop}
    (hk : evRange2 P cf ro (evA f g) ps cz bd f h k = .yes) (hro : RoR ρ ro rl) (E : Emb ρ base w0 h w) (F : FrR ρ f a) (hd : DfR ρ f.ds a.defers) (K : Post base w0 ρ k Q) : (Code.rangeFunc g ps cz bd).wpIn (fen rl) n P Q a w := by
  unfold evRange2 at hk
  split at hk
  case h_2 => cases hk
  rename_i gf fa fb hfn
  obtain ⟨xa, xb, hxa, hxb, hg⟩ := asFn_ok hfn (evA_real F g)
  refine wpIn_rangeFunc fun fn _ => ?_
  have hres : ∀ (l : Nat) (w : World), (resolve a.eval (rangeCall g l) 0).run P w = .ok { target := .fn (.func gf) xb.toArray, args := xa.toArray ++ #[.func (.yield l) #[] #[]] } w := fun l w => by
    show (Deferred.ofValue (a.eval g) (#[Operand.const (.func (.yield l) #[] #[])].map a.eval)).run P w = _
    rw [hg]
    simp [Deferred.ofValue, Act.eval]
  split at hk
  · have hro : rl = none := hro
    subst hro
    have hnn := E.fresh0
    have E1 := E.alloc (.deferred (some [])) .dfr 0 rfl
    generalize hρ1 : ρ.add h.nx ⟨w.heap.size, 0, 0⟩ = ρ1 at E1
    have hle1 : Env.le ρ ρ1 := hρ1 ▸ Env.le_add hnn
    have hD1 : ρ1 h.nx = some ⟨w.heap.size, 0, 0⟩ := by rw [← hρ1]; exact add_self _ _ _
    have hle2 : Env.le ρ1 (ρ1.add (h.nx + 1) ⟨w.heap.size + 1, 0, 0⟩) := Env.le_add E1.fresh0
    have E2 := E1.alloc (.loop { state := .ready, pending := none, fn, tmps := a.tmps, params := ps, assign := cz, body := bd, defers := w.heap.size }) (.loop f.tr f.n ps cz bd .ready none h.nx) 0
      ⟨fn, a.tmps, ⟨w.heap.size, 0, 0⟩, rfl, (Env.le_add E1.fresh0) _ _ hD1, F.1, fun i => AV.real_mono (Env.le_trans hle1 (Env.le_add E1.fresh0)) _ _ (F.2 i)⟩
    have hsz1 : (w.alloc (.deferred (some []))).heap.size = w.heap.size + 1 := World.size_alloc _ _
    rw [hsz1] at E2
    change Emb (ρ1.add (h.nx + 1) ⟨w.heap.size + 1, 0, 0⟩) _ _ _ _ at E2
    split at hk
    case h_2 => cases hk
    rename_i g2 args2 hcf
    have hop := evCallFn_ok (P := P) E2 (g := gf) (args := fa ++ [.yld (h.nx + 1)] ++ fb) (xs := xa.toArray ++ #[.func (.yield (w.heap.size + 1)) #[] #[]] ++ xb.toArray) (by
      have e1 : AV.reals (ρ1.add (h.nx + 1) ⟨w.heap.size + 1, 0, 0⟩) [.yld (h.nx + 1)] = some [.func (.yield (w.heap.size + 1)) #[] #[]] := by simp [AV.reals, AV.real, add_self]
      rw [reals_append (reals_append (AV.reals_mono (Env.le_trans hle1 hle2) _ _ hxa) e1) (AV.reals_mono (Env.le_trans hle1 hle2) _ _ hxb)]
      simp)
    rw [hcf] at hop
    obtain ⟨xs, hrun, hxs⟩ := hop
    refine ⟨w.heap.size + 1, [{ target := .collected w.heap.size, args := #[] }], _, _, _, g2, xs, _, run_enterLoop_outer _ _ _ _ _, hres _ _, fun _ _ => trivial, ?_, fun hh => (by cases hh), fen_calls ((C g2 args2 _ _ _ _ xs (fun x w' => rangePost (fen none) n P (w.heap.size + 1) Q { a with defers := [{ target := .collected w.heap.size, args := #[] }] ++ a.defers } (.returned x) w') hk E2 hxs ?_).mono ?_)⟩
    · simpa [invoke] using hrun
    · intro v h' ρ' x w' q1 q2 q3 q4
      have hle' := Env.le_trans (Env.le_trans hle1 hle2) q2
      exact endRange_ok (rl := none) (n := n) (P := P) (l := ⟨w.heap.size + 1, 0, 0⟩) (a := { a with defers := [{ target := .collected w.heap.size, args := #[] }] ++ a.defers }) q1 q3 (q2 _ _ (add_self _ _ _)) hle' (F.mono hle') ⟨_, _, q2 _ _ (hle2 _ _ hD1), rfl, hd.mono hle'⟩ K x
    · rintro e w' ⟨x, rfl, hx⟩
      exact hx
  · rename_i id
    obtain ⟨l0, hl0, rfl⟩ := hro
    split at hk
    case h_2 => cases hk
    rename_i t0 n0 ps0 as0 bd0 st0 pe0 d0 hg0
    obtain ⟨_, fn0, tmps0, ld0, hW0, hld0, _, _⟩ := E.loop hg0 hl0
    have hle2 : Env.le ρ (ρ.add h.nx ⟨w.heap.size, 0, 0⟩) := Env.le_add E.fresh0
    have E2 := E.alloc (.loop { state := .ready, pending := none, fn, tmps := a.tmps, params := ps, assign := cz, body := bd, defers := ld0.blk }) (.loop f.tr f.n ps cz bd .ready none d0) 0
      ⟨fn, a.tmps, ld0, rfl, hle2 _ _ hld0, F.1, fun i => AV.real_mono hle2 _ _ (F.2 i)⟩
    split at hk
    case h_2 => cases hk
    rename_i g2 args2 hcf
    have hop := evCallFn_ok (P := P) E2 (g := gf) (args := fa ++ [.yld h.nx] ++ fb) (xs := xa.toArray ++ #[.func (.yield w.heap.size) #[] #[]] ++ xb.toArray) (by
      have e1 : AV.reals (ρ.add h.nx ⟨w.heap.size, 0, 0⟩) [.yld h.nx] = some [.func (.yield w.heap.size) #[] #[]] := by simp [AV.reals, AV.real, add_self]
      rw [reals_append (reals_append (AV.reals_mono hle2 _ _ hxa) e1) (AV.reals_mono hle2 _ _ hxb)]
      simp)
    rw [hcf] at hop
    obtain ⟨xs, hrun, hxs⟩ := hop
    refine ⟨w.heap.size, [], _, _, _, g2, xs, _, run_enterLoop_inner hW0 _ _ _ _ _, hres _ _, fun _ _ => trivial, ?_, fun hh => (by cases hh), fen_calls ((C g2 args2 _ _ _ _ xs (fun x w' => rangePost (fen (some l0.blk)) n P w.heap.size Q { a with defers := [] ++ a.defers } (.returned x) w') hk E2 hxs ?_).mono ?_)⟩
    · simpa [invoke] using hrun
    · intro v h' ρ' x w' q1 q2 q3 q4
      have hle' := Env.le_trans hle2 q2
      exact endRange_ok (rl := some l0.blk) (n := n) (P := P) (l := ⟨w.heap.size, 0, 0⟩) (a := a) q1 q3 (q2 _ _ (add_self _ _ _)) hle' (F.mono hle') (hd.mono hle') K x
    · rintro e w' ⟨x, rfl, hx⟩
      exact hx
noncomputable def evC (P : Program) : Nat → Ecf
  | 0, _, _, _, _, _ => .no "fuel"
  | n + 1, ro, c, f, h, k => match c with
    | .skip => k .normal f h
    | .region _ ops draw => match draw with
      | false => evOps P (evEnter P (evC P n)) (evRound P (evC P n)) ops ops.toList f h (k .normal)
      | true => match P.follows .mixedOrders with
        | true => match drawGo 0 (ops.toList.map (maskOf ops)) with
          | true => match ops.toList.all (fun o => !Oper.isSelect o) with
            | true => evDraw P (evEnter P (evC P n)) (evRound P (evC P n)) ops (tabOf ops) (ops.size + 1) 0 f h [] (k .normal)
            | false => .no "select"
          | false => .no "a drawn region out of form"
        | false => .no "orders"
    | .seq a b => evC P n ro a f h fun e f' h' => match e with
      | .normal => evC P n ro b f' h' k
      | e => k e f' h'
    | .cond c a b => match evA f c with
      | .v (.bool true) => evC P n ro a f h k
      | .v (.bool false) => evC P n ro b f h k
      | _ => .no "condition"
    | .block id b => evC P n ro b f h fun e f' h' => match e with
      | .exit j => match Nat.beq j id with
        | true => k .normal f' h'
        | false => k (.exit j) f' h'
      | e => k e f' h'
    | .loop b => evC P n ro b f h fun e f' h' => match e with
      | .normal => evC P n ro (.loop b) f' h' k
      | e => k e f' h'
    | .exit id => k (.exit id) f h
    | .label _ => k .normal f h
    | .ret => k .ret f h
    | .rangeFunc g ps cz bd => evRange2 P (evEnter P (evC P n)) ro (evA f g) ps cz bd f h k
    | _ => .no "code"
theorem evC_ok (P : Program) (base : Kp) (w0 : World) : ∀ n, EcOk P base w0 (evC P n)
  | 0 => fun ro c f h k ρ a w Q rl nn hk => by cases hk
  | n + 1 => by
    have ih := evC_ok P base w0 n
    intro ro c f h k ρ a w Q rl nn hk hro E F hd K
    cases c with
    | skip => exact wpIn_skip (K .normal f h ρ a w hk (Env.le_refl ρ) E F hd)
    | label l => exact wpIn_label (K .normal f h ρ a w hk (Env.le_refl ρ) E F hd)
    | exit id => exact wpIn_exit (K (.exit id) f h ρ a w hk (Env.le_refl ρ) E F hd)
    | ret => exact wpIn_ret (K .ret f h ρ a w hk (Env.le_refl ρ) E F hd)
    | rangeFunc g ps cz bd => exact evRange2_ok (evEnter_ok ih) hk hro E F hd K
    | region id ops draw =>
      cases draw with
      | true =>
        simp only [evC] at hk
        split at hk
        case h_2 => cases hk
        rename_i hm
        split at hk
        case h_2 => cases hk
        rename_i hg
        split at hk
        case h_2 => cases hk
        rename_i hs
        exact wpIn_region_any hm (evDraw_any (evEnter_ok ih) (evRound_ok ih) (sound_of hg hs) hk E F hd fun f h ρ' a w q1 q2 q3 q4 q5 => K .normal f h ρ' a w q1 q2 q3 q4 q5)
      | false => exact wpIn_region_list (evOps_ok (evEnter_ok ih) (evRound_ok ih) ops.toList f h ρ a w hk E F hd fun f h ρ' a w q1 q2 q3 q4 q5 => K .normal f h ρ' a w q1 q2 q3 q4 q5)
    | seq x y =>
      refine wpIn_seq (ih ro x f h _ ρ a w _ rl nn hk hro E F hd ?_)
      intro e f' h' ρ' a' w' he hle E' F' hd'
      cases e with
      | normal => exact ih ro y f' h' k ρ' a' w' Q rl nn he (hro.mono hle) E' F' hd' (K.mono hle)
      | exit j => exact K (.exit j) f' h' ρ' a' w' he hle E' F' hd'
      | ret => exact K .ret f' h' ρ' a' w' he hle E' F' hd'
    | cond x y z =>
      have hx := evA_real F x
      simp only [evC] at hk
      split at hk
      · rename_i he
        rw [he] at hx
        exact wpIn_cond_true (Option.some.inj hx).symm (ih ro y f h k ρ a w Q rl nn hk hro E F hd K)
      · rename_i he
        rw [he] at hx
        exact wpIn_cond_false (Option.some.inj hx).symm (ih ro z f h k ρ a w Q rl nn hk hro E F hd K)
      · cases hk
    | block id b =>
      refine wpIn_block (ih ro b f h _ ρ a w _ rl nn hk hro E F hd ?_)
      intro e f' h' ρ' a' w' he hle E' F' hd'
      cases e with
      | normal => exact K .normal f' h' ρ' a' w' he hle E' F' hd'
      | ret => exact K .ret f' h' ρ' a' w' he hle E' F' hd'
      | exit j =>
        dsimp only at he
        show if j = id then _ else _
        cases hj : Nat.beq j id with
        | true =>
          rw [hj] at he
          rw [if_pos (Nat.eq_of_beq_eq_true hj)]
          exact K .normal f' h' ρ' a' w' he hle E' F' hd'
        | false =>
          rw [hj] at he
          rw [if_neg (fun e => by rw [e] at hj; simp at hj)]
          exact K (.exit j) f' h' ρ' a' w' he hle E' F' hd'
    | loop b =>
      have J0 : ∃ m, ∃ f h ρ', evC P m ro (.loop b) f h k = .yes ∧ Env.le ρ ρ' ∧ Emb ρ' base w0 h w ∧ FrR ρ' f a ∧ DfR ρ' f.ds a.defers ∧ m ≤ n + 1 := ⟨n + 1, f, h, ρ, hk, Env.le_refl ρ, E, F, hd, Nat.le_refl _⟩
      classical
      let J : Nat → Act → World → Prop := fun m a w => ∃ f h ρ', evC P m ro (.loop b) f h k = .yes ∧ Env.le ρ ρ' ∧ Emb ρ' base w0 h w ∧ FrR ρ' f a ∧ DfR ρ' f.ds a.defers ∧ m ≤ n + 1
      let μ : Act → World → Nat := fun a w => if hh : ∃ m, J m a w then Classical.choose (least hh) else 0
      have hμ : ∀ a w (hh : ∃ m, J m a w), J (μ a w) a w ∧ ∀ m, J m a w → μ a w ≤ m := fun a w hh => by
        have : μ a w = Classical.choose (least hh) := dif_pos hh
        rw [this]
        exact Classical.choose_spec (least hh)
      refine wpIn_loop (fun a w => ∃ m, J m a w) μ J0 fun a w hJ => ?_
      obtain ⟨hj, _⟩ := hμ a w hJ
      generalize hm : μ a w = m at hj
      obtain ⟨f, h, ρ', hk', hle', E', F', hd', hmn⟩ := hj
      cases m with
      | zero => cases hk'
      | succ m =>
        have ihm : EcOk P base w0 (evC P m) := evC_ok P base w0 m
        refine ihm ro b f h _ ρ' a w _ rl nn hk' (hro.mono hle') E' F' hd' ?_
        intro e f'' h'' ρ'' a'' w'' he hle'' E'' F'' hd''
        cases e with
        | normal =>
          have hJ'' : J m a'' w'' := ⟨f'', h'', ρ'', he, Env.le_trans hle' hle'', E'', F'', hd'', by omega⟩
          have := (hμ a'' w'' ⟨m, hJ''⟩).2 m hJ''
          exact ⟨⟨m, hJ''⟩, by omega⟩
        | exit j => exact K (.exit j) f'' h'' ρ'' a'' w'' he (Env.le_trans hle' hle'') E'' F'' hd''
        | ret => exact K .ret f'' h'' ρ'' a'' w'' he (Env.le_trans hle' hle'') E'' F'' hd''
    | _ => cases hk
termination_by n => n
/-- A run, reckoned, on arguments that name no block (variables, too). -/
theorem ev_calls_on {P : Program} {g : FuncId} {n : Nat} {p : AV → Ans} (xs : List Value) (h : evEnter P (evC P n) g (xs.map .v) ⟨.nil, 0⟩ (fun v _ => p v) = .yes) (w : World) {R : Value → Prop} (hp : ∀ v ρ x, p v = .yes → v.real ρ = some x → R x) :
    Calls P g xs.toArray w fun e w' => (∃ x, e = .returned x ∧ R x) ∧ Below w.heap.size w w' := by
  have hno : ∀ id, (⟨.nil, 0⟩ : Hp).get id = .gone := fun id => by
    show ((Tr.nil : Tr Blk).get id).getD .gone = _
    rw [Tr.get_nil]
    rfl
  have E : Emb (fun _ => none) ⟨w.heap.size, fun _ => False⟩ w ⟨.nil, 0⟩ w := ⟨Below.refl _ _, Nat.le_refl _, (fun b hB => hB.elim), (fun id l hl => by cases hl), (fun id hl => absurd (hno id) hl), (fun id id' l l' hl => absurd (hno id) hl)⟩
  refine (evEnter_ok (evC_ok P ⟨w.heap.size, fun _ => False⟩ w n) g (xs.map .v) ⟨.nil, 0⟩ _ _ w xs.toArray (fun x w' => R x ∧ Below w.heap.size w w') h E (reals_v _ _) fun v h' ρ' x w' q1 q2 q3 q4 => ⟨hp v ρ' x q1 q4, q3.below⟩).mono ?_
  rintro e w' ⟨x, rfl, h1, h2⟩
  exact ⟨⟨x, rfl, h1⟩, h2⟩
/-- A closed run, reckoned. -/
theorem ev_calls {P : Program} {g : FuncId} {n : Nat} {p : AV → Ans} (h : evEnter P (evC P n) g [] ⟨.nil, 0⟩ (fun v _ => p v) = .yes) (w : World) {R : Value → Prop} (hp : ∀ v ρ x, p v = .yes → v.real ρ = some x → R x) :
    Calls P g #[] w fun e w' => (∃ x, e = .returned x ∧ R x) ∧ Below w.heap.size w w' := ev_calls_on [] h w hp
end Go.Proofs.Ytcakdjnnfonijaa
