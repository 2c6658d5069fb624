/- A reckoner of closed runs, 14: regions, code, functions. Nothing of the program is used here. -/
import Derived.Test.YtchdipakekglmaaEvOp
namespace Go.Proofs.Ytchdipakekglmaa
open Go.RowKit

inductive Ex where
  | normal
  | exit (id : Nat)
  | ret
noncomputable def Ex.to : Ex → Exit
  | .normal => .normal
  | .exit id => .exit id
  | .ret => .ret
/-- Is the operation asked for? -/
noncomputable def evWanted (ops : Array Oper) (f : Fr) (o : Oper) : Option Bool := match o.guard with
  | none => some true
  | some (g, want) => match (ops[g]?).bind (·.dst) with
    | some t => match Nat.blt t f.n with
      | true => match f.get t with
        | .v (.bool b) => some (b == want)
        | .v (.tuple _) => some false
        | .tup _ => some false
        | _ => none
      | false => none
    | none => none
theorem evWanted_ok {ρ : Env} {ops : Array Oper} {f : Fr} {a : Act} {o : Oper} {b : Bool} (hf : FrR ρ f a) (h : evWanted ops f o = some b) : Region.wanted o (yielded ops a.tmps) = b := by
  unfold evWanted at h
  unfold Region.wanted
  split at h
  · rename_i hg
    rw [hg]
    exact Option.some.inj h
  · rename_i g want hg
    rw [hg]
    dsimp only
    split at h
    case h_2 => cases h
    rename_i t ht
    split at h
    case h_2 => cases h
    rename_i hlt
    rw [blt_eq] at hlt
    have hlt := of_decide_eq_true hlt
    have hsz : t < a.tmps.size := by rw [hf.1]; exact hlt
    have hv := hf.2 t
    have tup : ∀ ys, Value.tuple ys = a.tmps.getD t undef → (yielded ops a.tmps g == some want) = false := fun ys hy => by
      have : a.tmps[t]? = some (.tuple ys) := by
        rw [hy]
        simp [hsz]
      unfold yielded
      rw [ht]
      simp [this]
    split at h
    case h_4 => cases h
    · rename_i b' hb
      obtain rfl := Option.some.inj h
      rw [hb] at hv
      have hv : Value.bool b' = a.tmps.getD t undef := Option.some.inj hv
      have : a.tmps[t]? = some (.bool b') := by
        rw [hv]
        simp [hsz]
      unfold yielded
      rw [ht]
      simp [this]
    · rename_i ys hb
      obtain rfl := Option.some.inj h
      rw [hb] at hv
      exact tup ys (Option.some.inj hv)
    · rename_i ys hb
      obtain rfl := Option.some.inj h
      rw [hb] at hv
      simp only [AV.real, Option.map_eq_some_iff] at hv
      obtain ⟨zs, _, hz⟩ := hv
      exact tup _ hz
/-- What a run answers: yes, or where it stopped. -/
inductive Ans where
  | yes
  | no (why : String)
  | «at» (o : Oper)
  | got (f : Fr) (h : Hp)
abbrev Kf := Ex → Fr → Hp → Ans
/-- The fence of code in whatever frame, a round's too. -/
noncomputable def fen (rl : Option Nat) : Fence := { Fence.wide with round := rl }
theorem fen_calls {rl : Option Nat} {n : Nat} {P : Program} {f : FuncId} {args : Array Value} {w : World} {R : Ending → World → Prop} (h : Calls P f args w R) : CallsIn (fen rl) n P f args w R := (callsIn_wide (n := n)).2 h
noncomputable def allA {α : Type} : List α → (α → Ans) → Ans
  | [], _ => .yes
  | x :: r, g => match g x with
    | .yes => allA r g
    | .no s => .no s
    | .at o => .at o
    | .got f h => .got f h
theorem allA_spec {α : Type} : ∀ (l : List α) (g : α → Ans), allA l g = .yes → ∀ x ∈ l, g x = .yes
  | [], g, _, x, hx => by cases hx
  | y :: r, g, h, x, hx => by
    simp only [allA] at h
    split at h
    · rename_i hy
      rcases List.mem_cons.1 hx with rfl | hx
      · exact hy
      · exact allA_spec r g h x hx
    · cases h
    · cases h
    · cases h
/-- What a continuation's yes is worth. -/
noncomputable def Post (base : Kp) (w0 : World) (ρ : Env) (k : Kf) (Q : Exit → Act → World → Prop) : Prop :=
  ∀ e f h ρ' a w, k e f h = .yes → Env.le ρ ρ' → Emb ρ' base w0 h w → FrR ρ' f a → DfR ρ' f.ds a.defers → Q e.to a w
theorem Post.mono {base : Kp} {w0 : World} {ρ ρ' : Env} {k : Kf} {Q : Exit → Act → World → Prop} (h : Post base w0 ρ k Q) (hle : Env.le ρ ρ') : Post base w0 ρ' k Q :=
  fun e f hh ρ'' a w h1 h2 => h e f hh ρ'' a w h1 (Env.le_trans hle h2)
abbrev Cf := FuncId → List AV → Hp → (AV → Hp → Ans) → Ans
noncomputable def CfOk (P : Program) (base : Kp) (w0 : World) (cf : Cf) : Prop :=
  ∀ g args h kk ρ w (xs : Array Value) (R : Value → World → Prop), cf g args h kk = .yes → Emb ρ base w0 h w → AV.reals ρ args = some xs.toList →
    (∀ v h' ρ' x w', kk v h' = .yes → Env.le ρ ρ' → Emb ρ' base w0 h' w' → v.real ρ' = some x → R x w') →
    Calls P g xs w fun e w' => ∃ x, e = .returned x ∧ R x w'
abbrev Rf := Nat → List AV → Hp → (AV → Hp → Ans) → Ans
noncomputable def RfOk (P : Program) (base : Kp) (w0 : World) (rf : Rf) : Prop :=
  ∀ id args h kk ρ w (xs : Array Value) (l : Loc) (n : Nat) (R : Value → World → Prop), rf id args h kk = .yes → Emb ρ base w0 h w → ρ id = some l → AV.reals ρ args = some xs.toList →
    (∀ v h' ρ' x w', kk v h' = .yes → Env.le ρ ρ' → Emb ρ' base w0 h' w' → v.real ρ' = some x → R x w') →
    YieldAt Fence.wide n P l.blk xs w fun e w' => ∃ x, e = .returned x ∧ R x w'
noncomputable def evOps (P : Program) (cf : Cf) (rf : Rf) (ops : Array Oper) : List Oper → Fr → Hp → (Fr → Hp → Ans) → Ans
  | [], f, h, k => k f h
  | o :: r, f, h, k => match evWanted ops f o with
    | none => .at o
    | some false => match f.put o.dst (.v undef) with
      | some f' => evOps P cf rf ops r f' h k
      | none => .at o
    | some true => match evOp P f h o with
      | .bad => .at o
      | .val v h' => match f.put o.dst v with
        | some f' => evOps P cf rf ops r f' h' k
        | none => .at o
      | .skip h' => match f.put o.dst (.v undef) with
        | some f' => evOps P cf rf ops r f' h' k
        | none => .at o
      | .enter g args => cf g args h fun v h' => match f.put o.dst v with
        | some f' => evOps P cf rf ops r f' h' k
        | none => .at o
      | .round id args => rf id args h fun v h' => match f.put o.dst v with
        | some f' => evOps P cf rf ops r f' h' k
        | none => .at o
      | .alts l => allA l fun p => match f.put o.dst p.1 with
        | some f' => evOps P cf rf ops r f' p.2 k
        | none => .at o
theorem put_defers (a : Act) (d : Option Tmp) (v : Value) : (a.put d v).defers = a.defers := by cases d <;> rfl
theorem DfR.put {ρ : Env} {f f' : Fr} {a : Act} {d : Option Tmp} {v : AV} {x : Value} (h : DfR ρ f.ds a.defers) (hp : f.put d v = some f') : DfR ρ f'.ds (a.put d x).defers := by rw [put_defers, Fr.put_ds hp]; exact h
/-- One operation that is asked for. -/
theorem evOp_step {P : Program} {base : Kp} {w0 : World} {cf : Cf} {rf : Rf} (C : CfOk P base w0 cf) (D : RfOk P base w0 rf) {rl : Option Nat} {n : Nat} {Q : Exit → Act → World → Prop} {f : Fr} {h : Hp} {ρ : Env} {a b : Act} {w : World} {o : Oper} {next : Act → World → Prop}
    (E : Emb ρ base w0 h w) (F : FrR ρ f a) (hea : execOp a.eval o = execOp b.eval o) (hb : evOp P f h o ≠ .bad)
    (hval : ∀ v h' ρ' w' x, evOp P f h o = .val v h' → v.real ρ' = some x → Env.le ρ ρ' → Emb ρ' base w0 h' w' → next (b.put o.dst x) w')
    (hskip : ∀ h' ρ' w', evOp P f h o = .skip h' → Env.le ρ ρ' → Emb ρ' base w0 h' w' → next (b.put o.dst undef) w')
    (kk : AV → Hp → Ans)
    (hent : ∀ g args, evOp P f h o = .enter g args → cf g args h kk = .yes)
    (hrnd : ∀ id args, evOp P f h o = .round id args → rf id args h kk = .yes)
    (hkk : ∀ v h' ρ' x w', kk v h' = .yes → Env.le ρ ρ' → Emb ρ' base w0 h' w' → v.real ρ' = some x → next (b.put o.dst x) w')
    (halt : ∀ l p ρ' w' x, evOp P f h o = .alts l → p ∈ l → p.1.real ρ' = some x → Env.le ρ ρ' → Emb ρ' base w0 p.2 w' → next (b.put o.dst x) w') :
    o.wpIn (fen rl) n P b w next Q := by
  refine ⟨fun _ _ => trivial, ?_⟩
  rw [Oper.semAt_eq _ _ _ (evOp_good hb), ← hea]
  have hop := evOp_ok (P := P) E F o
  cases hr : evOp P f h o with
  | bad => exact absurd hr hb
  | val v h' =>
    rw [hr] at hop
    obtain ⟨ρ', w', x, h1, h2, h3, h4⟩ := hop
    rw [h1]
    exact hval v h' ρ' w' x hr h2 h3 h4
  | skip h' =>
    rw [hr] at hop
    obtain ⟨ρ', w', h1, h3, h4⟩ := hop
    rw [h1]
    exact hskip h' ρ' w' hr h3 h4
  | enter g args =>
    rw [hr] at hop
    obtain ⟨xs, h1, h2⟩ := hop
    rw [h1]
    refine ⟨fun hh => (by cases hh), fen_calls ((C g args h kk ρ w xs (fun x w' => next (b.put o.dst x) w') (hent g args hr) E h2 hkk).mono ?_)⟩
    rintro e w' ⟨x, rfl, hx⟩
    exact hx
  | round id args =>
    rw [hr] at hop
    obtain ⟨l, xs, h0, h1, h2⟩ := hop
    rw [h1]
    obtain ⟨fn, tmps, cz, bd, hy, hR⟩ := D id args h kk ρ w xs l (n - 1) (fun x w' => next (b.put o.dst x) w') (hrnd id args hr) E h0 h2 hkk
    rw [hy]
    refine ⟨fun hh => (by cases hh), ?_⟩
    have hR' : RoundIn (fen rl) (n - 1) P l.blk fn tmps cz bd w _ := hR
    refine hR'.mono ?_
    rintro e w' ⟨x, rfl, hx⟩
    exact hx
  | alts l =>
    rw [hr] at hop
    obtain ⟨p, hp, ρ', w', x, h1, h2, h3, h4⟩ := hop
    rw [h1]
    exact halt l p ρ' w' x hr hp h2 h3 h4
theorem evOps_ok {P : Program} {base : Kp} {w0 : World} {cf : Cf} {rf : Rf} (C : CfOk P base w0 cf) (D : RfOk P base w0 rf) {ops : Array Oper} {k : Fr → Hp → Ans} {Q : Exit → Act → World → Prop} {rl : Option Nat} {n : Nat} : ∀ (l : List Oper) (f : Fr) (h : Hp) (ρ : Env) (a : Act) (w : World),
    evOps P cf rf ops l f h k = .yes → Emb ρ base w0 h w → FrR ρ f a → DfR ρ f.ds a.defers → (∀ f h ρ' a w, k f h = .yes → Env.le ρ ρ' → Emb ρ' base w0 h w → FrR ρ' f a → DfR ρ' f.ds a.defers → Q .normal a w) → wpListIn (fen rl) n P ops Q l a w
  | [], f, h, ρ, a, w, hk, E, F, hd, K => K f h ρ a w hk (Env.le_refl ρ) E F hd
  | o :: r, f, h, ρ, a, w, hk, E, F, hd, K => by
    simp only [evOps] at hk
    unfold wpListIn
    split at hk
    · cases hk
    · rename_i hw
      rw [if_neg (by rw [evWanted_ok F hw]; exact Bool.false_ne_true)]
      split at hk
      · rename_i f' hf'
        exact ⟨fun _ _ => trivial, evOps_ok C D r f' h ρ _ w hk E (F.put rfl hf') (hd.put hf') K⟩
      · cases hk
    · rename_i hw
      rw [if_pos (evWanted_ok F hw)]
      have go : ∀ (v : AV) (h' : Hp) (ρ' : Env) (w' : World) (x : Value), (match f.put o.dst v with | some f' => evOps P cf rf ops r f' h' k | none => .at o) = .yes → v.real ρ' = some x → Env.le ρ ρ' → Emb ρ' base w0 h' w' → wpListIn (fen rl) n P ops Q r (a.put o.dst x) w' := fun v h' ρ' w' x q1 q2 q3 q4 => by
        split at q1
        · rename_i f' hf'
          exact evOps_ok C D r f' h' ρ' _ w' q1 q4 ((F.mono q3).put q2 hf') ((hd.mono q3).put hf') fun f h ρ'' a w s1 s2 => K f h ρ'' a w s1 (Env.le_trans q3 s2)
        · cases q1
      refine evOp_step C D E F rfl (fun hb => by rw [hb] at hk; cases hk) (fun v h' ρ' w' x hr q2 q3 q4 => go v h' ρ' w' x (by rw [hr] at hk; exact hk) q2 q3 q4) (fun h' ρ' w' hr q3 q4 => go (.v undef) h' ρ' w' undef (by rw [hr] at hk; exact hk) rfl q3 q4)
        (fun v h' => match f.put o.dst v with | some f' => evOps P cf rf ops r f' h' k | none => .at o) (fun g args hr => by rw [hr] at hk; exact hk) (fun id args hr => by rw [hr] at hk; exact hk) (fun v h' ρ' x w' q1 q2 q3 q4 => go v h' ρ' w' x q1 q4 q2 q3)
        (fun l p ρ' w' x hr hp q2 q3 q4 => go p.1 p.2 ρ' w' x (by rw [hr] at hk; exact allA_spec l _ hk p hp) q2 q3 q4)
noncomputable def evRes (P : Program) (f : Fr) (h : Hp) : List ResultVar → Option (List AV)
  | [] => some []
  | .tmp t :: r => (evRes P f h r).map fun l => f.get t :: l
  | .cell b t :: r => match evLoad P h t (f.get b) with
    | some v => (evRes P f h r).map fun l => v :: l
    | none => none
noncomputable def resOf (tmps : Array Value) : ResultVar → Sem Value
  | .tmp t => pure (tmps.getD t undef)
  | .cell a t => do loadVar t (← asAddr (tmps.getD a undef))
theorem evRes_ok {P : Program} {ρ : Env} {base : Kp} {w0 : World} {h : Hp} {w : World} (E : Emb ρ base w0 h w) {f : Fr} {a : Act} (F : FrR ρ f a) : ∀ (l : List ResultVar) (vs : List AV), evRes P f h l = some vs →
    ∃ xs, AV.reals ρ vs = some xs ∧ (l.mapM (resOf a.tmps)).run P w = .ok xs w
  | [], vs, hv => by
    obtain rfl := Option.some.inj hv
    exact ⟨[], rfl, rfl⟩
  | .tmp t :: r, vs, hv => by
    simp only [evRes] at hv
    obtain ⟨l, hl, rfl⟩ := Option.map_eq_some_iff.1 hv
    obtain ⟨xs, h1, h2⟩ := evRes_ok E F r l hl
    refine ⟨a.tmps.getD t undef :: xs, by simp [AV.reals, F.2 t, h1], ?_⟩
    simp [List.mapM_cons, resOf, h2]
  | .cell b t :: r, vs, hv => by
    simp only [evRes] at hv
    split at hv
    case h_2 => cases hv
    rename_i v hlv
    obtain ⟨l, hl, rfl⟩ := Option.map_eq_some_iff.1 hv
    obtain ⟨xs, h1, h2⟩ := evRes_ok E F r l hl
    obtain ⟨x, hx1, hx2⟩ := evLoad_gives (P := P) E (F.2 b) hlv
    refine ⟨x :: xs, by simp [AV.reals, hx2, h1], ?_⟩
    have hload : (resOf a.tmps (.cell b t)).run P w = .ok x w := by
      show (do loadVar t (← asAddr (a.tmps.getD b undef)) : Sem Value).run P w = .ok x w
      revert hx1
      generalize a.tmps.getD b undef = y
      intro hx1
      cases y with
      | pointer p =>
        cases p with
        | none => simp [Instr.loadAt, Instr.sureAddr, stuck, Sem.run_bind, Sem.run] at hx1
        | some p => simpa [Instr.loadAt, Instr.sureAddr, asAddr] using hx1
      | _ => simp [Instr.loadAt, Instr.sureAddr, stuck, Sem.run_bind, Sem.run] at hx1
    rw [List.mapM_cons, Sem.run_bind, hload, Result.andThen_ok, Sem.run_bind, h2]
    rfl
noncomputable def evResults (P : Program) (fn : Func) (f : Fr) (h : Hp) : Option AV := match evRes P f h fn.results.toList with
  | some [v] => some v
  | some vs => some (.tup vs)
  | none => none
theorem evResults_ok {P : Program} {ρ : Env} {base : Kp} {w0 : World} {h : Hp} {w : World} (E : Emb ρ base w0 h w) {f : Fr} {a : Act} (F : FrR ρ f a) {fn : Func} {v : AV} (hv : evResults P fn f h = some v) :
    ∃ x, (results fn a.tmps).run P w = .ok x w ∧ v.real ρ = some x := by
  have key : ∀ vs, evRes P f h fn.results.toList = some vs → ∃ xs : List Value, AV.reals ρ vs = some xs ∧ (results fn a.tmps).run P w = .ok (if h : xs.length = 1 then xs[0] else .tuple xs.toArray) w := fun vs hvs => by
    obtain ⟨xs, h1, h2⟩ := evRes_ok E F _ vs hvs
    refine ⟨xs, h1, ?_⟩
    have h3 : (fn.results.mapM (resOf a.tmps)).run P w = .ok xs.toArray w := by
      rw [Array.mapM_eq_mapM_toList]
      simp [h2]
    have he : results fn a.tmps = (do let vs ← fn.results.mapM (resOf a.tmps); pure (if h : vs.size = 1 then vs[0] else .tuple vs)) := by
      unfold results
      have : (fun r : ResultVar => match r with
        | .tmp t => (pure (a.tmps.getD t undef) : Sem Value)
        | .cell b t => do loadVar t (← asAddr (a.tmps.getD b undef))) = resOf a.tmps := by funext r; cases r <;> rfl
      rw [← this]
      rfl
    rw [he, Sem.run_bind, h3, Result.andThen_ok]
    simp
  unfold evResults at hv
  split at hv
  · rename_i v' hr
    obtain rfl := Option.some.inj hv
    obtain ⟨xs, h1, h2⟩ := key _ hr
    simp only [AV.reals, Option.bind_eq_some_iff, Option.map_eq_some_iff] at h1
    obtain ⟨x, hx, y, hy, rfl⟩ := h1
    obtain rfl := Option.some.inj hy
    exact ⟨x, by simpa using h2, hx⟩
  · rename_i vs hne hr
    obtain rfl := Option.some.inj hv
    obtain ⟨xs, h1, h2⟩ := key _ hr
    have hl := reals_len h1
    have h1' : xs.length ≠ 1 := fun e => by
      rw [hl] at e
      obtain ⟨b, hb⟩ := List.length_eq_one_iff.1 e
      exact hne b hb
    refine ⟨.tuple xs.toArray, by rw [dif_neg h1'] at h2; exact h2, by simp [AV.real, h1]⟩
  · cases hv
/-- The frame that a call begins with. -/
noncomputable def frOf : List AV → Nat → Tr AV → Tr AV
  | [], _, t => t
  | a :: r, i, t => frOf r (i + 1) (t.set i a)
theorem frOf_get : ∀ (cz : List AV) (i : Nat) (t : Tr AV) (j : Nat), (frOf cz i t).get j = if i ≤ j ∧ j < i + cz.length then cz[j - i]? else t.get j
  | [], i, t, j => by rw [if_neg (by rw [List.length_nil]; omega)]; rfl
  | a :: r, i, t, j => by
    rw [frOf, frOf_get r (i + 1) _ j, Tr.get_set]
    by_cases e : j = i
    · subst e
      rw [if_neg (by omega), if_pos rfl, if_pos (by simp), Nat.sub_self]
      rfl
    · by_cases e2 : i + 1 ≤ j ∧ j < i + 1 + r.length
      · rw [if_pos e2, if_pos (by simp; omega), show j - i = (j - (i + 1)) + 1 by omega]
        rfl
      · rw [if_neg e2, if_neg e, if_neg (by simp; omega)]
theorem frOf_ok {ρ : Env} {args : List AV} {xs : Array Value} {n : Nat} (h : AV.reals ρ args = some xs.toList) (hn : xs.size ≤ n) : FrR ρ ⟨frOf args 0 .nil, n, []⟩ { tmps := xs ++ Array.replicate (n - xs.size) undef, defers := [] } := by
  have hl := reals_len h
  rw [Array.length_toList] at hl
  refine ⟨by simp; omega, fun i => ?_⟩
  unfold Fr.get
  simp only [frOf_get, Nat.zero_le, true_and, Nat.zero_add, Nat.sub_zero]
  by_cases e : i < args.length
  · rw [if_pos e, List.getElem?_eq_getElem e]
    obtain ⟨x, hx, hj⟩ := reals_at h i args[i] (List.getElem?_eq_getElem e)
    rw [Array.getElem?_toList] at hj
    have hi : i < xs.size := by omega
    have : (xs ++ Array.replicate (n - xs.size) undef)[i]? = some x := by rw [Array.getElem?_append_left hi]; exact hj
    simp [this, hx]
  · rw [if_neg e]
    show AV.real ρ ((Tr.nil : Tr AV).get i |>.getD (.tup [])) = _
    rw [Tr.get_nil]
    show some (Value.tuple #[]) = _
    congr 1
    have hge : xs.size ≤ i := by omega
    by_cases hi : i < n
    · have : (xs ++ Array.replicate (n - xs.size) undef)[i]? = some undef := by
        rw [Array.getElem?_append_right hge, Array.getElem?_replicate, if_pos (by omega)]
      simp [this]
      rfl
    · have : (xs ++ Array.replicate (n - xs.size) undef)[i]? = none := by
        apply Array.getElem?_eq_none
        simp; omega
      simp [this]
      rfl
/-- A function is left: the blocks of its ranges over functions are shut. -/
noncomputable def evLeave (h : Hp) : List Df → Option Hp
  | [] => some h
  | .mark d :: r => match h.get d with
    | .dfr => evLeave (h.put d .gone) r
    | _ => none
  | .call _ _ :: _ => none
theorem leaves_df {P : Program} {base : Kp} {w0 : World} {fn : Func} {tmps : Array Value} {R : Ending → World → Prop} : ∀ (ds : List Df) (D : List Deferred) (h h' : Hp) (ρ : Env) (w : World), DfR ρ ds D → Emb ρ base w0 h w → evLeave h ds = some h' →
    (∀ w', Emb ρ base w0 h' w' → ∃ v, (results fn tmps).run P w' = .ok v w' ∧ R (.returned v) w') → LeavesInM Fence.wide 0 P fn tmps R D .returning w
  | [], D, h, h', ρ, w, hD, E, hl, H => by
    obtain rfl := Option.some.inj hl
    have hD : D = [] := hD
    subst hD
    exact H w E
  | .call _ _ :: _, D, h, h', ρ, w, hD, E, hl, H => by cases hl
  | .mark d :: r, D, h, h', ρ, w, hD, E, hl, H => by
    obtain ⟨l, D', h1, rfl, h3⟩ := hD
    simp only [evLeave] at hl
    split at hl
    case h_2 => cases hl
    rename_i hg
    have hlive : h.get d ≠ .gone := by rw [hg]; exact fun e => by cases e
    obtain ⟨l', hl', _, hr⟩ := E.live d hlive
    obtain rfl := Option.some.inj (h1.symm.trans hl')
    rw [hg] at hr
    exact ⟨by simp, .inl ⟨l.blk, _, rfl, run_takeDeferred hr, leaves_df r D' _ h' ρ _ h3 (E.setObj hlive h1 (.deferred none) .gone trivial) hl H⟩⟩
abbrev Ecf := Option Nat → Code → Fr → Hp → Kf → Ans
noncomputable def evEnter (P : Program) (ec : Ecf) : Cf := fun g args h kk => match P.funcs[g]? with
  | some fn => match fn.body with
    | some c => match Nat.ble args.length fn.ntmps with
      | true => ec none c ⟨frOf args 0 .nil, fn.ntmps, []⟩ h fun e f' h' => match e with
        | .exit _ => .no "exit"
        | _ => match evLeave h' f'.ds with
          | some h2 => match evResults P fn f' h2 with
            | some v => kk v h2
            | none => .no "results or body"
          | none => .no "marks"
      | false => .no "slots"
    | none => .no "results or body"
  | none => .no "results or body"
theorem least {p : Nat → Prop} (h : ∃ n, p n) : ∃ n, p n ∧ ∀ m, p m → n ≤ m := by
  obtain ⟨n, hn⟩ := h
  induction n using Nat.strongRecOn with
  | _ n ih =>
    by_cases hh : ∃ m, m < n ∧ p m
    · obtain ⟨m, hm, hp⟩ := hh
      exact ih m hm hp
    · refine ⟨n, hn, fun m hm => ?_⟩
      rcases Nat.lt_or_ge m n with h1 | h1
      · exact absurd ⟨m, h1, hm⟩ hh
      · exact h1
noncomputable def RoR (ρ : Env) : Option Nat → Option Nat → Prop
  | none, rl => rl = none
  | some id, rl => ∃ l, ρ id = some l ∧ rl = some l.blk
theorem RoR.mono {ρ ρ' : Env} (hle : Env.le ρ ρ') : ∀ {ro rl : Option Nat}, RoR ρ ro rl → RoR ρ' ro rl
  | none, _, h => h
  | some _, _, ⟨l, h1, h2⟩ => ⟨l, hle _ _ h1, h2⟩
noncomputable def EcOk (P : Program) (base : Kp) (w0 : World) (ec : Ecf) : Prop :=
  ∀ ro c f h k ρ a w Q rl n, ec ro c f h k = .yes → RoR ρ ro rl → Emb ρ base w0 h w → FrR ρ f a → DfR ρ f.ds a.defers → Post base w0 ρ k Q → c.wpIn (fen rl) n P Q a w
theorem evEnter_ok {P : Program} {base : Kp} {w0 : World} {ec : Ecf} (H : EcOk P base w0 ec) : CfOk P base w0 (evEnter P ec) := by
  intro g args h kk ρ w xs R hk E hr K
  unfold evEnter at hk
  split at hk
  case h_2 => cases hk
  rename_i fn hfn
  split at hk
  case h_2 => cases hk
  rename_i c hb
  split at hk
  case h_2 => cases hk
  rename_i hle
  have hle := Nat.le_of_ble_eq_true hle
  have hl := reals_len hr
  rw [Array.length_toList] at hl
  refine calls_of_wp_marks hfn hb ((wpIn_wide (n := 0)).1 (H none c _ h _ ρ _ w _ none 0 hk rfl E (frOf_ok hr (by omega)) rfl ?_))
  intro e f' h' ρ' a' w' he hle' E' F' hd'
  have key : (match evLeave h' f'.ds with
      | some h2 => match evResults P fn f' h2 with
        | some v => kk v h2
        | none => .no "results or body"
      | none => .no "marks") = .yes → LeavesInM Fence.wide 0 P fn a'.tmps (fun e w' => ∃ x, e = .returned x ∧ R x w') a'.defers .returning w' := fun he => by
    split at he
    case h_2 => cases he
    rename_i h2 hh2
    split at he
    case h_2 => cases he
    rename_i v hv
    refine leaves_df _ _ h' h2 ρ' w' hd' E' hh2 fun w2 E2 => ?_
    obtain ⟨x, hx, hxr⟩ := evResults_ok E2 F' hv
    exact ⟨x, hx, x, rfl, K v h2 ρ' x w2 he hle' E2 hxr⟩
  cases e with
  | normal => exact key he
  | ret => exact key he
  | exit id => cases he
noncomputable def Ex.jump : Ex → Option Code
  | .normal => none
  | .exit id => some (.exit id)
  | .ret => some .ret
/-- Yield's arguments in a round's slots. -/
noncomputable def setPs (n : Nat) : List Tmp → List AV → Tr AV → Option (Tr AV)
  | [], [], t => some t
  | p :: ps, a :: cz, t => match Nat.blt p n with
    | true => setPs n ps cz (t.set p a)
    | false => none
  | _, _, _ => none
theorem setPs_ok {ρ : Env} {n : Nat} : ∀ (ps : List Tmp) (cz : List AV) (xs : List Value) (t t' : Tr AV) (ds : List Df) (tmps : Array Value) (D : List Deferred), setPs n ps cz t = some t' → AV.reals ρ cz = some xs → FrR ρ ⟨t, n, ds⟩ { tmps, defers := D } →
    ps.length = xs.length ∧ FrR ρ ⟨t', n, ds⟩ { tmps := (List.zip ps xs).foldl (fun t (p, v) => t.setIfInBounds p v) tmps, defers := D }
  | [], [], xs, t, t', ds, tmps, D, h, hr, F => by
    obtain rfl := Option.some.inj h
    obtain rfl := Option.some.inj hr
    exact ⟨rfl, F⟩
  | [], _ :: _, xs, t, t', ds, tmps, D, h, hr, F => by cases h
  | _ :: _, [], xs, t, t', ds, tmps, D, h, hr, F => by cases h
  | p :: ps, a :: cz, xs, t, t', ds, tmps, D, h, hr, F => by
    simp only [setPs] at h
    split at h
    case h_2 => cases h
    rename_i hlt
    simp only [AV.reals, Option.bind_eq_some_iff, Option.map_eq_some_iff] at hr
    obtain ⟨x, hx, ys, hys, rfl⟩ := hr
    have F' : FrR ρ ⟨t.set p a, n, ds⟩ { tmps := tmps.setIfInBounds p x, defers := D } := FrR.put (f := ⟨t, n, ds⟩) (a := { tmps, defers := D }) (d := some p) F hx (by simp only [Fr.put]; rw [hlt])
    obtain ⟨h1, h2⟩ := setPs_ok ps cz ys _ t' ds _ D h hys F'
    exact ⟨by simp [h1], h2⟩
noncomputable def evRound (P : Program) (ec : Ecf) : Rf := fun id args h kk => match h.get id with
  | .loop t n ps cz bd st _ _ => match st with
    | .ready => match setPs n ps.toList args t with
      | some t' => ec (some id) cz ⟨t', n, []⟩ h fun e f1 h1 => match e with
        | .normal => match h1.get id with
          | .loop t n ps as' bd' st pe d => match st with
            | .ready => ec (some id) bd f1 (h1.put id (.loop t n ps as' bd' .busy pe d)) fun e _ h2 => match h2.get id with
              | .loop t n ps as' bd' _ _ d => match e with
                | .normal => kk (.v (.bool true)) (h2.put id (.loop t n ps as' bd' .ready none d))
                | .ret => kk (.v (.bool false)) (h2.put id (.loop t n ps as' bd' .done (some .ret) d))
                | .exit j => kk (.v (.bool false)) (h2.put id (.loop t n ps as' bd' .done (some (.exit j)) d))
              | _ => .no "no record"
            | _ => .no "a round not ready"
          | _ => .no "no record"
        | _ => .no "assign"
      | none => .no "a round's slots"
    | _ => .no "a round not ready"
  | _ => .no "no record"
theorem Emb.loop {ρ : Env} {base : Kp} {w0 : World} {h : Hp} {w : World} (E : Emb ρ base w0 h w) {id : Nat} {t : Tr AV} {n : Nat} {ps : Array Tmp} {cz bd : Code} {st : LoopState} {pe : Option Code} {d : Nat} (hg : h.get id = .loop t n ps cz bd st pe d) {l : Loc} (hl : ρ id = some l) :
    h.get id ≠ .gone ∧ ∃ (fn : FuncId) (tmps : Array Value) (ld : Loc), w.heap[l.blk]? = some (.loop { state := st, pending := pe, fn, tmps, params := ps, assign := cz, body := bd, defers := ld.blk }) ∧ ρ d = some ld ∧ tmps.size = n ∧ ∀ i, ((t.get i).getD (.tup [])).real ρ = some (tmps.getD i undef) := by
  have hlive : h.get id ≠ .gone := by rw [hg]; exact fun e => by cases e
  obtain ⟨l', hl', _, hr⟩ := E.live id hlive
  obtain rfl := Option.some.inj (hl.symm.trans hl')
  rw [hg] at hr
  exact ⟨hlive, hr⟩
theorem evRound_ok {P : Program} {base : Kp} {w0 : World} {ec : Ecf} (H : EcOk P base w0 ec) : RfOk P base w0 (evRound P ec) := by
  intro id args h kk ρ w xs l n R hk E hl hr K
  unfold evRound at hk
  split at hk
  case h_2 => cases hk
  rename_i t m ps cz bd st pe d hg
  obtain ⟨hlive, fn, tmps, ld, hW, hld, hsz, hsl⟩ := E.loop hg hl
  split at hk
  case h_2 => cases hk
  split at hk
  case h_2 => cases hk
  rename_i t' ht'
  obtain ⟨hlen, F'⟩ := setPs_ok ps.toList args xs.toList t t' [] tmps [] ht' hr ⟨hsz, hsl⟩
  have hfold : (ps.zip xs).foldl (fun tmps (t, a) => tmps.setIfInBounds t a) tmps = (List.zip ps.toList xs.toList).foldl (fun t (p, v) => t.setIfInBounds p v) tmps := by
    rw [← Array.foldl_toList, Array.toList_zip]
  refine ⟨fn, _, cz, bd, run_yield (P := P) (args := xs) hW (by simpa using hlen.symm), roundIn_of_wpIn (F := Fence.wide) trivial ?_⟩
  rw [hfold]
  refine H (some id) cz ⟨t', m, []⟩ h _ ρ _ w _ (some l.blk) n hk ⟨l, hl, rfl⟩ E F' rfl ?_
  intro e f1 h1 ρ1 a1 w1 he hle1 E1 F1 hd1
  cases e with
  | ret => cases he
  | exit j => cases he
  | normal =>
    dsimp only at he
    split at he
    case h_2 => cases he
    rename_i t1 n1 ps1 as1 bd1 st1 pe1 d1 hg1
    have hl1 := hle1 _ _ hl
    obtain ⟨hlive1, fn1, tmps1, ld1, hW1, hld1, hsz1, hsl1⟩ := E1.loop hg1 hl1
    split at he
    case h_2 => cases he
    refine ⟨_, run_beginRound hW1 rfl, ?_⟩
    refine H (some id) bd f1 _ _ ρ1 a1 _ _ (some l.blk) n he ⟨l, hl1, rfl⟩ (E1.setObj hlive1 hl1 _ (.loop t1 n1 ps1 as1 bd1 .busy pe1 d1) ⟨fn1, tmps1, ld1, rfl, hld1, hsz1, hsl1⟩) F1 hd1 ?_
    intro e f2 h2 ρ2 a2 w2 he hle2 E2 F2 hd2
    dsimp only at he
    split at he
    case h_2 => cases he
    rename_i t2 n2 ps2 as2 bd2 st2 pe2 d2 hg2
    have hl2 := hle2 _ _ hl1
    obtain ⟨hlive2, fn2, tmps2, ld2, hW2, hld2, hsz2, hsl2⟩ := E2.loop hg2 hl2
    cases e with
    | normal => exact ⟨_, _, run_endRound none hW2, _, rfl, K _ _ ρ2 _ _ he (Env.le_trans hle1 hle2) (E2.setObj hlive2 hl2 _ _ ⟨fn2, tmps2, ld2, rfl, hld2, hsz2, hsl2⟩) rfl⟩
    | ret => exact ⟨_, _, run_endRound (some .ret) hW2, _, rfl, K _ _ ρ2 _ _ he (Env.le_trans hle1 hle2) (E2.setObj hlive2 hl2 _ _ ⟨fn2, tmps2, ld2, rfl, hld2, hsz2, hsl2⟩) rfl⟩
    | exit j => exact ⟨_, _, run_endRound (some (.exit j)) hW2, _, rfl, K _ _ ρ2 _ _ he (Env.le_trans hle1 hle2) (E2.setObj hlive2 hl2 _ _ ⟨fn2, tmps2, ld2, rfl, hld2, hsz2, hsl2⟩) rfl⟩
end Go.Proofs.Ytchdipakekglmaa
