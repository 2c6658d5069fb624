/- A reckoner of closed runs, 15b: deferred calls, and functions that recover (when nothing panics). Nothing of the program is used here. -/
import Derived.Test.YtcakdjnnfonijaaEvMid
import Derived.DefersIn
namespace Go.Proofs.Ytcakdjnnfonijaa
open Go.RowKit

theorem Emb.later {ρ : Env} {base : Kp} {w0 : World} {h : Hp} {w w' : World} (E : Emb ρ base w0 h w) (hb : Below w.heap.size w w') : Emb ρ base w0 h w' :=
  ⟨E.below.trans (hb.mono E.bw), Nat.le_trans E.bw hb.size, fun b hB => ⟨Nat.lt_of_lt_of_le (E.kept b hB).1 hb.size, by rw [hb.block b (E.kept b hB).1]; exact (E.kept b hB).2⟩,
    fun id l hl => ⟨(E.fresh id l hl).1, Nat.lt_of_lt_of_le (E.fresh id l hl).2 hb.size⟩, fun id hg => by
      obtain ⟨l, hl, h1, h2⟩ := E.live id hg
      exact ⟨l, hl, h1, by rw [hb.block _ (E.fresh id l hl).2]; exact h2⟩, E.apart⟩
/-- Functions that recover: called when nothing panics, with a pointer, they do nothing. -/
def Rec (P : Program) (rc : List FuncId) : Prop :=
  ∀ g ∈ rc, ∀ (a : Addr) (w : World), CallsDIn Fence.wide 0 P g #[.pointer (some a)] .returning w fun e u' w' => (∃ v, e = .returned v) ∧ u' = .returning ∧ Below w.heap.size w w'
noncomputable def evEnterD (P : Program) (ec : Ecf) : FuncId → List AV → Hp → (Hp → Ans) → Ans := fun g args h kk => match P.funcs[g]? with
  | some fn => match fn.body with
    | some c => match Nat.ble args.length fn.ntmps with
      | true => ec none c ⟨frOf args 0 .nil, fn.ntmps, []⟩ h fun e f' h' => match e with
        | .exit _ => .no "exit"
        | _ => match f'.ds with
          | [] => match evResults P fn f' h' with
            | some _ => kk h'
            | none => .no "results or body"
          | _ => .no "deferred calls in a deferred call"
      | false => .no "slots"
    | none => .no "results or body"
  | none => .no "results or body"
noncomputable def inF (g : FuncId) : List FuncId → Bool
  | [] => false
  | x :: r => match Nat.beq g x with
    | true => true
    | false => inF g r
theorem inF_mem {g : FuncId} : ∀ {l : List FuncId}, inF g l = true → g ∈ l
  | [], h => by cases h
  | x :: r, h => by
    simp only [inF] at h
    split at h
    · rename_i he
      rw [Nat.eq_of_beq_eq_true he]
      exact List.mem_cons_self
    · exact List.mem_cons_of_mem _ (inF_mem h)
/-- A function is left: its deferred calls are made, the blocks of its ranges over functions are shut. -/
noncomputable def evExit (P : Program) (rc : List FuncId) (ec : Ecf) : List Df → Hp → (Hp → Ans) → Ans
  | [], h, k => k h
  | .mark d :: r, h, k => match h.get d with
    | .dfr => evExit P rc ec r (h.put d .gone) k
    | _ => .no "marks"
  | .call g args :: r, h, k => match evCallFn P h g args with
    | .enter g' args' => match inF g' rc with
      | true => match args' with
        | [.ptr _ _] => evExit P rc ec r h k
        | _ => .no "a call that recovers"
      | false => evEnterD P ec g' args' h fun h' => evExit P rc ec r h' k
    | _ => .no "a deferred call"
theorem leaves_exit {P : Program} {base : Kp} {w0 : World} {rc : List FuncId} (hrc : Rec P rc) {ec : Ecf} (H : EcOk P base w0 ec) {fn : Func} {tmps : Array Value} {R : Ending → World → Prop} {k : Hp → Ans} :
    ∀ (ds : List Df) (D : List Deferred) (h : Hp) (ρ : Env) (w : World), DfR ρ ds D → Emb ρ base w0 h w → evExit P rc ec ds h k = .yes →
    (∀ h' ρ' w', k h' = .yes → Env.le ρ ρ' → Emb ρ' base w0 h' w' → ∃ v, (results fn tmps).run P w' = .ok v w' ∧ R (.returned v) w') → LeavesInM Fence.wide 0 P fn tmps R D .returning w
  | [], D, h, ρ, w, hD, E, hl, K => by
    have hD : D = [] := hD
    subst hD
    exact K h ρ w hl (Env.le_refl ρ) E
  | .mark d :: r, D, h, ρ, w, hD, E, hl, K => by
    obtain ⟨l, D', h1, rfl, h3⟩ := hD
    simp only [evExit] at hl
    split at hl
    case h_2 => cases hl
    rename_i hg
    have hlive : h.get d ≠ .gone := by rw [hg]; exact fun e => by cases e
    obtain ⟨l', hl', _, hr⟩ := E.live d hlive
    obtain rfl := Option.some.inj (h1.symm.trans hl')
    rw [hg] at hr
    exact ⟨by simp, .inl ⟨l.blk, _, rfl, run_takeDeferred hr, leaves_exit hrc H r D' _ ρ _ h3 (E.setObj hlive h1 (.deferred none) .gone trivial) hl K⟩⟩
  | .call g args :: r, D, h, ρ, w, hD, E, hl, K => by
    obtain ⟨xs, cap, D', h1, rfl, h3⟩ := hD
    simp only [evExit] at hl
    split at hl
    case h_2 => cases hl
    rename_i g' args' hcf
    have hop := evCallFn_ok (P := P) E (g := g) (args := args) (xs := xs.toArray ++ cap.toArray) (by rw [h1]; simp)
    rw [hcf] at hop
    obtain ⟨ys, hrun, hys⟩ := hop
    have hin : (invoke (.fn (.func g) cap.toArray) xs.toArray).run P w = .ok (.enter g' ys) w := by simpa [invoke] using hrun
    refine ⟨by simp, .inr ⟨fun hh => (by cases hh), .func g, cap.toArray, g', ys, rfl, hin, fun _ _ => trivial, ?_⟩⟩
    split at hl
    · rename_i hm
      split at hl
      case h_2 => cases hl
      rename_i id off
      simp only [AV.reals, AV.real, Option.bind_eq_some_iff, Option.map_eq_some_iff] at hys
      obtain ⟨x, ⟨l, hl1, rfl⟩, y, hy, hyx⟩ := hys
      obtain rfl := Option.some.inj hy
      obtain rfl : ys = #[.pointer (some ⟨l.blk, l.off + off, none⟩)] := Array.toList_inj.1 hyx.symm
      refine (hrc g' (inF_mem hm) _ w).mono ?_
      rintro e u' w' ⟨⟨v, rfl⟩, rfl, hb⟩
      exact leaves_exit hrc H r D' h ρ w' h3 (E.later hb) hl K
    · unfold evEnterD at hl
      split at hl
      case h_2 => cases hl
      rename_i fn' hfn
      split at hl
      case h_2 => cases hl
      rename_i c hb
      split at hl
      case h_2 => cases hl
      rename_i hle
      have hle := Nat.le_of_ble_eq_true hle
      have hln := reals_len hys
      rw [Array.length_toList] at hln
      refine (callsDIn_of_wp (F := Fence.wide) (n := 0) (R := fun e w' => ∃ v, e = .returned v ∧ LeavesInM Fence.wide 0 P fn tmps R D' .returning w') hfn hb trivial (H none c _ h _ ρ _ w _ none 0 hl rfl E (frOf_ok hys (by omega)) rfl ?_)).mono ?_
      · intro e f' h' ρ' a' w' he hle' E' F' hd'
        have key : (match f'.ds with
            | [] => match evResults P fn' f' h' with
              | some _ => evExit P rc ec r h' k
              | none => .no "results or body"
            | _ => .no "deferred calls in a deferred call") = .yes → a'.defers = [] ∧ ∃ v, (results fn' a'.tmps).run P w' = .ok v w' ∧ ∃ v', Ending.returned v = .returned v' ∧ LeavesInM Fence.wide 0 P fn tmps R D' .returning w' := fun he => by
          split at he
          case h_2 => cases he
          rename_i hds
          split at he
          case h_2 => cases he
          rename_i v hv
          rw [hds] at hd'
          obtain ⟨x, hx, hxr⟩ := evResults_ok E' F' hv
          exact ⟨hd', x, hx, x, rfl, leaves_exit hrc H r D' h' ρ' w' (h3.mono hle') E' he fun h2 ρ2 w2 q1 q2 q3 => K h2 ρ2 w2 q1 (Env.le_trans hle' q2) q3⟩
        cases e with
        | normal => exact key he
        | ret => exact key he
        | exit id => cases he
      · rintro e u' w' ⟨rfl, v, rfl, hL⟩
        exact hL
noncomputable def evEnter2 (P : Program) (rc : List FuncId) (ec : Ecf) : Cf := fun g args h kk => match P.funcs[g]? with
  | some fn => match fn.body with
    | some c => match Nat.ble args.length fn.ntmps with
      | true => ec none c ⟨frOf args 0 .nil, fn.ntmps, []⟩ h fun e f' h' => match e with
        | .exit _ => .no "exit"
        | _ => evExit P rc ec f'.ds h' fun h2 => match evResults P fn f' h2 with
            | some v => kk v h2
            | none => .no "results or body"
      | false => .no "slots"
    | none => .no "results or body"
  | none => .no "results or body"
theorem evEnter2_ok {P : Program} {base : Kp} {w0 : World} {rc : List FuncId} (hrc : Rec P rc) {ec : Ecf} (H : EcOk P base w0 ec) : CfOk P base w0 (evEnter2 P rc ec) := by
  intro g args h kk ρ w xs R hk E hr K
  unfold evEnter2 at hk
  split at hk
  case h_2 => cases hk
  rename_i fn hfn
  split at hk
  case h_2 => cases hk
  rename_i c hb
  split at hk
  case h_2 => cases hk
  rename_i hle
  have hle := Nat.le_of_ble_eq_true hle
  have hl := reals_len hr
  rw [Array.length_toList] at hl
  refine calls_of_wp_marks hfn hb ((wpIn_wide (n := 0)).1 (H none c _ h _ ρ _ w _ none 0 hk rfl E (frOf_ok hr (by omega)) rfl ?_))
  intro e f' h' ρ' a' w' he hle' E' F' hd'
  have key : evExit P rc ec f'.ds h' (fun h2 => match evResults P fn f' h2 with
        | some v => kk v h2
        | none => .no "results or body") = .yes → LeavesInM Fence.wide 0 P fn a'.tmps (fun e w' => ∃ x, e = .returned x ∧ R x w') a'.defers .returning w' := fun he => by
    refine leaves_exit hrc H _ _ h' ρ' w' hd' E' he fun h2 ρ2 w2 he2 hle2 E2 => ?_
    split at he2
    case h_2 => cases he2
    rename_i v hv
    obtain ⟨x, hx, hxr⟩ := evResults_ok E2 (F'.mono hle2) hv
    exact ⟨x, hx, x, rfl, K v h2 ρ2 x w2 he2 (Env.le_trans hle' hle2) E2 hxr⟩
  cases e with
  | normal => exact key he
  | ret => exact key he
  | exit id => cases he
/-- A defer at the end of a region. -/
noncomputable def lastDefer : List Oper → Option (List Oper × Oper × Call)
  | [] => none
  | o :: r => match r with
    | [] => match o.op with
      | .defer c => match o.guard with
        | none => some ([], o, c)
        | some _ => none
      | _ => none
    | _ :: _ => match lastDefer r with
      | some (l, o', c) => some (o :: l, o', c)
      | none => none
theorem lastDefer_some : ∀ {l l' : List Oper} {o : Oper} {c : Call}, lastDefer l = some (l', o, c) → l = l' ++ [o] ∧ o.op = .defer c ∧ o.guard = none
  | [], _, _, _, h => by cases h
  | [x], l', o, c, h => by
    simp only [lastDefer] at h
    split at h
    case h_2 => cases h
    rename_i c' hc
    split at h
    case h_2 => cases h
    rename_i hg
    simp only [Option.some.injEq, Prod.mk.injEq] at h
    obtain ⟨rfl, rfl, rfl⟩ := h
    exact ⟨rfl, hc, hg⟩
  | x :: y :: r, l', o, c, h => by
    rw [lastDefer] at h
    split at h
    case h_2 => cases h
    rename_i l2 o2 c2 h2
    simp only [Option.some.injEq, Prod.mk.injEq] at h
    obtain ⟨rfl, rfl, rfl⟩ := h
    obtain ⟨h3, h4, h5⟩ := lastDefer_some h2
    exact ⟨by rw [h3]; rfl, h4, h5⟩
noncomputable def evDefer (f : Fr) (o : Oper) (c : Call) : Option Fr := match c.callee with
  | .value fo => match evA f fo with
    | .fn (.func g) first cap => match f.put o.dst (.v undef) with
      | some f' => some ⟨f'.tr, f'.n, .call g (first ++ evAs f c.args.toList ++ cap) :: f'.ds⟩
      | none => none
    | _ => none
  | _ => none
theorem evOps_app {P : Program} {base : Kp} {w0 : World} {cf : Cf} {rf : RfF} (C : CfOk P base w0 cf) (D : RfOk P base w0 rf) {ops : Array Oper} {k : Fr → Hp → Ans} {tl : List Oper} {Q : Exit → Act → World → Prop} {rl : Option Nat} {n : Nat} : ∀ (l : List Oper) (f : Fr) (h : Hp) (ρ : Env) (a : Act) (w : World),
    evOps P cf rf ops l f h k = .yes → Emb ρ base w0 h w → FrR ρ f a → DfR ρ f.ds a.defers → (∀ f h ρ' a w, k f h = .yes → Env.le ρ ρ' → Emb ρ' base w0 h w → FrR ρ' f a → DfR ρ' f.ds a.defers → wpListIn (fen rl) n P ops Q tl a w) → wpListIn (fen rl) n P ops Q (l ++ tl) a w
  | [], f, h, ρ, a, w, hk, E, F, hd, K => K f h ρ a w hk (Env.le_refl ρ) E F hd
  | o :: r, f, h, ρ, a, w, hk, E, F, hd, K => by
    simp only [evOps] at hk
    rw [List.cons_append]
    unfold wpListIn
    split at hk
    · cases hk
    · rename_i hw
      rw [if_neg (by rw [evWanted_ok F hw]; exact Bool.false_ne_true)]
      split at hk
      · rename_i f' hf'
        exact ⟨fun _ _ => trivial, evOps_app C D r f' h ρ _ w hk E (F.put rfl hf') (hd.put hf') K⟩
      · cases hk
    · rename_i hw
      rw [if_pos (evWanted_ok F hw)]
      have go : ∀ (v : AV) (h' : Hp) (ρ' : Env) (w' : World) (x : Value), (match f.put o.dst v with | some f' => evOps P cf rf ops r f' h' k | none => .at o) = .yes → v.real ρ' = some x → Env.le ρ ρ' → Emb ρ' base w0 h' w' → wpListIn (fen rl) n P ops Q (r ++ tl) (a.put o.dst x) w' := fun v h' ρ' w' x q1 q2 q3 q4 => by
        split at q1
        · rename_i f' hf'
          exact evOps_app C D r f' h' ρ' _ w' q1 q4 ((F.mono q3).put q2 hf') ((hd.mono q3).put hf') fun f h ρ'' a w s1 s2 => K f h ρ'' a w s1 (Env.le_trans q3 s2)
        · cases q1
      refine evOp_step C D E F rfl (fun hb => by rw [hb] at hk; cases hk) (fun v h' ρ' w' x hr q2 q3 q4 => go v h' ρ' w' x (by rw [hr] at hk; exact hk) q2 q3 q4) (fun h' ρ' w' hr q3 q4 => go (.v undef) h' ρ' w' undef (by rw [hr] at hk; exact hk) rfl q3 q4)
        (fun v h' => match f.put o.dst v with | some f' => evOps P cf rf ops r f' h' k | none => .at o) (fun g args hr => by rw [hr] at hk; exact hk) (fun id args hr => by rw [hr] at hk; exact hk) (fun v h' ρ' x w' q1 q2 q3 q4 => go v h' ρ' w' x q1 q4 q2 q3)
        (fun l p ρ' w' x hr hp q2 q3 q4 => go p.1 p.2 ρ' w' x (by rw [hr] at hk; exact allA_spec l _ hk p hp) q2 q3 q4)
theorem evDefer_ok {P : Program} {base : Kp} {w0 : World} {ops : Array Oper} {Q : Exit → Act → World → Prop} {n : Nat} {ρ : Env} {f f' : Fr} {h : Hp} {a : Act} {w : World} {o : Oper} {c : Call} (hd : evDefer f o c = some f') (ho : o.op = .defer c) (hg : o.guard = none)
    (_E : Emb ρ base w0 h w) (F : FrR ρ f a) (D : DfR ρ f.ds a.defers) (K : ∀ a', FrR ρ f' a' → DfR ρ f'.ds a'.defers → Q .normal a' w) : wpListIn (fen none) n P ops Q [o] a w := by
  unfold evDefer at hd
  split at hd
  case h_2 => cases hd
  rename_i fo hc
  split at hd
  case h_2 => cases hd
  rename_i g first cap hfo
  split at hd
  case h_2 => cases hd
  rename_i f1 hf1
  obtain rfl := Option.some.inj hd
  have hv := evA_real F fo
  rw [hfo] at hv
  simp only [AV.real, Option.bind_eq_some_iff, Option.map_eq_some_iff] at hv
  obtain ⟨x1, h1, x2, h2, hx⟩ := hv
  have hargs := evAs_real F c.args.toList
  have hrun : (execOp a.eval o).run P w = .ok (.defer { target := .fn (.func g) x2.toArray, args := x1.toArray ++ c.args.map a.eval }) w := by
    unfold execOp
    simp only [ho, resolve, hc, ← hx, Deferred.ofValue]
    rfl
  have hw : Region.wanted o (yielded ops a.tmps) = true := by unfold Region.wanted; rw [hg]
  unfold wpListIn
  rw [if_pos hw]
  refine ⟨fun _ _ => trivial, ?_⟩
  show o.uponIn _ n P a _ Q ((o.semAt none a.eval).run P w)
  rw [Oper.semAt_none, hrun]
  have F1 : FrR ρ f1 (({ a with defers := { target := .fn (.func g) x2.toArray, args := x1.toArray ++ c.args.map a.eval } :: a.defers } : Act).put o.dst undef) := FrR.put (f := f) (a := { a with defers := _ }) F rfl hf1
  refine K _ F1 ?_
  rw [put_defers]
  refine ⟨x1 ++ c.args.toList.map a.eval, x2, a.defers, ?_, ?_, ?_⟩
  · rw [reals_append (reals_append h1 hargs) h2]
  · simp
  · rw [Fr.put_ds hf1]; exact D
end Go.Proofs.Ytcakdjnnfonijaa
