/- A reckoner of closed runs, 15: operations that leave the world as it is. Nothing of the program is used here. -/
import Derived.Test.YtcakdjnnfonijaaEvMid
import Derived.Test.YtcakdjnnfonijaaStillFast
namespace Go.Proofs.Ytcakdjnnfonijaa
open Go.RowKit

noncomputable def valOf : R → Option AV
  | .val v _ => some v
  | _ => none
noncomputable def evStillS (P : Program) (f : Fr) (h : Hp) (o : Oper) : Option AV := match o.op with
  | .move x => some (evA f x)
  | .assign x => some (evA f x)
  | .pick c a b => match evA f c with
    | .v (.bool true) => some (evA f a)
    | .v (.bool false) => some (evA f b)
    | _ => none
  | .build t parts => evBuild P f t parts
  | .load t a => evLoad P h t (evA f a)
  | .binOp op t x y _ => valOf (evBin P f h op t x y)
  | .makeInterface t x => evIface P t (evA f x)
  | .makeFunc fn first captured => some (evFn f fn first captured)
  | .slice t x lo hi mx => match evSlice P f h t x lo hi mx with
    | some (.slc id off n c ex, _) => match Nat.beq id h.nx with
      | true => none
      | false => some (.slc id off n c ex)
    | _ => none
  | .fieldAddr t x i => evFieldAddr P t (evA f x) i
  | .field t x i => evField P t (evA f x) i
  | .indexAddr t x i => evIndexAddr P t (evA f x) (evA f i)
  | .lookup t x i ok => evLookup P h t (evA f x) (evA f i) ok
  | .typeAssert x _ t ok => evAssert P (evA f x) t ok
  | .extract x i => evExtract (evA f x) i
  | .nilCheck x => evNilCheck (evA f x)
  | .convert s d x => evConv P h s d (evA f x)
  | .call c => match c.callee with
    | .builtin b => match b with
      | .len => match c.argTypes.toList, evAs f c.args.toList with
        | [t], [x] => evLen P h t x
        | _, _ => none
      | _ => none
    | _ => none
  | _ => none
/-- The work leaves the world, and yields the value. -/
noncomputable def StillR (P : Program) (ρ : Env) (s : Sem Next) (w : World) (v : AV) : Prop := ∃ x, s.run P w = .ok (.value x) w ∧ v.real ρ = some x
theorem Gives.still {P : Program} {ρ : Env} {s : Sem Value} {w : World} {v : AV} (G : Gives P ρ s w v) : StillR P ρ (do pure (.value (← s))) w v := by
  obtain ⟨x, h1, h2⟩ := G
  exact ⟨x, by rw [Sem.run_bind, h1]; rfl, h2⟩
theorem evStillS_ok {P : Program} {ρ : Env} {base : Kp} {w0 : World} {h : Hp} {w : World} (E : Emb ρ base w0 h w) {f : Fr} {a : Act} (hf : FrR ρ f a) (o : Oper) {v : AV} (hv : evStillS P f h o = some v) : StillR P ρ (execOp a.eval o) w v := by
  have ev := fun x => evA_real hf x
  unfold evStillS at hv
  split at hv
  case h_1 x ho => obtain rfl := Option.some.inj hv; unfold execOp; rw [ho]; exact ⟨_, rfl, ev x⟩
  case h_2 x ho => obtain rfl := Option.some.inj hv; unfold execOp; rw [ho]; exact ⟨_, rfl, ev x⟩
  case h_3 c x y ho =>
    have hc := ev c
    split at hv
    · rename_i he
      rw [he] at hc
      have hc : Value.bool true = a.eval c := Option.some.inj hc
      obtain rfl := Option.some.inj hv
      unfold execOp; rw [ho]; dsimp only; rw [← hc]
      exact ⟨_, rfl, ev x⟩
    · rename_i he
      rw [he] at hc
      have hc : Value.bool false = a.eval c := Option.some.inj hc
      obtain rfl := Option.some.inj hv
      unfold execOp; rw [ho]; dsimp only; rw [← hc]
      exact ⟨_, rfl, ev y⟩
    · cases hv
  case h_4 ho => unfold execOp; rw [ho]; exact (evBuild_ok hf w hv).still
  case h_5 x ho => unfold execOp; rw [ho]; exact (evLoad_gives E (ev _) hv).still
  case h_6 op t x y yt ho =>
    unfold execOp; rw [ho]
    dsimp only
    unfold evBin at hv
    split at hv
    · rename_i b hb
      obtain rfl := Option.some.inj hv
      exact Gives.still ⟨_, evI2_ok (ev x) (ev y) hb, rfl⟩
    unfold evBin0 at hv
    split at hv
    · split at hv
      · rename_i b hb
        obtain rfl := Option.some.inj hv
        obtain ⟨h1, h2⟩ := evEq_ok E 8 t _ _ _ _ b (ev x) (ev y) hb
        exact Gives.still ⟨_, (run_eql h1 (h2 10000 (by decide))).1, rfl⟩
      · cases hv
    · split at hv
      · rename_i b hb
        obtain rfl := Option.some.inj hv
        obtain ⟨h1, h2⟩ := evEq_ok E 8 t _ _ _ _ b (ev x) (ev y) hb
        exact Gives.still ⟨_, (run_eql h1 (h2 10000 (by decide))).2, rfl⟩
      · cases hv
    · cases hv
  case h_7 ho => unfold execOp; rw [ho]; exact (evIface_ok w (ev _) hv).still
  case h_8 fn first captured ho => obtain rfl := Option.some.inj hv; unfold execOp; rw [ho]; exact (evFn_ok hf w fn first captured).still
  case h_9 t x lo hi mx ho =>
    unfold execOp; rw [ho]
    split at hv
    · rename_i id off n c ex h' hs
      split at hv
      · cases hv
      · rename_i hne
        obtain rfl := Option.some.inj hv
        rcases evSlice_any E hf hs with ⟨h1, _⟩ | ⟨_, n', h2⟩
        · exact h1.still
        · injection h2 with e1
          subst e1
          simp at hne
    · cases hv
  case h_10 ho => unfold execOp; rw [ho]; exact (evFieldAddr_ok w (ev _) hv).still
  case h_11 ho => unfold execOp; rw [ho]; exact (evField_ok w (ev _) hv).still
  case h_12 ho => unfold execOp; rw [ho]; exact (evIndexAddr_ok w (ev _) (ev _) hv).still
  case h_13 ho => unfold execOp; rw [ho]; exact (evLookup_ok E (ev _) (ev _) hv).still
  case h_14 xt t ok ho => unfold execOp; rw [ho]; exact (evAssert_ok w _ _ _ (ev _) hv).still
  case h_15 ho => unfold execOp; rw [ho]; exact (evExtract_ok w (ev _) hv).still
  case h_16 x ho =>
    have hx := ev x
    unfold evNilCheck at hv
    split at hv
    · rename_i he
      rw [he] at hx
      obtain rfl := Option.some.inj hv
      have hx0 := hx
      simp only [AV.real, Option.map_eq_some_iff] at hx
      obtain ⟨l, hl, hx⟩ := hx
      unfold execOp; rw [ho]; dsimp only; rw [← hx]
      exact ⟨_, rfl, by rw [hx0, hx]⟩
    · rename_i he
      rw [he] at hx
      obtain rfl := Option.some.inj hv
      have hx0 := hx
      simp only [AV.real, Option.bind_eq_some_iff, Option.map_eq_some_iff] at hx
      obtain ⟨x1, h1, x2, h2, hx⟩ := hx
      unfold execOp; rw [ho]; dsimp only; rw [← hx]
      exact ⟨_, rfl, by rw [hx0, hx]⟩
    · rename_i he
      rw [he] at hx
      obtain rfl := Option.some.inj hv
      have hx0 := hx
      simp only [AV.real, Option.map_eq_some_iff] at hx
      obtain ⟨x1, h1, hx⟩ := hx
      unfold execOp; rw [ho]; dsimp only; rw [← hx]
      exact ⟨_, rfl, by rw [hx0, hx]⟩
    · cases hv
  case h_17 ho => unfold execOp; rw [ho]; exact (evConv_ok E (ev _) hv).still
  case h_18 c ho =>
    split at hv
    case h_2 => cases hv
    rename_i b hc
    split at hv
    case h_2 => cases hv
    have hargs : AV.reals ρ (evAs f c.args.toList) = some (c.args.map a.eval).toList := by rw [evAs_real hf, Array.toList_map]
    have hexec : execOp a.eval o = (do let d ← resolve a.eval c o.type; invoke d.target d.args) := by unfold execOp; rw [ho]
    rw [hexec]
    simp only [resolve, hc, pure_bind, invoke]
    split at hv
    · rename_i t x hat hb
      have hat : c.argTypes = #[t] := by apply Array.ext'; exact hat
      rw [hb] at hargs
      obtain ⟨u, hu, hxs⟩ := reals_one hargs
      rw [hxs, hat]
      exact (evLen_ok E o.type _ rfl _ rfl hu hv).still
    · cases hv
  case h_19 => cases hv
noncomputable def plainV (P : Program) (f : Fr) (h : Hp) (o : Oper) : Option AV := match evPlain P f h o with
  | .val v _ => some v
  | _ => none
theorem plainV_same (P : Program) (f : Fr) (h h' : Hp) (o : Oper) : plainV P f h o = plainV P f h' o := by
  unfold plainV evPlain
  split <;> (repeat' split at *) <;> simp_all
noncomputable def evStill (P : Program) (f : Fr) (h : Hp) (o : Oper) : Option AV := match evStillS P f h o with
  | some v => some v
  | none => plainV P f h o
/-- An operation that does not look at memory. -/
noncomputable def isPure (o : Oper) : Bool := match o.op with
  | .move _ | .assign _ | .build _ _ | .makeInterface _ _ | .makeFunc _ _ _ | .fieldAddr _ _ _ | .field _ _ _ | .indexAddr _ _ _ | .typeAssert _ _ _ _ | .extract _ _ | .nilCheck _ => true
  | .binOp op _ _ _ _ => match op with
    | .eql | .neq => false
    | _ => true
  | _ => false
theorem evStill_pure (P : Program) (f : Fr) (h h' : Hp) (o : Oper) (hp : isPure o = true) : evStill P f h o = evStill P f h' o := by
  have e : evStillS P f h o = evStillS P f h' o := by
    unfold isPure at hp
    unfold evStillS
    cases ho : o.op with
    | binOp op t x y yt =>
      rw [ho] at hp
      dsimp only
      unfold evBin evBin0
      cases evI2 op (evA f x) (evA f y) with
      | some v => rfl
      | none => cases op <;> first | rfl | cases hp
    | _ => first | rfl | (rw [ho] at hp; cases hp)
  unfold evStill
  rw [e, plainV_same P f h h' o]
theorem evPlain_still {P : Program} {ρ : Env} {f : Fr} {a : Act} (hf : FrR ρ f a) (h h' : Hp) (w : World) (o : Oper) {v : AV} (hv : evPlain P f h o = .val v h') : StillR P ρ (execOp a.eval o) w v := by
  unfold evPlain at hv
  split at hv
  · cases hv
  · rename_i hs
    split at hv
    · cases hv
    · rename_i hp
      have hc : execOp a.eval o = execOp (plainIn f) o := execOp_congr o (not_select hs) fun x hx => allPlain_spec hf _ hp x (by simpa using hx)
      rw [hc]
      split at hv
      · rename_i x hr
        obtain ⟨rfl, rfl⟩ : v = .v x ∧ h' = h := by cases hv; exact ⟨rfl, rfl⟩
        exact ⟨x, runS_run _ _ w hr, rfl⟩
      · cases hv
      · cases hv
      · cases hv
theorem evStill_ok {P : Program} {ρ : Env} {base : Kp} {w0 : World} {h : Hp} {w : World} (E : Emb ρ base w0 h w) {f : Fr} {a : Act} (hf : FrR ρ f a) (o : Oper) {v : AV} (hv : evStill P f h o = some v) : StillR P ρ (execOp a.eval o) w v := by
  unfold evStill at hv
  split at hv
  · rename_i v' hp
    obtain rfl := Option.some.inj hv
    exact evStillS_ok E hf o hp
  · unfold plainV at hv
    split at hv
    · rename_i v' h' hp
      obtain rfl := Option.some.inj hv
      exact evPlain_still hf h h' w o hp
    · cases hv
end Go.Proofs.Ytcakdjnnfonijaa
