/- A drawn region of many operations that only read: its order is checked by numbers (bits), which the kernel reckons fast. Nothing of the program is used here. / A reckoner of closed runs, 15: operations that leave the world as it is. Nothing of the program is used here. / A reckoner of closed runs, 16: regions that draw their order. Nothing of the program is used here. / A reckoner of closed runs, 17: every order of a region comes to one end. Nothing of the program is used here. / A reckoner of closed runs, 18: that every order of a region comes to one end, proved. Nothing of the program is used here. / A reckoner of closed runs, 19: code with drawn regions and ranges over functions; closed runs. Nothing of the program is used here. -/
import Derived.StillTail
import Derived.Test.YtcakdjnnfonijaaEvMid
import Derived.OrdersIn
namespace Go.Proofs.Ytcakdjnnfonijaa
open Go

def bitO : Option Nat → Nat
  | none => 0
  | some d => 2 ^ d
def bitsL : List Nat → Nat
  | [] => 0
  | t :: r => 2 ^ t ||| bitsL r
theorem bitsL_bit : ∀ (l : List Nat) (t : Nat), (bitsL l).testBit t = decide (t ∈ l)
  | [], t => by simp [bitsL]
  | a :: r, t => by
    simp only [bitsL, Nat.testBit_or, Nat.testBit_two_pow, bitsL_bit r t, List.mem_cons]
    by_cases h : a = t
    · simp [h]
    · simp [h, Ne.symm h]
theorem bitO_bit (o : Option Nat) (t : Nat) : (bitO o).testBit t = decide (o = some t) := by
  cases o with
  | none => simp [bitO]
  | some d => simp [bitO, Nat.testBit_two_pow]
abbrev Masks := Nat × Nat × Nat
def maskOf (ops : Array Oper) (o : Oper) : Masks := (bitO o.dst, bitsL (o.looksAt ops), bitsL ((o.after.toList.filter (Region.binds .any)).map (·.on)))
def pairOk (k : Nat) (x y : Masks) : Bool := match y.2.2.testBit k with
  | true => true
  | false => match Nat.beq (x.1 &&& (y.1 ||| y.2.1)) 0 with
    | true => Nat.beq (x.2.1 &&& y.1) 0
    | false => false
theorem nblt (i n : Nat) : Nat.blt i n = decide (i < n) := by
  cases h : decide (i < n) with
  | true => exact Nat.ble_eq_true_of_le (of_decide_eq_true h)
  | false =>
    have := of_decide_eq_false h
    cases hb : Nat.blt i n with
    | true => exact absurd (Nat.le_of_ble_eq_true hb) this
    | false => rfl
theorem land_zero {a b : Nat} (h : Nat.beq (a &&& b) 0 = true) {t : Nat} (ha : a.testBit t = true) : b.testBit t = false := by
  have h1 := congrArg (fun x => x.testBit t) (Nat.eq_of_beq_eq_true h)
  simpa [Nat.testBit_and, ha] using h1
theorem apart_of {ops : Array Oper} {k : Nat} {x y : Oper} (h : pairOk k (maskOf ops x) (maskOf ops y) = true) (hw : (maskOf ops y).2.2.testBit k = false) : x.apart ops y = true := by
  unfold pairOk at h
  rw [hw] at h
  dsimp only at h
  split at h
  · rename_i h1
    have k1 : ∀ d, x.dst = some d → d ∉ y.looksAt ops ∧ y.dst ≠ some d := fun d hd => by
      have := land_zero h1 (t := d) (by show (bitO x.dst).testBit d = true; rw [bitO_bit]; exact decide_eq_true hd)
      simp only [Nat.testBit_or, Bool.or_eq_false_iff] at this
      refine ⟨fun hm => ?_, fun hm => ?_⟩
      · have h2 : (bitsL (y.looksAt ops)).testBit d = false := this.2
        rw [bitsL_bit, decide_eq_true hm] at h2; cases h2
      · have h2 : (bitO y.dst).testBit d = false := this.1
        rw [bitO_bit, decide_eq_true hm] at h2; cases h2
    have k2 : ∀ d, y.dst = some d → d ∉ x.looksAt ops := fun d hd hm => by
      have := land_zero h (t := d) (by show (bitsL (x.looksAt ops)).testBit d = true; rw [bitsL_bit]; exact decide_eq_true hm)
      have h2 : (bitO y.dst).testBit d = false := this
      rw [bitO_bit, decide_eq_true hd] at h2; cases h2
    unfold Oper.apart
    cases hx : x.dst with
    | none =>
      cases hy : y.dst with
      | none => rfl
      | some e => have := k2 e hy; simpa using this
    | some d =>
      have := k1 d hx
      cases hy : y.dst with
      | none => simp [this.1]
      | some e =>
        have h3 := k2 e hy
        have h4 : e ≠ d := fun e' => this.2 (by rw [hy, e'])
        simp [this.1, h3, h4]
  · cases h
theorem after_bit {ops : Array Oper} {o : Oper} {i : Nat} : (maskOf ops o).2.2.testBit i = true ↔ ∃ e ∈ o.after, Region.binds .any e = true ∧ e.on = i := by
  show (bitsL _).testBit i = true ↔ _
  rw [bitsL_bit, decide_eq_true_eq, List.mem_map]
  constructor
  · rintro ⟨e, he, rfl⟩
    rw [List.mem_filter, Array.mem_toList_iff] at he
    exact ⟨e, he.1, he.2, rfl⟩
  · rintro ⟨e, he, hb, rfl⟩
    exact ⟨e, by rw [List.mem_filter, Array.mem_toList_iff]; exact ⟨he, hb⟩, rfl⟩
end Go.Proofs.Ytcakdjnnfonijaa
namespace Go.Proofs.Ytcakdjnnfonijaa
open Go.RowKit

noncomputable def valOf : R → Option AV
  | .val v _ => some v
  | _ => none
noncomputable def evStillS (P : Program) (f : Fr) (h : Hp) (o : Oper) : Option AV := match o.op with
  | .move x => some (evA f x)
  | .assign x => some (evA f x)
  | .pick c a b => match evA f c with
    | .v (.bool true) => some (evA f a)
    | .v (.bool false) => some (evA f b)
    | _ => none
  | .build t parts => evBuild P f t parts
  | .load t a => evLoad P h t (evA f a)
  | .binOp op t x y _ => valOf (evBin P f h op t x y)
  | .makeInterface t x => evIface P t (evA f x)
  | .makeFunc fn first captured => some (evFn f fn first captured)
  | .slice t x lo hi mx => match evSlice P f h t x lo hi mx with
    | some (.slc id off n c ex, _) => match Nat.beq id h.nx with
      | true => none
      | false => some (.slc id off n c ex)
    | _ => none
  | .fieldAddr t x i => evFieldAddr P t (evA f x) i
  | .field t x i => evField P t (evA f x) i
  | .indexAddr t x i => evIndexAddr P t (evA f x) (evA f i)
  | .lookup t x i ok => evLookup P h t (evA f x) (evA f i) ok
  | .typeAssert x _ t ok => evAssert P (evA f x) t ok
  | .extract x i => evExtract (evA f x) i
  | .nilCheck x => evNilCheck (evA f x)
  | .convert s d x => evConv P h s d (evA f x)
  | .call c => match c.callee with
    | .builtin b => match b with
      | .len => match c.argTypes.toList, evAs f c.args.toList with
        | [t], [x] => evLen P h t x
        | _, _ => none
      | _ => none
    | _ => none
  | _ => none
/-- The work leaves the world, and yields the value. -/
noncomputable def StillR (P : Program) (ρ : Env) (s : Sem Next) (w : World) (v : AV) : Prop := ∃ x, s.run P w = .ok (.value x) w ∧ v.real ρ = some x
theorem Gives.still {P : Program} {ρ : Env} {s : Sem Value} {w : World} {v : AV} (G : Gives P ρ s w v) : StillR P ρ (do pure (.value (← s))) w v := by
  obtain ⟨x, h1, h2⟩ := G
  exact ⟨x, by rw [Sem.run_bind, h1]; rfl, h2⟩
theorem evStillS_ok {P : Program} {ρ : Env} {base : Kp} {w0 : World} {h : Hp} {w : World} (E : Emb ρ base w0 h w) {f : Fr} {a : Act} (hf : FrR ρ f a) (o : Oper) {v : AV} (hv : evStillS P f h o = some v) : StillR P ρ (execOp a.eval o) w v := by
  have ev := fun x => evA_real hf x
  unfold evStillS at hv
  split at hv
  case h_1 x ho => obtain rfl := Option.some.inj hv; unfold execOp; rw [ho]; exact ⟨_, rfl, ev x⟩
  case h_2 x ho => obtain rfl := Option.some.inj hv; unfold execOp; rw [ho]; exact ⟨_, rfl, ev x⟩
  case h_3 c x y ho =>
    have hc := ev c
    split at hv
    · rename_i he
      rw [he] at hc
      have hc : Value.bool true = a.eval c := Option.some.inj hc
      obtain rfl := Option.some.inj hv
      unfold execOp; rw [ho]; dsimp only; rw [← hc]
      exact ⟨_, rfl, ev x⟩
    · rename_i he
      rw [he] at hc
      have hc : Value.bool false = a.eval c := Option.some.inj hc
      obtain rfl := Option.some.inj hv
      unfold execOp; rw [ho]; dsimp only; rw [← hc]
      exact ⟨_, rfl, ev y⟩
    · cases hv
  case h_4 ho => unfold execOp; rw [ho]; exact (evBuild_ok hf w hv).still
  case h_5 x ho => unfold execOp; rw [ho]; exact (evLoad_gives E (ev _) hv).still
  case h_6 op t x y yt ho =>
    unfold execOp; rw [ho]
    dsimp only
    unfold evBin at hv
    split at hv
    · rename_i b hb
      obtain rfl := Option.some.inj hv
      exact Gives.still ⟨_, evI2_ok (ev x) (ev y) hb, rfl⟩
    unfold evBin0 at hv
    split at hv
    · split at hv
      · rename_i b hb
        obtain rfl := Option.some.inj hv
        obtain ⟨h1, h2⟩ := evEq_ok E 8 t _ _ _ _ b (ev x) (ev y) hb
        exact Gives.still ⟨_, (run_eql h1 (h2 10000 (by decide))).1, rfl⟩
      · cases hv
    · split at hv
      · rename_i b hb
        obtain rfl := Option.some.inj hv
        obtain ⟨h1, h2⟩ := evEq_ok E 8 t _ _ _ _ b (ev x) (ev y) hb
        exact Gives.still ⟨_, (run_eql h1 (h2 10000 (by decide))).2, rfl⟩
      · cases hv
    · cases hv
  case h_7 ho => unfold execOp; rw [ho]; exact (evIface_ok w (ev _) hv).still
  case h_8 fn first captured ho => obtain rfl := Option.some.inj hv; unfold execOp; rw [ho]; exact (evFn_ok hf w fn first captured).still
  case h_9 t x lo hi mx ho =>
    unfold execOp; rw [ho]
    split at hv
    · rename_i id off n c ex h' hs
      split at hv
      · cases hv
      · rename_i hne
        obtain rfl := Option.some.inj hv
        rcases evSlice_any E hf hs with ⟨h1, _⟩ | ⟨_, n', h2⟩
        · exact h1.still
        · injection h2 with e1
          subst e1
          simp at hne
    · cases hv
  case h_10 ho => unfold execOp; rw [ho]; exact (evFieldAddr_ok w (ev _) hv).still
  case h_11 ho => unfold execOp; rw [ho]; exact (evField_ok w (ev _) hv).still
  case h_12 ho => unfold execOp; rw [ho]; exact (evIndexAddr_ok w (ev _) (ev _) hv).still
  case h_13 ho => unfold execOp; rw [ho]; exact (evLookup_ok E (ev _) (ev _) hv).still
  case h_14 xt t ok ho => unfold execOp; rw [ho]; exact (evAssert_ok w _ _ _ (ev _) hv).still
  case h_15 ho => unfold execOp; rw [ho]; exact (evExtract_ok w (ev _) hv).still
  case h_16 x ho =>
    have hx := ev x
    unfold evNilCheck at hv
    split at hv
    · rename_i he
      rw [he] at hx
      obtain rfl := Option.some.inj hv
      have hx0 := hx
      simp only [AV.real, Option.map_eq_some_iff] at hx
      obtain ⟨l, hl, hx⟩ := hx
      unfold execOp; rw [ho]; dsimp only; rw [← hx]
      exact ⟨_, rfl, by rw [hx0, hx]⟩
    · rename_i he
      rw [he] at hx
      obtain rfl := Option.some.inj hv
      have hx0 := hx
      simp only [AV.real, Option.bind_eq_some_iff, Option.map_eq_some_iff] at hx
      obtain ⟨x1, h1, x2, h2, hx⟩ := hx
      unfold execOp; rw [ho]; dsimp only; rw [← hx]
      exact ⟨_, rfl, by rw [hx0, hx]⟩
    · rename_i he
      rw [he] at hx
      obtain rfl := Option.some.inj hv
      have hx0 := hx
      simp only [AV.real, Option.map_eq_some_iff] at hx
      obtain ⟨x1, h1, hx⟩ := hx
      unfold execOp; rw [ho]; dsimp only; rw [← hx]
      exact ⟨_, rfl, by rw [hx0, hx]⟩
    · cases hv
  case h_17 ho => unfold execOp; rw [ho]; exact (evConv_ok E (ev _) hv).still
  case h_18 c ho =>
    split at hv
    case h_2 => cases hv
    rename_i b hc
    split at hv
    case h_2 => cases hv
    have hargs : AV.reals ρ (evAs f c.args.toList) = some (c.args.map a.eval).toList := by rw [evAs_real hf, Array.toList_map]
    have hexec : execOp a.eval o = (do let d ← resolve a.eval c o.type; invoke d.target d.args) := by unfold execOp; rw [ho]
    rw [hexec]
    simp only [resolve, hc, pure_bind, invoke]
    split at hv
    · rename_i t x hat hb
      have hat : c.argTypes = #[t] := by apply Array.ext'; exact hat
      rw [hb] at hargs
      obtain ⟨u, hu, hxs⟩ := reals_one hargs
      rw [hxs, hat]
      exact (evLen_ok E o.type _ rfl _ rfl hu hv).still
    · cases hv
  case h_19 => cases hv
noncomputable def plainV (P : Program) (f : Fr) (h : Hp) (o : Oper) : Option AV := match evPlain P f h o with
  | .val v _ => some v
  | _ => none
theorem plainV_same (P : Program) (f : Fr) (h h' : Hp) (o : Oper) : plainV P f h o = plainV P f h' o := by
  unfold plainV evPlain
  split <;> (repeat' split at *) <;> simp_all
noncomputable def evStill (P : Program) (f : Fr) (h : Hp) (o : Oper) : Option AV := match evStillS P f h o with
  | some v => some v
  | none => plainV P f h o
/-- An operation that does not look at memory. -/
noncomputable def isPure (o : Oper) : Bool := match o.op with
  | .move _ | .assign _ | .build _ _ | .makeInterface _ _ | .makeFunc _ _ _ | .fieldAddr _ _ _ | .field _ _ _ | .indexAddr _ _ _ | .typeAssert _ _ _ _ | .extract _ _ | .nilCheck _ => true
  | .binOp op _ _ _ _ => match op with
    | .eql | .neq => false
    | _ => true
  | _ => false
theorem evStill_pure (P : Program) (f : Fr) (h h' : Hp) (o : Oper) (hp : isPure o = true) : evStill P f h o = evStill P f h' o := by
  have e : evStillS P f h o = evStillS P f h' o := by
    unfold isPure at hp
    unfold evStillS
    cases ho : o.op with
    | binOp op t x y yt =>
      rw [ho] at hp
      dsimp only
      unfold evBin evBin0
      cases evI2 op (evA f x) (evA f y) with
      | some v => rfl
      | none => cases op <;> first | rfl | cases hp
    | _ => first | rfl | (rw [ho] at hp; cases hp)
  unfold evStill
  rw [e, plainV_same P f h h' o]
theorem evPlain_still {P : Program} {ρ : Env} {f : Fr} {a : Act} (hf : FrR ρ f a) (h h' : Hp) (w : World) (o : Oper) {v : AV} (hv : evPlain P f h o = .val v h') : StillR P ρ (execOp a.eval o) w v := by
  unfold evPlain at hv
  split at hv
  · cases hv
  · rename_i hs
    split at hv
    · cases hv
    · rename_i hp
      have hc : execOp a.eval o = execOp (plainIn f) o := execOp_congr o (not_select hs) fun x hx => allPlain_spec hf _ hp x (by simpa using hx)
      rw [hc]
      split at hv
      · rename_i x hr
        obtain ⟨rfl, rfl⟩ : v = .v x ∧ h' = h := by cases hv; exact ⟨rfl, rfl⟩
        exact ⟨x, runS_run _ _ w hr, rfl⟩
      · cases hv
      · cases hv
      · cases hv
theorem evStill_ok {P : Program} {ρ : Env} {base : Kp} {w0 : World} {h : Hp} {w : World} (E : Emb ρ base w0 h w) {f : Fr} {a : Act} (hf : FrR ρ f a) (o : Oper) {v : AV} (hv : evStill P f h o = some v) : StillR P ρ (execOp a.eval o) w v := by
  unfold evStill at hv
  split at hv
  · rename_i v' hp
    obtain rfl := Option.some.inj hv
    exact evStillS_ok E hf o hp
  · unfold plainV at hv
    split at hv
    · rename_i v' h' hp
      obtain rfl := Option.some.inj hv
      exact evPlain_still hf h h' w o hp
    · cases hv
end Go.Proofs.Ytcakdjnnfonijaa
namespace Go.Proofs.Ytcakdjnnfonijaa
open Go.RowKit

noncomputable def Waits (ops : Array Oper) (i k : Nat) : Prop := ∃ o, ops[i]? = some o ∧ ∃ e ∈ o.after, Region.binds .any e = true ∧ e.on = k
structure Sound (ops : Array Oper) : Prop where
  back : ∀ i k, Waits ops i k → k < i
  pair : ∀ (i j : Nat) (x y : Oper), i ≠ j → ops[i]? = some x → ops[j]? = some y → Waits ops j i ∨ Waits ops i j ∨ ∀ t, x.dst = some t → t ∉ y.looksAt ops
  dst : ∀ (i j : Nat) (x y : Oper) (t : Tmp), ops[i]? = some x → ops[j]? = some y → x.dst = some t → y.dst = some t → i = j
  sel : ∀ (i : Nat) (x : Oper), ops[i]? = some x → Oper.isSelect x = false
noncomputable def drawGo : Nat → List Masks → Bool
  | _, [] => true
  | k, m :: r => match Nat.blt m.2.2 (2 ^ k) with
    | false => false
    | true => match r.all (fun y => pairOk k m y && Nat.beq (m.1 &&& y.1) 0) with
      | false => false
      | true => drawGo (k + 1) r
theorem drawGo_spec : ∀ (ms : List Masks) (k : Nat), drawGo k ms = true → ∀ i m, ms[i]? = some m → m.2.2 < 2 ^ (k + i) ∧ ∀ j m', i < j → ms[j]? = some m' → pairOk (k + i) m m' = true ∧ Nat.beq (m.1 &&& m'.1) 0 = true
  | [], k, _, i, m, hi => by simp at hi
  | x :: r, k, h, i, m, hi => by
    simp only [drawGo, nblt] at h
    cases h1 : decide (x.2.2 < 2 ^ k) with
    | false => rw [h1] at h; cases h
    | true =>
      rw [h1] at h
      dsimp only at h
      cases h2 : r.all (fun y => pairOk k x y && Nat.beq (x.1 &&& y.1) 0) with
      | false => rw [h2] at h; cases h
      | true =>
        rw [h2] at h
        cases i with
        | zero =>
          simp only [List.getElem?_cons_zero, Option.some.injEq] at hi
          subst hi
          refine ⟨of_decide_eq_true h1, fun j m' hj hm' => ?_⟩
          obtain ⟨j', rfl⟩ : ∃ j', j = j' + 1 := ⟨j - 1, by omega⟩
          have := List.all_eq_true.1 h2 m' (List.mem_of_getElem? (by simpa using hm'))
          simpa [Bool.and_eq_true] using this
        | succ i =>
          obtain ⟨a1, a2⟩ := drawGo_spec r (k + 1) h i m (by simpa using hi)
          rw [show k + 1 + i = k + (i + 1) by omega] at a1 a2
          refine ⟨a1, fun j m' hj hm' => ?_⟩
          obtain ⟨j', rfl⟩ : ∃ j', j = j' + 1 := ⟨j - 1, by omega⟩
          exact a2 j' m' (by omega) (by simpa using hm')
theorem waits_bit {ops : Array Oper} {i k : Nat} {o : Oper} (ho : ops[i]? = some o) : (maskOf ops o).2.2.testBit k = true ↔ Waits ops i k := by
  rw [after_bit]
  constructor
  · rintro ⟨e, he, hb, hk⟩
    exact ⟨o, ho, e, he, hb, hk⟩
  · rintro ⟨o', ho', e, he, hb, hk⟩
    obtain rfl := Option.some.inj (ho.symm.trans ho')
    exact ⟨e, he, hb, hk⟩
theorem sound_of {ops : Array Oper} (h : drawGo 0 (ops.toList.map (maskOf ops)) = true) (hs : ops.toList.all (fun o => !Oper.isSelect o) = true) : Sound ops := by
  have hm : ∀ (i : Nat) (o : Oper), ops[i]? = some o → (ops.toList.map (maskOf ops))[i]? = some (maskOf ops o) := fun i o ho => by rw [List.getElem?_map, Array.getElem?_toList, ho]; rfl
  have hsp := fun i o ho => drawGo_spec _ 0 h i (maskOf ops o) (hm i o ho)
  simp only [Nat.zero_add] at hsp
  have hap : ∀ i j x y, i < j → ops[i]? = some x → ops[j]? = some y → Waits ops j i ∨ x.apart ops y = true := fun i j x y hij hx hy => by
    have hp := ((hsp i x hx).2 j _ hij (hm j y hy)).1
    cases hw : (maskOf ops y).2.2.testBit i with
    | true => exact .inl ((waits_bit hy).1 hw)
    | false => exact .inr (apart_of hp hw)
  refine ⟨fun i k hw => ?_, fun i j x y hne hx hy => ?_, fun i j x y t hx hy hxt hyt => ?_, fun i x hx => ?_⟩
  · obtain ⟨o, ho, _⟩ := id hw
    have h1 := (hsp i o ho).1
    have h2 := (waits_bit ho).2 hw
    rcases Nat.lt_or_ge k i with h3 | h3
    · exact h3
    · rw [Nat.testBit_lt_two_pow (Nat.lt_of_lt_of_le h1 (Nat.pow_le_pow_right (by decide) h3))] at h2
      cases h2
  · rcases Nat.lt_or_ge i j with hlt | hge
    · rcases hap i j x y hlt hx hy with h1 | h1
      · exact .inl h1
      · exact .inr (.inr fun t ht => (Oper.apart_spec h1).1 t ht)
    · rcases hap j i y x (by omega) hy hx with h1 | h1
      · exact .inr (.inl h1)
      · exact .inr (.inr fun t ht => (Oper.apart_spec h1).2.2 t ht)
  · have key : ∀ (i j : Nat) (x y : Oper), i < j → ops[i]? = some x → ops[j]? = some y → x.dst = some t → y.dst = some t → False := fun i j x y hij hx hy hxt hyt => by
      have h1 := ((hsp i x hx).2 j _ hij (hm j y hy)).2
      have h2 := land_zero h1 (t := t) (by show (bitO x.dst).testBit t = true; rw [bitO_bit]; exact decide_eq_true hxt)
      have h3 : (bitO y.dst).testBit t = false := h2
      rw [bitO_bit, decide_eq_true hyt] at h3
      cases h3
    rcases Nat.lt_trichotomy i j with h1 | h1 | h1
    · exact (key i j x y h1 hx hy hxt hyt).elim
    · exact h1
    · exact (key j i y x h1 hy hx hyt hxt).elim
  · have := List.all_eq_true.1 hs x (List.mem_of_getElem? (by rw [Array.getElem?_toList]; exact hx))
    simpa using this
/-- Whom an operation waits for, near or far. -/
noncomputable def gather (a : Nat) : List Nat → Nat → Nat
  | [], _ => 0
  | x :: r, j => match a.testBit j with
    | true => x ||| gather a r (j + 1)
    | false => gather a r (j + 1)
noncomputable def ancGo : List Masks → List Nat → List Nat
  | [], acc => acc
  | m :: r, acc => ancGo r (acc ++ [m.2.2 ||| gather m.2.2 acc 0])
noncomputable def Anc (ops : Array Oper) (A k : Nat) : Prop := ∀ i, A.testBit i = true → ∀ L : Nat → Prop, (∀ x y, L x → Waits ops x y → L y) → L k → L i
theorem gather_bit (a : Nat) : ∀ (l : List Nat) (j i : Nat), (gather a l j).testBit i = true → ∃ p A, l[p]? = some A ∧ a.testBit (j + p) = true ∧ A.testBit i = true
  | [], j, i, h => by simp [gather] at h
  | x :: r, j, i, h => by
    simp only [gather] at h
    cases ha : a.testBit j with
    | true =>
      rw [ha] at h
      simp only [Nat.testBit_or, Bool.or_eq_true] at h
      rcases h with h | h
      · exact ⟨0, x, rfl, ha, h⟩
      · obtain ⟨p, A, h1, h2, h3⟩ := gather_bit a r (j + 1) i h
        exact ⟨p + 1, A, by simpa using h1, by rwa [show j + (p + 1) = j + 1 + p by omega], h3⟩
    | false =>
      rw [ha] at h
      obtain ⟨p, A, h1, h2, h3⟩ := gather_bit a r (j + 1) i h
      exact ⟨p + 1, A, by simpa using h1, by rwa [show j + (p + 1) = j + 1 + p by omega], h3⟩
theorem ancGo_ok {ops : Array Oper} : ∀ (l : List Oper) (acc : List Nat), (∀ j, l[j]? = ops[acc.length + j]?) → (∀ k A, acc[k]? = some A → Anc ops A k) →
    (ancGo (l.map (maskOf ops)) acc).length = acc.length + l.length ∧ ∀ k A, (ancGo (l.map (maskOf ops)) acc)[k]? = some A → Anc ops A k
  | [], acc, _, ha => ⟨by simp [ancGo], ha⟩
  | o :: l, acc, hl, ha => by
    have h0 : ops[acc.length]? = some o := by simpa using (hl 0).symm
    have hnew : Anc ops ((maskOf ops o).2.2 ||| gather (maskOf ops o).2.2 acc 0) acc.length := fun i hi L hL hk => by
      rw [Nat.testBit_or, Bool.or_eq_true] at hi
      rcases hi with hi | hi
      · exact hL _ _ hk ((waits_bit h0).1 hi)
      · obtain ⟨p, A, h1, h2, h3⟩ := gather_bit _ _ _ _ hi
        rw [Nat.zero_add] at h2
        exact ha p A h1 i h3 L hL (hL _ _ hk ((waits_bit h0).1 h2))
    obtain ⟨r1, r2⟩ := ancGo_ok l (acc ++ [(maskOf ops o).2.2 ||| gather (maskOf ops o).2.2 acc 0]) (fun j => by
      have := hl (j + 1)
      rw [List.length_append, List.length_singleton, Nat.add_assoc, Nat.add_comm 1 j]
      simpa using this) (fun k A hk => by
      rcases Nat.lt_trichotomy k acc.length with h1 | h1 | h1
      · rw [List.getElem?_append_left h1] at hk; exact ha k A hk
      · subst h1
        rw [List.getElem?_append_right (Nat.le_refl _), Nat.sub_self] at hk
        obtain rfl := Option.some.inj hk
        exact hnew
      · rw [List.getElem?_append_right (by omega)] at hk
        obtain ⟨d, hd⟩ : ∃ d, k - acc.length = d + 1 := ⟨k - acc.length - 1, by omega⟩
        rw [hd] at hk
        simp at hk)
    refine ⟨?_, r2⟩
    simp only [List.map_cons, ancGo]
    rw [r1]
    simp
    omega
/-- The table of a region: each operation, its masks, whom it waits for. -/
abbrev Row := Oper × Masks × Nat
noncomputable def tabOf (ops : Array Oper) : List Row := ops.toList.zip ((ops.toList.map (maskOf ops)).zip (ancGo (ops.toList.map (maskOf ops)) []))
theorem tab_get {ops : Array Oper} {i : Nat} {o : Oper} {m : Masks} {A : Nat} (h : (tabOf ops)[i]? = some (o, m, A)) : ops[i]? = some o ∧ m = maskOf ops o ∧ Anc ops A i := by
  unfold tabOf at h
  rw [List.getElem?_zip_eq_some] at h
  obtain ⟨h1, h2⟩ := h
  rw [List.getElem?_zip_eq_some] at h2
  obtain ⟨h2, h3⟩ := h2
  have ho : ops[i]? = some o := by rw [← Array.getElem?_toList]; exact h1
  refine ⟨ho, ?_, (ancGo_ok ops.toList [] (fun j => by simp) (fun k A hk => by simp at hk)).2 i A h3⟩
  rw [List.getElem?_map, h1] at h2
  exact (Option.some.inj h2).symm
theorem tab_some {ops : Array Oper} {i : Nat} {o : Oper} (ho : ops[i]? = some o) : ∃ m A, (tabOf ops)[i]? = some (o, m, A) := by
  have hi := (Array.getElem?_eq_some_iff.1 ho).1
  have hi' : i < (ancGo (ops.toList.map (maskOf ops)) []).length := by
    rw [(ancGo_ok ops.toList [] (ops := ops) (fun j => by simp) (fun k A hk => by simp at hk)).1, List.length_nil, Nat.zero_add, Array.length_toList]
    exact hi
  refine ⟨maskOf ops o, (ancGo (ops.toList.map (maskOf ops)) [])[i], ?_⟩
  unfold tabOf
  rw [List.getElem?_zip_eq_some]
  refine ⟨by rw [Array.getElem?_toList]; exact ho, ?_⟩
  rw [List.getElem?_zip_eq_some]
  exact ⟨by rw [List.getElem?_map, Array.getElem?_toList, ho]; rfl, List.getElem?_eq_getElem _⟩
noncomputable def isReady (done i : Nat) (m : Masks) : Bool := match done.testBit i with
  | true => false
  | false => Nat.beq (m.2.2 &&& done) m.2.2
theorem isReady_iff {ops : Array Oper} {done i : Nat} {o : Oper} (ho : ops[i]? = some o) : isReady done i (maskOf ops o) = true ↔ done.testBit i = false ∧ ∀ k, Waits ops i k → done.testBit k = true := by
  unfold isReady
  cases hd : done.testBit i with
  | true => simp
  | false =>
    dsimp only
    constructor
    · intro h
      refine ⟨rfl, fun k hk => ?_⟩
      have h1 := congrArg (fun x => x.testBit k) (Nat.eq_of_beq_eq_true h)
      simpa [Nat.testBit_and, (waits_bit ho).2 hk] using h1
    · rintro ⟨_, h⟩
      have : (maskOf ops o).2.2 &&& done = (maskOf ops o).2.2 := by
        apply Nat.eq_of_testBit_eq
        intro k
        rw [Nat.testBit_and]
        cases hk : (maskOf ops o).2.2.testBit k with
        | false => rfl
        | true => simp [h k ((waits_bit ho).1 hk)]
      rw [this]
      simp
end Go.Proofs.Ytcakdjnnfonijaa
namespace Go.Proofs.Ytcakdjnnfonijaa
open Go.RowKit

noncomputable def listEq {α : Type} (e : α → α → Bool) : List α → List α → Bool
  | [], [] => true
  | a :: r, b :: s => match e a b with
    | true => listEq e r s
    | false => false
  | _, _ => false
theorem listEq_eq {α : Type} {e : α → α → Bool} (he : ∀ a b, e a b = true → a = b) : ∀ (x y : List α), listEq e x y = true → x = y
  | [], [], _ => rfl
  | [], _ :: _, h => by cases h
  | _ :: _, [], h => by cases h
  | a :: r, b :: s, h => by
    simp only [listEq] at h
    cases hab : e a b with
    | false => rw [hab] at h; cases h
    | true =>
      rw [hab] at h
      rw [he a b hab, listEq_eq he r s h]
noncomputable def vEq : Nat → Value → Value → Bool
  | 0, _, _ => false
  | _ + 1, .int k a, .int k' b => decide (k = k') && decide (a = b)
  | _ + 1, .bool a, .bool b => decide (a = b)
  | _ + 1, .string a, .string b => decide (a = b)
  | _ + 1, .pointer none, .pointer none => true
  | _ + 1, .nilIface, .nilIface => true
  | _ + 1, .nilFunc, .nilFunc => true
  | _ + 1, .map none, .map none => true
  | _ + 1, .slice none a b, .slice none c d => decide (a = c) && decide (b = d)
  | n + 1, .iface t x, .iface u y => decide (t = u) && vEq n x y
  | n + 1, .tuple a, .tuple b => listEq (vEq n) a.toList b.toList
  | n + 1, .agg a, .agg b => listEq (vEq n) a.toList b.toList
  | _, _, _ => false
theorem vEq_eq : ∀ (n : Nat) (x y : Value), vEq n x y = true → x = y
  | 0, x, y, h => by cases h
  | n + 1, x, y, h => by
    unfold vEq at h
    split at h
    all_goals first
      | (cases h; done)
      | rfl
      | (simp only [Bool.and_eq_true, decide_eq_true_eq] at h; obtain ⟨rfl, rfl⟩ := h; rfl)
      | (simp only [decide_eq_true_eq] at h; subst h; rfl)
      | (simp only [Bool.and_eq_true, decide_eq_true_eq] at h; obtain ⟨rfl, h⟩ := h; rw [vEq_eq _ _ _ h])
      | (rw [Array.toList_inj.1 (listEq_eq (vEq_eq _) _ _ h)])
theorem nbeq {a b : Nat} : (Nat.beq a b = true) = (a = b) := propext ⟨Nat.eq_of_beq_eq_true, fun h => by rw [h]; simp⟩
noncomputable def avEq : Nat → AV → AV → Bool
  | 0, _, _ => false
  | n + 1, .v x, .v y => vEq n x y
  | _ + 1, .ptr a b, .ptr c d => Nat.beq a c && Nat.beq b d
  | _ + 1, .slc a b c d e, .slc a' b' c' d' e' => Nat.beq a a' && (Nat.beq b b' && (Nat.beq c c' && (Nat.beq d d' && decide (e = e'))))
  | _ + 1, .mp a, .mp b => Nat.beq a b
  | _ + 1, .yld a, .yld b => Nat.beq a b
  | n + 1, .fn (.func g) x y, .fn (.func g') x' y' => Nat.beq g g' && (listEq (avEq n) x x' && listEq (avEq n) y y')
  | n + 1, .ifc t x, .ifc u y => Nat.beq t u && avEq n x y
  | n + 1, .agg x, .agg y => listEq (avEq n) x y
  | _ + 1, .flat a b, .flat c d => Nat.beq a c && Nat.beq b d
  | n + 1, .tup x, .tup y => listEq (avEq n) x y
  | _, _, _ => false
theorem avEq_eq : ∀ (n : Nat) (x y : AV), avEq n x y = true → x = y
  | 0, x, y, h => by simp [avEq] at h
  | n + 1, x, y, h => by
    unfold avEq at h
    split at h
    all_goals first
      | (cases h; done)
      | (rw [vEq_eq _ _ _ h])
      | (simp only [Bool.and_eq_true, decide_eq_true_eq, nbeq] at h; obtain ⟨rfl, rfl, rfl, rfl, rfl⟩ := h; rfl)
      | (simp only [Bool.and_eq_true, nbeq] at h; obtain ⟨rfl, rfl⟩ := h; rfl)
      | (simp only [nbeq] at h; subst h; rfl)
      | (simp only [Bool.and_eq_true, nbeq] at h; obtain ⟨rfl, h1, h2⟩ := h; rw [listEq_eq (avEq_eq _) _ _ h1, listEq_eq (avEq_eq _) _ _ h2])
      | (simp only [Bool.and_eq_true, nbeq] at h; obtain ⟨rfl, h1⟩ := h; rw [avEq_eq _ _ _ h1])
      | (rw [listEq_eq (avEq_eq _) _ _ h])
noncomputable def isStill (o : Oper) : Bool := match o.op with
  | .alloc _ | .box _ _ | .buildSlice _ _ _ | .store _ _ _ | .insert _ _ _ _ | .mapUpdate _ _ _ _ | .makeMap _ _ | .makeSlice _ _ _ | .mapEntry _ _ _ | .entryStore _ _ _ _ | .range _ _ | .next _ _ => false
  | .convert s d _ => match Nat.beq s d with
    | true => false
    | false => true
  | .call c => match c.callee with
    | .builtin b => match b with
      | .len | .cap | .min | .max => true
      | _ => false
    | _ => false
  | _ => true
noncomputable def evStillG (P : Program) (ops : Array Oper) (f : Fr) (h : Hp) (o : Oper) : Option AV := match evWanted ops f o with
  | none => none
  | some false => some (.v undef)
  | some true => evStill P f h o
abbrev Pend := Nat × Oper × Fr × AV
noncomputable def checkPend (P : Program) (ops : Array Oper) (A : Nat) (h : Hp) : List Pend → Option (List Pend)
  | [] => some []
  | (j, o, f, v) :: r => match A.testBit j with
    | true => checkPend P ops A h r
    | false => match isPure o with
     | true => (checkPend P ops A h r).map fun l => (j, o, f, v) :: l
     | false => match evStillG P ops f h o with
      | some v' => match avEq 30 v' v with
        | true => (checkPend P ops A h r).map fun l => (j, o, f, v) :: l
        | false => none
      | none => none
theorem checkPend_ok {P : Program} {ops : Array Oper} {A : Nat} {h : Hp} : ∀ (l l' : List Pend), checkPend P ops A h l = some l' →
    (∀ p ∈ l', p ∈ l ∧ (evStillG P ops p.2.2.1 h p.2.1 = some p.2.2.2 ∨ isPure p.2.1 = true)) ∧ ∀ p ∈ l, A.testBit p.1 = false → p ∈ l'
  | [], l', h => by
    obtain rfl := Option.some.inj h
    exact ⟨fun p hp => (by cases hp), fun p hp => by cases hp⟩
  | (j, o, f, v) :: r, l', h => by
    simp only [checkPend] at h
    cases hA : A.testBit j with
    | true =>
      rw [hA] at h
      obtain ⟨h1, h2⟩ := checkPend_ok r l' h
      refine ⟨fun p hp => ⟨List.mem_cons_of_mem _ (h1 p hp).1, (h1 p hp).2⟩, fun p hp hn => ?_⟩
      rcases List.mem_cons.1 hp with rfl | hp
      · rw [hA] at hn; cases hn
      · exact h2 p hp hn
    | false =>
      rw [hA] at h
      dsimp only at h
      split at h
      · rename_i hp0
        obtain ⟨l2, hl2, rfl⟩ := Option.map_eq_some_iff.1 h
        obtain ⟨h1, h2⟩ := checkPend_ok r l2 hl2
        refine ⟨fun p hp => ?_, fun p hp hn => ?_⟩
        · rcases List.mem_cons.1 hp with rfl | hp
          · exact ⟨List.mem_cons_self, .inr hp0⟩
          · exact ⟨List.mem_cons_of_mem _ (h1 p hp).1, (h1 p hp).2⟩
        · rcases List.mem_cons.1 hp with rfl | hp
          · exact List.mem_cons_self
          · exact List.mem_cons_of_mem _ (h2 p hp hn)
      split at h
      case h_2 => cases h
      rename_i v' hv
      split at h
      case h_2 => cases h
      rename_i he
      obtain rfl := avEq_eq _ _ _ he
      obtain ⟨l2, hl2, rfl⟩ := Option.map_eq_some_iff.1 h
      obtain ⟨h1, h2⟩ := checkPend_ok r l2 hl2
      refine ⟨fun p hp => ?_, fun p hp hn => ?_⟩
      · rcases List.mem_cons.1 hp with rfl | hp
        · exact ⟨List.mem_cons_self, .inl hv⟩
        · exact ⟨List.mem_cons_of_mem _ (h1 p hp).1, (h1 p hp).2⟩
      · rcases List.mem_cons.1 hp with rfl | hp
        · exact List.mem_cons_self
        · exact List.mem_cons_of_mem _ (h2 p hp hn)
theorem evStillG_pure (P : Program) (ops : Array Oper) (f : Fr) (h h' : Hp) (o : Oper) (hp : isPure o = true) : evStillG P ops f h o = evStillG P ops f h' o := by
  unfold evStillG
  rw [evStill_pure P f h h' o hp]
noncomputable def nextStill (done : Nat) : List Row → Nat → Option (Nat × Oper)
  | [], _ => none
  | (o, m, _) :: r, i => match isStill o with
    | true => match isReady done i m with
      | true => some (i, o)
      | false => nextStill done r (i + 1)
    | false => nextStill done r (i + 1)
theorem nextStill_some {done : Nat} : ∀ (l : List Row) (i j : Nat) (o : Oper), nextStill done l i = some (j, o) → ∃ p m A, j = i + p ∧ l[p]? = some (o, m, A) ∧ isStill o = true ∧ isReady done j m = true
  | [], i, j, o, h => by cases h
  | (o', m, A) :: r, i, j, o, h => by
    simp only [nextStill] at h
    have rec1 : nextStill done r (i + 1) = some (j, o) → ∃ p m' A', j = i + p ∧ ((o', m, A) :: r)[p]? = some (o, m', A') ∧ isStill o = true ∧ isReady done j m' = true := fun h => by
      obtain ⟨p, m', A', h1, h2, h3, h4⟩ := nextStill_some r (i + 1) j o h
      exact ⟨p + 1, m', A', by omega, by simpa using h2, h3, h4⟩
    split at h
    · rename_i hs
      split at h
      · rename_i hr
        obtain ⟨rfl, rfl⟩ := Prod.mk.inj (Option.some.inj h)
        exact ⟨0, m, A, rfl, rfl, hs, hr⟩
      · exact rec1 h
    · exact rec1 h
noncomputable def readyMs (done : Nat) : List Row → Nat → List (Nat × Oper × Nat)
  | [], _ => []
  | (o, m, A) :: r, i => match isReady done i m with
    | true => (i, o, A) :: readyMs done r (i + 1)
    | false => readyMs done r (i + 1)
theorem readyMs_mem {done : Nat} : ∀ (l : List Row) (i p : Nat) (o : Oper) (m : Masks) (A : Nat), l[p]? = some (o, m, A) → isReady done (i + p) m = true → (i + p, o, A) ∈ readyMs done l i
  | [], i, p, o, m, A, hp, _ => by simp at hp
  | (o', m', A') :: r, i, p, o, m, A, hp, hr => by
    simp only [readyMs]
    cases p with
    | zero =>
      simp only [List.getElem?_cons_zero, Option.some.injEq, Prod.mk.injEq] at hp
      obtain ⟨rfl, rfl, rfl⟩ := hp
      rw [Nat.add_zero] at hr ⊢
      rw [hr]
      exact List.mem_cons_self
    | succ p =>
      have h1 := readyMs_mem r (i + 1) p o m A (by simpa using hp) (by rw [show i + 1 + p = i + (p + 1) by omega]; exact hr)
      rw [show i + 1 + p = i + (p + 1) by omega] at h1
      split
      · exact List.mem_cons_of_mem _ h1
      · exact h1
end Go.Proofs.Ytcakdjnnfonijaa
namespace Go.Proofs.Ytcakdjnnfonijaa
open Go.RowKit

noncomputable def Lst (listed : Array Bool) (i : Nat) : Prop := listed.getD i false = true
noncomputable def LookOk (ops : Array Oper) (f0 : Fr) (vv : Nat → AV) (i : Nat) (o : Oper) (fi : Fr) : Prop := fi.n = f0.n ∧ ∀ t ∈ o.looksAt ops,
  (∃ (k : Nat) (x : Oper), ops[k]? = some x ∧ x.dst = some t ∧ Waits ops i k ∧ fi.get t = vv k) ∨ ((∀ (k : Nat) (x : Oper), ops[k]? = some x → x.dst = some t → k = i ∨ Waits ops k i) ∧ fi.get t = f0.get t)
structure Inv (P : Program) (ops : Array Oper) (base : Kp) (w0 : World) (f0 : Fr) (vv : Nat → AV) (done : Nat) (f : Fr) (h : Hp) (pend : List Pend) (listed : Array Bool) (a : Act) (w : World) (ρ : Env) : Prop where
  size : listed.size = ops.size
  sub : ∀ i, Lst listed i → done.testBit i = true
  dcl : ∀ i k, done.testBit i = true → Waits ops i k → done.testBit k = true
  lcl : ∀ i k, Lst listed i → Waits ops i k → Lst listed k
  dlt : ∀ i, done.testBit i = true → i < ops.size
  pen : ∀ i, done.testBit i = true → ¬ Lst listed i → ∃ o fi, (i, o, fi, vv i) ∈ pend
  ent : ∀ i o fi vi, (i, o, fi, vi) ∈ pend → done.testBit i = true ∧ (¬ Lst listed i → ops[i]? = some o ∧ vi = vv i ∧ evStillG P ops fi h o = some vi ∧ (∃ ai, FrR ρ fi ai) ∧ LookOk ops f0 vv i o fi)
  fn : f.n = f0.n
  fis : ∀ t, (∀ (i : Nat) (o : Oper), done.testBit i = true → ops[i]? = some o → o.dst = some t → f.get t = vv i) ∧ ((∀ (i : Nat) (o : Oper), done.testBit i = true → ops[i]? = some o → o.dst ≠ some t) → f.get t = f0.get t)
  gho : ∃ ag, FrR ρ f ag
  an : a.tmps.size = f0.n
  ad : DfR ρ f.ds a.defers
  act : ∀ t, (∀ (i : Nat) (o : Oper), Lst listed i → ops[i]? = some o → o.dst = some t → (vv i).real ρ = some (a.tmps.getD t undef)) ∧ ((∀ (i : Nat) (o : Oper), Lst listed i → ops[i]? = some o → o.dst ≠ some t) → (f0.get t).real ρ = some (a.tmps.getD t undef))
  emb : Emb ρ base w0 h w
section
variable {P : Program} {ops : Array Oper} {base : Kp} {w0 : World} {f0 : Fr} {vv : Nat → AV} {done : Nat} {f : Fr} {h : Hp} {pend : List Pend} {listed : Array Bool} {a : Act} {w : World} {ρ : Env}
theorem lookOk_now (S : Sound ops) (I : Inv P ops base w0 f0 vv done f h pend listed a w ρ) {i : Nat} {o : Oper} (ho : ops[i]? = some o) (hi : done.testBit i = false) (hr : ∀ k, Waits ops i k → done.testBit k = true) : LookOk ops f0 vv i o f := by
  refine ⟨I.fn, fun t ht => ?_⟩
  by_cases hk : ∃ (k : Nat) (x : Oper), done.testBit k = true ∧ ops[k]? = some x ∧ x.dst = some t
  · obtain ⟨k, x, h1, h2, h3⟩ := hk
    have hne : k ≠ i := fun e => by rw [e, hi] at h1; cases h1
    rcases S.pair k i x o hne h2 ho with h4 | h4 | h4
    · exact .inl ⟨k, x, h2, h3, h4, (I.fis t).1 k x h1 h2 h3⟩
    · have := I.dcl k i h1 h4
      rw [hi] at this; cases this
    · exact absurd ht (h4 t h3)
  · refine .inr ⟨fun k x h2 h3 => ?_, (I.fis t).2 fun k x h1 h2 h3 => hk ⟨k, x, h1, h2, h3⟩⟩
    by_cases hne : k = i
    · exact .inl hne
    · rcases S.pair k i x o hne h2 ho with h4 | h4 | h4
      · exact absurd ⟨k, x, hr k h4, h2, h3⟩ hk
      · exact .inr h4
      · exact absurd ht (h4 t h3)
theorem agree (I : Inv P ops base w0 f0 vv done f h pend listed a w ρ) {i : Nat} {o : Oper} {fi : Fr} {ai : Act} (hi : ¬ Lst listed i) (hr : ∀ k, Waits ops i k → Lst listed k) (hl : LookOk ops f0 vv i o fi) (hf : FrR ρ fi ai) :
    ai.tmps.size = a.tmps.size ∧ ∀ t ∈ o.looksAt ops, ai.tmps.getD t undef = a.tmps.getD t undef := by
  refine ⟨by rw [hf.1, hl.1, I.an], fun t ht => ?_⟩
  have h1 := hf.2 t
  rcases hl.2 t ht with ⟨k, x, h2, h3, h4, h5⟩ | ⟨h2, h3⟩
  · rw [h5, (I.act t).1 k x (hr k h4) h2 h3] at h1
    exact (Option.some.inj h1).symm
  · rw [h3, (I.act t).2 fun k x hk h4 h5 => by
      rcases h2 k x h4 h5 with e | e
      · exact hi (e ▸ hk)
      · exact hi (I.lcl k i hk e)] at h1
    exact (Option.some.inj h1).symm
theorem exec_agree {o : Oper} {ai a : Act} (hs : Oper.isSelect o = false) (hag : ∀ t ∈ o.looksAt ops, ai.tmps.getD t undef = a.tmps.getD t undef) : execOp ai.eval o = execOp a.eval o :=
  execOp_congr o (not_select hs) fun x hx => by
    cases x with
    | tmp t => exact hag t (List.mem_append_left _ (List.mem_filterMap.2 ⟨.tmp t, by simpa using hx, rfl⟩))
    | const v => rfl
    | global g => rfl
    | func g => rfl
theorem wanted_agree {o : Oper} {ai a : Act} (hsz : ai.tmps.size = a.tmps.size) (hag : ∀ t ∈ o.looksAt ops, ai.tmps.getD t undef = a.tmps.getD t undef) : Region.wanted o (yielded ops ai.tmps) = Region.wanted o (yielded ops a.tmps) := by
  unfold Region.wanted
  cases hg : o.guard with
  | none => rfl
  | some gw =>
    obtain ⟨g, want⟩ := gw
    dsimp only
    have : yielded ops ai.tmps g = yielded ops a.tmps g := by
      unfold yielded
      cases ht : (ops[g]?).bind (·.dst) with
      | none => rfl
      | some t =>
        have h1 := hag t (List.mem_append_right _ (by rw [hg]; simp [ht]))
        have h2 : ai.tmps[t]? = a.tmps[t]? := by
          by_cases hlt : t < a.tmps.size
          · have hlt' : t < ai.tmps.size := by rw [hsz]; exact hlt
            simp [hlt, hlt'] at h1
            simp [hlt, hlt', h1]
          · rw [Array.getElem?_eq_none (by rw [hsz]; exact Nat.le_of_not_lt hlt), Array.getElem?_eq_none (Nat.le_of_not_lt hlt)]
        simp only [Option.bind_some, h2]
    rw [this]
theorem frput {d : Option Tmp} {v : AV} {f' : Fr} (hp : f.put d v = some f') : f'.n = f.n ∧ (∀ t, d = some t → f'.get t = v ∧ t < f.n) ∧ ∀ t, d ≠ some t → f'.get t = f.get t := by
  unfold Fr.put at hp
  cases d with
  | none => obtain rfl := Option.some.inj hp; exact ⟨rfl, (fun t ht => by cases ht), fun t _ => rfl⟩
  | some d =>
    simp only [blt_eq] at hp
    cases hd : decide (d < f.n) with
    | false => rw [hd] at hp; cases hp
    | true =>
      rw [hd] at hp
      obtain rfl := Option.some.inj hp
      refine ⟨rfl, fun t ht => ?_, fun t ht => ?_⟩
      · obtain rfl := Option.some.inj ht
        exact ⟨by unfold Fr.get; simp only [Tr.get_set, if_true, Option.getD_some], of_decide_eq_true hd⟩
      · unfold Fr.get
        simp only [Tr.get_set]
        rw [if_neg (fun e => ht (by rw [e]))]
theorem put_ne {d : Option Tmp} {x : Value} {t : Tmp} (hd : d ≠ some t) : (a.put d x).tmps.getD t undef = a.tmps.getD t undef := by
  cases d with
  | none => rfl
  | some d =>
    have : d ≠ t := fun e => hd (by rw [e])
    simp [Act.put, Array.getElem?_setIfInBounds_ne this]
theorem put_eq {t : Tmp} {x : Value} (hlt : t < a.tmps.size) : (a.put (some t) x).tmps.getD t undef = x := by
  simp [Act.put, hlt]
theorem put_size {d : Option Tmp} {x : Value} : (a.put d x).tmps.size = a.tmps.size := by cases d <;> simp [Act.put]
theorem lst_set (hs : listed.size = ops.size) {i j : Nat} (hi : i < ops.size) : Lst (listed.setIfInBounds i true) j ↔ j = i ∨ Lst listed j := by
  unfold Lst
  by_cases e : j = i
  · subst e
    simp [hs, hi]
  · rw [getD_set_ne false (Ne.symm e)]
    simp [e]
theorem bit_set (done i j : Nat) : (done ||| 2 ^ i).testBit j = true ↔ j = i ∨ done.testBit j = true := by
  rw [Nat.testBit_or, Nat.testBit_two_pow, Bool.or_eq_true, decide_eq_true_eq]
  exact ⟨fun h => h.elim .inr fun e => .inl e.symm, fun h => h.elim (fun e => .inr e.symm) .inl⟩
noncomputable def upd (vv : Nat → AV) (i : Nat) (v : AV) : Nat → AV := fun j => if j = i then v else vv j
theorem upd_ne {i j : Nat} {v : AV} (h : j ≠ i) : upd vv i v j = vv j := if_neg h
theorem upd_eq {i : Nat} {v : AV} : upd vv i v i = v := if_pos rfl
theorem LookOk.upd {i j : Nat} {o : Oper} {fi : Fr} {v : AV} (hl : LookOk ops f0 vv j o fi) (hn : ∀ k, Waits ops j k → k ≠ i) : LookOk ops f0 (upd vv i v) j o fi := by
  refine ⟨hl.1, fun t ht => ?_⟩
  rcases hl.2 t ht with ⟨k, x, h1, h2, h3, h4⟩ | h1
  · exact .inl ⟨k, x, h1, h2, h3, by rw [upd_ne (hn k h3)]; exact h4⟩
  · exact .inr h1
theorem evStillG_real (E : Emb ρ base w0 h w) {o : Oper} {v : AV} {ai : Act} {fi : Fr} (F : FrR ρ fi ai) (hv : evStillG P ops fi h o = some v) :
    (Region.wanted o (yielded ops ai.tmps) = false ∧ v = .v undef) ∨ (Region.wanted o (yielded ops ai.tmps) = true ∧ StillR P ρ (execOp ai.eval o) w v) := by
  unfold evStillG at hv
  split at hv
  · cases hv
  · rename_i hw
    obtain rfl := Option.some.inj hv
    exact .inl ⟨evWanted_ok F hw, rfl⟩
  · rename_i hw
    exact .inr ⟨evWanted_ok F hw, evStill_ok E F o hv⟩
theorem evStillG_real' (E : Emb ρ base w0 h w) {o : Oper} {v : AV} {ai : Act} {fi : Fr} (F : FrR ρ fi ai) (hv : evStillG P ops fi h o = some v) : ∃ x, v.real ρ = some x := by
  rcases evStillG_real E F hv with ⟨_, rfl⟩ | ⟨_, x, _, hx⟩
  · exact ⟨_, rfl⟩
  · exact ⟨x, hx⟩
/-- A still operation is reckoned ahead. -/
theorem Inv.ahead (S : Sound ops) (I : Inv P ops base w0 f0 vv done f h pend listed a w ρ) {i : Nat} {o : Oper} (ho : ops[i]? = some o) (hi : done.testBit i = false) (hr : ∀ k, Waits ops i k → done.testBit k = true) {v : AV} (hv : evStillG P ops f h o = some v) {f' : Fr} (hp : f.put o.dst v = some f') :
    Inv P ops base w0 f0 (upd vv i v) (done ||| 2 ^ i) f' h ((i, o, f, v) :: pend) listed a w ρ := by
  obtain ⟨ag, hag⟩ := I.gho
  obtain ⟨x, hx⟩ := evStillG_real' I.emb hag hv
  obtain ⟨p1, p2, p3⟩ := frput hp
  have hid : ∀ j, done.testBit j = true → j ≠ i := fun j hj e => by rw [e, hi] at hj; cases hj
  have hlk := lookOk_now S I ho hi hr
  have hiL : ¬ Lst listed i := fun hL => hid i (I.sub i hL) rfl
  refine ⟨I.size, fun j hj => (bit_set _ _ _).2 (.inr (I.sub j hj)), fun j k hj hw => ?_, I.lcl, fun j hj => ?_, fun j hj hn => ?_, fun j oj fj vj hj => ?_, by rw [p1]; exact I.fn, fun t => ⟨fun j oj hj h1 h2 => ?_, fun hno => ?_⟩, ⟨_, hag.put hx hp⟩, I.an, by rw [Fr.put_ds hp]; exact I.ad, fun t => ⟨fun j oj hj h1 h2 => ?_, (I.act t).2⟩, I.emb⟩
  · rcases (bit_set _ _ _).1 hj with rfl | hj
    · exact (bit_set _ _ _).2 (.inr (hr k hw))
    · exact (bit_set _ _ _).2 (.inr (I.dcl j k hj hw))
  · rcases (bit_set _ _ _).1 hj with rfl | hj
    · exact (Array.getElem?_eq_some_iff.1 ho).1
    · exact I.dlt j hj
  · rcases (bit_set _ _ _).1 hj with rfl | hj
    · exact ⟨o, f, by rw [upd_eq]; exact List.mem_cons_self⟩
    · obtain ⟨oj, fj, hm⟩ := I.pen j hj hn
      exact ⟨oj, fj, by rw [upd_ne (hid j hj)]; exact List.mem_cons_of_mem _ hm⟩
  · rcases List.mem_cons.1 hj with hj | hj
    · simp only [Prod.mk.injEq] at hj
      obtain ⟨rfl, rfl, rfl, rfl⟩ := hj
      exact ⟨(bit_set _ _ _).2 (.inl rfl), fun _ => ⟨ho, upd_eq.symm, hv, ⟨ag, hag⟩, hlk.upd fun k hk => hid k (hr k hk)⟩⟩
    · obtain ⟨h1, h2⟩ := I.ent j oj fj vj hj
      refine ⟨(bit_set _ _ _).2 (.inr h1), fun hn => ?_⟩
      obtain ⟨h3, h4, h5, h6, h7⟩ := h2 hn
      exact ⟨h3, by rw [upd_ne (hid j h1)]; exact h4, h5, h6, h7.upd fun k hk => hid k (I.dcl j k h1 hk)⟩
  · rcases (bit_set _ _ _).1 hj with rfl | hj
    · obtain rfl := Option.some.inj (ho.symm.trans h1)
      rw [upd_eq]
      exact (p2 t h2).1
    · rw [upd_ne (hid j hj), p3 t (fun e => hid j hj (S.dst j i oj o t h1 ho h2 e))]
      exact (I.fis t).1 j oj hj h1 h2
  · rw [p3 t (hno i o ((bit_set _ _ _).2 (.inl rfl)) ho)]
    exact (I.fis t).2 fun j oj hj => hno j oj ((bit_set _ _ _).2 (.inr hj))
  · rw [upd_ne (hid j (I.sub j hj))]
    exact (I.act t).1 j oj hj h1 h2
/-- A still operation that was reckoned is carried out. -/
theorem Inv.later (S : Sound ops) (I : Inv P ops base w0 f0 vv done f h pend listed a w ρ) {i : Nat} {o : Oper} (ho : ops[i]? = some o) (hi : done.testBit i = true) (hn : ¬ Lst listed i) (hr : ∀ k, Waits ops i k → Lst listed k) {x : Value} (hx : (vv i).real ρ = some x) (hd : ∀ t, o.dst = some t → t < f0.n) :
    Inv P ops base w0 f0 vv done f h pend (listed.setIfInBounds i true) (a.put o.dst x) w ρ := by
  have his := I.dlt i hi
  have hset := fun j => lst_set (ops := ops) I.size (i := i) (j := j) his
  refine ⟨by simp [I.size], fun j hj => ?_, I.dcl, fun j k hj hw => ?_, I.dlt, fun j hj hnn => I.pen j hj fun hl => hnn ((hset j).2 (.inr hl)), fun j oj fj vj hj => ?_, I.fn, I.fis, I.gho, by rw [put_size]; exact I.an, by rw [put_defers]; exact I.ad, fun t => ⟨fun j oj hj h1 h2 => ?_, fun hno => ?_⟩, I.emb⟩
  · rcases (hset j).1 hj with rfl | hj
    · exact hi
    · exact I.sub j hj
  · rcases (hset j).1 hj with rfl | hj
    · exact (hset k).2 (.inr (hr k hw))
    · exact (hset k).2 (.inr (I.lcl j k hj hw))
  · obtain ⟨h1, h2⟩ := I.ent j oj fj vj hj
    exact ⟨h1, fun hnn => h2 fun hl => hnn ((hset j).2 (.inr hl))⟩
  · rcases (hset j).1 hj with rfl | hj
    · obtain rfl := Option.some.inj (ho.symm.trans h1)
      rw [h2, put_eq (by rw [I.an]; exact hd t h2)]
      exact hx
    · have hne : o.dst ≠ some t := fun e => by
        have := S.dst j i oj o t h1 ho h2 e
        exact hn (this ▸ hj)
      rw [put_ne hne]
      exact (I.act t).1 j oj hj h1 h2
  · rw [put_ne (hno i o ((hset i).2 (.inl rfl)) ho)]
    exact (I.act t).2 fun j oj hj => hno j oj ((hset j).2 (.inr hj))
/-- An operation that may change memory is carried out. -/
theorem Inv.now (S : Sound ops) (I : Inv P ops base w0 f0 vv done f h pend listed a w ρ) {i : Nat} {o : Oper} (ho : ops[i]? = some o) (hi : done.testBit i = false) (hr : ∀ k, Waits ops i k → Lst listed k) {A : Nat} (hA : Anc ops A i) {v : AV} {f' : Fr} (hp : f.put o.dst v = some f') {h' : Hp} {ρ' : Env} {w' : World} {x : Value} (hx : v.real ρ' = some x) (hle : Env.le ρ ρ') (E' : Emb ρ' base w0 h' w')
    {pend' : List Pend} (hc1 : ∀ p ∈ pend', p ∈ pend ∧ (evStillG P ops p.2.2.1 h' p.2.1 = some p.2.2.2 ∨ isPure p.2.1 = true)) (hc2 : ∀ p ∈ pend, A.testBit p.1 = false → p ∈ pend') :
    Inv P ops base w0 f0 (upd vv i v) (done ||| 2 ^ i) f' h' pend' (listed.setIfInBounds i true) (a.put o.dst x) w' ρ' := by
  obtain ⟨ag, hag⟩ := I.gho
  obtain ⟨p1, p2, p3⟩ := frput hp
  have his : i < ops.size := (Array.getElem?_eq_some_iff.1 ho).1
  have hset := fun j => lst_set (ops := ops) I.size (i := i) (j := j) his
  have hid : ∀ j, done.testBit j = true → j ≠ i := fun j hj e => by rw [e, hi] at hj; cases hj
  have hil : ∀ j, Lst listed j → j ≠ i := fun j hj => hid j (I.sub j hj)
  refine ⟨by simp [I.size], fun j hj => ?_, fun j k hj hw => ?_, fun j k hj hw => ?_, fun j hj => ?_, fun j hj hn => ?_, fun j oj fj vj hj => ?_, by rw [p1]; exact I.fn, fun t => ⟨fun j oj hj h1 h2 => ?_, fun hno => ?_⟩, ⟨_, (hag.mono hle).put hx hp⟩, by rw [put_size]; exact I.an, (I.ad.mono hle).put hp, fun t => ⟨fun j oj hj h1 h2 => ?_, fun hno => ?_⟩, E'⟩
  · rcases (hset j).1 hj with rfl | hj
    · exact (bit_set _ _ _).2 (.inl rfl)
    · exact (bit_set _ _ _).2 (.inr (I.sub j hj))
  · rcases (bit_set _ _ _).1 hj with rfl | hj
    · exact (bit_set _ _ _).2 (.inr (I.sub k (hr k hw)))
    · exact (bit_set _ _ _).2 (.inr (I.dcl j k hj hw))
  · rcases (hset j).1 hj with rfl | hj
    · exact (hset k).2 (.inr (hr k hw))
    · exact (hset k).2 (.inr (I.lcl j k hj hw))
  · rcases (bit_set _ _ _).1 hj with rfl | hj
    · exact his
    · exact I.dlt j hj
  · rcases (bit_set _ _ _).1 hj with rfl | hj
    · exact absurd ((hset j).2 (.inl rfl)) hn
    · have hn' : ¬ Lst listed j := fun hl => hn ((hset j).2 (.inr hl))
      obtain ⟨oj, fj, hm⟩ := I.pen j hj hn'
      refine ⟨oj, fj, ?_⟩
      rw [upd_ne (hid j hj)]
      refine hc2 _ hm ?_
      cases hb : A.testBit j with
      | false => rfl
      | true => exact absurd ((hset j).1 (hA j hb (fun y => Lst (listed.setIfInBounds i true) y) (fun x y hx hw => by
          rcases (hset x).1 hx with rfl | hx
          · exact (hset y).2 (.inr (hr y hw))
          · exact (hset y).2 (.inr (I.lcl x y hx hw))) ((hset i).2 (.inl rfl)))) fun hh => hh.elim (hid j hj) hn'
  · obtain ⟨hm, hev⟩ := hc1 _ hj
    obtain ⟨h1, h2⟩ := I.ent j oj fj vj hm
    refine ⟨(bit_set _ _ _).2 (.inr h1), fun hn => ?_⟩
    obtain ⟨h3, h4, h5, ⟨aj, h6⟩, h7⟩ := h2 fun hl => hn ((hset j).2 (.inr hl))
    exact ⟨h3, by rw [upd_ne (hid j h1)]; exact h4, hev.elim id (fun hpu => by rw [← h5]; exact evStillG_pure P ops fj h' h oj hpu), ⟨aj, h6.mono hle⟩, h7.upd fun k hk => hid k (I.dcl j k h1 hk)⟩
  · rcases (bit_set _ _ _).1 hj with rfl | hj
    · obtain rfl := Option.some.inj (ho.symm.trans h1)
      rw [upd_eq]
      exact (p2 t h2).1
    · rw [upd_ne (hid j hj), p3 t (fun e => hid j hj (S.dst j i oj o t h1 ho h2 e))]
      exact (I.fis t).1 j oj hj h1 h2
  · rw [p3 t (hno i o ((bit_set _ _ _).2 (.inl rfl)) ho)]
    exact (I.fis t).2 fun j oj hj => hno j oj ((bit_set _ _ _).2 (.inr hj))
  · rcases (hset j).1 hj with rfl | hj
    · obtain rfl := Option.some.inj (ho.symm.trans h1)
      rw [h2, put_eq (by rw [I.an, ← I.fn]; exact (p2 t h2).2), upd_eq]
      exact hx
    · have hne : o.dst ≠ some t := fun e => hil j hj (S.dst j i oj o t h1 ho h2 e)
      rw [put_ne hne, upd_ne (hil j hj)]
      exact AV.real_mono hle _ _ ((I.act t).1 j oj hj h1 h2)
  · rw [put_ne (hno i o ((hset i).2 (.inl rfl)) ho)]
    exact AV.real_mono hle _ _ ((I.act t).2 fun j oj hj => hno j oj ((hset j).2 (.inr hj)))
/-- At the end. -/
theorem Inv.ended (I : Inv P ops base w0 f0 vv done f h pend listed a w ρ) (hall : ∀ i, i < ops.size → Lst listed i) : FrR ρ f a ∧ ∀ i, i < ops.size → done.testBit i = true := by
  refine ⟨⟨by rw [I.an, I.fn], fun t => ?_⟩, fun i hi => I.sub i (hall i hi)⟩
  by_cases hk : ∃ (k : Nat) (x : Oper), ops[k]? = some x ∧ x.dst = some t
  · obtain ⟨k, x, h1, h2⟩ := hk
    have hL := hall k (Array.getElem?_eq_some_iff.1 h1).1
    rw [(I.fis t).1 k x (I.sub k hL) h1 h2]
    exact (I.act t).1 k x hL h1 h2
  · rw [(I.fis t).2 fun k x _ h1 h2 => hk ⟨k, x, h1, h2⟩]
    exact (I.act t).2 fun k x _ h1 h2 => hk ⟨k, x, h1, h2⟩
theorem ready_all (S : Sound ops) (hs : listed.size = ops.size) (hnil : Region.ready .any ops listed = []) : ∀ i, i < ops.size → Lst listed i := by
  intro i
  induction i using Nat.strongRecOn with
  | _ i ih =>
    intro hi
    cases hl : listed.getD i false with
    | true => exact hl
    | false =>
      exfalso
      obtain ⟨o, ho⟩ : ∃ o, ops[i]? = some o := ⟨ops[i], Array.getElem?_eq_getElem hi⟩
      have : i ∈ Region.ready .any ops listed := mem_ready.2 ⟨getD_in (by rw [hs]; exact hi) hl, o, ho, fun e he hb => by
        have hw : Waits ops i e.on := ⟨o, ho, e, he, hb, rfl⟩
        have hlt := S.back i e.on hw
        exact ih e.on hlt (by omega)⟩
      rw [hnil] at this
      cases this
noncomputable def Room (ops : Array Oper) (listed : Array Bool) (F : Nat) : Prop := ∀ l : List Nat, l.Nodup → (∀ i ∈ l, i < ops.size ∧ ¬ Lst listed i) → l.length ≤ F
theorem Room.set {F : Nat} (hr : Room ops listed (F + 1)) (hs : listed.size = ops.size) {i : Nat} (hi : i < ops.size) (hn : ¬ Lst listed i) : Room ops (listed.setIfInBounds i true) F := fun l hl hm => by
  have := hr (i :: l) (List.nodup_cons.2 ⟨fun hil => (hm i hil).2 ((lst_set hs hi).2 (.inl rfl)), hl⟩) fun j hj => by
    rcases List.mem_cons.1 hj with rfl | hj
    · exact ⟨hi, hn⟩
    · exact ⟨(hm j hj).1, fun h => (hm j hj).2 ((lst_set hs hi).2 (.inr h))⟩
  simp at this
  omega
theorem Room.zero (hr : Room ops listed 0) : ∀ i, i < ops.size → Lst listed i := fun i hi => by
  cases hl : listed.getD i false with
  | true => exact hl
  | false =>
    have := hr [i] (by simp) fun j hj => by
      obtain rfl := List.mem_singleton.1 hj
      exact ⟨hi, fun h => by rw [Lst, hl] at h; cases h⟩
    simp at this
theorem nodup_room : ∀ (n : Nat) (l : List Nat), l.Nodup → (∀ i ∈ l, i < n) → l.length ≤ n
  | 0, l, _, h => by
    cases l with
    | nil => simp
    | cons a r => have := h a List.mem_cons_self; omega
  | n + 1, l, hl, h => by
    have h1 := nodup_room n (l.erase n) (hl.erase n) fun i hi => by
      have h2 := h i (List.mem_of_mem_erase hi)
      have h3 : i ≠ n := fun e => by rw [e] at hi; exact hl.not_mem_erase hi
      omega
    have h4 : l.length ≤ (l.erase n).length + 1 := by
      rw [List.length_erase]
      split <;> omega
    omega
end
end Go.Proofs.Ytcakdjnnfonijaa
namespace Go.Proofs.Ytcakdjnnfonijaa
open Go.RowKit

/-- A function that is ranged over, called. -/
noncomputable def asFn : AV → Option (FuncId × List AV × List AV)
  | .fn (.func g) a b => some (g, a, b)
  | .v (.func (.func g) a b) => some (g, a.toList.map .v, b.toList.map .v)
  | _ => none
noncomputable def endRange (h : Hp) (L : Nat) (f : Fr) (k : Kf) : Ans := match h.get L with
  | .loop t n ps cz bd st pe d => match st with
    | .busy => .no "a round under way"
    | _ => match pe with
      | none => k .normal f (h.put L (.loop t n ps cz bd .exhausted pe d))
      | some .ret => k .ret f (h.put L (.loop t n ps cz bd .exhausted pe d))
      | some (.exit id) => k (.exit id) f (h.put L (.loop t n ps cz bd .exhausted pe d))
      | _ => .no "a jump"
  | _ => .no "no record"
noncomputable def evRange2 (P : Program) (cf : Cf) (ro : Option Nat) (g : AV) (ps : Array Tmp) (cz bd : Code) (f : Fr) (h : Hp) (k : Kf) : Ans := match asFn g with
  | some (gf, a, b) => match ro with
    | none => match evCallFn P ((h.new .dfr).new (.loop f.tr f.n ps cz bd .ready none h.nx)) gf (a ++ [.yld (h.nx + 1)] ++ b) with
      | .enter g args => cf g args ((h.new .dfr).new (.loop f.tr f.n ps cz bd .ready none h.nx)) fun _ h3 => endRange h3 (h.nx + 1) ⟨f.tr, f.n, .mark h.nx :: f.ds⟩ k
      | _ => .no "what is ranged over"
    | some id => match h.get id with
      | .loop _ _ _ _ _ _ _ d => match evCallFn P (h.new (.loop f.tr f.n ps cz bd .ready none d)) gf (a ++ [.yld h.nx] ++ b) with
        | .enter g args => cf g args (h.new (.loop f.tr f.n ps cz bd .ready none d)) fun _ h3 => endRange h3 h.nx f k
        | _ => .no "what is ranged over"
      | _ => .no "no record"
  | none => .no "what is ranged over"
theorem asFn_ok {ρ : Env} {v : AV} {x : Value} {gf : FuncId} {a b : List AV} (h : asFn v = some (gf, a, b)) (hx : v.real ρ = some x) : ∃ xa xb : List Value, AV.reals ρ a = some xa ∧ AV.reals ρ b = some xb ∧ x = .func (.func gf) xa.toArray xb.toArray := by
  unfold asFn at h
  split at h
  · obtain ⟨rfl, h'⟩ := Prod.mk.inj (Option.some.inj h)
    obtain ⟨rfl, rfl⟩ := Prod.mk.inj h'
    simp only [AV.real, Option.bind_eq_some_iff, Option.map_eq_some_iff] at hx
    obtain ⟨xa, h1, xb, h2, hx⟩ := hx
    exact ⟨xa, xb, h1, h2, hx.symm⟩
  · obtain ⟨rfl, h'⟩ := Prod.mk.inj (Option.some.inj h)
    obtain ⟨rfl, rfl⟩ := Prod.mk.inj h'
    simp only [AV.real, Option.some.injEq] at hx
    exact ⟨_, _, reals_v ρ _, reals_v ρ _, by rw [← hx]⟩
  · cases h
theorem endRange_ok {P : Program} {base : Kp} {w0 : World} {rl : Option Nat} {n : Nat} {ρ ρ' : Env} {h : Hp} {w : World} {L : Nat} {l : Loc} {f : Fr} {a : Act} {k : Kf} {Q : Exit → Act → World → Prop} (hk : endRange h L f k = .yes) (E : Emb ρ' base w0 h w) (hL : ρ' L = some l) (hle : Env.le ρ ρ') (F : FrR ρ' f a) (hd : DfR ρ' f.ds a.defers) (K : Post base w0 ρ k Q) (v : Value) :
    rangePost (fen rl) n P l.blk Q a (.returned v) w := by
  unfold endRange at hk
  split at hk
  case h_2 => cases hk
  rename_i t m ps cz bd st pe d hg
  obtain ⟨hlive, fn, tmps, ld, hW, hld, hsz, hsl⟩ := E.loop hg hL
  split at hk
  · cases hk
  rename_i hst
  have hrun := run_endLoop (P := P) hW (fun e => hst e)
  have E' := E.setObj hlive hL _ (.loop t m ps cz bd .exhausted pe d) ⟨fn, tmps, ld, rfl, hld, hsz, hsl⟩
  split at hk
  · exact ⟨_, _, hrun, K .normal f _ ρ' a _ hk hle E' F hd⟩
  · exact ⟨_, _, hrun, wpIn_ret (K .ret f _ ρ' a _ hk hle E' F hd)⟩
  · exact ⟨_, _, hrun, wpIn_exit (K (.exit _) f _ ρ' a _ hk hle E' F hd)⟩
  · cases hk
theorem evRange2_ok {P : Program} {base : Kp} {w0 : World} {cf : Cf} (C : CfOk P base w0 cf) {ro rl : Option Nat} {n : Nat} {g : Operand} {ps : Array Tmp} {cz bd : Code} {f : Fr} {h : Hp} {k : Kf} {ρ : Env} {a : Act} {w : World} {Q : Exit → Act → World → Prop}
    (hk : evRange2 P cf ro (evA f g) ps cz bd f h k = .yes) (hro : RoR ρ ro rl) (E : Emb ρ base w0 h w) (F : FrR ρ f a) (hd : DfR ρ f.ds a.defers) (K : Post base w0 ρ k Q) : (Code.rangeFunc g ps cz bd).wpIn (fen rl) n P Q a w := by
  unfold evRange2 at hk
  split at hk
  case h_2 => cases hk
  rename_i gf fa fb hfn
  obtain ⟨xa, xb, hxa, hxb, hg⟩ := asFn_ok hfn (evA_real F g)
  refine wpIn_rangeFunc fun fn _ => ?_
  have hres : ∀ (l : Nat) (w : World), (resolve a.eval (rangeCall g l) 0).run P w = .ok { target := .fn (.func gf) xb.toArray, args := xa.toArray ++ #[.func (.yield l) #[] #[]] } w := fun l w => by
    show (Deferred.ofValue (a.eval g) (#[Operand.const (.func (.yield l) #[] #[])].map a.eval)).run P w = _
    rw [hg]
    simp [Deferred.ofValue, Act.eval]
  split at hk
  · have hro : rl = none := hro
    subst hro
    have hnn := E.fresh0
    have E1 := E.alloc (.deferred (some [])) .dfr 0 rfl
    generalize hρ1 : ρ.add h.nx ⟨w.heap.size, 0, 0⟩ = ρ1 at E1
    have hle1 : Env.le ρ ρ1 := hρ1 ▸ Env.le_add hnn
    have hD1 : ρ1 h.nx = some ⟨w.heap.size, 0, 0⟩ := by rw [← hρ1]; exact add_self _ _ _
    have hle2 : Env.le ρ1 (ρ1.add (h.nx + 1) ⟨w.heap.size + 1, 0, 0⟩) := Env.le_add E1.fresh0
    have E2 := E1.alloc (.loop { state := .ready, pending := none, fn, tmps := a.tmps, params := ps, assign := cz, body := bd, defers := w.heap.size }) (.loop f.tr f.n ps cz bd .ready none h.nx) 0
      ⟨fn, a.tmps, ⟨w.heap.size, 0, 0⟩, rfl, (Env.le_add E1.fresh0) _ _ hD1, F.1, fun i => AV.real_mono (Env.le_trans hle1 (Env.le_add E1.fresh0)) _ _ (F.2 i)⟩
    have hsz1 : (w.alloc (.deferred (some []))).heap.size = w.heap.size + 1 := World.size_alloc _ _
    rw [hsz1] at E2
    change Emb (ρ1.add (h.nx + 1) ⟨w.heap.size + 1, 0, 0⟩) _ _ _ _ at E2
    split at hk
    case h_2 => cases hk
    rename_i g2 args2 hcf
    have hop := evCallFn_ok (P := P) E2 (g := gf) (args := fa ++ [.yld (h.nx + 1)] ++ fb) (xs := xa.toArray ++ #[.func (.yield (w.heap.size + 1)) #[] #[]] ++ xb.toArray) (by
      have e1 : AV.reals (ρ1.add (h.nx + 1) ⟨w.heap.size + 1, 0, 0⟩) [.yld (h.nx + 1)] = some [.func (.yield (w.heap.size + 1)) #[] #[]] := by simp [AV.reals, AV.real, add_self]
      rw [reals_append (reals_append (AV.reals_mono (Env.le_trans hle1 hle2) _ _ hxa) e1) (AV.reals_mono (Env.le_trans hle1 hle2) _ _ hxb)]
      simp)
    rw [hcf] at hop
    obtain ⟨xs, hrun, hxs⟩ := hop
    refine ⟨w.heap.size + 1, [{ target := .collected w.heap.size, args := #[] }], _, _, _, g2, xs, _, run_enterLoop_outer _ _ _ _ _, hres _ _, fun _ _ => trivial, ?_, fun hh => (by cases hh), fen_calls ((C g2 args2 _ _ _ _ xs (fun x w' => rangePost (fen none) n P (w.heap.size + 1) Q { a with defers := [{ target := .collected w.heap.size, args := #[] }] ++ a.defers } (.returned x) w') hk E2 hxs ?_).mono ?_)⟩
    · simpa [invoke] using hrun
    · intro v h' ρ' x w' q1 q2 q3 q4
      have hle' := Env.le_trans (Env.le_trans hle1 hle2) q2
      exact endRange_ok (rl := none) (n := n) (P := P) (l := ⟨w.heap.size + 1, 0, 0⟩) (a := { a with defers := [{ target := .collected w.heap.size, args := #[] }] ++ a.defers }) q1 q3 (q2 _ _ (add_self _ _ _)) hle' (F.mono hle') ⟨_, _, q2 _ _ (hle2 _ _ hD1), rfl, hd.mono hle'⟩ K x
    · rintro e w' ⟨x, rfl, hx⟩
      exact hx
  · rename_i id
    obtain ⟨l0, hl0, rfl⟩ := hro
    split at hk
    case h_2 => cases hk
    rename_i t0 n0 ps0 as0 bd0 st0 pe0 d0 hg0
    obtain ⟨_, fn0, tmps0, ld0, hW0, hld0, _, _⟩ := E.loop hg0 hl0
    have hle2 : Env.le ρ (ρ.add h.nx ⟨w.heap.size, 0, 0⟩) := Env.le_add E.fresh0
    have E2 := E.alloc (.loop { state := .ready, pending := none, fn, tmps := a.tmps, params := ps, assign := cz, body := bd, defers := ld0.blk }) (.loop f.tr f.n ps cz bd .ready none d0) 0
      ⟨fn, a.tmps, ld0, rfl, hle2 _ _ hld0, F.1, fun i => AV.real_mono hle2 _ _ (F.2 i)⟩
    split at hk
    case h_2 => cases hk
    rename_i g2 args2 hcf
    have hop := evCallFn_ok (P := P) E2 (g := gf) (args := fa ++ [.yld h.nx] ++ fb) (xs := xa.toArray ++ #[.func (.yield w.heap.size) #[] #[]] ++ xb.toArray) (by
      have e1 : AV.reals (ρ.add h.nx ⟨w.heap.size, 0, 0⟩) [.yld h.nx] = some [.func (.yield w.heap.size) #[] #[]] := by simp [AV.reals, AV.real, add_self]
      rw [reals_append (reals_append (AV.reals_mono hle2 _ _ hxa) e1) (AV.reals_mono hle2 _ _ hxb)]
      simp)
    rw [hcf] at hop
    obtain ⟨xs, hrun, hxs⟩ := hop
    refine ⟨w.heap.size, [], _, _, _, g2, xs, _, run_enterLoop_inner hW0 _ _ _ _ _, hres _ _, fun _ _ => trivial, ?_, fun hh => (by cases hh), fen_calls ((C g2 args2 _ _ _ _ xs (fun x w' => rangePost (fen (some l0.blk)) n P w.heap.size Q { a with defers := [] ++ a.defers } (.returned x) w') hk E2 hxs ?_).mono ?_)⟩
    · simpa [invoke] using hrun
    · intro v h' ρ' x w' q1 q2 q3 q4
      have hle' := Env.le_trans hle2 q2
      exact endRange_ok (rl := some l0.blk) (n := n) (P := P) (l := ⟨w.heap.size, 0, 0⟩) (a := a) q1 q3 (q2 _ _ (add_self _ _ _)) hle' (F.mono hle') (hd.mono hle') K x
    · rintro e w' ⟨x, rfl, hx⟩
      exact hx
end Go.Proofs.Ytcakdjnnfonijaa
