/- A reckoner of closed runs, 18: that every order of a region comes to one end, proved. Nothing of the program is used here. -/
import Derived.Test.YtcakdjnnfonijaaEvOrder
import Derived.OrdersIn
namespace Go.Proofs.Ytcakdjnnfonijaa
open Go.RowKit

noncomputable def Lst (listed : Array Bool) (i : Nat) : Prop := listed.getD i false = true
noncomputable def LookOk (ops : Array Oper) (f0 : Fr) (vv : Nat → AV) (i : Nat) (o : Oper) (fi : Fr) : Prop := fi.n = f0.n ∧ ∀ t ∈ o.looksAt ops,
  (∃ (k : Nat) (x : Oper), ops[k]? = some x ∧ x.dst = some t ∧ Waits ops i k ∧ fi.get t = vv k) ∨ ((∀ (k : Nat) (x : Oper), ops[k]? = some x → x.dst = some t → k = i ∨ Waits ops k i) ∧ fi.get t = f0.get t)
structure Inv (P : Program) (ops : Array Oper) (base : Kp) (w0 : World) (f0 : Fr) (vv : Nat → AV) (done : Nat) (f : Fr) (h : Hp) (pend : List Pend) (listed : Array Bool) (a : Act) (w : World) (ρ : Env) : Prop where
  size : listed.size = ops.size
  sub : ∀ i, Lst listed i → done.testBit i = true
  dcl : ∀ i k, done.testBit i = true → Waits ops i k → done.testBit k = true
  lcl : ∀ i k, Lst listed i → Waits ops i k → Lst listed k
  dlt : ∀ i, done.testBit i = true → i < ops.size
  pen : ∀ i, done.testBit i = true → ¬ Lst listed i → ∃ o fi, (i, o, fi, vv i) ∈ pend
  ent : ∀ i o fi vi, (i, o, fi, vi) ∈ pend → done.testBit i = true ∧ (¬ Lst listed i → ops[i]? = some o ∧ vi = vv i ∧ evStillG P ops fi h o = some vi ∧ (∃ ai, FrR ρ fi ai) ∧ LookOk ops f0 vv i o fi)
  fn : f.n = f0.n
  fis : ∀ t, (∀ (i : Nat) (o : Oper), done.testBit i = true → ops[i]? = some o → o.dst = some t → f.get t = vv i) ∧ ((∀ (i : Nat) (o : Oper), done.testBit i = true → ops[i]? = some o → o.dst ≠ some t) → f.get t = f0.get t)
  gho : ∃ ag, FrR ρ f ag
  an : a.tmps.size = f0.n
  ad : DfR ρ f.ds a.defers
  act : ∀ t, (∀ (i : Nat) (o : Oper), Lst listed i → ops[i]? = some o → o.dst = some t → (vv i).real ρ = some (a.tmps.getD t undef)) ∧ ((∀ (i : Nat) (o : Oper), Lst listed i → ops[i]? = some o → o.dst ≠ some t) → (f0.get t).real ρ = some (a.tmps.getD t undef))
  emb : Emb ρ base w0 h w
section
variable {P : Program} {ops : Array Oper} {base : Kp} {w0 : World} {f0 : Fr} {vv : Nat → AV} {done : Nat} {f : Fr} {h : Hp} {pend : List Pend} {listed : Array Bool} {a : Act} {w : World} {ρ : Env}
theorem lookOk_now (S : Sound ops) (I : Inv P ops base w0 f0 vv done f h pend listed a w ρ) {i : Nat} {o : Oper} (ho : ops[i]? = some o) (hi : done.testBit i = false) (hr : ∀ k, Waits ops i k → done.testBit k = true) : LookOk ops f0 vv i o f := by
  refine ⟨I.fn, fun t ht => ?_⟩
  by_cases hk : ∃ (k : Nat) (x : Oper), done.testBit k = true ∧ ops[k]? = some x ∧ x.dst = some t
  · obtain ⟨k, x, h1, h2, h3⟩ := hk
    have hne : k ≠ i := fun e => by rw [e, hi] at h1; cases h1
    rcases S.pair k i x o hne h2 ho with h4 | h4 | h4
    · exact .inl ⟨k, x, h2, h3, h4, (I.fis t).1 k x h1 h2 h3⟩
    · have := I.dcl k i h1 h4
      rw [hi] at this; cases this
    · exact absurd ht (h4 t h3)
  · refine .inr ⟨fun k x h2 h3 => ?_, (I.fis t).2 fun k x h1 h2 h3 => hk ⟨k, x, h1, h2, h3⟩⟩
    by_cases hne : k = i
    · exact .inl hne
    · rcases S.pair k i x o hne h2 ho with h4 | h4 | h4
      · exact absurd ⟨k, x, hr k h4, h2, h3⟩ hk
      · exact .inr h4
      · exact absurd ht (h4 t h3)
theorem agree (I : Inv P ops base w0 f0 vv done f h pend listed a w ρ) {i : Nat} {o : Oper} {fi : Fr} {ai : Act} (hi : ¬ Lst listed i) (hr : ∀ k, Waits ops i k → Lst listed k) (hl : LookOk ops f0 vv i o fi) (hf : FrR ρ fi ai) :
    ai.tmps.size = a.tmps.size ∧ ∀ t ∈ o.looksAt ops, ai.tmps.getD t undef = a.tmps.getD t undef := by
  refine ⟨by rw [hf.1, hl.1, I.an], fun t ht => ?_⟩
  have h1 := hf.2 t
  rcases hl.2 t ht with ⟨k, x, h2, h3, h4, h5⟩ | ⟨h2, h3⟩
  · rw [h5, (I.act t).1 k x (hr k h4) h2 h3] at h1
    exact (Option.some.inj h1).symm
  · rw [h3, (I.act t).2 fun k x hk h4 h5 => by
      rcases h2 k x h4 h5 with e | e
      · exact hi (e ▸ hk)
      · exact hi (I.lcl k i hk e)] at h1
    exact (Option.some.inj h1).symm
theorem exec_agree {o : Oper} {ai a : Act} (hs : Oper.isSelect o = false) (hag : ∀ t ∈ o.looksAt ops, ai.tmps.getD t undef = a.tmps.getD t undef) : execOp ai.eval o = execOp a.eval o :=
  execOp_congr o (not_select hs) fun x hx => by
    cases x with
    | tmp t => exact hag t (List.mem_append_left _ (List.mem_filterMap.2 ⟨.tmp t, by simpa using hx, rfl⟩))
    | const v => rfl
    | global g => rfl
    | func g => rfl
theorem wanted_agree {o : Oper} {ai a : Act} (hsz : ai.tmps.size = a.tmps.size) (hag : ∀ t ∈ o.looksAt ops, ai.tmps.getD t undef = a.tmps.getD t undef) : Region.wanted o (yielded ops ai.tmps) = Region.wanted o (yielded ops a.tmps) := by
  unfold Region.wanted
  cases hg : o.guard with
  | none => rfl
  | some gw =>
    obtain ⟨g, want⟩ := gw
    dsimp only
    have : yielded ops ai.tmps g = yielded ops a.tmps g := by
      unfold yielded
      cases ht : (ops[g]?).bind (·.dst) with
      | none => rfl
      | some t =>
        have h1 := hag t (List.mem_append_right _ (by rw [hg]; simp [ht]))
        have h2 : ai.tmps[t]? = a.tmps[t]? := by
          by_cases hlt : t < a.tmps.size
          · have hlt' : t < ai.tmps.size := by rw [hsz]; exact hlt
            simp [hlt, hlt'] at h1
            simp [hlt, hlt', h1]
          · rw [Array.getElem?_eq_none (by rw [hsz]; exact Nat.le_of_not_lt hlt), Array.getElem?_eq_none (Nat.le_of_not_lt hlt)]
        simp only [Option.bind_some, h2]
    rw [this]
theorem frput {d : Option Tmp} {v : AV} {f' : Fr} (hp : f.put d v = some f') : f'.n = f.n ∧ (∀ t, d = some t → f'.get t = v ∧ t < f.n) ∧ ∀ t, d ≠ some t → f'.get t = f.get t := by
  unfold Fr.put at hp
  cases d with
  | none => obtain rfl := Option.some.inj hp; exact ⟨rfl, (fun t ht => by cases ht), fun t _ => rfl⟩
  | some d =>
    simp only [blt_eq] at hp
    cases hd : decide (d < f.n) with
    | false => rw [hd] at hp; cases hp
    | true =>
      rw [hd] at hp
      obtain rfl := Option.some.inj hp
      refine ⟨rfl, fun t ht => ?_, fun t ht => ?_⟩
      · obtain rfl := Option.some.inj ht
        exact ⟨by unfold Fr.get; simp only [Tr.get_set, if_true, Option.getD_some], of_decide_eq_true hd⟩
      · unfold Fr.get
        simp only [Tr.get_set]
        rw [if_neg (fun e => ht (by rw [e]))]
theorem put_ne {d : Option Tmp} {x : Value} {t : Tmp} (hd : d ≠ some t) : (a.put d x).tmps.getD t undef = a.tmps.getD t undef := by
  cases d with
  | none => rfl
  | some d =>
    have : d ≠ t := fun e => hd (by rw [e])
    simp [Act.put, Array.getElem?_setIfInBounds_ne this]
theorem put_eq {t : Tmp} {x : Value} (hlt : t < a.tmps.size) : (a.put (some t) x).tmps.getD t undef = x := by
  simp [Act.put, hlt]
theorem put_size {d : Option Tmp} {x : Value} : (a.put d x).tmps.size = a.tmps.size := by cases d <;> simp [Act.put]
theorem lst_set (hs : listed.size = ops.size) {i j : Nat} (hi : i < ops.size) : Lst (listed.setIfInBounds i true) j ↔ j = i ∨ Lst listed j := by
  unfold Lst
  by_cases e : j = i
  · subst e
    simp [hs, hi]
  · rw [getD_set_ne false (Ne.symm e)]
    simp [e]
theorem bit_set (done i j : Nat) : (done ||| 2 ^ i).testBit j = true ↔ j = i ∨ done.testBit j = true := by
  rw [Nat.testBit_or, Nat.testBit_two_pow, Bool.or_eq_true, decide_eq_true_eq]
  exact ⟨fun h => h.elim .inr fun e => .inl e.symm, fun h => h.elim (fun e => .inr e.symm) .inl⟩
noncomputable def upd (vv : Nat → AV) (i : Nat) (v : AV) : Nat → AV := fun j => if j = i then v else vv j
theorem upd_ne {i j : Nat} {v : AV} (h : j ≠ i) : upd vv i v j = vv j := if_neg h
theorem upd_eq {i : Nat} {v : AV} : upd vv i v i = v := if_pos rfl
theorem LookOk.upd {i j : Nat} {o : Oper} {fi : Fr} {v : AV} (hl : LookOk ops f0 vv j o fi) (hn : ∀ k, Waits ops j k → k ≠ i) : LookOk ops f0 (upd vv i v) j o fi := by
  refine ⟨hl.1, fun t ht => ?_⟩
  rcases hl.2 t ht with ⟨k, x, h1, h2, h3, h4⟩ | h1
  · exact .inl ⟨k, x, h1, h2, h3, by rw [upd_ne (hn k h3)]; exact h4⟩
  · exact .inr h1
theorem evStillG_real (E : Emb ρ base w0 h w) {o : Oper} {v : AV} {ai : Act} {fi : Fr} (F : FrR ρ fi ai) (hv : evStillG P ops fi h o = some v) :
    (Region.wanted o (yielded ops ai.tmps) = false ∧ v = .v undef) ∨ (Region.wanted o (yielded ops ai.tmps) = true ∧ StillR P ρ (execOp ai.eval o) w v) := by
  unfold evStillG at hv
  split at hv
  · cases hv
  · rename_i hw
    obtain rfl := Option.some.inj hv
    exact .inl ⟨evWanted_ok F hw, rfl⟩
  · rename_i hw
    exact .inr ⟨evWanted_ok F hw, evStill_ok E F o hv⟩
theorem evStillG_real' (E : Emb ρ base w0 h w) {o : Oper} {v : AV} {ai : Act} {fi : Fr} (F : FrR ρ fi ai) (hv : evStillG P ops fi h o = some v) : ∃ x, v.real ρ = some x := by
  rcases evStillG_real E F hv with ⟨_, rfl⟩ | ⟨_, x, _, hx⟩
  · exact ⟨_, rfl⟩
  · exact ⟨x, hx⟩
/-- A still operation is reckoned ahead. -/
theorem Inv.ahead (S : Sound ops) (I : Inv P ops base w0 f0 vv done f h pend listed a w ρ) {i : Nat} {o : Oper} (ho : ops[i]? = some o) (hi : done.testBit i = false) (hr : ∀ k, Waits ops i k → done.testBit k = true) {v : AV} (hv : evStillG P ops f h o = some v) {f' : Fr} (hp : f.put o.dst v = some f') :
    Inv P ops base w0 f0 (upd vv i v) (done ||| 2 ^ i) f' h ((i, o, f, v) :: pend) listed a w ρ := by
  obtain ⟨ag, hag⟩ := I.gho
  obtain ⟨x, hx⟩ := evStillG_real' I.emb hag hv
  obtain ⟨p1, p2, p3⟩ := frput hp
  have hid : ∀ j, done.testBit j = true → j ≠ i := fun j hj e => by rw [e, hi] at hj; cases hj
  have hlk := lookOk_now S I ho hi hr
  have hiL : ¬ Lst listed i := fun hL => hid i (I.sub i hL) rfl
  refine ⟨I.size, fun j hj => (bit_set _ _ _).2 (.inr (I.sub j hj)), fun j k hj hw => ?_, I.lcl, fun j hj => ?_, fun j hj hn => ?_, fun j oj fj vj hj => ?_, by rw [p1]; exact I.fn, fun t => ⟨fun j oj hj h1 h2 => ?_, fun hno => ?_⟩, ⟨_, hag.put hx hp⟩, I.an, by rw [Fr.put_ds hp]; exact I.ad, fun t => ⟨fun j oj hj h1 h2 => ?_, (I.act t).2⟩, I.emb⟩
  · rcases (bit_set _ _ _).1 hj with rfl | hj
    · exact (bit_set _ _ _).2 (.inr (hr k hw))
    · exact (bit_set _ _ _).2 (.inr (I.dcl j k hj hw))
  · rcases (bit_set _ _ _).1 hj with rfl | hj
    · exact (Array.getElem?_eq_some_iff.1 ho).1
    · exact I.dlt j hj
  · rcases (bit_set _ _ _).1 hj with rfl | hj
    · exact ⟨o, f, by rw [upd_eq]; exact List.mem_cons_self⟩
    · obtain ⟨oj, fj, hm⟩ := I.pen j hj hn
      exact ⟨oj, fj, by rw [upd_ne (hid j hj)]; exact List.mem_cons_of_mem _ hm⟩
  · rcases List.mem_cons.1 hj with hj | hj
    · simp only [Prod.mk.injEq] at hj
      obtain ⟨rfl, rfl, rfl, rfl⟩ := hj
      exact ⟨(bit_set _ _ _).2 (.inl rfl), fun _ => ⟨ho, upd_eq.symm, hv, ⟨ag, hag⟩, hlk.upd fun k hk => hid k (hr k hk)⟩⟩
    · obtain ⟨h1, h2⟩ := I.ent j oj fj vj hj
      refine ⟨(bit_set _ _ _).2 (.inr h1), fun hn => ?_⟩
      obtain ⟨h3, h4, h5, h6, h7⟩ := h2 hn
      exact ⟨h3, by rw [upd_ne (hid j h1)]; exact h4, h5, h6, h7.upd fun k hk => hid k (I.dcl j k h1 hk)⟩
  · rcases (bit_set _ _ _).1 hj with rfl | hj
    · obtain rfl := Option.some.inj (ho.symm.trans h1)
      rw [upd_eq]
      exact (p2 t h2).1
    · rw [upd_ne (hid j hj), p3 t (fun e => hid j hj (S.dst j i oj o t h1 ho h2 e))]
      exact (I.fis t).1 j oj hj h1 h2
  · rw [p3 t (hno i o ((bit_set _ _ _).2 (.inl rfl)) ho)]
    exact (I.fis t).2 fun j oj hj => hno j oj ((bit_set _ _ _).2 (.inr hj))
  · rw [upd_ne (hid j (I.sub j hj))]
    exact (I.act t).1 j oj hj h1 h2
/-- A still operation that was reckoned is carried out. -/
theorem Inv.later (S : Sound ops) (I : Inv P ops base w0 f0 vv done f h pend listed a w ρ) {i : Nat} {o : Oper} (ho : ops[i]? = some o) (hi : done.testBit i = true) (hn : ¬ Lst listed i) (hr : ∀ k, Waits ops i k → Lst listed k) {x : Value} (hx : (vv i).real ρ = some x) (hd : ∀ t, o.dst = some t → t < f0.n) :
    Inv P ops base w0 f0 vv done f h pend (listed.setIfInBounds i true) (a.put o.dst x) w ρ := by
  have his := I.dlt i hi
  have hset := fun j => lst_set (ops := ops) I.size (i := i) (j := j) his
  refine ⟨by simp [I.size], fun j hj => ?_, I.dcl, fun j k hj hw => ?_, I.dlt, fun j hj hnn => I.pen j hj fun hl => hnn ((hset j).2 (.inr hl)), fun j oj fj vj hj => ?_, I.fn, I.fis, I.gho, by rw [put_size]; exact I.an, by rw [put_defers]; exact I.ad, fun t => ⟨fun j oj hj h1 h2 => ?_, fun hno => ?_⟩, I.emb⟩
  · rcases (hset j).1 hj with rfl | hj
    · exact hi
    · exact I.sub j hj
  · rcases (hset j).1 hj with rfl | hj
    · exact (hset k).2 (.inr (hr k hw))
    · exact (hset k).2 (.inr (I.lcl j k hj hw))
  · obtain ⟨h1, h2⟩ := I.ent j oj fj vj hj
    exact ⟨h1, fun hnn => h2 fun hl => hnn ((hset j).2 (.inr hl))⟩
  · rcases (hset j).1 hj with rfl | hj
    · obtain rfl := Option.some.inj (ho.symm.trans h1)
      rw [h2, put_eq (by rw [I.an]; exact hd t h2)]
      exact hx
    · have hne : o.dst ≠ some t := fun e => by
        have := S.dst j i oj o t h1 ho h2 e
        exact hn (this ▸ hj)
      rw [put_ne hne]
      exact (I.act t).1 j oj hj h1 h2
  · rw [put_ne (hno i o ((hset i).2 (.inl rfl)) ho)]
    exact (I.act t).2 fun j oj hj => hno j oj ((hset j).2 (.inr hj))
/-- An operation that may change memory is carried out. -/
theorem Inv.now (S : Sound ops) (I : Inv P ops base w0 f0 vv done f h pend listed a w ρ) {i : Nat} {o : Oper} (ho : ops[i]? = some o) (hi : done.testBit i = false) (hr : ∀ k, Waits ops i k → Lst listed k) {A : Nat} (hA : Anc ops A i) {v : AV} {f' : Fr} (hp : f.put o.dst v = some f') {h' : Hp} {ρ' : Env} {w' : World} {x : Value} (hx : v.real ρ' = some x) (hle : Env.le ρ ρ') (E' : Emb ρ' base w0 h' w')
    {pend' : List Pend} (hc1 : ∀ p ∈ pend', p ∈ pend ∧ (evStillG P ops p.2.2.1 h' p.2.1 = some p.2.2.2 ∨ isPure p.2.1 = true)) (hc2 : ∀ p ∈ pend, A.testBit p.1 = false → p ∈ pend') :
    Inv P ops base w0 f0 (upd vv i v) (done ||| 2 ^ i) f' h' pend' (listed.setIfInBounds i true) (a.put o.dst x) w' ρ' := by
  obtain ⟨ag, hag⟩ := I.gho
  obtain ⟨p1, p2, p3⟩ := frput hp
  have his : i < ops.size := (Array.getElem?_eq_some_iff.1 ho).1
  have hset := fun j => lst_set (ops := ops) I.size (i := i) (j := j) his
  have hid : ∀ j, done.testBit j = true → j ≠ i := fun j hj e => by rw [e, hi] at hj; cases hj
  have hil : ∀ j, Lst listed j → j ≠ i := fun j hj => hid j (I.sub j hj)
  refine ⟨by simp [I.size], fun j hj => ?_, fun j k hj hw => ?_, fun j k hj hw => ?_, fun j hj => ?_, fun j hj hn => ?_, fun j oj fj vj hj => ?_, by rw [p1]; exact I.fn, fun t => ⟨fun j oj hj h1 h2 => ?_, fun hno => ?_⟩, ⟨_, (hag.mono hle).put hx hp⟩, by rw [put_size]; exact I.an, (I.ad.mono hle).put hp, fun t => ⟨fun j oj hj h1 h2 => ?_, fun hno => ?_⟩, E'⟩
  · rcases (hset j).1 hj with rfl | hj
    · exact (bit_set _ _ _).2 (.inl rfl)
    · exact (bit_set _ _ _).2 (.inr (I.sub j hj))
  · rcases (bit_set _ _ _).1 hj with rfl | hj
    · exact (bit_set _ _ _).2 (.inr (I.sub k (hr k hw)))
    · exact (bit_set _ _ _).2 (.inr (I.dcl j k hj hw))
  · rcases (hset j).1 hj with rfl | hj
    · exact (hset k).2 (.inr (hr k hw))
    · exact (hset k).2 (.inr (I.lcl j k hj hw))
  · rcases (bit_set _ _ _).1 hj with rfl | hj
    · exact his
    · exact I.dlt j hj
  · rcases (bit_set _ _ _).1 hj with rfl | hj
    · exact absurd ((hset j).2 (.inl rfl)) hn
    · have hn' : ¬ Lst listed j := fun hl => hn ((hset j).2 (.inr hl))
      obtain ⟨oj, fj, hm⟩ := I.pen j hj hn'
      refine ⟨oj, fj, ?_⟩
      rw [upd_ne (hid j hj)]
      refine hc2 _ hm ?_
      cases hb : A.testBit j with
      | false => rfl
      | true => exact absurd ((hset j).1 (hA j hb (fun y => Lst (listed.setIfInBounds i true) y) (fun x y hx hw => by
          rcases (hset x).1 hx with rfl | hx
          · exact (hset y).2 (.inr (hr y hw))
          · exact (hset y).2 (.inr (I.lcl x y hx hw))) ((hset i).2 (.inl rfl)))) fun hh => hh.elim (hid j hj) hn'
  · obtain ⟨hm, hev⟩ := hc1 _ hj
    obtain ⟨h1, h2⟩ := I.ent j oj fj vj hm
    refine ⟨(bit_set _ _ _).2 (.inr h1), fun hn => ?_⟩
    obtain ⟨h3, h4, h5, ⟨aj, h6⟩, h7⟩ := h2 fun hl => hn ((hset j).2 (.inr hl))
    exact ⟨h3, by rw [upd_ne (hid j h1)]; exact h4, hev.elim id (fun hpu => by rw [← h5]; exact evStillG_pure P ops fj h' h oj hpu), ⟨aj, h6.mono hle⟩, h7.upd fun k hk => hid k (I.dcl j k h1 hk)⟩
  · rcases (bit_set _ _ _).1 hj with rfl | hj
    · obtain rfl := Option.some.inj (ho.symm.trans h1)
      rw [upd_eq]
      exact (p2 t h2).1
    · rw [upd_ne (hid j hj), p3 t (fun e => hid j hj (S.dst j i oj o t h1 ho h2 e))]
      exact (I.fis t).1 j oj hj h1 h2
  · rw [p3 t (hno i o ((bit_set _ _ _).2 (.inl rfl)) ho)]
    exact (I.fis t).2 fun j oj hj => hno j oj ((bit_set _ _ _).2 (.inr hj))
  · rcases (hset j).1 hj with rfl | hj
    · obtain rfl := Option.some.inj (ho.symm.trans h1)
      rw [h2, put_eq (by rw [I.an, ← I.fn]; exact (p2 t h2).2), upd_eq]
      exact hx
    · have hne : o.dst ≠ some t := fun e => hil j hj (S.dst j i oj o t h1 ho h2 e)
      rw [put_ne hne, upd_ne (hil j hj)]
      exact AV.real_mono hle _ _ ((I.act t).1 j oj hj h1 h2)
  · rw [put_ne (hno i o ((hset i).2 (.inl rfl)) ho)]
    exact AV.real_mono hle _ _ ((I.act t).2 fun j oj hj => hno j oj ((hset j).2 (.inr hj)))
/-- At the end. -/
theorem Inv.ended (I : Inv P ops base w0 f0 vv done f h pend listed a w ρ) (hall : ∀ i, i < ops.size → Lst listed i) : FrR ρ f a ∧ ∀ i, i < ops.size → done.testBit i = true := by
  refine ⟨⟨by rw [I.an, I.fn], fun t => ?_⟩, fun i hi => I.sub i (hall i hi)⟩
  by_cases hk : ∃ (k : Nat) (x : Oper), ops[k]? = some x ∧ x.dst = some t
  · obtain ⟨k, x, h1, h2⟩ := hk
    have hL := hall k (Array.getElem?_eq_some_iff.1 h1).1
    rw [(I.fis t).1 k x (I.sub k hL) h1 h2]
    exact (I.act t).1 k x hL h1 h2
  · rw [(I.fis t).2 fun k x _ h1 h2 => hk ⟨k, x, h1, h2⟩]
    exact (I.act t).2 fun k x _ h1 h2 => hk ⟨k, x, h1, h2⟩
theorem ready_all (S : Sound ops) (hs : listed.size = ops.size) (hnil : Region.ready .any ops listed = []) : ∀ i, i < ops.size → Lst listed i := by
  intro i
  induction i using Nat.strongRecOn with
  | _ i ih =>
    intro hi
    cases hl : listed.getD i false with
    | true => exact hl
    | false =>
      exfalso
      obtain ⟨o, ho⟩ : ∃ o, ops[i]? = some o := ⟨ops[i], Array.getElem?_eq_getElem hi⟩
      have : i ∈ Region.ready .any ops listed := mem_ready.2 ⟨getD_in (by rw [hs]; exact hi) hl, o, ho, fun e he hb => by
        have hw : Waits ops i e.on := ⟨o, ho, e, he, hb, rfl⟩
        have hlt := S.back i e.on hw
        exact ih e.on hlt (by omega)⟩
      rw [hnil] at this
      cases this
noncomputable def Room (ops : Array Oper) (listed : Array Bool) (F : Nat) : Prop := ∀ l : List Nat, l.Nodup → (∀ i ∈ l, i < ops.size ∧ ¬ Lst listed i) → l.length ≤ F
theorem Room.set {F : Nat} (hr : Room ops listed (F + 1)) (hs : listed.size = ops.size) {i : Nat} (hi : i < ops.size) (hn : ¬ Lst listed i) : Room ops (listed.setIfInBounds i true) F := fun l hl hm => by
  have := hr (i :: l) (List.nodup_cons.2 ⟨fun hil => (hm i hil).2 ((lst_set hs hi).2 (.inl rfl)), hl⟩) fun j hj => by
    rcases List.mem_cons.1 hj with rfl | hj
    · exact ⟨hi, hn⟩
    · exact ⟨(hm j hj).1, fun h => (hm j hj).2 ((lst_set hs hi).2 (.inr h))⟩
  simp at this
  omega
theorem Room.zero (hr : Room ops listed 0) : ∀ i, i < ops.size → Lst listed i := fun i hi => by
  cases hl : listed.getD i false with
  | true => exact hl
  | false =>
    have := hr [i] (by simp) fun j hj => by
      obtain rfl := List.mem_singleton.1 hj
      exact ⟨hi, fun h => by rw [Lst, hl] at h; cases h⟩
    simp at this
theorem nodup_room : ∀ (n : Nat) (l : List Nat), l.Nodup → (∀ i ∈ l, i < n) → l.length ≤ n
  | 0, l, _, h => by
    cases l with
    | nil => simp
    | cons a r => have := h a List.mem_cons_self; omega
  | n + 1, l, hl, h => by
    have h1 := nodup_room n (l.erase n) (hl.erase n) fun i hi => by
      have h2 := h i (List.mem_of_mem_erase hi)
      have h3 : i ≠ n := fun e => by rw [e] at hi; exact hl.not_mem_erase hi
      omega
    have h4 : l.length ≤ (l.erase n).length + 1 := by
      rw [List.length_erase]
      split <;> omega
    omega
/-- Every order comes to one end. -/
theorem evDraw_ok {cf : Cf} {rf : RfF} (C : CfOk P base w0 cf) (D : RfOk P base w0 rf) {rl : Option Nat} {nn : Nat} (S : Sound ops) {k : Fr → Hp → Ans} {Q : Exit → Act → World → Prop} {ρ0 : Env}
    (K : ∀ f h ρ' a w, k f h = .yes → Env.le ρ0 ρ' → Emb ρ' base w0 h w → FrR ρ' f a → DfR ρ' f.ds a.defers → Q .normal a w) :
    ∀ (n done : Nat) (f : Fr) (h : Hp) (pend : List Pend) (vv : Nat → AV) (listed : Array Bool) (a : Act) (w : World) (ρ : Env) (F : Nat), evDraw P cf rf ops (tabOf ops) n done f h pend k = .yes →
      Inv P ops base w0 f0 vv done f h pend listed a w ρ → Env.le ρ0 ρ → (∀ i o, ops[i]? = some o → ∀ t, o.dst = some t → done.testBit i = true → t < f0.n) → Room ops listed F → wpAnyIn (fen rl) nn P .any ops Q F listed a w
  | 0, done, f, h, pend, vv, listed, a, w, ρ, F, hk, _, _, _, _ => by cases hk
  | n + 1, done, f, h, pend, vv, listed, a, w, ρ, F, hk, I, hle, hdst, hroom => by
    simp only [evDraw] at hk
    split at hk
    · rename_i i o hns
      obtain ⟨p, m, A, hp0, hget, hst, hrd⟩ := nextStill_some _ _ _ _ hns
      rw [Nat.zero_add] at hp0
      subst hp0
      obtain ⟨ho, rfl, _⟩ := tab_get hget
      obtain ⟨hi, hr⟩ := (isReady_iff ho).1 hrd
      split at hk
      case h_2 => cases hk
      rename_i v hv
      split at hk
      case h_2 => cases hk
      rename_i f' hf'
      refine evDraw_ok C D S K n _ f' h _ _ listed a w ρ F hk (I.ahead S ho hi hr hv hf') hle (fun j oj hj t ht hb => ?_) hroom
      rcases (bit_set _ _ _).1 hb with rfl | hb
      · obtain rfl := Option.some.inj (ho.symm.trans hj)
        rw [← I.fn]; exact ((frput hf').2.1 t ht).2
      · exact hdst j oj hj t ht hb
    · rename_i hns
      have hend : (∀ i, i < ops.size → Lst listed i) → Q .normal a w := fun hall => by
        obtain ⟨hfr, hd⟩ := I.ended hall
        split at hk
        · exact K f h ρ a w hk hle I.emb hfr I.ad
        · rename_i hne
          exfalso
          have : done = 2 ^ ops.size - 1 := by
            apply Nat.eq_of_testBit_eq
            intro i
            rw [Nat.testBit_two_pow_sub_one]
            by_cases hi : i < ops.size
            · rw [hd i hi, decide_eq_true hi]
            · rw [decide_eq_false hi]
              cases hb : done.testBit i with
              | false => rfl
              | true => exact absurd (I.dlt i hb) hi
          have h2 : done + 1 = 2 ^ ops.size := by have := Nat.two_pow_pos ops.size; omega
          rw [h2] at hne
          simp at hne
      induction F generalizing listed a with
      | zero =>
        have hall := hroom.zero
        refine ⟨?_, hend hall⟩
        cases hr : Region.ready .any ops listed with
        | nil => rfl
        | cons x xs =>
          have hm : x ∈ Region.ready .any ops listed := by rw [hr]; exact List.mem_cons_self
          obtain ⟨h1, o, ho, _⟩ := mem_ready.1 hm
          have h2 := hall x (Array.getElem?_eq_some_iff.1 ho).1
          rw [Lst, getD_both h1] at h2
          cases h2
      | succ F ih =>
        refine ⟨fun hnil => hend (ready_all S I.size hnil), fun i hi => ?_⟩
        obtain ⟨h1, o, ho, hall⟩ := mem_ready.1 hi
        have his := (Array.getElem?_eq_some_iff.1 ho).1
        have hn : ¬ Lst listed i := fun hh => by rw [Lst, getD_both h1] at hh; cases hh
        have hr : ∀ j, Waits ops i j → Lst listed j := fun j ⟨o', ho', e, he, hb, hj⟩ => by
          obtain rfl := Option.some.inj (ho.symm.trans ho')
          rw [← hj]; exact hall e he hb
        have hroom' := hroom.set I.size his hn
        unfold wpOpIn
        rw [ho]
        dsimp only
        cases hd : done.testBit i with
        | true =>
          obtain ⟨o', fi, hm⟩ := I.pen i hd hn
          obtain ⟨_, he⟩ := I.ent _ _ _ _ hm
          obtain ⟨ho', _, hev, ⟨ai, hai⟩, hlk⟩ := he hn
          obtain rfl := Option.some.inj (ho.symm.trans ho')
          obtain ⟨hsz, hag⟩ := agree I hn hr hlk hai
          have hwa := wanted_agree hsz hag
          have hea := exec_agree (S.sel i o ho) hag
          have step : ∀ x, (vv i).real ρ = some x → wpAnyIn (fen rl) nn P .any ops Q F (listed.setIfInBounds i true) (a.put o.dst x) w := fun x hx => by
            have I' := I.later S ho hd hn hr hx (fun t ht => hdst i o ho t ht hd)
            exact ih (listed.setIfInBounds i true) (a.put o.dst x) I' hroom' (fun hall => by
              obtain ⟨hfr, hdd⟩ := I'.ended hall
              split at hk
              · exact K f h ρ _ w hk hle I'.emb hfr I'.ad
              · rename_i hne
                exfalso
                have : done = 2 ^ ops.size - 1 := by
                  apply Nat.eq_of_testBit_eq
                  intro i
                  rw [Nat.testBit_two_pow_sub_one]
                  by_cases hi : i < ops.size
                  · rw [hdd i hi, decide_eq_true hi]
                  · rw [decide_eq_false hi]
                    cases hb : done.testBit i with
                    | false => rfl
                    | true => exact absurd (I.dlt i hb) hi
                have h2 : done + 1 = 2 ^ ops.size := by have := Nat.two_pow_pos ops.size; omega
                rw [h2] at hne
                simp at hne)
          rcases evStillG_real I.emb hai hev with ⟨hw, hv⟩ | ⟨hw, x, hx1, hx2⟩
          · rw [if_neg (by rw [← hwa, hw]; exact Bool.false_ne_true)]
            exact ⟨fun _ _ => trivial, step undef (by rw [hv]; rfl)⟩
          · rw [if_pos (by rw [← hwa, hw])]
            refine ⟨fun _ _ => trivial, ?_⟩
            rw [Oper.semAt_eq _ _ _ (not_defer (S.sel i o ho)), ← hea, hx1]
            exact step x hx2
        | false =>
          have hrD : ∀ j, Waits ops i j → done.testBit j = true := fun j hj => I.sub j (hr j hj)
          obtain ⟨m, A, hget⟩ := tab_some ho
          obtain ⟨_, rfl, hA⟩ := tab_get hget
          have hrd := (isReady_iff ho).2 ⟨hd, hrD⟩
          obtain ⟨ag, hag⟩ := I.gho
          have hlk := lookOk_now S I ho hd hrD
          obtain ⟨hsz, hagr⟩ := agree I hn hr hlk hag
          have hwa := wanted_agree hsz hagr
          have hea := exec_agree (S.sel i o ho) hagr
          split at hk
          · rename_i hfull
            exfalso
            have h2 := Nat.eq_of_beq_eq_true hfull
            have : done = 2 ^ ops.size - 1 := by omega
            rw [this, Nat.testBit_two_pow_sub_one, decide_eq_true his] at hd
            cases hd
          · have hone := allA_spec _ _ hk (i, o, A) (by have := readyMs_mem (tabOf ops) 0 i o _ A hget (by rw [Nat.zero_add]; exact hrd); rwa [Nat.zero_add] at this)
            dsimp only at hone
            have go : ∀ (v : AV) (h' : Hp) (ρ' : Env) (w' : World) (x : Value) (pend' : List Pend) (f' : Fr), f.put o.dst v = some f' → checkPend P ops A h' pend = some pend' → evDraw P cf rf ops (tabOf ops) n (done ||| 2 ^ i) f' h' pend' k = .yes →
                v.real ρ' = some x → Env.le ρ ρ' → Emb ρ' base w0 h' w' → wpAnyIn (fen rl) nn P .any ops Q F (listed.setIfInBounds i true) (a.put o.dst x) w' := fun v h' ρ' w' x pend' f' hf' hc hk' hx hle' E' => by
              obtain ⟨c1, c2⟩ := checkPend_ok _ _ hc
              refine evDraw_ok C D S K n _ f' h' pend' _ _ _ w' ρ' F hk' (I.now S ho hd hr hA hf' hx hle' E' c1 c2) (Env.le_trans hle hle') (fun j oj hj t ht hb => ?_) hroom'
              rcases (bit_set _ _ _).1 hb with rfl | hb
              · obtain rfl := Option.some.inj (ho.symm.trans hj)
                rw [← I.fn]; exact ((frput hf').2.1 t ht).2
              · exact hdst j oj hj t ht hb
            have go2 : ∀ (v : AV) (h' : Hp) (ρ' : Env) (w' : World) (x : Value), (match f.put o.dst v with
                | some f' => match checkPend P ops A h' pend with
                  | some pend' => evDraw P cf rf ops (tabOf ops) n (done ||| 2 ^ i) f' h' pend' k
                  | none => .at o
                | none => .at o) = .yes → v.real ρ' = some x → Env.le ρ ρ' → Emb ρ' base w0 h' w' → wpAnyIn (fen rl) nn P .any ops Q F (listed.setIfInBounds i true) (a.put o.dst x) w' := fun v h' ρ' w' x q1 q2 q3 q4 => by
              split at q1
              case h_2 => cases q1
              rename_i f' hf'
              split at q1
              case h_2 => cases q1
              rename_i pend' hc
              exact go v h' ρ' w' x pend' f' hf' hc q1 q2 q3 q4
            split at hone
            · cases hone
            · rename_i hw
              have hw := evWanted_ok hag hw
              rw [if_neg (by rw [← hwa, hw]; exact Bool.false_ne_true)]
              exact ⟨fun _ _ => trivial, go2 (.v undef) h ρ w undef hone rfl (Env.le_refl ρ) I.emb⟩
            · rename_i hw
              have hw := evWanted_ok hag hw
              rw [if_pos (by rw [← hwa, hw])]
              exact evOp_step C D I.emb hag hea (fun hb => by rw [hb] at hone; cases hone) (fun v h' ρ' w' x hr q2 q3 q4 => go2 v h' ρ' w' x (by rw [hr] at hone; exact hone) q2 q3 q4) (fun h' ρ' w' hr q3 q4 => go2 (.v undef) h' ρ' w' undef (by rw [hr] at hone; exact hone) rfl q3 q4)
                (fun v h' => match f.put o.dst v with
                  | some f' => match checkPend P ops A h' pend with
                    | some pend' => evDraw P cf rf ops (tabOf ops) n (done ||| 2 ^ i) f' h' pend' k
                    | none => .at o
                  | none => .at o) (fun g args hr => by rw [hr] at hone; exact hone) (fun id args hr => by rw [hr] at hone; exact hone) (fun v h' ρ' x w' q1 q2 q3 q4 => go2 v h' ρ' w' x q1 q4 q2 q3)
                (fun l p ρ' w' x hr hp q2 q3 q4 => go2 p.1 p.2 ρ' w' x (by rw [hr] at hone; exact allA_spec l _ hone p hp) q2 q3 q4)
end
end Go.Proofs.Ytcakdjnnfonijaa
