/- A reckoner of closed runs, 18f: every order of a region with groups comes to one end. Nothing of the program is used here. -/
import Derived.Test.YtcakdjnnfonijaaEvLateDraw
namespace Go.Proofs.Ytcakdjnnfonijaa
open Go.RowKit

noncomputable def evDrawL (P : Program) (cf : Cf) (rf : RfF) (ops : Array Oper) (tab : List Row) (gs : List Grp) : Nat → Nat → Fr → Hp → List Pend → (Fr → Hp → Ans) → Ans
  | 0, _, _, _, _, _ => .no "fuel of a drawn region"
  | n + 1, done, f, h, pend, k => match nextStill done tab 0 with
    | some (i, o) => match evStillG P ops f h o with
      | some v => match f.put o.dst v with
        | some f' => evDrawL P cf rf ops tab gs n (done ||| 2 ^ i) f' h ((i, o, f, v) :: pend) k
        | none => .at o
      | none => .at o
    | none => match Nat.beq ((done ||| lateMask gs) + 1) (2 ^ ops.size) with
      | true => match adoptSel P ops (undone done) gs done f h pend with
        | some (_, f1, h1, _) => k f1 h1
        | none => .no "groups at the end"
      | false => allA (readyMs (done ||| lateMask gs) tab 0) fun (i, o, A) => match adoptSel P ops (needs done (maskOf ops o).2.2) gs done f h pend with
        | none => .at o
        | some (d1, f1, h1, p1) => match evWanted ops f1 o with
          | none => .at o
          | some false => match f1.put o.dst (.v undef) with
            | some f' => match checkPend P ops A h1 p1 with
              | some pend' => evDrawL P cf rf ops tab gs n (d1 ||| 2 ^ i) f' h1 pend' k
              | none => .at o
            | none => .at o
          | some true => match evOp P f1 h1 o with
            | .bad => .at o
            | .val v h' => match f1.put o.dst v with
              | some f' => match checkPend P ops A h' p1 with
                | some pend' => evDrawL P cf rf ops tab gs n (d1 ||| 2 ^ i) f' h' pend' k
                | none => .at o
              | none => .at o
            | .skip h' => match f1.put o.dst (.v undef) with
              | some f' => match checkPend P ops A h' p1 with
                | some pend' => evDrawL P cf rf ops tab gs n (d1 ||| 2 ^ i) f' h' pend' k
                | none => .at o
              | none => .at o
            | .enter g args => cf g args h1 fun v h' => match f1.put o.dst v with
              | some f' => match checkPend P ops A h' p1 with
                | some pend' => evDrawL P cf rf ops tab gs n (d1 ||| 2 ^ i) f' h' pend' k
                | none => .at o
              | none => .at o
            | .round id args => rf id args h1 fun v h' => match f1.put o.dst v with
              | some f' => match checkPend P ops A h' p1 with
                | some pend' => evDrawL P cf rf ops tab gs n (d1 ||| 2 ^ i) f' h' pend' k
                | none => .at o
              | none => .at o
            | .alts l => allA l fun p => match f1.put o.dst p.1 with
              | some f' => match checkPend P ops A p.2 p1 with
                | some pend' => evDrawL P cf rf ops tab gs n (d1 ||| 2 ^ i) f' p.2 pend' k
                | none => .at o
              | none => .at o
section
variable {P : Program} {ops : Array Oper} {gs : List Grp} {base : Kp} {w0 : World} {f0 : Fr} {vv : Nat → AV} {done done' : Nat} {f f' : Fr} {h h' : Hp} {pend pend' : List Pend} {listed listedV : Array Bool} {a aV : Act} {w w' : World} {ρ ρ' : Env} {T : Nat → Prop} {M : Nat → Nat} {L : Nat → Option Loc}
/-- An operation of no group is carried out. -/
theorem OI.exec (S : Sound ops) (LO : LateOk P ops gs) (O : OI P ops gs base done h ρ listed listedV a aV w T M L) {i : Nat} {o : Oper} (ho : ops[i]? = some o) (hn : ¬ Lst listed i) (hr : ∀ k, Waits ops i k → Lst listed k)
    (hng : ∀ (q : Nat) (g : Grp), gs[q]? = some g → ¬ T q → ∀ (p : Nat) (o' : Oper), g[p]? ≠ some (i, o')) (hsV : listedV.size = ops.size) (x : Value) (hdt : ∀ t, o.dst = some t → t < a.tmps.size)
    (hdn : ∀ j, done'.testBit j = true ↔ j = i ∨ done.testBit j = true) (hs : w.heap.size ≤ w'.heap.size) (hk : ∀ (q : Nat) (g : Grp) (l : Loc), gs[q]? = some g → ¬ T q → L q = some l → w'.heap[l.blk]? = w.heap[l.blk]?)
    (hlv : ∀ (q : Nat) (g : Grp) (l : Loc), gs[q]? = some g → ¬ T q → L q = some l → ∀ id l', h'.get id ≠ .gone → ρ' id = some l' → l'.blk ≠ l.blk) :
    OI P ops gs base done' h' ρ' (listed.setIfInBounds i true) (listedV.setIfInBounds i true) (a.put o.dst x) (aV.put o.dst x) w' T M L := by
  have his := (Array.getElem?_eq_some_iff.1 ho).1
  have h1 := fun j => lst_set (ops := ops) O.sz (i := i) (j := j) his
  have h2 := fun j => lst_set (ops := ops) hsV (i := i) (j := j) his
  refine ⟨by simp [O.sz], fun j hj => ?_, fun j hj => ?_, fun j k hj hw => ?_, by rw [put_size, put_size]; exact O.asz, by rw [put_defers, put_defers]; exact O.ad, fun t ht => ?_, fun q g hq hT => ?_, fun q g l hq hT hl => ?_, O.pw, fun q g hq => ⟨fun hT p j oj hp => ?_, fun hT p j oj hp => ?_⟩⟩
  · rcases (h2 j).1 hj with e | e
    · exact (h1 j).2 (.inl e)
    · exact (h1 j).2 (.inr (O.lv j e))
  · rcases (h1 j).1 hj with e | e
    · exact .inl ((h2 j).2 (.inl e))
    · exact (O.vl j e).imp (fun e => (h2 j).2 (.inr e)) id
  · rcases (h1 j).1 hj with e | e
    · subst e; exact (h1 k).2 (.inr (hr k hw))
    · exact (h1 k).2 (.inr (O.lcl j k e hw))
  · by_cases e : o.dst = some t
    · rw [e, put_eq (hdt t e), put_eq (by rw [← O.asz]; exact hdt t e)]
    · rw [put_ne e, put_ne e]
      refine O.at t fun j oj hj hnj hoj => ht j oj ((h1 j).2 (.inr hj)) (fun e2 => ?_) hoj
      rcases (h2 j).1 e2 with rfl | e2
      · exact hn hj
      · exact hnj e2
  · refine (O.gi q g hq hT).stay (fun p j oj hp => ?_) (fun p j oj t hp ht => ?_) hs (fun l hl => hk q g l hq hT hl)
    · rw [h1 j]
      exact ⟨fun e => e.elim (fun e => absurd (by rw [← e]; exact hp) (hng q g hq hT p oj)) id, .inr⟩
    · refine put_ne fun e => hng q g hq hT p oj ?_
      rw [S.dst i j o oj t ho (LO.mem g (List.mem_of_getElem? hq) p j oj hp) e ht]
      exact hp
  · obtain ⟨d1, d2, _⟩ := O.dj q g l hq hT hl
    exact ⟨d1, Nat.lt_of_lt_of_le d2 hs, hlv q g l hq hT hl⟩
  · cases hb : done'.testBit j with
    | false => rfl
    | true =>
      rcases (hdn j).1 hb with e | e
      · exact absurd (by rw [← e]; exact hp) (hng q g hq hT p oj)
      · rw [(O.ud q g hq).1 hT p j oj hp] at e; cases e
  · obtain ⟨e1, e2⟩ := (O.ud q g hq).2 hT p j oj hp
    exact ⟨(hdn j).2 (.inr e1), (h2 j).2 (.inr e2)⟩
/-- A group's operation is carried out ahead of its taking in. -/
theorem OI.early (S : Sound ops) (LO : LateOk P ops gs) (E : Emb ρ base w0 h w) (O : OI P ops gs base done h ρ listed listedV a aV w T M L) {q : Nat} {g : Grp} (hq : gs[q]? = some g) (hT : ¬ T q) {p i : Nat} {o : Oper} (hp : g[p]? = some (i, o)) (hn : ¬ Lst listed i) (hnV : ¬ Lst listedV i) (hr : ∀ k, Waits ops i k → Lst listed k)
    {x : Value} {l' : Loc} (k1 : KeepA (fun k => ∃ l0, L q = some l0 ∧ k = l0.blk) w w') (k2 : ∀ l0, L q = some l0 → l' = l0) (k3 : L q = none → w.heap.size ≤ l'.blk) (k4 : GI P g (p + 1) (some l') (listed.setIfInBounds i true) (a.put o.dst x) w') :
    Emb ρ base w0 h w' ∧ OI P ops gs base done h ρ (listed.setIfInBounds i true) listedV (a.put o.dst x) aV w' T (fun q' => if q' = q then p + 1 else M q') (fun q' => if q' = q then some l' else L q') := by
  have hg : g ∈ gs := List.mem_of_getElem? hq
  have ho := LO.mem g hg p i o hp
  have his := (Array.getElem?_eq_some_iff.1 ho).1
  have h1 := fun j => lst_set (ops := ops) O.sz (i := i) (j := j) his
  have hlt' : l'.blk < w'.heap.size := by
    obtain ⟨f2, b2, ag, _, e2, _⟩ := k4.run
    rcases e2 with ⟨e, _⟩ | ⟨l0, b0, e, _, _, e3, _⟩
    · cases e
    · obtain rfl := Option.some.inj e; exact e3
  have hnew : base.ok l'.blk ∧ ∀ id l0, h.get id ≠ .gone → ρ id = some l0 → l0.blk ≠ l'.blk := by
    cases hL : L q with
    | some l0 =>
      obtain rfl := k2 l0 hL
      obtain ⟨d1, _, d3⟩ := O.dj q g l' hq hT hL
      exact ⟨d1, d3⟩
    | none =>
      have hge := k3 hL
      exact ⟨⟨Nat.le_trans E.bw hge, fun hB => by have := (E.kept _ hB).1; omega⟩, fun id l0 _ hl0 e => by have := (E.fresh id l0 hl0).2; omega⟩
  refine ⟨E.stay k1 (fun b ⟨l0, hl0, e⟩ => by rw [e]; exact (O.dj q g l0 hq hT hl0).1) (fun id l0 hid hl0 ⟨l1, hl1, e⟩ => (O.dj q g l1 hq hT hl1).2.2 id l0 hid hl0 e), ?_⟩
  refine ⟨by simp [O.sz], fun j hj => (h1 j).2 (.inr (O.lv j hj)), fun j hj => ?_, fun j k hj hw => ?_, by rw [put_size]; exact O.asz, by rw [put_defers]; exact O.ad, fun t ht => ?_, fun q' g' hq' hT' => ?_, fun q' g' l hq' hT' hl => ?_, fun q1 q2 g1 g2 l1 l2 e1 e2 t1 t2 hne hl1 hl2 => ?_, O.ud⟩
  · rcases (h1 j).1 hj with rfl | e
    · exact .inr ⟨q, g, p, o, hq, hT, hp⟩
    · exact O.vl j e
  · rcases (h1 j).1 hj with e | e
    · subst e; exact (h1 k).2 (.inr (hr k hw))
    · exact (h1 k).2 (.inr (O.lcl j k e hw))
  · rw [put_ne (ht i o ((h1 i).2 (.inl rfl)) hnV ho)]
    exact O.at t fun j oj hj hnj hoj => ht j oj ((h1 j).2 (.inr hj)) hnj hoj
  · by_cases e : q' = q
    · subst e
      obtain rfl := Option.some.inj (hq.symm.trans hq')
      rw [if_pos rfl, if_pos rfl]
      exact k4
    · rw [if_neg e, if_neg e]
      refine (O.gi q' g' hq' hT').stay (fun p' j oj hp' => ?_) (fun p' j oj t hp' ht => ?_) k1.size (fun l hl => ?_)
      · rw [h1 j]
        exact ⟨fun e2 => e2.elim (fun e2 => (LO.disj q' q g' g hq' hq e p' p j oj o hp' (by rw [e2]; exact hp)).elim) id, .inr⟩
      · refine put_ne fun e2 => LO.disj q' q g' g hq' hq e p' p j oj o hp' ?_
        rw [← S.dst i j o oj t ho (LO.mem g' (List.mem_of_getElem? hq') p' j oj hp') e2 ht]
        exact hp
      · refine k1.same l.blk (O.dj q' g' l hq' hT' hl).2.1 fun ⟨l0, hl0, e2⟩ => ?_
        exact O.pw q' q g' g l l0 hq' hq hT' hT e hl hl0 e2
  · by_cases e : q' = q
    · subst e
      rw [if_pos rfl] at hl
      obtain rfl := Option.some.inj hl
      exact ⟨hnew.1, hlt', hnew.2⟩
    · rw [if_neg e] at hl
      obtain ⟨d1, d2, d3⟩ := O.dj q' g' l hq' hT' hl
      exact ⟨d1, Nat.lt_of_lt_of_le d2 k1.size, d3⟩
  · have key : ∀ (q' : Nat) (g' : Grp) (l : Loc), gs[q']? = some g' → ¬ T q' → q' ≠ q → L q' = some l → l'.blk ≠ l.blk := fun q' g' l hq' hT' hne' hl => by
      cases hL : L q with
      | some l0 =>
        rw [k2 l0 hL]
        exact O.pw q q' g g' l0 l hq hq' hT hT' (Ne.symm hne') hL hl
      | none =>
        have := k3 hL
        have := (O.dj q' g' l hq' hT' hl).2.1
        omega
    by_cases c1 : q1 = q
    · have c2 : q2 ≠ q := fun e => hne (c1.trans e.symm)
      rw [if_pos c1] at hl1
      rw [if_neg c2] at hl2
      obtain rfl := Option.some.inj hl1
      exact key q2 g2 l2 e2 t2 c2 hl2
    · rw [if_neg c1] at hl1
      by_cases c2 : q2 = q
      · rw [if_pos c2] at hl2
        obtain rfl := Option.some.inj hl2
        exact (key q1 g1 l1 e1 t1 c1 hl1).symm
      · rw [if_neg c2] at hl2
        exact O.pw q1 q2 g1 g2 l1 l2 e1 e2 t1 t2 hne hl1 hl2
theorem undone_spec {d : Nat} {g : Grp} (h : undone d g = true) : ∃ (p : Nat × Oper) (r : Grp), g = p :: r ∧ d.testBit p.1 = false := by
  cases g with
  | nil => cases h
  | cons p r =>
    simp only [undone] at h
    cases hb : d.testBit p.1 with
    | false => exact ⟨p, r, rfl, hb⟩
    | true => rw [hb] at h; cases h
theorem needs_spec {d m : Nat} {g : Grp} (h : needs d m g = true) : ∃ (p : Nat × Oper) (r : Grp), g = p :: r ∧ d.testBit p.1 = false ∧ m.testBit p.1 = true := by
  cases g with
  | nil => cases h
  | cons p r =>
    simp only [needs] at h
    cases hb : d.testBit p.1 with
    | false => rw [hb] at h; exact ⟨p, r, rfl, hb, h⟩
    | true => rw [hb] at h; cases h
end
end Go.Proofs.Ytcakdjnnfonijaa
