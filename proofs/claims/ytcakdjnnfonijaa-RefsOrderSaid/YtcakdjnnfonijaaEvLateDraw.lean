/- A reckoner of closed runs, 18e: drawn regions in which groups are reckoned beside. Nothing of the program is used here. -/
import Derived.Test.YtcakdjnnfonijaaEvAdopt
namespace Go.Proofs.Ytcakdjnnfonijaa
open Go.RowKit

noncomputable def adoptG (P : Program) (ops : Array Oper) (g : Grp) (done : Nat) (f : Fr) (h : Hp) (pend : List Pend) : Option (Nat × Fr × Hp × List Pend) := match gRun P g gStart with
  | some (fe, some b) => match adSlots fe h.nx g f with
    | some f' => match checkPend P ops 0 (h.new b) pend with
      | some pend' => some (doneAdd g done, f', h.new b, pend')
      | none => none
    | none => none
  | _ => none
noncomputable def adoptSel (P : Program) (ops : Array Oper) (sel : Grp → Bool) : List Grp → Nat → Fr → Hp → List Pend → Option (Nat × Fr × Hp × List Pend)
  | [], d, f, h, pend => some (d, f, h, pend)
  | g :: r, d, f, h, pend => match sel g with
    | true => match adoptG P ops g d f h pend with
      | some (d', f', h', pend') => adoptSel P ops sel r d' f' h' pend'
      | none => none
    | false => adoptSel P ops sel r d f h pend
noncomputable def undone (d : Nat) : Grp → Bool
  | [] => false
  | p :: _ => match d.testBit p.1 with
    | true => false
    | false => true
noncomputable def needs (d m : Nat) : Grp → Bool
  | [] => false
  | p :: _ => match d.testBit p.1 with
    | true => false
    | false => m.testBit p.1
def lateMask : List Grp → Nat
  | [] => 0
  | g :: r => doneAdd g (lateMask r)
theorem lateMask_bit : ∀ (gs : List Grp) (j : Nat), (lateMask gs).testBit j = true ↔ ∃ g ∈ gs, ∃ (p : Nat) (o : Oper), g[p]? = some (j, o)
  | [], j => by simp [lateMask]
  | g :: r, j => by
    simp only [lateMask]
    rw [doneAdd_bit, lateMask_bit r]
    constructor
    · rintro (⟨p, o, h⟩ | ⟨g', hg, h⟩)
      · exact ⟨g, List.mem_cons_self, p, o, h⟩
      · exact ⟨g', List.mem_cons_of_mem _ hg, h⟩
    · rintro ⟨g', hg, p, o, h⟩
      rcases List.mem_cons.1 hg with rfl | hg
      · exact .inl ⟨p, o, h⟩
      · exact .inr ⟨g', hg, p, o, h⟩
structure OI (P : Program) (ops : Array Oper) (gs : List Grp) (base : Kp) (done : Nat) (h : Hp) (ρ : Env) (listed listedV : Array Bool) (a aV : Act) (w : World) (T : Nat → Prop) (M : Nat → Nat) (L : Nat → Option Loc) : Prop where
  sz : listed.size = ops.size
  lv : ∀ i, Lst listedV i → Lst listed i
  vl : ∀ i, Lst listed i → Lst listedV i ∨ ∃ (q : Nat) (g : Grp) (p : Nat) (o : Oper), gs[q]? = some g ∧ ¬ T q ∧ g[p]? = some (i, o)
  lcl : ∀ i k, Lst listed i → Waits ops i k → Lst listed k
  asz : a.tmps.size = aV.tmps.size
  ad : a.defers = aV.defers
  «at» : ∀ t, (∀ (i : Nat) (o : Oper), Lst listed i → ¬ Lst listedV i → ops[i]? = some o → o.dst ≠ some t) → a.tmps.getD t undef = aV.tmps.getD t undef
  gi : ∀ (q : Nat) (g : Grp), gs[q]? = some g → ¬ T q → GI P g (M q) (L q) listed a w
  dj : ∀ (q : Nat) (g : Grp) (l : Loc), gs[q]? = some g → ¬ T q → L q = some l → base.ok l.blk ∧ l.blk < w.heap.size ∧ ∀ id l', h.get id ≠ .gone → ρ id = some l' → l'.blk ≠ l.blk
  pw : ∀ (q q' : Nat) (g g' : Grp) (l l' : Loc), gs[q]? = some g → gs[q']? = some g' → ¬ T q → ¬ T q' → q ≠ q' → L q = some l → L q' = some l' → l.blk ≠ l'.blk
  ud : ∀ (q : Nat) (g : Grp), gs[q]? = some g → (¬ T q → ∀ (p i : Nat) (o : Oper), g[p]? = some (i, o) → done.testBit i = false) ∧ (T q → ∀ (p i : Nat) (o : Oper), g[p]? = some (i, o) → done.testBit i = true ∧ Lst listedV i)
section
variable {P : Program} {ops : Array Oper} {gs : List Grp} {base : Kp} {w0 : World} {f0 : Fr} {vv : Nat → AV} {done done' : Nat} {f f' : Fr} {h h' : Hp} {pend pend' : List Pend} {listed listedV : Array Bool} {a aV : Act} {w : World} {ρ : Env} {T : Nat → Prop} {M : Nat → Nat} {L : Nat → Option Loc}
theorem OI.adopt (S : Sound ops) (LO : LateOk P ops gs) (I : Inv P ops base w0 f0 vv done f h pend listedV aV w ρ) (O : OI P ops gs base done h ρ listed listedV a aV w T M L) {q : Nat} {g : Grp} (hq : gs[q]? = some g) (hT : ¬ T q)
    (hall : ∀ (p i : Nat) (o : Oper), g[p]? = some (i, o) → Lst listed i) (HF : ∀ (p i : Nat) (o : Oper) (t : Tmp), g[p]? = some (i, o) → o.dst = some t → t < f0.n) (ha : adoptG P ops g done f h pend = some (done', f', h', pend')) :
    ∃ vv' listedV' aV' ρ', Inv P ops base w0 f0 vv' done' f' h' pend' listedV' aV' w ρ' ∧ OI P ops gs base done' h' ρ' listed listedV' a aV' w (fun q' => q' = q ∨ T q') M L ∧ Env.le ρ ρ' ∧
      ∀ j, done'.testBit j = true ↔ (∃ (p : Nat) (o : Oper), g[p]? = some (j, o)) ∨ done.testBit j = true := by
  have hg : g ∈ gs := List.mem_of_getElem? hq
  unfold adoptG at ha
  split at ha
  case h_2 => cases ha
  rename_i fe b hrun
  split at ha
  case h_2 => cases ha
  rename_i f1 hslots
  split at ha
  case h_2 => cases ha
  rename_i pend1 hchk
  obtain ⟨rfl, rfl, rfl, rfl⟩ : doneAdd g done = done' ∧ f1 = f' ∧ h.new b = h' ∧ pend1 = pend' := by simpa using ha
  have G := O.gi q g hq hT
  have hM : M q = g.length := by
    refine Nat.le_antisymm G.le (Nat.le_of_not_lt fun hlt => ?_)
    obtain ⟨io, hio⟩ : ∃ io, g[M q]? = some io := ⟨_, List.getElem?_eq_getElem hlt⟩
    have := (G.cnt (M q) io.1 io.2 hio).1 (hall (M q) io.1 io.2 hio)
    omega
  obtain ⟨f2, b2, ag, h1, h2, h3, h4⟩ := G.run
  rw [hM, List.take_length, hrun] at h1
  obtain ⟨rfl, rfl⟩ := Prod.mk.inj (Option.some.inj h1)
  rcases h2 with ⟨_, hb⟩ | ⟨l, b0, hl, hb, hfl, hlt, hr⟩
  · cases hb
  obtain rfl := Option.some.inj hb
  obtain ⟨hok, _, hlive⟩ := O.dj q g l hq hT hl
  rw [hl] at h3
  have hn := I.emb.fresh0
  have E1 := I.emb.adopt l hlt hok hlive b (hr _)
  obtain ⟨c1, c2⟩ := checkPend_ok _ _ hchk
  have I1 := I.heap (Env.le_add hn) E1 c1 (fun p hp => c2 p hp (Nat.zero_testBit _))
  obtain ⟨vv', I2⟩ := adSlots_ok S h3 (add_self _ _ _) (fun p hp => (c1 p hp).2) g done f f1 vv listedV aV hslots I1 (fun p i o hp => ⟨LO.mem g hg p i o hp, (O.ud q g hq).1 hT p i o hp⟩)
    (fun p i o hp k hk => .inr (LO.wait g hg p i o hp k hk)) (fun p q' i o o' h1 h2 => LO.nodup g hg p q' i o o' h1 h2)
  have hlst : ∀ j, Lst (lstAdd g listedV) j ↔ (∃ (p : Nat) (o : Oper), g[p]? = some (j, o)) ∨ Lst listedV j := fun j => lstAdd_lst (n := ops.size) g listedV j I.size fun p i o hp => (Array.getElem?_eq_some_iff.1 (LO.mem g hg p i o hp)).1
  refine ⟨vv', lstAdd g listedV, actAdd ag g aV, _, I2, ⟨O.sz, fun i hi => ?_, fun i hi => ?_, O.lcl, by rw [(actAdd_size ag g aV).1]; exact O.asz, by rw [(actAdd_size ag g aV).2]; exact O.ad, fun t ht => ?_, fun q' g' hq' hT' => O.gi q' g' hq' fun e => hT' (.inr e), fun q' g' l' hq' hT' hl' => ?_,
    fun q1 q2 g1 g2 l1 l2 e1 e2 t1 t2 => O.pw q1 q2 g1 g2 l1 l2 e1 e2 (fun e => t1 (.inr e)) (fun e => t2 (.inr e)), fun q' g' hq' => ⟨fun hT' p i o hp => ?_, fun hT' p i o hp => ?_⟩⟩, Env.le_add hn, fun j => doneAdd_bit g done j⟩
  · rcases (hlst i).1 hi with ⟨p, o, hp⟩ | hi
    · exact hall p i o hp
    · exact O.lv i hi
  · rcases O.vl i hi with h5 | ⟨q', g', p, o, h5, h6, h7⟩
    · exact .inl ((hlst i).2 (.inr h5))
    · by_cases e : q' = q
      · subst e
        obtain rfl := Option.some.inj (hq.symm.trans h5)
        exact .inl ((hlst i).2 (.inl ⟨p, o, h7⟩))
      · exact .inr ⟨q', g', p, o, h5, fun e' => e'.elim e h6, h7⟩
  · obtain ⟨k1, k2⟩ := actAdd_at ag g aV t
    by_cases hd : ∃ (p i : Nat) (o : Oper), g[p]? = some (i, o) ∧ o.dst = some t
    · obtain ⟨p, i, o, hp, ho⟩ := hd
      rw [k2 (by rw [I.an]; exact HF p i o t hp ho) (.inl ⟨p, i, o, hp, ho⟩)]
      exact (h4 p i o t (by rw [hM]; exact (List.getElem?_eq_some_iff.1 hp).1) hp ho).symm
    · rw [k1 fun p i o hp ho => hd ⟨p, i, o, hp, ho⟩]
      refine O.at t fun i o hi hni ho hot => ?_
      by_cases hin : ∃ (p : Nat) (o' : Oper), g[p]? = some (i, o')
      · obtain ⟨p, o', hp⟩ := hin
        have := LO.mem g hg p i o' hp
        obtain rfl := Option.some.inj (ho.symm.trans this)
        exact hd ⟨p, i, o, hp, hot⟩
      · exact ht i o hi (fun hh => ((hlst i).1 hh).elim hin hni) ho hot
  · have hne : q ≠ q' := fun e => hT' (.inl e.symm)
    obtain ⟨d1, d2, d3⟩ := O.dj q' g' l' hq' (fun e => hT' (.inr e)) hl'
    refine ⟨d1, d2, fun id l2 hid hl2 => ?_⟩
    by_cases e : id = h.nx
    · subst e
      rw [add_self] at hl2
      obtain rfl := Option.some.inj hl2
      exact O.pw q q' g g' l l' hq hq' hT (fun e => hT' (.inr e)) hne hl hl'
    · rw [Hp.get_new, if_neg e] at hid
      unfold Env.add at hl2
      rw [if_neg e] at hl2
      exact d3 id l2 hid hl2
  · cases hb : (doneAdd g done).testBit i with
    | false => rfl
    | true =>
      rcases (doneAdd_bit g done i).1 hb with ⟨p', o', hp'⟩ | hb
      · exact (LO.disj q q' g g' hq hq' (fun e => hT' (.inl e.symm)) p' p i o' o hp' hp).elim
      · rw [(O.ud q' g' hq').1 (fun e => hT' (.inr e)) p i o hp] at hb
        cases hb
  · rcases hT' with rfl | hT'
    · obtain rfl := Option.some.inj (hq.symm.trans hq')
      exact ⟨(doneAdd_bit g done i).2 (.inl ⟨p, o, hp⟩), (hlst i).2 (.inl ⟨p, o, hp⟩)⟩
    · obtain ⟨e1, e2⟩ := (O.ud q' g' hq').2 hT' p i o hp
      exact ⟨(doneAdd_bit g done i).2 (.inr e1), (hlst i).2 (.inr e2)⟩
theorem OI.adoptSel (S : Sound ops) (LO : LateOk P ops gs) (HF : ∀ g ∈ gs, ∀ (p i : Nat) (o : Oper) (t : Tmp), g[p]? = some (i, o) → o.dst = some t → t < f0.n) (sel : Grp → Bool) :
    ∀ (gs2 : List Grp) (off done : Nat) (f : Fr) (h : Hp) (pend : List Pend) (vv : Nat → AV) (listedV : Array Bool) (aV : Act) (ρ : Env) (T : Nat → Prop), (∀ (q : Nat) (g : Grp), gs2[q]? = some g → gs[off + q]? = some g) → Go.Proofs.Ytcakdjnnfonijaa.adoptSel P ops sel gs2 done f h pend = some (done', f', h', pend') →
      Inv P ops base w0 f0 vv done f h pend listedV aV w ρ → OI P ops gs base done h ρ listed listedV a aV w T M L → (∀ (q : Nat) (g : Grp), gs2[q]? = some g → sel g = true → ¬ T (off + q) ∧ ∀ (p i : Nat) (o : Oper), g[p]? = some (i, o) → Lst listed i) →
      ∃ vv' listedV' aV' ρ' T', Inv P ops base w0 f0 vv' done' f' h' pend' listedV' aV' w ρ' ∧ OI P ops gs base done' h' ρ' listed listedV' a aV' w T' M L ∧ Env.le ρ ρ' ∧ (∀ (q : Nat) (g : Grp), gs2[q]? = some g → sel g = true → T' (off + q)) ∧ (∀ q, T q → T' q) ∧
        (∀ j, done.testBit j = true → done'.testBit j = true) ∧ ∀ j, done'.testBit j = true → done.testBit j = true ∨ ∃ g ∈ gs, ∃ (p : Nat) (o : Oper), g[p]? = some (j, o)
  | [], off, done, f, h, pend, vv, listedV, aV, ρ, T, _, hs, I, O, _ => by
    obtain ⟨rfl, rfl, rfl, rfl⟩ : done = done' ∧ f = f' ∧ h = h' ∧ pend = pend' := by simpa [Go.Proofs.Ytcakdjnnfonijaa.adoptSel] using hs
    exact ⟨vv, listedV, aV, ρ, T, I, O, Env.le_refl ρ, fun q g hq => by simp at hq, fun _ e => e, fun _ e => e, fun _ e => .inl e⟩
  | g :: r, off, done, f, h, pend, vv, listedV, aV, ρ, T, hgs, hs, I, O, hsel => by
    have hgs' : ∀ (q : Nat) (g : Grp), r[q]? = some g → gs[off + 1 + q]? = some g := fun q g hq => by rw [show off + 1 + q = off + (q + 1) by omega]; exact hgs (q + 1) g (by simpa using hq)
    simp only [Go.Proofs.Ytcakdjnnfonijaa.adoptSel] at hs
    cases hb : sel g with
    | false =>
      rw [hb] at hs
      obtain ⟨vv', lV', aV', ρ', T', k1, k2, k3, k4, k5, k6, k7⟩ := OI.adoptSel S LO HF sel r (off + 1) done f h pend vv listedV aV ρ T hgs' hs I O fun q g' hq hs' => by
        have := hsel (q + 1) g' (by simpa using hq) hs'
        rwa [show off + 1 + q = off + (q + 1) by omega]
      refine ⟨vv', lV', aV', ρ', T', k1, k2, k3, fun q g' hq hs' => ?_, k5, k6, k7⟩
      cases q with
      | zero =>
        simp only [List.getElem?_cons_zero, Option.some.injEq] at hq
        rw [← hq, hb] at hs'
        cases hs'
      | succ q =>
        have := k4 q g' (by simpa using hq) hs'
        rwa [show off + 1 + q = off + (q + 1) by omega] at this
    | true =>
      rw [hb] at hs
      dsimp only at hs
      split at hs
      case h_2 => cases hs
      rename_i d1 f1 h1 pend1 had
      have hq0 : gs[off]? = some g := by have := hgs 0 g rfl; simpa using this
      obtain ⟨hT, hall⟩ := hsel 0 g rfl hb
      obtain ⟨vv1, lV1, aV1, ρ1, I1, O1, le1, bits⟩ := O.adopt S LO I hq0 (by simpa using hT) hall (HF g (List.mem_of_getElem? hq0)) had
      obtain ⟨vv', lV', aV', ρ', T', k1, k2, k3, k4, k5, k6, k7⟩ := OI.adoptSel S LO HF sel r (off + 1) d1 f1 h1 pend1 vv1 lV1 aV1 ρ1 _ hgs' hs I1 O1 fun q g' hq hs' => by
        have := hsel (q + 1) g' (by simpa using hq) hs'
        rw [show off + 1 + q = off + (q + 1) by omega]
        exact ⟨fun e => e.elim (fun e => by omega) this.1, this.2⟩
      refine ⟨vv', lV', aV', ρ', T', k1, k2, Env.le_trans le1 k3, fun q g' hq hs' => ?_, fun q e => k5 q (.inr e), fun j e => k6 j ((bits j).2 (.inr e)), fun j e => ?_⟩
      · cases q with
        | zero => exact k5 _ (.inl (Nat.add_zero _))
        | succ q =>
          have := k4 q g' (by simpa using hq) hs'
          rwa [show off + 1 + q = off + (q + 1) by omega] at this
      · rcases k7 j e with e | e
        · rcases (bits j).1 e with ⟨p, o, hp⟩ | e
          · exact .inr ⟨g, List.mem_of_getElem? hq0, p, o, hp⟩
          · exact .inl e
        · exact .inr e
end
end Go.Proofs.Ytcakdjnnfonijaa
