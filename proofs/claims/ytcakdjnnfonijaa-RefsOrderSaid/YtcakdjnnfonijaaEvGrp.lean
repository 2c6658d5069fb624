/- A reckoner of closed runs, 18c: groups of operations that are reckoned beside. Nothing of the program is used here. -/
import Derived.Test.YtcakdjnnfonijaaEvLate
namespace Go.Proofs.Ytcakdjnnfonijaa
open Go.RowKit

abbrev Grp := List (Nat × Oper)
noncomputable def gStart : Fr × Option Blk := (⟨.nil, 1000000, []⟩, none)
noncomputable def gRun (P : Program) : Grp → Fr × Option Blk → Option (Fr × Option Blk)
  | [], s => some s
  | p :: r, s => match pStep P s.1 s.2 p.2 with
    | some (f', b') => gRun P r (f', some b')
    | none => none
theorem gRun_append (P : Program) : ∀ (x y : Grp) (s : Fr × Option Blk), gRun P (x ++ y) s = (gRun P x s).bind (gRun P y)
  | [], y, s => rfl
  | p :: r, y, s => by
    simp only [List.cons_append, gRun]
    cases pStep P s.1 s.2 p.2 with
    | none => rfl
    | some fb => exact gRun_append P r y _
theorem gRun_at {P : Program} {g : Grp} {s e : Fr × Option Blk} (h : gRun P g s = some e) {m i : Nat} {o : Oper} (hm : g[m]? = some (i, o)) {f : Fr} {b : Option Blk} (ht : gRun P (g.take m) s = some (f, b)) :
    ∃ f' b', pStep P f b o = some (f', b') ∧ gRun P (g.take (m + 1)) s = some (f', some b') := by
  have hlt := (List.getElem?_eq_some_iff.1 hm).1
  have hg : g[m] = (i, o) := (List.getElem?_eq_some_iff.1 hm).2
  have h1 : g = g.take m ++ (i, o) :: g.drop (m + 1) := by
    rw [← hg, List.getElem_cons_drop, List.take_append_drop]
  rw [h1, gRun_append, ht] at h
  simp only [Option.bind_some, gRun] at h
  cases hp : pStep P f b o with
  | none => rw [hp] at h; cases h
  | some fb =>
    obtain ⟨f', b'⟩ := fb
    refine ⟨f', b', rfl, ?_⟩
    rw [List.take_succ_eq_append_getElem hlt, hg, gRun_append, ht]
    simp only [Option.bind_some, gRun, hp]
/-- What is asked of groups. -/
structure LateOk (P : Program) (ops : Array Oper) (gs : List Grp) : Prop where
  mem : ∀ g ∈ gs, ∀ (p i : Nat) (o : Oper), g[p]? = some (i, o) → ops[i]? = some o
  still : ∀ g ∈ gs, ∀ (p i : Nat) (o : Oper), g[p]? = some (i, o) → isStill o = false
  look : ∀ g ∈ gs, ∀ (p i : Nat) (o : Oper), g[p]? = some (i, o) → ∀ t ∈ o.looksAt ops, ∃ (q i' : Nat) (o' : Oper), q < p ∧ g[q]? = some (i', o') ∧ o'.dst = some t
  wait : ∀ g ∈ gs, ∀ (p i : Nat) (o : Oper), g[p]? = some (i, o) → ∀ k, Waits ops i k → ∃ (q : Nat) (o' : Oper), q < p ∧ g[q]? = some (k, o')
  chain : ∀ g ∈ gs, ∀ (p i : Nat) (o : Oper) (i' : Nat) (o' : Oper), g[p]? = some (i, o) → g[p + 1]? = some (i', o') → Waits ops i' i
  outer : ∀ g ∈ gs, ∀ (p i : Nat) (o : Oper), g[p]? = some (i, o) → ∀ j, Waits ops j i → (∃ (q : Nat) (o' : Oper), g[q]? = some (j, o')) ∨ ∀ (q i' : Nat) (o' : Oper), g[q]? = some (i', o') → Waits ops j i'
  nodup : ∀ g ∈ gs, ∀ (p q i : Nat) (o o' : Oper), g[p]? = some (i, o) → g[q]? = some (i, o') → p = q
  disj : ∀ (q q' : Nat) (g g' : Grp), gs[q]? = some g → gs[q']? = some g' → q ≠ q' → ∀ (p p' i : Nat) (o o' : Oper), g[p]? = some (i, o) → g'[p']? = some (i, o') → False
  run : ∀ g ∈ gs, ∃ fe be, gRun P g gStart = some (fe, some be)
/-- How far a group has come, in a world. -/
structure GI (P : Program) (g : Grp) (m : Nat) (l : Option Loc) (listed : Array Bool) (a : Act) (w : World) : Prop where
  cnt : ∀ (p i : Nat) (o : Oper), g[p]? = some (i, o) → (Lst listed i ↔ p < m)
  le : m ≤ g.length
  run : ∃ f b ag, gRun P (g.take m) gStart = some (f, b) ∧ PB l b w ∧ FrR (one l) f ag ∧ ∀ (p i : Nat) (o : Oper) (t : Tmp), p < m → g[p]? = some (i, o) → o.dst = some t → ag.tmps.getD t undef = a.tmps.getD t undef
theorem GI.stay {P : Program} {g : Grp} {m : Nat} {l : Option Loc} {listed listed' : Array Bool} {a a' : Act} {w w' : World} (G : GI P g m l listed a w) (hc : ∀ (p i : Nat) (o : Oper), g[p]? = some (i, o) → (Lst listed' i ↔ Lst listed i))
    (ha : ∀ (p i : Nat) (o : Oper) (t : Tmp), g[p]? = some (i, o) → o.dst = some t → a'.tmps.getD t undef = a.tmps.getD t undef) (hs : w.heap.size ≤ w'.heap.size) (hk : ∀ l0, l = some l0 → w'.heap[l0.blk]? = w.heap[l0.blk]?) : GI P g m l listed' a' w' := by
  obtain ⟨f, b, ag, h1, h2, h3, h4⟩ := G.run
  exact ⟨fun p i o hp => (hc p i o hp).trans (G.cnt p i o hp), G.le, f, b, ag, h1, h2.stay hs hk, h3, fun p i o t hp hg ht => (h4 p i o t hp hg ht).trans (ha p i o t hg ht).symm⟩
/-- A group's next operation is carried out. -/
theorem GI.step {P : Program} {ops : Array Oper} {gs : List Grp} (S : Sound ops) (LO : LateOk P ops gs) {g : Grp} (hg : g ∈ gs) {m : Nat} {l : Option Loc} {listed : Array Bool} {a : Act} {w : World} (G : GI P g m l listed a w) (hsz : listed.size = ops.size)
    {i : Nat} {o : Oper} (hm : g[m]? = some (i, o)) (hd : ∀ t, o.dst = some t → t < a.tmps.size) {rl : Option Nat} {n : Nat} {Q : Exit → Act → World → Prop} {next : Act → World → Prop}
    (H : ∀ w' x l', KeepA (fun k => ∃ l0, l = some l0 ∧ k = l0.blk) w w' → (∀ l0, l = some l0 → l' = l0) → (l = none → w.heap.size ≤ l'.blk) → GI P g (m + 1) (some l') (listed.setIfInBounds i true) (a.put o.dst x) w' → next (a.put o.dst x) w') :
    o.guard = none ∧ o.wpIn (fen rl) n P a w next Q := by
  obtain ⟨f, b, ag, h1, h2, h3, h4⟩ := G.run
  obtain ⟨fe, be, hrun⟩ := LO.run g hg
  obtain ⟨f', b', hs, hr'⟩ := gRun_at hrun hm h1
  have hops := LO.mem g hg m i o hm
  have his := (Array.getElem?_eq_some_iff.1 hops).1
  have hag : ∀ t ∈ o.looksAt ops, ag.tmps.getD t undef = a.tmps.getD t undef := fun t ht => by
    obtain ⟨q, i', o', hq, hgq, ht'⟩ := LO.look g hg m i o hm t ht
    exact h4 q i' o' t hq hgq ht'
  refine pStep_ok hs h2 h3 (exec_agree (S.sel i o hops) hag) fun w' x l' k1 k2 k3 k4 k5 => H w' x l' k1 k2 k3 ⟨fun p i' o' hp => ?_, by have := (List.getElem?_eq_some_iff.1 hm).1; omega, f', some b', _, hr', k4, k5, fun p i' o' t hp hgp ht => ?_⟩
  · rw [lst_set hsz his, G.cnt p i' o' hp]
    constructor
    · rintro (e | e)
      · subst e
        have := LO.nodup g hg p m i' o' o hp hm
        omega
      · omega
    · intro e
      by_cases e2 : p = m
      · subst e2
        rw [hm] at hp
        exact .inl (Prod.mk.inj (Option.some.inj hp)).1.symm
      · exact .inr (by omega)
  · by_cases e2 : p = m
    · subst e2
      rw [hm] at hgp
      obtain ⟨rfl, rfl⟩ := Prod.mk.inj (Option.some.inj hgp)
      have hlt : t < ag.tmps.size := by
        unfold pStep at hs
        split at hs
        · cases hs
        split at hs
        case h_2 => cases hs
        split at hs
        case h_2 => cases hs
        split at hs
        case h_2 => cases hs
        split at hs
        case h_2 => cases hs
        rename_i f'' hput
        rw [h3.1]
        exact ((frput hput).2.1 t ht).2
      rw [ht, put_eq hlt, put_eq (hd t ht)]
    · have hne : o.dst ≠ some t := fun e => by
        have := S.dst i' i o' o t (LO.mem g hg p i' o' hgp) hops ht e
        subst this
        exact e2 (LO.nodup g hg p m i' o' o hgp hm)
      rw [put_ne hne, put_ne hne]
      exact h4 p i' o' t (by omega) hgp ht
end Go.Proofs.Ytcakdjnnfonijaa
