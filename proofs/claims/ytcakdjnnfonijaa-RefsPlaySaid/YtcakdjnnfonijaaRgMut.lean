/- The program's graph while it changes. -/
import Derived.Test.YtcakdjnnfonijaaRgAsk
namespace Go.Proofs.Ytcakdjnnfonijaa
open Go.RowKit

/-- A graph whose 'from' part says R. -/
def relF (R : Rf → Rf → Bool) (t : Rf) : Rf → Option Value := fun u => if R t u = true then some (.int .i64 1) else none
structure GrG (w : World) (T : Nat → Prop) (gb m1 m2 : Nat) (fT fF : Rf → Option Value) (D : List (Rf × List Rf)) (R : Rf → Rf → Bool) : Prop where
  box : RowAt w gb 69 #[.map (some m1), .map (some m2)]
  mt : MapR w m1 rfV fT
  mf : MapR w m2 rfV fF
  toN : ∀ v, fT v = none → v ∉ D.map (·.1)
  toS : ∀ v s, fT v = some s → ∃ x ∈ D, x.1 = v ∧ OwnRf w s x.2 ∧ ∀ p, s.ownBlock = some p → T p
  frN : ∀ t, fF t = none → ∀ u, R t u = false
  frS : ∀ t s, fF t = some s → ∃ m, s = .map (some m) ∧ MapR w m rfV (relF R t) ∧ T m ∧ m ≠ m1 ∧ m ≠ m2
  sep : ∀ t t' m, fF t = some (.map (some m)) → fF t' = some (.map (some m)) → t = t'
  ne : m1 ≠ m2
  tb : T gb ∧ T m1 ∧ T m2
def relD (D : List (Rf × List Rf)) : Rf → Rf → Bool := fun t u => memB u (behd D t)
section
variable {w w' : World} {T : Nat → Prop} {gb m1 m2 : Nat} {fT fF : Rf → Option Value} {D : List (Rf × List Rf)} {R : Rf → Rf → Bool}
theorem GrM.g (h : GrM w T gb m1 m2 fT fF D) : GrG w T gb m1 m2 fT fF D (relD D) :=
  ⟨h.box, h.mt, h.mf, h.toN, h.toS, fun t ht u => memB_not.2 (by rw [h.frN t ht]; simp), h.frS, h.sep, h.ne, h.tb⟩
theorem GrG.m (h : GrG w T gb m1 m2 fT fF D (relD D)) : GrM w T gb m1 m2 fT fF D :=
  ⟨h.box, h.mt, h.mf, h.toN, h.toS, fun t ht => by
    cases hb : behd D t with
    | nil => rfl
    | cons u l =>
      have h1 := h.frN t ht u
      have h2 : memB u (behd D t) = true := memB_iff.2 (by rw [hb]; exact List.mem_cons_self)
      unfold relD at h1
      rw [h2] at h1
      exact Bool.noConfusion h1, h.frS, h.sep, h.ne, h.tb⟩
theorem GrG.keep {X : Nat → Prop} (h : GrG w T gb m1 m2 fT fF D R) (hk : KeepA X w w') (hX : ∀ k, T k → ¬ X k) : GrG w' T gb m1 m2 fT fF D R :=
  ⟨row_keep hk h.box (hX _ h.tb.1), h.mt.same (hk.same _ h.mt.lt (hX _ h.tb.2.1)), h.mf.same (hk.same _ h.mf.lt (hX _ h.tb.2.2)), h.toN, fun v s hs => by
    obtain ⟨x, q1, q2, q3, q4⟩ := h.toS v s hs
    exact ⟨x, q1, q2, q3.keep hk fun g hg => hX g (q4 g hg), q4⟩, h.frN, fun t s hs => by
    obtain ⟨m, q1, q2, q3, q4⟩ := h.frS t s hs
    exact ⟨m, q1, q2.same (hk.same m q2.lt (hX m q3)), q3, q4⟩, h.sep, h.ne, h.tb⟩
theorem GrG.later (h : GrG w T gb m1 m2 fT fF D R) (hb : Below w.heap.size w w') : GrG w' T gb m1 m2 fT fF D R := h.keep (KeepA.of_below (X := fun _ => False) hb) fun _ _ h => h
theorem GrG.into {T' : Nat → Prop} (h : GrG w T gb m1 m2 fT fF D R) (hT : ∀ k, T k → k < w.heap.size → T' k) : GrG w T' gb m1 m2 fT fF D R :=
  ⟨h.box, h.mt, h.mf, h.toN, fun v s hs => by
    obtain ⟨x, q1, q2, q3, q4⟩ := h.toS v s hs
    exact ⟨x, q1, q2, q3, fun p hp => hT p (q4 p hp) (q3.lt hp)⟩, h.frN, fun t s hs => by
    obtain ⟨m, q1, q2, q3, q4⟩ := h.frS t s hs
    exact ⟨m, q1, q2, hT m q3 q2.lt, q4⟩, h.sep, h.ne, ⟨hT _ h.tb.1 h.box.lt, hT _ h.tb.2.1 h.mt.lt, hT _ h.tb.2.2 h.mf.lt⟩⟩
theorem GrG.rel {R' : Rf → Rf → Bool} (h : GrG w T gb m1 m2 fT fF D R) (e : ∀ t u, R t u = R' t u) : GrG w T gb m1 m2 fT fF D R' := by
  have : R = R' := funext fun t => funext fun u => e t u
  rwa [← this]
/-- The 'to' part gets a version. -/
theorem GrG.putTo (h : GrG w T gb m1 m2 fT fF D R) {v : Rf} {tg : List Rf} {s : Value} (hv : v ∉ D.map (·.1)) (ho : OwnRf w s tg) (hs : ∀ p, s.ownBlock = some p → T p) (hg : w.grownBy w' (some m1)) {D' : List (Rf × List Rf)} (hD : ∀ x, x ∈ D' ↔ x = (v, tg) ∨ x ∈ D)
    (hm : MapR w' m1 rfV (fun u => if u = v then some s else fT u)) : GrG w' T gb m1 m2 (fun u => if u = v then some s else fT u) fF D' R := by
  have hk := keep_grown hg
  have hmap : ∀ u, u ∈ D'.map (·.1) ↔ u = v ∨ u ∈ D.map (·.1) := fun u => by
    constructor
    · intro hu
      obtain ⟨x, hx, rfl⟩ := List.mem_map.1 hu
      rcases (hD x).1 hx with e | hx
      · exact .inl (by rw [e])
      · exact .inr (List.mem_map_of_mem hx)
    · rintro (e | hu)
      · subst e; exact List.mem_map.2 ⟨(u, tg), (hD _).2 (.inl rfl), rfl⟩
      · obtain ⟨x, hx, rfl⟩ := List.mem_map.1 hu
        exact List.mem_map_of_mem ((hD x).2 (.inr hx))
  have cells_ne : ∀ {s : Value} {l : List Rf}, OwnRf w s l → ∀ p, s.ownBlock = some p → ¬ p = m1 := fun {s l} ho p hp e => by
    subst e
    obtain ⟨es, c, h1, -⟩ := h.mt
    rcases ho.2 with ⟨e2, _⟩ | ⟨g, cap, cur, e2, _, hh, _⟩
    · rw [e2] at hp; simp [Value.ownBlock] at hp
    · rw [e2] at hp
      have : g = p := Option.some.inj hp
      subst this
      rw [h1] at hh; cases hh
  have gb_ne : ¬ gb = m1 := fun e => by
    have hbx := h.box
    rw [e] at hbx
    obtain ⟨es, c, h1, -⟩ := h.mt
    rw [show w.heap[m1]? = _ from hbx] at h1
    cases h1
  refine ⟨row_keep hk h.box gb_ne, hm, h.mf.same (hk.same _ h.mf.lt (fun e => h.ne e.symm)), fun u hu => ?_, fun u s2 hs2 => ?_, h.frN, fun t s2 hs2 => ?_, h.sep, h.ne, h.tb⟩
  · have hu : (if u = v then some s else fT u) = none := hu
    by_cases e : u = v
    · rw [if_pos e] at hu; cases hu
    · rw [if_neg e] at hu
      rw [hmap]
      exact fun e2 => e2.elim e (h.toN u hu)
  · have hs2 : (if u = v then some s else fT u) = some s2 := hs2
    by_cases e : u = v
    · rw [if_pos e] at hs2
      cases hs2
      exact ⟨(v, tg), (hD _).2 (.inl rfl), e.symm, ho.keep hk (cells_ne ho), hs⟩
    · rw [if_neg e] at hs2
      obtain ⟨x, q1, q2, q3, q4⟩ := h.toS u s2 hs2
      exact ⟨x, (hD x).2 (.inr q1), q2, q3.keep hk (cells_ne q3), q4⟩
  · obtain ⟨m, q1, q2, q3, q4, q5⟩ := h.frS t s2 hs2
    exact ⟨m, q1, q2.same (hk.same m q2.lt q4), q3, q4, q5⟩
/-- A version gets a map for those that refer to it. -/
theorem GrG.newFrom (h : GrG w T gb m1 m2 fT fF D R) {t : Rf} {m : Nat} {w1 : World} (ht : fF t = none) (hb : Below w.heap.size w w1) (hm1 : MapR w1 m rfV (fun _ => none)) (hmT : T m) (hml : w.heap.size ≤ m) (hg : w1.grownBy w' (some m2)) (hm : MapR w' m2 rfV (fun u => if u = t then some (.map (some m)) else fF u)) :
    GrG w' T gb m1 m2 fT (fun u => if u = t then some (.map (some m)) else fF u) D R := by
  have h1 := h.later hb
  have hk := keep_grown hg
  have hlow : ∀ {r : Nat} {f : Rf → Option Value}, MapR w r rfV f → ¬ r = m := fun hr e => by have := hr.lt; omega
  have gb_ne : ¬ gb = m2 := fun e => by
    have hbx := h.box
    rw [e] at hbx
    obtain ⟨es, c, h1, -⟩ := h.mf
    rw [show w.heap[m2]? = _ from hbx] at h1
    cases h1
  refine ⟨row_keep hk h1.box gb_ne, h1.mt.same (hk.same _ h1.mt.lt h.ne), hm, h.toN, fun u s hs => ?_, fun u hu => ?_, fun u s hs => ?_, fun a b n ha hb => ?_, h.ne, h.tb⟩
  · obtain ⟨x, q1, q2, q3, q4⟩ := h1.toS u s hs
    refine ⟨x, q1, q2, q3.keep hk (fun p hp e => ?_), q4⟩
    subst e
    obtain ⟨es, c, h2, -⟩ := h1.mf
    rcases q3.2 with ⟨e2, _⟩ | ⟨g, cap, cur, e2, _, hh, _⟩
    · rw [e2] at hp; simp [Value.ownBlock] at hp
    · rw [e2] at hp
      have : g = p := Option.some.inj hp
      subst this
      rw [h2] at hh; cases hh
  · have hu : (if u = t then some (.map (some m)) else fF u) = none := hu
    by_cases e : u = t
    · rw [if_pos e] at hu; cases hu
    · rw [if_neg e] at hu; exact h.frN u hu
  · have hs : (if u = t then some (.map (some m)) else fF u) = some s := hs
    by_cases e : u = t
    · rw [if_pos e] at hs
      cases hs
      subst e
      refine ⟨m, rfl, (hm1.same (hk.same m hm1.lt (fun e => hlow h.mf e.symm))).eqf fun k => ?_, hmT, fun e => hlow h.mt e.symm, fun e => hlow h.mf e.symm⟩
      unfold relF
      rw [h.frN u ht k]
      rfl
    · rw [if_neg e] at hs
      obtain ⟨n, q1, q2, q3, q4, q5⟩ := h1.frS u s hs
      exact ⟨n, q1, q2.same (hk.same n q2.lt q5), q3, q4, q5⟩
  · have ha : (if a = t then some (.map (some m)) else fF a) = some (.map (some n)) := ha
    have hb : (if b = t then some (.map (some m)) else fF b) = some (.map (some n)) := hb
    have hold : ∀ c, fF c = some (.map (some n)) → n ≠ m := fun c hc e => by
      obtain ⟨n', e1, q2, -⟩ := h.frS c _ hc
      cases e1
      exact hlow q2 e
    by_cases e1 : a = t <;> by_cases e2 : b = t
    · rw [e1, e2]
    · rw [if_pos e1] at ha
      rw [if_neg e2] at hb
      cases ha
      exact absurd rfl (hold b hb)
    · rw [if_neg e1] at ha
      rw [if_pos e2] at hb
      cases hb
      exact absurd rfl (hold a ha)
    · rw [if_neg e1] at ha
      rw [if_neg e2] at hb
      exact h.sep a b n ha hb
/-- Those that refer to t change. -/
theorem GrG.setFrom {R' : Rf → Rf → Bool} (h : GrG w T gb m1 m2 fT fF D R) {t : Rf} {m : Nat} (ht : fF t = some (.map (some m))) (hk : KeepA (fun k => k = m) w w') (hm : MapR w' m rfV (relF R' t)) (hR : ∀ t' u, t' ≠ t → R' t' u = R t' u) : GrG w' T gb m1 m2 fT fF D R' := by
  obtain ⟨m', e0, hmr, hmT, hn1, hn2⟩ := h.frS t _ ht
  cases e0
  have gb_ne : ¬ gb = m := fun e => by
    have hbx := h.box
    rw [e] at hbx
    obtain ⟨es, c, h1, -⟩ := hmr
    rw [show w.heap[m]? = _ from hbx] at h1
    cases h1
  refine ⟨row_keep hk h.box gb_ne, h.mt.same (hk.same _ h.mt.lt (fun e => hn1 e.symm)), h.mf.same (hk.same _ h.mf.lt (fun e => hn2 e.symm)), h.toN, fun u s hs => ?_, fun u hu k => ?_, fun u s hs => ?_, h.sep, h.ne, h.tb⟩
  · obtain ⟨x, q1, q2, q3, q4⟩ := h.toS u s hs
    refine ⟨x, q1, q2, q3.keep hk (fun p hp e => ?_), q4⟩
    subst e
    obtain ⟨es, c, h2, -⟩ := hmr
    rcases q3.2 with ⟨e2, _⟩ | ⟨g, cap, cur, e2, _, hh, _⟩
    · rw [e2] at hp; simp [Value.ownBlock] at hp
    · rw [e2] at hp
      have : g = p := Option.some.inj hp
      subst this
      rw [h2] at hh; cases hh
  · have hut : u ≠ t := fun e => by rw [e, ht] at hu; cases hu
    rw [hR u k hut]
    exact h.frN u hu k
  · by_cases e : u = t
    · subst e
      rw [ht] at hs
      cases hs
      exact ⟨m, rfl, hm, hmT, hn1, hn2⟩
    · obtain ⟨n, q1, q2, q3, q4, q5⟩ := h.frS u s hs
      have hnm : ¬ n = m := fun e2 => e (h.sep u t m (by rw [hs, q1, e2]) ht)
      refine ⟨n, q1, (q2.same (hk.same n q2.lt hnm)).eqf fun k => ?_, q3, q4, q5⟩
      unfold relF
      rw [hR u k e]
/-- The 'to' part loses a version. -/
theorem GrG.delTo (h : GrG w T gb m1 m2 fT fF D R) {v : Rf} (hg : w.grownBy w' (some m1)) {D' : List (Rf × List Rf)} (hD : ∀ x, x ∈ D' ↔ x ∈ D ∧ x.1 ≠ v)
    (hm : MapR w' m1 rfV (fun u => if u = v then none else fT u)) : GrG w' T gb m1 m2 (fun u => if u = v then none else fT u) fF D' R := by
  have hk := keep_grown hg
  have cells_ne : ∀ {s : Value} {l : List Rf}, OwnRf w s l → ∀ p, s.ownBlock = some p → ¬ p = m1 := fun {s l} ho p hp e => by
    subst e
    obtain ⟨es, c, h1, -⟩ := h.mt
    rcases ho.2 with ⟨e2, _⟩ | ⟨g, cap, cur, e2, _, hh, _⟩
    · rw [e2] at hp; simp [Value.ownBlock] at hp
    · rw [e2] at hp
      have : g = p := Option.some.inj hp
      subst this
      rw [h1] at hh; cases hh
  have gb_ne : ¬ gb = m1 := fun e => by
    have hbx := h.box
    rw [e] at hbx
    obtain ⟨es, c, h1, -⟩ := h.mt
    rw [show w.heap[m1]? = _ from hbx] at h1
    cases h1
  refine ⟨row_keep hk h.box gb_ne, hm, h.mf.same (hk.same _ h.mf.lt (fun e => h.ne e.symm)), fun u hu => ?_, fun u s2 hs2 => ?_, h.frN, fun t s2 hs2 => ?_, h.sep, h.ne, h.tb⟩
  · have hu : (if u = v then none else fT u) = none := hu
    intro hm2
    obtain ⟨x, hx, rfl⟩ := List.mem_map.1 hm2
    obtain ⟨hx1, hx2⟩ := (hD x).1 hx
    rw [if_neg hx2] at hu
    exact h.toN x.1 hu (List.mem_map_of_mem hx1)
  · have hs2 : (if u = v then none else fT u) = some s2 := hs2
    by_cases e : u = v
    · rw [if_pos e] at hs2; cases hs2
    · rw [if_neg e] at hs2
      obtain ⟨x, q1, q2, q3, q4⟩ := h.toS u s2 hs2
      exact ⟨x, (hD x).2 ⟨q1, fun e2 => e (q2.symm.trans e2)⟩, q2, q3.keep hk (cells_ne q3), q4⟩
  · obtain ⟨m, q1, q2, q3, q4, q5⟩ := h.frS t s2 hs2
    exact ⟨m, q1, q2.same (hk.same m q2.lt q4), q3, q4, q5⟩
end
end Go.Proofs.Ytcakdjnnfonijaa
