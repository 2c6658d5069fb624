/- Copy of the program's graph, plainly: the copy so far. -/
import Derived.Test.YtcakdjnnfonijaaRgPlain
namespace Go.Proofs.Ytcakdjnnfonijaa
open Go.RowKit

/-- The copy so far: S1 are the versions whose rows are copied, S2 those whose referers are. -/
structure CpA (w0 w : World) (D : List (Rf × List Rf)) (ob a1 a2 : Nat) (S1 S2 : List Rf) (fT1 fF1 : Rf → Option Value) : Prop where
  below : Below w0.heap.size w0 w
  box : RowAt w ob 69 #[.map (some a1), .map (some a2)]
  mt : MapR w a1 rfV fT1
  mf : MapR w a2 rfV fF1
  tn : ∀ u, u ∉ S1 → fT1 u = none
  ts : ∀ u ∈ S1, ∃ y s, y ∈ D ∧ y.1 = u ∧ fT1 u = some s ∧ OwnRf w s y.2 ∧ ∀ p, s.ownBlock = some p → w0.heap.size ≤ p
  fn : ∀ u, u ∉ S2 → fF1 u = none
  fs : ∀ u ∈ S2, ∃ m, fF1 u = some (.map (some m)) ∧ MapR w m rfV (refF D u) ∧ w0.heap.size ≤ m ∧ m ≠ a1 ∧ m ≠ a2
  sep : ∀ t t' m, fF1 t = some (.map (some m)) → fF1 t' = some (.map (some m)) → t = t'
  ne : a1 ≠ a2
  lows : w0.heap.size ≤ ob ∧ w0.heap.size ≤ a1 ∧ w0.heap.size ≤ a2
section
variable {w0 w w' : World} {D : List (Rf × List Rf)} {ob a1 a2 : Nat} {S1 S2 : List Rf} {fT1 fF1 : Rf → Option Value}
theorem map_not_row {r : Nat} {f : Rf → Option Value} {s : Value} {l : List Rf} (hm : MapR w r rfV f) (ho : OwnRf w s l) : ∀ p, s.ownBlock = some p → p ≠ r := fun p hp e => by
  subst e
  obtain ⟨es, c, h1, -⟩ := hm
  rcases ho.2 with ⟨e2, _⟩ | ⟨g, cap, cur, e2, _, hh, _⟩
  · rw [e2] at hp; simp [Value.ownBlock] at hp
  · rw [e2] at hp
    have : g = p := Option.some.inj hp
    subst this
    rw [h1] at hh; cases hh
/-- What is not the copy's changes. -/
theorem CpA.keep {X : Nat → Prop} (h : CpA w0 w D ob a1 a2 S1 S2 fT1 fF1) (hk : KeepA X w w') (hb : Below w0.heap.size w0 w') (x1 : ¬ X ob) (x2 : ¬ X a1) (x3 : ¬ X a2) (x4 : ∀ s l, OwnRf w s l → (∀ p, s.ownBlock = some p → w0.heap.size ≤ p) → ∀ p, s.ownBlock = some p → ¬ X p) (x5 : ∀ u m, fF1 u = some (.map (some m)) → ¬ X m) : CpA w0 w' D ob a1 a2 S1 S2 fT1 fF1 :=
  ⟨hb, row_keep hk h.box x1, h.mt.same (hk.same _ h.mt.lt x2), h.mf.same (hk.same _ h.mf.lt x3), h.tn, fun u hu => by
    obtain ⟨y, s, q1, q2, q3, q4, q5⟩ := h.ts u hu
    exact ⟨y, s, q1, q2, q3, q4.keep hk (x4 s _ q4 q5), q5⟩, h.fn, fun u hu => by
    obtain ⟨m, q1, q2, q3, q4⟩ := h.fs u hu
    exact ⟨m, q1, q2.same (hk.same m q2.lt (x5 u m q1)), q3, q4⟩, h.sep, h.ne, h.lows⟩
theorem CpA.later (h : CpA w0 w D ob a1 a2 S1 S2 fT1 fF1) (hb : Below w.heap.size w w') : CpA w0 w' D ob a1 a2 S1 S2 fT1 fF1 :=
  h.keep (X := fun _ => False) (KeepA.of_below hb) (below_trans h.below hb) (fun h => h) (fun h => h) (fun h => h) (fun _ _ _ _ _ _ h => h) (fun _ _ _ h => h)
/-- A row is copied. -/
theorem CpA.putTo {y : Rf × List Rf} {s : Value} (h : CpA w0 w D ob a1 a2 S1 S2 fT1 fF1) (hy : y ∈ D) (ho : OwnRf w s y.2) (hs : ∀ p, s.ownBlock = some p → w0.heap.size ≤ p) (hg : w.grownBy w' (some a1)) (hm : MapR w' a1 rfV (fun u => if u = y.1 then some s else fT1 u)) : CpA w0 w' D ob a1 a2 (S1 ++ [y.1]) S2 (fun u => if u = y.1 then some s else fT1 u) fF1 := by
  have hk := keep_grown hg
  have hrow : ∀ {z : Value} {l : List Rf}, OwnRf w z l → OwnRf w' z l := fun {z l} hz => hz.keep hk fun p hp => map_not_row h.mt hz p hp
  refine ⟨below_grown h.below hg h.below.size fun k e => by rw [← Option.some.inj e]; exact h.lows.2.1, row_keep hk h.box (fun e => row_map_ne h.box h.mt e), hm, h.mf.same (hk.same _ h.mf.lt fun e => h.ne e.symm), fun u hu => ?_, fun u hu => ?_, h.fn, fun u hu => ?_, h.sep, h.ne, h.lows⟩
  · rw [List.mem_append, List.mem_singleton] at hu
    rw [if_neg (fun e => hu (.inr e))]
    exact h.tn u fun e => hu (.inl e)
  · by_cases e : u = y.1
    · exact ⟨y, s, hy, e.symm, by rw [if_pos e], hrow ho, hs⟩
    · have hu' : u ∈ S1 := by
        rcases List.mem_append.1 hu with hu | hu
        · exact hu
        · exact absurd (List.mem_singleton.1 hu) e
      obtain ⟨y2, s2, q1, q2, q3, q4, q5⟩ := h.ts u hu'
      exact ⟨y2, s2, q1, q2, by rw [if_neg e]; exact q3, hrow q4, q5⟩
  · obtain ⟨m, q1, q2, q3, q4⟩ := h.fs u hu
    exact ⟨m, q1, q2.same (hk.same m q2.lt q4.1), q3, q4⟩
/-- A version's referers are copied. -/
theorem CpA.putFrom {t : Rf} {m : Nat} (h : CpA w0 w D ob a1 a2 S1 S2 fT1 fF1) (_ht : t ∉ S2) (hmr : MapR w m rfV (refF D t)) (hml : w0.heap.size ≤ m) (hnew : ∀ u, fF1 u ≠ some (.map (some m))) (n1 : m ≠ a1) (n2 : m ≠ a2) (hg : w.grownBy w' (some a2)) (hm : MapR w' a2 rfV (fun u => if u = t then some (.map (some m)) else fF1 u)) : CpA w0 w' D ob a1 a2 S1 (S2 ++ [t]) fT1 (fun u => if u = t then some (.map (some m)) else fF1 u) := by
  have hk := keep_grown hg
  refine ⟨below_grown h.below hg h.below.size fun k e => by rw [← Option.some.inj e]; exact h.lows.2.2, row_keep hk h.box (fun e => row_map_ne h.box h.mf e), h.mt.same (hk.same _ h.mt.lt h.ne), hm, h.tn, fun u hu => ?_, fun u hu => ?_, fun u hu => ?_, fun u u2 m2 e1 e2 => ?_, h.ne, h.lows⟩
  · obtain ⟨y2, s2, q1, q2, q3, q4, q5⟩ := h.ts u hu
    exact ⟨y2, s2, q1, q2, q3, q4.keep hk fun p hp => map_not_row h.mf q4 p hp, q5⟩
  · rw [List.mem_append, List.mem_singleton] at hu
    rw [if_neg (fun e => hu (.inr e))]
    exact h.fn u fun e => hu (.inl e)
  · by_cases e : u = t
    · exact ⟨m, by rw [if_pos e], by rw [e]; exact hmr.same (hk.same m hmr.lt n2), hml, n1, n2⟩
    · have hu' : u ∈ S2 := by
        rcases List.mem_append.1 hu with hu | hu
        · exact hu
        · exact absurd (List.mem_singleton.1 hu) e
      obtain ⟨m2, q1, q2, q3, q4⟩ := h.fs u hu'
      exact ⟨m2, by rw [if_neg e]; exact q1, q2.same (hk.same m2 q2.lt q4.2), q3, q4⟩
  · skip
    by_cases h1 : u = t
    · by_cases h2 : u2 = t
      · rw [h1, h2]
      · rw [if_pos h1] at e1
        rw [if_neg h2] at e2
        simp only [Option.some.injEq, Value.map.injEq] at e1
        subst e1
        exact absurd e2 (hnew u2)
    · by_cases h2 : u2 = t
      · rw [if_neg h1] at e1
        rw [if_pos h2] at e2
        simp only [Option.some.injEq, Value.map.injEq] at e2
        subst e2
        exact absurd e1 (hnew u)
      · rw [if_neg h1] at e1
        rw [if_neg h2] at e2
        exact h.sep u u2 m2 e1 e2
/-- All is copied. -/
theorem CpA.done (h : CpA w0 w D ob a1 a2 S1 S2 fT1 fF1) (h1 : ∀ y ∈ D, y.1 ∈ S1) (h2 : ∀ t, behd D t ≠ [] → t ∈ S2) : GrM w (Span w0 w) ob a1 a2 fT1 fF1 D := by
  refine ⟨h.box, h.mt, h.mf, fun v hv hm => ?_, fun v s hs => ?_, fun t ht => ?_, fun t s hs => ?_, h.sep, h.ne, ⟨h.lows.1, h.box.lt⟩, ⟨h.lows.2.1, h.mt.lt⟩, ⟨h.lows.2.2, h.mf.lt⟩⟩
  · obtain ⟨y, hy, rfl⟩ := List.mem_map.1 hm
    obtain ⟨y2, s, -, -, q3, -⟩ := h.ts y.1 (h1 y hy)
    rw [q3] at hv; cases hv
  · by_cases e : v ∈ S1
    · obtain ⟨y, s2, q1, q2, q3, q4, q5⟩ := h.ts v e
      rw [q3] at hs
      cases hs
      exact ⟨y, q1, q2, q4, fun p hp => ⟨q5 p hp, q4.lt hp⟩⟩
    · rw [h.tn v e] at hs; cases hs
  · cases hb : behd D t with
    | nil => rfl
    | cons u l =>
      obtain ⟨m, q1, -⟩ := h.fs t (h2 t (by rw [hb]; simp))
      rw [q1] at ht; cases ht
  · by_cases e : t ∈ S2
    · obtain ⟨m, q1, q2, q3, q4⟩ := h.fs t e
      rw [q1] at hs
      cases hs
      exact ⟨m, rfl, q2, ⟨q3, q2.lt⟩, q4⟩
    · rw [h.fn t e] at hs; cases hs
end
end Go.Proofs.Ytcakdjnnfonijaa
