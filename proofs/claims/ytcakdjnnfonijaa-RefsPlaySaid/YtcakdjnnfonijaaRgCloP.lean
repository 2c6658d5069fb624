/- The program's closure, plainly: what its map of the told holds. -/
import Derived.Test.YtcakdjnnfonijaaRgWalk
namespace Go.Proofs.Ytcakdjnnfonijaa
open Go.RowKit

theorem wfold_sub {D : List (Rf × List Rf)} {f : Nat} (ih : ∀ v told u, u ∈ told → u ∈ wlkR D f v told) : ∀ (l o : List Rf) (u : Rf), u ∈ o → u ∈ l.foldl (wstep D f) o
  | [], _, _, h => h
  | t :: l, o, u, h => wfold_sub ih l _ u (by
    unfold wstep
    split
    · exact h
    · exact List.mem_append.2 (.inl (ih t o u h)))
theorem wlk_sub (D : List (Rf × List Rf)) : ∀ (f : Nat) (v : Rf) (told : List Rf) (u : Rf), u ∈ told → u ∈ wlkR D f v told
  | 0, _, _, _, h => h
  | f + 1, v, told, u, h => by
    rw [wlkR_succ]
    exact wfold_sub (wlk_sub D f) _ _ _ h
/-- How often t was met. -/
def cntE (E : List (Rf × Rf)) (t : Rf) : Nat := (E.filter (fun e => decide (e.2 = t))).length
def cntF (E : List (Rf × Rf)) : Rf → Option Value := fun t => if cntE E t = 0 then none else some (.int .i64 (cntE E t : Int))
theorem cntF_nil : cntF [] = fun _ => none := funext fun _ => rfl
theorem cntE_snoc (E : List (Rf × Rf)) (v t u : Rf) : cntE (E ++ [(v, t)]) u = cntE E u + if u = t then 1 else 0 := by
  unfold cntE
  rw [List.filter_append, List.length_append]
  by_cases h : u = t
  · subst h; simp
  · have h2 : ¬ t = u := fun e => h e.symm
    simp [h, h2]
theorem cntF_get (E : List (Rf × Rf)) (t : Rf) : (cntF E t).getD (.int .i64 0) = .int .i64 (cntE E t : Int) := by
  unfold cntF
  split
  · next h => rw [h]; rfl
  · rfl
theorem cntF_snoc (E : List (Rf × Rf)) (v t : Rf) (u : Rf) : (if u = t then some (Value.int .i64 ((cntE E t : Int) + 1)) else cntF E u) = cntF (E ++ [(v, t)]) u := by
  unfold cntF
  rw [cntE_snoc]
  by_cases h : u = t
  · subst h
    simp
  · simp [h]
structure EOk (D : List (Rf × List Rf)) (E : List (Rf × Rf)) : Prop where
  one : E.Nodup
  src : ∀ e ∈ E, e.1 ∈ D.map (·.1)
theorem EOk.cnt {D : List (Rf × List Rf)} {E : List (Rf × Rf)} (h : EOk D E) (t : Rf) : cntE E t ≤ D.length := by
  have h1 : ((E.filter (fun e => decide (e.2 = t))).map (·.1)).Nodup := by
    refine List.pairwise_map.2 (List.Pairwise.imp_of_mem ?_ (h.one.filter _))
    intro a b ha hb hab e
    have h3 : a.2 = t := by simpa using (List.mem_filter.1 ha).2
    have h4 : b.2 = t := by simpa using (List.mem_filter.1 hb).2
    exact hab (Prod.ext e (h3.trans h4.symm))
  have := nodup_len _ (D.map (·.1)) h1 fun u hu => by
    obtain ⟨e, he, rfl⟩ := List.mem_map.1 hu
    exact h.src e (List.mem_filter.1 he).1
  simpa [cntE] using this
structure CE (D : List (Rf × List Rf)) (rk : Rf → Nat) (root : Rf) (E : List (Rf × Rf)) (out : List Rf) (r : Nat) : Prop where
  ok : EOk D E
  src : ∀ e ∈ E, e.1 = root ∨ 0 < cntE E e.1
  vis : ∀ u, rk u < r → (u ∈ out ↔ 0 < cntE E u)
structure Gw (rk : Rf → Nat) (r : Nat) (E0 E : List (Rf × Rf)) : Prop where
  same : ∀ u, r ≤ rk u → cntE E u = cntE E0 u
  mono : ∀ u, cntE E0 u ≤ cntE E u
  src : ∀ e ∈ E, e ∈ E0 ∨ rk e.1 ≤ r
theorem Gw.refl (rk : Rf → Nat) (r : Nat) (E : List (Rf × Rf)) : Gw rk r E E := ⟨fun _ _ => rfl, fun _ => Nat.le_refl _, fun _ h => .inl h⟩
theorem Gw.trans {rk : Rf → Nat} {r : Nat} {A B C : List (Rf × Rf)} (h : Gw rk r A B) (k : Gw rk r B C) : Gw rk r A C :=
  ⟨fun u hu => (k.same u hu).trans (h.same u hu), fun u => Nat.le_trans (h.mono u) (k.mono u), fun e he => (k.src e he).elim (h.src e) .inr⟩
theorem Gw.wide {rk : Rf → Nat} {r r' : Nat} {A B : List (Rf × Rf)} (h : Gw rk r A B) (hr : r ≤ r') : Gw rk r' A B :=
  ⟨fun u hu => h.same u (Nat.le_trans hr hu), h.mono, fun e he => (h.src e he).imp id fun h => Nat.le_trans h hr⟩
/-- A walk of v may begin. -/
structure CPre (D : List (Rf × List Rf)) (rk : Rf → Nat) (root : Rf) (E : List (Rf × Rf)) (out : List Rf) (v : Rf) : Prop where
  ce : CE D rk root E out (rk v)
  tok : TOk D out
  fresh : ∀ t, (v, t) ∉ E
  seen : v = root ∨ 0 < cntE E v
  deep : rk v ≤ rk root
/-- In the walk of v, k targets are told. -/
structure CMid (D : List (Rf × List Rf)) (rk : Rf → Nat) (root : Rf) (E0 E : List (Rf × Rf)) (out : List Rf) (v : Rf) (tg : List Rf) (k : Nat) : Prop where
  ce : CE D rk root E out (rk v)
  tok : TOk D out
  mine : ∀ t, (v, t) ∈ E → t ∈ tg.take k
  seen : v = root ∨ 0 < cntE E v
  gw : Gw rk (rk v) E0 E
section
variable {D : List (Rf × List Rf)} {rk : Rf → Nat} {root : Rf} {E0 E : List (Rf × Rf)} {out : List Rf} {v t : Rf} {tg : List Rf} {k : Nat}
theorem CPre.start (h : CPre D rk root E out v) (tg : List Rf) : CMid D rk root E E out v tg 0 := ⟨h.ce, h.tok, fun t ht => absurd ht (h.fresh t), h.seen, Gw.refl _ _ _⟩
theorem CMid.bump (h : CMid D rk root E0 E out v tg k) (hk : k < tg.length) (ht : tg[k] = t) (hn : tg.Nodup) (hv : v ∈ D.map (·.1)) (hr : rk t < rk v) : EOk D (E ++ [(v, t)]) ∧ (∀ e ∈ E ++ [(v, t)], e.1 = root ∨ 0 < cntE (E ++ [(v, t)]) e.1) ∧ Gw rk (rk v) E0 (E ++ [(v, t)]) ∧ (∀ s, (v, s) ∈ E ++ [(v, t)] → s ∈ tg.take (k + 1)) ∧ (v = root ∨ 0 < cntE (E ++ [(v, t)]) v) := by
  have hmono : ∀ u, cntE E u ≤ cntE (E ++ [(v, t)]) u := fun u => by rw [cntE_snoc]; omega
  have hnot : (v, t) ∉ E := fun hm => by
    have := h.mine t hm
    obtain ⟨j, hj, e⟩ := List.mem_iff_getElem.1 this
    rw [List.length_take] at hj
    rw [List.getElem_take, ← ht] at e
    exact (List.pairwise_iff_getElem.1 hn) j k (by omega) hk (by omega) e
  refine ⟨⟨List.nodup_append.2 ⟨h.ce.ok.one, by simp, fun a ha b hb e => ?_⟩, fun e he => ?_⟩, fun e he => ?_, h.gw.trans ⟨fun u hu => ?_, hmono, fun e he => ?_⟩, fun s hs => ?_, h.seen.imp id fun h2 => Nat.lt_of_lt_of_le h2 (hmono v)⟩
  · rw [List.mem_singleton.1 hb] at e
    subst e
    exact hnot ha
  · rcases List.mem_append.1 he with he | he
    · exact h.ce.ok.src e he
    · rw [List.mem_singleton.1 he]; exact hv
  · rcases List.mem_append.1 he with he | he
    · exact (h.ce.src e he).imp id fun h2 => Nat.lt_of_lt_of_le h2 (hmono _)
    · rw [List.mem_singleton.1 he]
      exact h.seen.imp id fun h2 => Nat.lt_of_lt_of_le h2 (hmono _)
  · rw [cntE_snoc, if_neg (fun e => by subst e; omega), Nat.add_zero]
  · rcases List.mem_append.1 he with he | he
    · exact .inl he
    · rw [List.mem_singleton.1 he]; exact .inr (Nat.le_refl _)
  · rw [mem_take_succ hk]
    rcases List.mem_append.1 hs with hs | hs
    · exact .inl (h.mine s hs)
    · have := List.mem_singleton.1 hs
      simp only [Prod.mk.injEq] at this
      rw [this.2]; exact .inr ht.symm
/-- A target that was met. -/
theorem CMid.again (h : CMid D rk root E0 E out v tg k) (f : Nat) (hk : k < tg.length) (ht : tg[k] = t) (hn : tg.Nodup) (hv : v ∈ D.map (·.1)) (hr : rk t < rk v) (hc : 0 < cntE E t) : CMid D rk root E0 (E ++ [(v, t)]) out v tg (k + 1) ∧ wstep D f out t = out := by
  obtain ⟨k1, k2, k3, k4, k5⟩ := h.bump hk ht hn hv hr
  refine ⟨⟨⟨k1, k2, fun u hu => (h.ce.vis u hu).trans ?_⟩, h.tok, k4, k5, k3⟩, ?_⟩
  · rw [cntE_snoc]
    by_cases e : u = t
    · subst e; simp; omega
    · rw [if_neg e]; exact Iff.rfl
  · unfold wstep
    rw [if_pos (memB_iff.2 ((h.ce.vis t hr).2 hc))]
/-- A target that is new: its walk may begin. -/
theorem CMid.new (h : CMid D rk root E0 E out v tg k) (hk : k < tg.length) (ht : tg[k] = t) (hn : tg.Nodup) (hv : v ∈ D.map (·.1)) (hr : rk t < rk v) (hd : rk v ≤ rk root) (hc : cntE E t = 0) : CPre D rk root (E ++ [(v, t)]) out t ∧ ¬ t ∈ out := by
  obtain ⟨k1, k2, k3, k4, k5⟩ := h.bump hk ht hn hv hr
  refine ⟨⟨⟨k1, k2, fun u hu => (h.ce.vis u (Nat.lt_trans hu hr)).trans ?_⟩, h.tok, fun s hs => ?_, .inr ?_, by omega⟩, fun hm => ?_⟩
  · rw [cntE_snoc, if_neg (fun e => by subst e; omega)]
    exact Iff.rfl
  · rcases List.mem_append.1 hs with hs | hs
    · rcases h.ce.src _ hs with e | e
      · dsimp only at e
        subst e; omega
      · dsimp only at e
        omega
    · have := List.mem_singleton.1 hs
      simp only [Prod.mk.injEq] at this
      have := this.1
      subst this; omega
  · rw [cntE_snoc, if_pos rfl]; omega
  · have := (h.ce.vis t hr).1 hm
    omega
/-- .. and its walk has ended. -/
theorem CMid.done {E2 : List (Rf × Rf)} {f : Nat} (h : CMid D rk root E0 E out v tg k) (hrk : Rank D rk) (hk : k < tg.length) (ht : tg[k] = t) (hn : tg.Nodup) (hv : v ∈ D.map (·.1)) (htD : t ∈ D.map (·.1)) (hr : rk t < rk v) (hc : cntE E t = 0) (ce2 : CE D rk root E2 (wlkR D f t out) (rk t)) (g2 : Gw rk (rk t) (E ++ [(v, t)]) E2) :
    CMid D rk root E0 E2 (wlkR D f t out ++ [t]) v tg (k + 1) ∧ wstep D f out t = wlkR D f t out ++ [t] := by
  obtain ⟨k1, k2, k3, k4, k5⟩ := h.bump hk ht hn hv hr
  have hno : ¬ t ∈ out := fun hm => by have := (h.ce.vis t hr).1 hm; omega
  obtain ⟨w1, w2⟩ := wlk_ok hrk f t out h.tok
  have hnw : t ∉ wlkR D f t out := fun hm => (w2 t hm).elim hno fun h => Nat.lt_irrefl _ h
  have hct : cntE E2 t = 1 := by
    rw [g2.same t (Nat.le_refl _), cntE_snoc, if_pos rfl, hc]
  refine ⟨⟨⟨ce2.ok, ce2.src, fun u hu => ?_⟩, ⟨List.nodup_append.2 ⟨w1.1, by simp, fun a ha b hb e => ?_⟩, fun u hu => ?_⟩, fun s hs => ?_, k5.imp id fun h2 => Nat.lt_of_lt_of_le h2 (g2.mono v), k3.trans (g2.wide (by omega))⟩, ?_⟩
  · rw [List.mem_append, List.mem_singleton]
    by_cases e : u = t
    · subst e
      rw [hct]; simp
    · by_cases hut : rk u < rk t
      · rw [← ce2.vis u hut]
        simp [e]
      · rw [g2.same u (by omega), cntE_snoc, if_neg e, Nat.add_zero, ← h.ce.vis u hu]
        constructor
        · rintro (h1 | h1)
          · exact (w2 u h1).elim id fun h => absurd h hut
          · exact absurd h1 e
        · exact fun h1 => .inl (wlk_sub D f t out u h1)
  · rw [List.mem_singleton.1 hb] at e
    subst e
    exact hnw ha
  · rcases List.mem_append.1 hu with hu | hu
    · exact w1.2 u hu
    · rw [List.mem_singleton.1 hu]; exact htD
  · rcases g2.src _ hs with h1 | h1
    · exact k4 s h1
    · dsimp only at h1; omega
  · unfold wstep
    rw [if_neg (fun hm => hno (memB_iff.1 hm))]
end
end Go.Proofs.Ytcakdjnnfonijaa
