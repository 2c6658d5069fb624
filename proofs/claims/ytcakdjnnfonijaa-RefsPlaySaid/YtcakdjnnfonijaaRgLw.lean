/- RefsPlay's law in its own words: the graph and the copy that was left behind, and the document's, with their blocks apart; each call keeps it. -/
import Derived.Test.YtcakdjnnfonijaaRgTells
import Derived.Test.YtcakdjnnfonijaaRgCopy
namespace Go.Proofs.Ytcakdjnnfonijaa
open Go.RowKit

/-- The graph g and the document's r say D; old and was say D'; their blocks are apart, all of them in F. -/
structure LwM (w : World) (F : Nat → Prop) (gb rb ob wb : Nat) (T T' U : Nat → Prop) (D D' : List (Rf × List Rf)) : Prop where
  g : GrS w T gb D
  o : GrS w T' ob D'
  r : DocS w U rb D
  s : DocS w U wb D'
  tt : ∀ k, T k → ¬ T' k
  tu : ∀ k, U k → ¬ T k ∧ ¬ T' k ∧ k ≠ rb ∧ k ≠ wb
  tr : ¬ T rb ∧ ¬ T' rb ∧ ¬ T wb ∧ ¬ T' wb
  ne : rb ≠ wb
  foot : ∀ k, (T k ∨ T' k ∨ U k ∨ k = rb ∨ k = wb) → F k
structure Lw (w0 w : World) (F : Nat → Prop) (gb rb ob wb : Nat) (D D' : List (Rf × List Rf)) (s : Nat) : Prop where
  below : Below w0.heap.size w0 w
  lim : ∀ k, F k → w0.heap.size ≤ k ∧ k < w.heap.size
  m : ∃ T T' U, LwM w F gb rb ob wb T T' U D D'
  iD : ∃ rk, GInv D rk s
  iD' : ∃ rk, GInv D' rk s
  rt : ∀ x ∈ D, rightR x.1 = true
  rt' : ∀ x ∈ D', rightR x.1 = true
section
variable {w0 w w' : World} {F : Nat → Prop} {gb rb ob wb : Nat} {D D' : List (Rf × List Rf)} {s : Nat}
theorem Lw.keep {X : Nat → Prop} (h : Lw w0 w F gb rb ob wb D D' s) (hk : KeepA X w w') (hX : ∀ k, F k → ¬ X k) (hb : ∀ k, X k → w0.heap.size ≤ k) : Lw w0 w' F gb rb ob wb D D' s := by
  obtain ⟨T, T', U, m⟩ := h.m
  have f1 : ∀ k, T k → ¬ X k := fun k q => hX k (m.foot k (.inl q))
  have f2 : ∀ k, T' k → ¬ X k := fun k q => hX k (m.foot k (.inr (.inl q)))
  have f3 : ∀ k, U k → ¬ X k := fun k q => hX k (m.foot k (.inr (.inr (.inl q))))
  have f4 := hX rb (m.foot rb (.inr (.inr (.inr (.inl rfl)))))
  have f5 := hX wb (m.foot wb (.inr (.inr (.inr (.inr rfl)))))
  exact ⟨h.below.trans (hk.below h.below.size hb), fun k q => ⟨(h.lim k q).1, Nat.lt_of_lt_of_le (h.lim k q).2 hk.size⟩, ⟨T, T', U, m.g.keep hk f1, m.o.keep hk f2, m.r.keep hk f3 f4, m.s.keep hk f3 f5, m.tt, m.tu, m.tr, m.ne, m.foot⟩, h.iD, h.iD', h.rt, h.rt'⟩
theorem Lw.later (h : Lw w0 w F gb rb ob wb D D' s) (hb : Below w.heap.size w w') : Lw w0 w' F gb rb ob wb D D' s :=
  h.keep (X := fun _ => False) (KeepA.of_below hb) (fun _ _ h => h) (fun _ h => h.elim)
theorem Lw.more {s' : Nat} (h : Lw w0 w F gb rb ob wb D D' s) (hs : s ≤ s') : Lw w0 w F gb rb ob wb D D' s' :=
  ⟨h.below, h.lim, h.m, by obtain ⟨rk, q⟩ := h.iD; exact ⟨rk, q.more hs⟩, by obtain ⟨rk, q⟩ := h.iD'; exact ⟨rk, q.more hs⟩, h.rt, h.rt'⟩
theorem GInv.small {D : List (Rf × List Rf)} {rk : Rf → Nat} {s : Nat} (h : GInv D rk s) (hs : s ≤ 60) : D.length ≤ 1000 ∧ (∀ x ∈ D, x.2.length ≤ 1000) := ⟨by have := h.len; omega, fun x hx => by have := h.tgl x hx; omega⟩
theorem GInv.low60 {D : List (Rf × List Rf)} {rk : Rf → Nat} {s : Nat} (h : GInv D rk s) (hs : s ≤ 60) (v : Rf) : Rank D (fun u => min (rk u) 60) ∧ (fun u => min (rk u) 60) v < 201 := by
  refine ⟨fun x hx t ht => ?_, by show min _ _ < _; omega⟩
  obtain ⟨q1, q2⟩ := h.rank x hx t ht
  refine ⟨q1, ?_⟩
  have := h.low x hx
  show min _ _ < min _ _
  omega
theorem Lw.asked (h : Lw w0 w F gb rb ob wb D D' s) (hs : s ≤ 60) (v : Rf) : Calls Try.prog 11 #[.pointer (some ⟨rb, 0, none⟩), .agg #[.string v.1, .int .i64 v.2]] w fun e w' => e = .returned (.int .i64 (askR D v)) ∧ Below w.heap.size w w' := by
  obtain ⟨T, T', U, m⟩ := h.m
  obtain ⟨rk, i⟩ := h.iD
  exact docAsked_any w U rb D m.r (i.small hs).1 v
theorem Lw.find (h : Lw w0 w F gb rb ob wb D D' s) (hs : s ≤ 60) (v : Rf) : Calls Try.prog 12 #[.pointer (some ⟨rb, 0, none⟩), .agg #[.string v.1, .int .i64 v.2]] w fun e w' => e = .returned (.int .i64 (findR D v)) ∧ Below w.heap.size w w' := by
  obtain ⟨T, T', U, m⟩ := h.m
  obtain ⟨rk, i⟩ := h.iD
  exact docfind_any w U rb D m.r (i.small hs).1 v
theorem Lw.has (h : Lw w0 w F gb rb ob wb D D' s) (v : Rf) : Calls Try.prog 17 #[.pointer (some ⟨gb, 0, none⟩), .agg #[.string v.1, .int .i64 v.2]] w fun e w' => e = .returned (.bool (memB v (D.map (·.1)))) ∧ Below w.heap.size w w' := by
  obtain ⟨T, T', U, m⟩ := h.m
  exact ghas_any w T gb D m.g v
theorem Lw.to (h : Lw w0 w F gb rb ob wb D D' s) (hs : s ≤ 60) (v : Rf) : Calls Try.prog 18 #[.pointer (some ⟨gb, 0, none⟩), .agg #[.string v.1, .int .i64 v.2]] w fun e w' => ∃ vv, e = .returned (.tuple #[vv, .int .i64 (askR D v)]) ∧ (askR D v ≠ 0 → vv = .slice none 0 0) ∧ (askR D v = 0 → ∃ x ∈ D, x.1 = v ∧ OwnRf w' vv x.2 ∧ ∀ g, vv.ownBlock = some g → w.heap.size ≤ g) ∧ Below w.heap.size w w' := by
  obtain ⟨T, T', U, m⟩ := h.m
  obtain ⟨rk, i⟩ := h.iD
  exact gto_any w T gb D m.g (i.small hs).2 v
theorem Lw.from_ (h : Lw w0 w F gb rb ob wb D D' s) (hs : s ≤ 60) (v : Rf) : Calls Try.prog 19 #[.pointer (some ⟨gb, 0, none⟩), .agg #[.string v.1, .int .i64 v.2]] w fun e w' => ∃ vv, e = .returned (.tuple #[vv, .int .i64 (askR D v)]) ∧ (askR D v ≠ 0 → vv = .slice none 0 0) ∧ (askR D v = 0 → OwnRf w' vv (behd D v) ∧ ∀ g, vv.ownBlock = some g → w.heap.size ≤ g) ∧ Below w.heap.size w w' := by
  obtain ⟨T, T', U, m⟩ := h.m
  obtain ⟨rk, i⟩ := h.iD
  exact gfrom_any w T gb D m.g i.asc (i.small hs).1 v
theorem Lw.clo (h : Lw w0 w F gb rb ob wb D D' s) (hs : s ≤ 60) (v : Rf) : Calls Try.prog 21 #[.pointer (some ⟨gb, 0, none⟩), .agg #[.string v.1, .int .i64 v.2]] w fun e w' => ∃ vv, e = .returned (.tuple #[vv, .int .i64 (askR D v)]) ∧ (askR D v ≠ 0 → vv = .slice none 0 0) ∧ (askR D v = 0 → OwnRf w' vv (wlkR D 201 v []) ∧ ∀ g, vv.ownBlock = some g → w.heap.size ≤ g) ∧ Below w.heap.size w w' := by
  obtain ⟨T, T', U, m⟩ := h.m
  obtain ⟨rk, i⟩ := h.iD
  obtain ⟨q1, q2⟩ := i.low60 hs v
  exact gclo_any w T gb D m.g (i.small hs).1 i.lks (i.small hs).2 _ q1 v q2
theorem Lw.dfrom (h : Lw w0 w F gb rb ob wb D D' s) (hs : s ≤ 60) (v : Rf) : Calls Try.prog 20 #[.pointer (some ⟨rb, 0, none⟩), .agg #[.string v.1, .int .i64 v.2]] w fun e w' => ∃ vv, e = .returned vv ∧ OwnRf w' vv (behd D v) ∧ (∀ g, vv.ownBlock = some g → w.heap.size ≤ g) ∧ Below w.heap.size w w' := by
  obtain ⟨T, T', U, m⟩ := h.m
  obtain ⟨rk, i⟩ := h.iD
  exact docfrom_any w U rb D m.r (i.small hs).1 i.lks (i.small hs).2 v
theorem ask_in {D : List (Rf × List Rf)} {v : Rf} (h : askR D v = 0) : v ∈ D.map (·.1) := by
  unfold askR at h
  split at h
  · split at h
    · exact memB_iff.1 (by assumption)
    · cases h
  · cases h
theorem Lw.dclo (h : Lw w0 w F gb rb ob wb D D' s) (hs : s ≤ 60) (v : Rf) (hv : askR D v = 0) : Calls Try.prog 22 #[.pointer (some ⟨rb, 0, none⟩), .agg #[.string v.1, .int .i64 v.2]] w fun e w' => ∃ vv, e = .returned vv ∧ OwnRf w' vv (wlkR D 201 v []) ∧ (∀ g, vv.ownBlock = some g → w.heap.size ≤ g) ∧ Below w.heap.size w w' := by
  obtain ⟨T, T', U, m⟩ := h.m
  obtain ⟨rk, i⟩ := h.iD
  obtain ⟨q1, q2⟩ := i.low60 hs v
  exact docclo_any w U rb D m.r (i.small hs).1 i.lks (i.small hs).2 _ q1 v (ask_in hv) q2
theorem behd_len (D : List (Rf × List Rf)) (v : Rf) : (behd D v).length ≤ D.length := by
  unfold behd
  rw [List.length_map]
  exact List.length_filter_le _ _
theorem Lw.clolen (h : Lw w0 w F gb rb ob wb D D' s) (hs : s ≤ 60) (v : Rf) : (wlkR D 201 v []).length ≤ 1000000 := by
  obtain ⟨rk, i⟩ := h.iD
  have := ((wlk_ok i.rank 201 v [] ⟨List.nodup_nil, fun u hu => (by cases hu)⟩).1).len
  have := (i.small hs).1
  omega
theorem Lw.tells (h : Lw w0 w F gb rb ob wb D D' s) (hs : s ≤ 60) : Calls Try.prog 24 #[.pointer (some ⟨gb, 0, none⟩), .pointer (some ⟨rb, 0, none⟩)] w fun e w' => e = .returned (.bool true) ∧ Below w.heap.size w w' := by
  obtain ⟨T, T', U, m⟩ := h.m
  obtain ⟨rk, i⟩ := h.iD
  exact tells_any w T gb D m.g i.asc i.lks (i.small hs).1 U rb m.r
theorem Lw.swap (h : Lw w0 w F gb rb ob wb D D' s) : Lw w0 w F ob wb gb rb D' D s := by
  obtain ⟨T, T', U, m⟩ := h.m
  refine ⟨h.below, h.lim, ⟨T', T, U, m.o, m.g, m.s, m.r, fun k a b => m.tt k b a, fun k q => ⟨(m.tu k q).2.1, (m.tu k q).1, (m.tu k q).2.2.2, (m.tu k q).2.2.1⟩, ⟨m.tr.2.2.2, m.tr.2.2.1, m.tr.2.1, m.tr.1⟩, fun e => m.ne e.symm, fun k q => m.foot k ?_⟩, h.iD', h.iD, h.rt', h.rt⟩
  rcases q with q | q | q | q | q
  · exact .inr (.inl q)
  · exact .inl q
  · exact .inr (.inr (.inl q))
  · exact .inr (.inr (.inr (.inr q)))
  · exact .inr (.inr (.inr (.inl q)))
/-- The document's rows. -/
theorem Lw.rows (h : Lw w0 w F gb rb ob wb D D' s) : ∃ a c b off, w.cell? ⟨rb, 0, none⟩ = some (.slice a D.length c) ∧ (0 < D.length → a = some ⟨b, off, none⟩ ∧ b < w.heap.size) ∧ ∀ k (hk : k < D.length), ∃ ta tc, ∀ W, Below w.heap.size w W → LkR W b (off + k * 3) D[k] ta tc := by
  obtain ⟨T, T', U, m⟩ := h.m
  obtain ⟨vv, ls, r⟩ := m.r
  obtain ⟨a, c, b, off, e, q1, q2⟩ := r.view
  exact ⟨a, c, b, off, by have := r.box.cell 0; rw [e] at this; exact this, q1, q2⟩
/-- Whose blocks no other thing lies in. -/
theorem Lw.apart (h : Lw w0 w F gb rb ob wb D D' s) {k : Nat} (hk : w.heap.size ≤ k ∨ k < w0.heap.size) : ¬ F k := fun q => by
  have := h.lim k q
  omega
theorem addR_zero {D : List (Rf × List Rf)} {v : Rf} {tg : List Rf} (h : addR D v tg = 0) : rightR v = true ∧ tgt tg = 0 ∧ v ∉ D.map (·.1) ∧ ∀ t ∈ tg, t ∈ D.map (·.1) := by
  unfold addR at h
  split at h
  · rename_i h1
    split at h
    · rename_i h2
      split at h
      · cases h
      · rename_i h3
        split at h
        · rename_i h4
          exact ⟨h1, h2, memB_not.1 (by simpa using h3), fun t ht => memB_iff.1 (List.all_eq_true.1 h4 t ht)⟩
        · cases h
    · rename_i h2
      exact absurd h h2
  · cases h
/-- Add, of the graph and then of the document's. -/
theorem Lw.add (h : Lw w0 w F gb rb ob wb D D' s) (hs : s ≤ 60) (v : Rf) (a : Option Addr) (n c : Nat) (tg : List Rf) (hl : tg.length = n) (hb : n ≤ 1000) (hr : RdRf w a tg) (hap : ∀ b off, a = some ⟨b, off, none⟩ → 0 < n → ¬ F b) :
    Calls Try.prog 13 #[.pointer (some ⟨gb, 0, none⟩), .agg #[.string v.1, .int .i64 v.2], .slice a n c] w fun e w' => e = .returned (.int .i64 (addR D v tg)) ∧ KeepA F w w' ∧ (∀ a2 c2, RdRf w' a2 tg →
      Calls Try.prog 14 #[.pointer (some ⟨rb, 0, none⟩), .agg #[.string v.1, .int .i64 v.2], .slice a2 n c2] w' fun e2 w2 => e2 = .returned (.int .i64 (addR D v tg)) ∧ KeepA F w' w2 ∧ ∃ F2 D2, (∀ k, F2 k → F k ∨ w.heap.size ≤ k) ∧ Lw w0 w2 F2 gb rb ob wb D2 D' (s + 1)) := by
  obtain ⟨T, T', U, m⟩ := h.m
  obtain ⟨rk, i⟩ := h.iD
  refine (gadd_any w T gb D m.g v a n c tg hl hb hr fun b off e h0 q => hap b off e h0 (m.foot b (.inl q))).mono ?_
  rintro e w1 ⟨rfl, k1, q1, q2⟩
  have f1 : ∀ k, T k → F k := fun k q => m.foot k (.inl q)
  have hrF : F rb := m.foot rb (.inr (.inr (.inr (.inl rfl))))
  have hwF : F wb := m.foot wb (.inr (.inr (.inr (.inr rfl))))
  refine ⟨rfl, k1.mono f1, fun a2 c2 hr2 => ?_⟩
  have d1 : DocS w1 U rb D := m.r.keep k1 (fun k q => (m.tu k q).1) m.tr.1
  have e1 : DocS w1 U wb D' := m.s.keep k1 (fun k q => (m.tu k q).1) m.tr.2.2.1
  have o1 : GrS w1 T' ob D' := m.o.keep k1 fun k q t => m.tt k t q
  refine (docadd_any w1 U rb D d1 (fun q => (m.tu rb q).2.2.1 rfl) (i.small hs).1 v a2 n c2 tg hl hb hr2).mono ?_
  rintro e w2 ⟨rfl, k2, q3, q4⟩
  have k2F : KeepA F w1 w2 := k2.mono fun k e => by rw [e]; exact hrF
  refine ⟨rfl, k2F, ?_⟩
  by_cases h0 : addR D v tg = 0
  · obtain ⟨z1, z2, z3, z4⟩ := addR_zero h0
    have g1 := q2 h0 (insD D v tg) fun x => mem_insD x
    have r2 := q4 h0
    refine ⟨fun k => F k ∨ (w.heap.size ≤ k ∧ k < w2.heap.size), insD D v tg, fun k q => q.imp id fun q => q.1, ?_⟩
    have hsz1 := k1.size
    have hsz2 := k2.size
    have sp1 : ∀ k, Span w w1 k → w.heap.size ≤ k ∧ k < w1.heap.size := fun k q => q
    have sp2 : ∀ k, Span w1 w2 k → w1.heap.size ≤ k ∧ k < w2.heap.size := fun k q => q
    have lm : ∀ k, F k → k < w.heap.size := fun k q => (h.lim k q).2
    have lT : ∀ k, T k → k < w.heap.size := fun k q => lm k (f1 k q)
    have lT' : ∀ k, T' k → k < w.heap.size := fun k q => lm k (m.foot k (.inr (.inl q)))
    have lU : ∀ k, U k → k < w.heap.size := fun k q => lm k (m.foot k (.inr (.inr (.inl q))))
    have lr : rb < w.heap.size := lm rb hrF
    have lw : wb < w.heap.size := lm wb hwF
    refine ⟨(h.below.trans (k1.below h.below.size fun k q => (h.lim k (f1 k q)).1)).trans (k2.below (by have := h.below.size; omega) fun k e => by rw [e]; exact (h.lim rb hrF).1), fun k q => ?_, ⟨fun k => T k ∨ Span w w1 k, T', fun k => U k ∨ Span w1 w2 k, ?_, ?_, r2, ?_, ?_, ?_, ?_, m.ne, ?_⟩, i.add z3 z2 z4, ?_, ?_, h.rt'⟩
    · rcases q with q | q
      · have := h.lim k q
        omega
      · have := h.below.size
        omega
    · refine g1.keep k2 fun k q e => ?_
      subst e
      rcases q with q | q
      · exact m.tr.1 q
      · have := sp1 _ q; omega
    · refine o1.keep k2 fun k q e => ?_
      subst e
      exact m.tr.2.1 q
    · exact (e1.keep k2 (fun k q e => (m.tu k q).2.2.1 e) (fun e => m.ne e.symm)).wider fun k q => .inl q
    · rintro k (q | q) t
      · exact m.tt k q t
      · have := sp1 _ q; have := lT' _ t; omega
    · rintro k (q | q)
      · obtain ⟨y1, y2, y3, y4⟩ := m.tu k q
        refine ⟨?_, y2, y3, y4⟩
        rintro (t | t)
        · exact y1 t
        · have := sp1 _ t; have := lU _ q; omega
      · have := sp2 _ q
        refine ⟨?_, fun t => by have := lT' _ t; omega, by omega, by omega⟩
        rintro (t | t)
        · have := lT _ t; omega
        · have := sp1 _ t; omega
    · refine ⟨?_, m.tr.2.1, ?_, m.tr.2.2.2⟩
      · rintro (t | t)
        · exact m.tr.1 t
        · have := sp1 _ t; omega
      · rintro (t | t)
        · exact m.tr.2.2.1 t
        · have := sp1 _ t; omega
    · rintro k ((q | q) | q | (q | q) | q | q)
      · exact .inl (f1 k q)
      · have := sp1 _ q
        exact .inr (by omega)
      · exact .inl (m.foot k (.inr (.inl q)))
      · exact .inl (m.foot k (.inr (.inr (.inl q))))
      · have := sp2 _ q
        exact .inr (by omega)
      · exact .inl (q ▸ hrF)
      · exact .inl (q ▸ hwF)
    · obtain ⟨rk', i'⟩ := h.iD'
      exact ⟨rk', i'.more (Nat.le_succ s)⟩
    · intro x hx
      rcases (mem_insD x).1 hx with rfl | hx
      · exact z1
      · exact h.rt x hx
  · exact ⟨F, D, fun k q => .inl q, ((h.later (q1 h0)).later (q3 h0)).more (Nat.le_succ s)⟩
theorem remR_zero {D : List (Rf × List Rf)} {v : Rf} (h : remR D v = 0) : behd D v = [] := by
  unfold remR at h
  split at h
  · split at h
    · assumption
    · cases h
  · rename_i h2
    exact absurd h h2
/-- Remove, of the graph and then of the document's. -/
theorem Lw.rem (h : Lw w0 w F gb rb ob wb D D' s) (hs : s ≤ 60) (v : Rf) :
    Calls Try.prog 15 #[.pointer (some ⟨gb, 0, none⟩), .agg #[.string v.1, .int .i64 v.2]] w fun e w' => e = .returned (.int .i64 (remR D v)) ∧ KeepA F w w' ∧
      Calls Try.prog 16 #[.pointer (some ⟨rb, 0, none⟩), .agg #[.string v.1, .int .i64 v.2]] w' fun e2 w2 => e2 = .returned (.int .i64 (remR D v)) ∧ KeepA F w' w2 ∧ ∃ F2 D2, (∀ k, F2 k → F k ∨ w.heap.size ≤ k) ∧ Lw w0 w2 F2 gb rb ob wb D2 D' (s + 1) := by
  obtain ⟨T, T', U, m⟩ := h.m
  obtain ⟨rk, i⟩ := h.iD
  refine (grem_any w T gb D m.g i.lks (i.small hs).2 v).mono ?_
  rintro e w1 ⟨rfl, k1, q1, q2⟩
  have f1 : ∀ k, T k → F k := fun k q => m.foot k (.inl q)
  have hrF : F rb := m.foot rb (.inr (.inr (.inr (.inl rfl))))
  have hwF : F wb := m.foot wb (.inr (.inr (.inr (.inr rfl))))
  refine ⟨rfl, k1.mono f1, ?_⟩
  have d1 : DocS w1 U rb D := m.r.keep k1 (fun k q => (m.tu k q).1) m.tr.1
  have e1 : DocS w1 U wb D' := m.s.keep k1 (fun k q => (m.tu k q).1) m.tr.2.2.1
  have o1 : GrS w1 T' ob D' := m.o.keep k1 fun k q t => m.tt k t q
  refine (docrem_any w1 U rb D d1 (fun q => (m.tu rb q).2.2.1 rfl) (i.small hs).1 i.lks (i.small hs).2 v).mono ?_
  rintro e w2 ⟨rfl, k2, q3, q4⟩
  have k2F : KeepA F w1 w2 := k2.mono fun k e => by rw [e]; exact hrF
  refine ⟨rfl, k2F, ?_⟩
  by_cases h0 : remR D v = 0
  · have hbe := remR_zero h0
    obtain ⟨p, hp, rfl, r2⟩ := q4 h0
    have g1 := q2 h0 (remD D p) fun x => mem_remD i.asc.nodup hp x
    refine ⟨fun k => F k ∨ (w.heap.size ≤ k ∧ k < w2.heap.size), remD D p, fun k q => q.imp id fun q => q.1, ?_⟩
    have hsz1 := k1.size
    have hsz2 := k2.size
    have sp2 : ∀ k, Span w1 w2 k → w1.heap.size ≤ k ∧ k < w2.heap.size := fun k q => q
    have lm : ∀ k, F k → k < w.heap.size := fun k q => (h.lim k q).2
    have lT : ∀ k, T k → k < w.heap.size := fun k q => lm k (f1 k q)
    have lT' : ∀ k, T' k → k < w.heap.size := fun k q => lm k (m.foot k (.inr (.inl q)))
    have lr : rb < w.heap.size := lm rb hrF
    have lw : wb < w.heap.size := lm wb hwF
    refine ⟨(h.below.trans (k1.below h.below.size fun k q => (h.lim k (f1 k q)).1)).trans (k2.below (by have := h.below.size; omega) fun k e => by rw [e]; exact (h.lim rb hrF).1), fun k q => ?_, ⟨T, T', fun k => U k ∨ Span w1 w2 k, ?_, ?_, r2, ?_, m.tt, ?_, m.tr, m.ne, ?_⟩, ⟨rk, (i.rem hp hbe).more (Nat.le_succ s)⟩, ?_, ?_, h.rt'⟩
    · rcases q with q | q
      · have := h.lim k q
        omega
      · have := h.below.size
        omega
    · refine g1.keep k2 fun k q e => ?_
      subst e
      exact m.tr.1 q
    · refine o1.keep k2 fun k q e => ?_
      subst e
      exact m.tr.2.1 q
    · exact (e1.keep k2 (fun k q e => (m.tu k q).2.2.1 e) (fun e => m.ne e.symm)).wider fun k q => .inl q
    · rintro k (q | q)
      · exact m.tu k q
      · have := sp2 _ q
        exact ⟨fun t => by have := lT _ t; omega, fun t => by have := lT' _ t; omega, by omega, by omega⟩
    · rintro k (q | q | (q | q) | q | q)
      · exact .inl (f1 k q)
      · exact .inl (m.foot k (.inr (.inl q)))
      · exact .inl (m.foot k (.inr (.inr (.inl q))))
      · have := sp2 _ q
        exact .inr (by omega)
      · exact .inl (q ▸ hrF)
      · exact .inl (q ▸ hwF)
    · obtain ⟨rk', i'⟩ := h.iD'
      exact ⟨rk', i'.more (Nat.le_succ s)⟩
    · intro x hx
      exact h.rt x ((remD_sub D p).subset hx)
  · exact ⟨F, D, fun k q => .inl q, ((h.later (q1 h0)).later (q3 h0)).more (Nat.le_succ s)⟩
/-- Copy, of the graph and then of the document's. -/
theorem Lw.copy (h : Lw w0 w F gb rb ob wb D D' s) (hs : s ≤ 60) :
    Calls Try.prog 23 #[.pointer (some ⟨gb, 0, none⟩)] w fun e w' => ∃ nb, e = .returned (.pointer (some ⟨nb, 0, none⟩)) ∧ Below w.heap.size w w' ∧ ∃ a n c ls, ls.length = n ∧ n ≤ 60 ∧ w'.cell? ⟨rb, 0, none⟩ = some (.slice a n c) ∧ RowsAt w' a 3 ls (CellsAt w' lkC) ∧
      ∀ v2 w2, OwnLk w2 v2 ls → Below w'.heap.size w' w2 → (∀ p, v2.ownBlock = some p → w'.heap.size ≤ p) → ∃ F2, Lw w0 (w2.alloc (.cells #[v2] 42)) F2 nb w2.heap.size gb rb D D s := by
  obtain ⟨T, T', U, m⟩ := h.m
  obtain ⟨rk, i⟩ := h.iD
  refine (gcopy_any w T gb D m.g (i.small hs).2).mono ?_
  rintro e w1 ⟨nb, rfl, hg1, hb1⟩
  obtain ⟨vv, ls, r1⟩ := m.r.later hb1
  obtain ⟨a, c, e1, hrow⟩ := r1.own.rd
  have hlen : ls.length = D.length := by rw [← r1.pl]; simp [plainL]
  refine ⟨nb, rfl, hb1, a, ls.length, c, ls, rfl, by have := i.len; omega, by have := r1.box.cell 0; rw [e1] at this; exact this, hrow, fun v2 w2 ho hb2 hlow => ?_⟩
  have hrF : F rb := m.foot rb (.inr (.inr (.inr (.inl rfl))))
  have hwF : F wb := m.foot wb (.inr (.inr (.inr (.inr rfl))))
  have lm : ∀ k, F k → k < w.heap.size := fun k q => (h.lim k q).2
  have lT : ∀ k, T k → k < w.heap.size := fun k q => lm k (m.foot k (.inl q))
  have lU : ∀ k, U k → k < w.heap.size := fun k q => lm k (m.foot k (.inr (.inr (.inl q))))
  have lr : rb < w.heap.size := lm rb hrF
  have hs1 := hb1.size
  have hs2 := hb2.size
  obtain ⟨w3, hw3⟩ : ∃ y, w2.alloc (.cells #[v2] 42) = y := ⟨_, rfl⟩
  have hb3 : Below w2.heap.size w2 w3 := by rw [← hw3]; exact below_alloc _
  have hrow3 : RowAt w3 w2.heap.size 42 #[v2] := by rw [← hw3]; exact RowAt.new _ _ _
  have hs3 : w3.heap.size = w2.heap.size + 1 := by rw [← hw3]; simp
  have hb23 : Below w1.heap.size w1 w3 := below_trans hb2 hb3
  have hb13 : Below w.heap.size w w3 := below_trans hb1 hb23
  have sp1 : ∀ k, Span w w1 k → w.heap.size ≤ k ∧ k < w1.heap.size := fun k q => q
  rw [hw3]
  refine ⟨fun k => F k ∨ (w.heap.size ≤ k ∧ k < w3.heap.size), h.below.trans (hb13.mono h.below.size), fun k q => ?_, ⟨Span w w1, T, fun k => U k ∨ (w1.heap.size ≤ k ∧ k < w2.heap.size), hg1.later hb23, m.g.later hb13, ⟨v2, ls, hrow3, ?_, r1.pl, fun x hx => ?_, fun p hp => ?_⟩, (m.r.later hb13).wider fun k q => .inl q, fun k q t => ?_, ?_, ?_, by omega, ?_⟩, ⟨rk, i⟩, ⟨rk, i⟩, h.rt, h.rt⟩
  · rcases q with q | q
    · have := h.lim k q
      omega
    · have := h.below.size
      omega
  · exact ho.keep (X := fun _ => False) (KeepA.of_below hb3) fun _ _ h => h
  · obtain ⟨q1, q2⟩ := r1.tos x hx
    exact ⟨q1.keep (X := fun _ => False) (KeepA.of_below hb23) fun _ _ h => h, fun p hp => .inl (q2 p hp)⟩
  · exact .inr ⟨hlow p hp, ho.lt hp⟩
  · have := sp1 _ q; have := lT _ t; omega
  · rintro k (q | q)
    · have := lU k q
      refine ⟨fun t => by have := sp1 _ t; omega, (m.tu k q).1, by omega, (m.tu k q).2.2.1⟩
    · exact ⟨fun t => by have := sp1 _ t; omega, fun t => by have := lT _ t; omega, by omega, by omega⟩
  · exact ⟨fun t => by have := sp1 _ t; omega, fun t => by have := lT _ t; omega, fun t => by have := sp1 _ t; omega, m.tr.1⟩
  · rintro k (q | q | (q | q) | q | q)
    · have := sp1 _ q
      exact .inr (by omega)
    · exact .inl (m.foot k (.inl q))
    · exact .inl (m.foot k (.inr (.inr (.inl q))))
    · exact .inr (by omega)
    · exact .inr (by omega)
    · exact .inl (q ▸ hrF)
end
/-- Two new graphs. -/
theorem Lw.new {w0 w1 w2 : World} {gb ob : Nat} (hb1 : Below w0.heap.size w0 w1) (hb2 : Below w1.heap.size w1 w2) (h1 : GrS w1 (Span w0 w1) gb []) (h2 : GrS w2 (Span w1 w2) ob []) :
    ∃ F, Lw w0 ((w2.alloc (.cells #[.slice none 0 0] 42)).alloc (.cells #[.slice none 0 0] 42)) F gb w2.heap.size ob (w2.heap.size + 1) [] [] 0 := by
  obtain ⟨w3, hw3⟩ : ∃ y, w2.alloc (.cells #[.slice none 0 0] 42) = y := ⟨_, rfl⟩
  obtain ⟨w4, hw4⟩ : ∃ y, w3.alloc (.cells #[.slice none 0 0] 42) = y := ⟨_, rfl⟩
  have hb3 : Below w2.heap.size w2 w3 := by rw [← hw3]; exact below_alloc _
  have hb4 : Below w3.heap.size w3 w4 := by rw [← hw4]; exact below_alloc _
  have hs3 : w3.heap.size = w2.heap.size + 1 := by rw [← hw3]; simp
  have hs4 : w4.heap.size = w3.heap.size + 1 := by rw [← hw4]; simp
  have hr3 : RowAt w3 w2.heap.size 42 #[.slice none 0 0] := by rw [← hw3]; exact RowAt.new _ _ _
  have hr4 : RowAt w4 (w2.heap.size + 1) 42 #[.slice none 0 0] := by rw [← hw4, ← hs3]; exact RowAt.new _ _ _
  have hs1 := hb1.size
  have hs2 := hb2.size
  rw [hw3, hw4]
  have sp1 : ∀ k, Span w0 w1 k → w0.heap.size ≤ k ∧ k < w1.heap.size := fun k q => q
  have sp2 : ∀ k, Span w1 w2 k → w1.heap.size ≤ k ∧ k < w2.heap.size := fun k q => q
  refine ⟨fun k => w0.heap.size ≤ k ∧ k < w4.heap.size, below_trans hb1 (below_trans hb2 (below_trans hb3 hb4)), fun k q => q, ⟨Span w0 w1, Span w1 w2, fun _ => False, h1.later (below_trans hb2 (below_trans hb3 hb4)), h2.later (below_trans hb3 hb4), ⟨.slice none 0 0, [], hr3.below hb4, OwnLk.nil _, rfl, fun x hx => (by cases hx), fun p hp => (by cases hp)⟩, ⟨.slice none 0 0, [], hr4, OwnLk.nil _, rfl, fun x hx => (by cases hx), fun p hp => (by cases hp)⟩, fun k q t => ?_, fun k q => q.elim, ⟨fun t => ?_, fun t => ?_, fun t => ?_, fun t => ?_⟩, by omega, ?_⟩, ⟨fun _ => 0, GInv.nil _⟩, ⟨fun _ => 0, GInv.nil _⟩, fun x hx => (by cases hx), fun x hx => (by cases hx)⟩
  · have := sp1 _ q; have := sp2 _ t; omega
  · have := sp1 _ t; omega
  · have := sp2 _ t; omega
  · have := sp1 _ t; omega
  · have := sp2 _ t; omega
  · rintro k (q | q | q | q | q)
    · have := sp1 _ q; omega
    · have := sp2 _ q; omega
    · exact q.elim
    · omega
    · omega
end Go.Proofs.Ytcakdjnnfonijaa
