/- The order's inner loop, plainly: who is behind a version that is told gets a target less. Nothing of the program is used here. -/
import Derived.Test.YtcakdjnnfonijaaRoPlain
namespace Go.Proofs.Ytcakdjnnfonijaa

theorem nodup_inj {α : Type} : ∀ {L : List (α × List α)}, (L.map (·.1)).Nodup → ∀ x ∈ L, ∀ y ∈ L, x.1 = y.1 → x = y
  | [], _, x, hx, _, _, _ => by cases hx
  | z :: L, h, x, hx, y, hy, e => by
    rw [List.map_cons, List.nodup_cons] at h
    rcases List.mem_cons.1 hx with ex | hx' <;> rcases List.mem_cons.1 hy with ey | hy'
    · rw [ex, ey]
    · exact absurd (by rw [← ex, e]; exact List.mem_map_of_mem hy') h.1
    · exact absurd (by rw [← ey, ← e]; exact List.mem_map_of_mem hx') h.1
    · exact nodup_inj h.2 x hx' y hy' e
/-- Versions have one row each, and its targets are no two alike. -/
structure Lks {α : Type} (L : List (α × List α)) : Prop where
  one : (L.map (·.1)).Nodup
  two : ∀ x ∈ L, x.2.Nodup
theorem Lks.inj {α : Type} {L : List (α × List α)} (h : Lks L) {x y : α × List α} (hx : x ∈ L) (hy : y ∈ L) (e : x.1 = y.1) : x = y := nodup_inj h.one x hx y hy e
section
variable {α : Type} [DecidableEq α] {lt : α → α → Bool}
/-- Who refers to a version, in the order of the links. -/
def behd (L : List (α × List α)) (v : α) : List α := (L.filter fun x => decide (v ∈ x.2)).map (·.1)
theorem behd_mem {L : List (α × List α)} (h : Lks L) {v : α} {x : α × List α} (hx : x ∈ L) : x.1 ∈ behd L v ↔ v ∈ x.2 := by
  unfold behd
  rw [List.mem_map]
  constructor
  · rintro ⟨y, hy, e⟩
    rw [List.mem_filter] at hy
    rw [← h.inj hy.1 hx e]
    simpa using hy.2
  · intro hv
    exact ⟨x, List.mem_filter.2 ⟨hx, by simpa using hv⟩, rfl⟩
theorem behd_nodup {L : List (α × List α)} (h : Lks L) (v : α) : (behd L v).Nodup := by
  have hs : (behd L v).Sublist (L.map (·.1)) := List.Sublist.map _ List.filter_sublist
  exact hs.nodup h.one
theorem behd_in {L : List (α × List α)} {v u : α} (hu : u ∈ behd L v) : ∃ x ∈ L, x.1 = u ∧ v ∈ x.2 := by
  unfold behd at hu
  obtain ⟨x, hx, rfl⟩ := List.mem_map.1 hu
  rw [List.mem_filter] at hx
  exact ⟨x, hx.1, rfl, by simpa using hx.2⟩
/-- What is left of x, when v is being told and j of those behind it are done. -/
def leftJ (L : List (α × List α)) (out : List α) (v : α) (j : Nat) (x : α × List α) : Nat := cnt out x - if x.1 ∈ (behd L v).take j then 1 else 0
/-- Who waits to be told then. -/
def InJ (L : List (α × List α)) (out : List α) (v : α) (j : Nat) (H : List α) : Prop := H.Nodup ∧ ∀ u, u ∈ H ↔ ∃ x ∈ L, x.1 = u ∧ u ∉ out ++ [v] ∧ leftJ L out v j x = 0
/-- Who waits. -/
def InH (L : List (α × List α)) (out : List α) (H : List α) : Prop := H.Nodup ∧ ∀ u, u ∈ H ↔ ∃ x ∈ L, x.1 = u ∧ rdyB out x = true
theorem leftJ_zero (L : List (α × List α)) (out : List α) (v : α) (x : α × List α) : leftJ L out v 0 x = cnt out x := by unfold leftJ; simp
theorem leftJ_end {L : List (α × List α)} (h : Lks L) {out : List α} {v : α} (hv : v ∉ out) {x : α × List α} (hx : x ∈ L) : leftJ L out v (behd L v).length x = cnt (out ++ [v]) x := by
  unfold leftJ
  rw [List.take_length, cnt_snoc (h.two x hx) hv]
  by_cases hm : v ∈ x.2
  · rw [if_pos hm, if_pos ((behd_mem h hx).2 hm)]; omega
  · rw [if_neg hm, if_neg (fun e => hm ((behd_mem h hx).1 e))]; omega
theorem InH.start {L : List (α × List α)} {out H H' : List α} {v : α} (h : InH L out H) (hp : H.Perm (v :: H')) : InJ L out v 0 H' := by
  have hn := (hp.nodup_iff).1 h.1
  rw [List.nodup_cons] at hn
  refine ⟨hn.2, fun u => ?_⟩
  constructor
  · intro hu
    obtain ⟨x, hx, rfl, hr⟩ := (h.2 u).1 (hp.mem_iff.2 (List.mem_cons_of_mem _ hu))
    obtain ⟨r1, r2⟩ := rdyB_iff.1 hr
    refine ⟨x, hx, rfl, fun hm => ?_, by rw [leftJ_zero]; exact r2⟩
    rcases List.mem_append.1 hm with hm | hm
    · exact r1 hm
    · rw [List.mem_singleton.1 hm] at hu; exact hn.1 hu
  · rintro ⟨x, hx, rfl, h1, h2⟩
    rw [leftJ_zero] at h2
    have hm := (h.2 x.1).2 ⟨x, hx, rfl, rdyB_iff.2 ⟨fun e => h1 (List.mem_append_left _ e), h2⟩⟩
    rcases List.mem_cons.1 (hp.mem_iff.1 hm) with e | hm
    · exact absurd (by rw [e]; exact List.mem_append_right _ (List.mem_singleton.2 rfl)) h1
    · exact hm
theorem InJ.end_ {L : List (α × List α)} (hL : Lks L) {out H : List α} {v : α} (hv : v ∉ out) (h : InJ L out v (behd L v).length H) : InH L (out ++ [v]) H := by
  refine ⟨h.1, fun u => ?_⟩
  rw [h.2 u]
  constructor
  · rintro ⟨x, hx, rfl, h1, h2⟩
    rw [leftJ_end hL hv hx] at h2
    exact ⟨x, hx, rfl, rdyB_iff.2 ⟨h1, h2⟩⟩
  · rintro ⟨x, hx, rfl, hr⟩
    obtain ⟨r1, r2⟩ := rdyB_iff.1 hr
    exact ⟨x, hx, rfl, r1, by rw [leftJ_end hL hv hx]; exact r2⟩
/-- The j-th of those behind v: what is left of it. -/
theorem leftJ_step {L : List (α × List α)} (hL : Lks L) {out : List α} {v : α} (hv : v ∉ out) {j : Nat} (hj : j < (behd L v).length) {x : α × List α} (hx : x ∈ L) :
    (x.1 = (behd L v)[j] → leftJ L out v j x = cnt out x ∧ 0 < cnt out x ∧ leftJ L out v (j + 1) x = leftJ L out v j x - 1) ∧ (x.1 ≠ (behd L v)[j] → leftJ L out v (j + 1) x = leftJ L out v j x) := by
  have hn := behd_nodup hL v
  have ht : (behd L v).take (j + 1) = (behd L v).take j ++ [(behd L v)[j]] := (List.take_append_getElem hj).symm
  unfold leftJ
  rw [ht]
  constructor
  · intro e
    have hnot : x.1 ∉ (behd L v).take j := fun hm => by
      rw [e] at hm
      obtain ⟨i, hi, hie⟩ := List.mem_iff_getElem.1 hm
      rw [List.length_take] at hi
      rw [List.getElem_take] at hie
      exact (List.pairwise_iff_getElem.1 hn) i j (by omega) hj (by omega) hie
    have hvx : v ∈ x.2 := (behd_mem hL hx).1 (by rw [e]; exact List.getElem_mem hj)
    have hpos : 0 < cnt out x := by
      rw [cnt_snoc (hL.two x hx) hv, if_pos hvx]; omega
    rw [if_neg hnot, if_pos (List.mem_append_right _ (List.mem_singleton.2 e))]
    exact ⟨by omega, hpos, by omega⟩
  · intro hne
    have : (x.1 ∈ (behd L v).take j ++ [(behd L v)[j]]) ↔ x.1 ∈ (behd L v).take j := by
      rw [List.mem_append, List.mem_singleton]
      exact ⟨fun h => h.resolve_right hne, .inl⟩
    simp only [this]
/-- It is told that one target less is left: who waits. -/
theorem InJ.step {L : List (α × List α)} (hL : Lks L) {out H H' : List α} {v : α} (hv : v ∉ out) (hr : ∃ y ∈ L, y.1 = v ∧ rdyB out y = true) (hcl : ∀ u ∈ out, ∀ y ∈ L, y.1 = u → cnt out y = 0) {j : Nat} (hj : j < (behd L v).length) (h : InJ L out v j H) {x : α × List α} (hx : x ∈ L) (he : x.1 = (behd L v)[j])
    (h0 : leftJ L out v (j + 1) x ≠ 0 → H' = H) (h1 : leftJ L out v (j + 1) x = 0 → H'.Perm (x.1 :: H)) : InJ L out v (j + 1) H' := by
  obtain ⟨s1, s2, s3⟩ := (leftJ_step hL hv hj hx).1 he
  have hnot : x.1 ∉ out ++ [v] := fun hm => by
    rcases List.mem_append.1 hm with hm | hm
    · have := hcl _ hm x hx rfl; omega
    · obtain ⟨y, hy, e1, e2⟩ := hr
      have exy := hL.inj hx hy ((List.mem_singleton.1 hm).trans e1.symm)
      subst exy
      have := (rdyB_iff.1 e2).2
      omega
  have hnH : x.1 ∉ H := fun hm => by
    obtain ⟨y, hy, e1, -, e2⟩ := (h.2 _).1 hm
    rw [hL.inj hy hx e1] at e2
    omega
  have key : ∀ u, (∃ y ∈ L, y.1 = u ∧ u ∉ out ++ [v] ∧ leftJ L out v (j + 1) y = 0) ↔ (u ∈ H ∨ (u = x.1 ∧ leftJ L out v (j + 1) x = 0)) := fun u => by
    constructor
    · rintro ⟨y, hy, rfl, q1, q2⟩
      by_cases hyx : y.1 = x.1
      · have := hL.inj hy hx hyx
        subst this
        exact .inr ⟨rfl, q2⟩
      · rw [(leftJ_step hL hv hj hy).2 (by rw [← he]; exact hyx)] at q2
        exact .inl ((h.2 _).2 ⟨y, hy, rfl, q1, q2⟩)
    · rintro (hu | ⟨rfl, q⟩)
      · obtain ⟨y, hy, rfl, q1, q2⟩ := (h.2 u).1 hu
        refine ⟨y, hy, rfl, q1, ?_⟩
        by_cases hyx : y.1 = x.1
        · exact absurd (by rw [← hyx]; exact hu) hnH
        · rw [(leftJ_step hL hv hj hy).2 (by rw [← he]; exact hyx)]
          exact q2
      · exact ⟨x, hx, rfl, hnot, q⟩
  by_cases hz : leftJ L out v (j + 1) x = 0
  · have hp := h1 hz
    refine ⟨(hp.nodup_iff).2 (List.nodup_cons.2 ⟨hnH, h.1⟩), fun u => ?_⟩
    rw [hp.mem_iff, key u, List.mem_cons]
    exact ⟨fun h => h.elim (fun e => .inr ⟨e, hz⟩) .inl, fun h => h.elim .inr (fun e => .inl e.1)⟩
  · rw [h0 hz]
    refine ⟨h.1, fun u => ?_⟩
    rw [key u]
    exact ⟨.inl, fun h => h.elim id (fun e => absurd e.2 hz)⟩
/-- The first of a heap of those that wait is picked. -/
theorem InH.pick (T : TotLt lt) {L : List (α × List α)} {out H : List α} (h : InH L out H) {v : α} (hv : v ∈ H) (hl : ∀ u ∈ H, lt u v = false) : pick lt L out = some v :=
  pick_eq T ((h.2 v).1 hv) fun x hx hr => hl x.1 ((h.2 x.1).2 ⟨x, hx, rfl, hr⟩)
theorem InH.none (T : TotLt lt) {L : List (α × List α)} {out : List α} (h : InH L out []) : Go.Proofs.Ytcakdjnnfonijaa.pick lt L out = none := by
  cases hp : Go.Proofs.Ytcakdjnnfonijaa.pick lt L out with
  | none => rfl
  | some v =>
    obtain ⟨⟨x, hx, rfl, hr⟩, -⟩ := pick_some T hp
    have := (h.2 x.1).2 ⟨x, hx, rfl, hr⟩
    cases this
/-- What is told stands behind its targets. -/
theorem Reach.told (T : TotLt lt) {L : List (α × List α)} (hL : Lks L) {out : List α} (h : Reach lt L out) : ∀ u ∈ out, ∀ y ∈ L, y.1 = u → cnt out y = 0 := by
  induction h with
  | nil => intro u hu; cases hu
  | @snoc o v h hp ih =>
    obtain ⟨⟨x, hx, rfl, hr⟩, -⟩ := pick_some T hp
    obtain ⟨r1, r2⟩ := rdyB_iff.1 hr
    intro u hu y hy hyu
    rcases List.mem_append.1 hu with hu | hu
    · have h0 := ih u hu y hy hyu
      rw [cnt_snoc (hL.two y hy) r1] at h0
      omega
    · have := hL.inj hy hx (hyu.trans (List.mem_singleton.1 hu))
      subst this
      rw [cnt_snoc (hL.two y hy) r1] at r2
      omega
end
end Go.Proofs.Ytcakdjnnfonijaa
