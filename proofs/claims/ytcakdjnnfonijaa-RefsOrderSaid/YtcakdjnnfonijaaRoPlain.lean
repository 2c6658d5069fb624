/- Links in an order, plainly: the least one that is ready, again and again; how many targets are left. Nothing of the program is used here. -/
import Derived.Test.YtcakdjnnfonijaaRoHeap
namespace Go.Proofs.Ytcakdjnnfonijaa

section
variable {α : Type} [DecidableEq α] (lt : α → α → Bool)
/-- Is a version among others? -/
def memB (v : α) (l : List α) : Bool := decide (v ∈ l)
/-- May a version be told behind these? -/
def rdyB (out : List α) (x : α × List α) : Bool := decide (x.1 ∉ out) && x.2.all fun t => decide (t ∈ out)
def bett (b : Option α) (a : α) : Bool := match b with | none => true | some u => lt a u
/-- The least one that is ready, by the document's loop. -/
def bestF (out : List α) (b : Option α) (x : α × List α) : Option α := if rdyB out x && bett lt b x.1 then some x.1 else b
def pick (L : List (α × List α)) (out : List α) : Option α := L.foldl (bestF lt out) none
/-- So many are told. -/
def topo (L : List (α × List α)) : Nat → List α → Option (List α)
  | 0, out => some out
  | k + 1, out => match pick lt L out with
    | none => none
    | some v => topo L k (out ++ [v])
inductive Reach (L : List (α × List α)) : List α → Prop
  | nil : Reach L []
  | snoc {out : List α} {v : α} : Reach L out → pick lt L out = some v → Reach L (out ++ [v])
end
section
variable {α : Type} [DecidableEq α] {lt : α → α → Bool}
theorem memB_iff {v : α} {l : List α} : memB v l = true ↔ v ∈ l := by unfold memB; exact decide_eq_true_iff
theorem memB_not {v : α} {l : List α} : memB v l = false ↔ v ∉ l := by unfold memB; exact decide_eq_false_iff_not
theorem rdyB_mem (out : List α) (x : α × List α) : rdyB out x = (!memB x.1 out && x.2.all fun t => memB t out) := by unfold rdyB memB; simp
theorem best_spec (T : TotLt lt) (out : List α) : ∀ (L : List (α × List α)) (b : Option α), match L.foldl (bestF lt out) b with
    | none => b = none ∧ ∀ x ∈ L, rdyB out x = false
    | some v => (b = some v ∨ ∃ x ∈ L, x.1 = v ∧ rdyB out x = true) ∧ (∀ u, b = some u → lt u v = false) ∧ ∀ x ∈ L, rdyB out x = true → lt x.1 v = false
  | [], none => ⟨rfl, fun x hx => by cases hx⟩
  | [], some v => ⟨.inl rfl, fun u h => by cases h; exact T.irr _, fun x hx => by cases hx⟩
  | x :: L, b => by
    have ih := best_spec T out L (bestF lt out b x)
    rw [List.foldl_cons]
    cases hr : L.foldl (bestF lt out) (bestF lt out b x) with
    | none =>
      rw [hr] at ih
      obtain ⟨h1, h2⟩ := ih
      unfold bestF at h1
      by_cases hc : (rdyB out x && bett lt b x.1) = true
      · rw [if_pos hc] at h1; cases h1
      · rw [if_neg hc] at h1
        subst h1
        refine ⟨rfl, fun y hy => ?_⟩
        rcases List.mem_cons.1 hy with rfl | hy
        · simpa [bett] using hc
        · exact h2 y hy
    | some v =>
      rw [hr] at ih
      obtain ⟨h1, h2, h3⟩ := ih
      unfold bestF at h1 h2
      by_cases hc : (rdyB out x && bett lt b x.1) = true
      · rw [if_pos hc] at h1 h2
        simp only [Bool.and_eq_true] at hc
        have hxv := h2 x.1 rfl
        refine ⟨.inr ?_, fun u hu => ?_, fun y hy hy2 => ?_⟩
        · rcases h1 with h1 | ⟨y, hy, h4⟩
          · exact ⟨x, List.mem_cons_self, Option.some.inj h1, hc.1⟩
          · exact ⟨y, List.mem_cons_of_mem _ hy, h4⟩
        · subst hu
          exact T.le_trans hxv (T.asym hc.2)
        · rcases List.mem_cons.1 hy with rfl | hy
          · exact hxv
          · exact h3 y hy hy2
      · rw [if_neg hc] at h1 h2
        refine ⟨?_, h2, fun y hy hy2 => ?_⟩
        · rcases h1 with h1 | ⟨y, hy, h4⟩
          · exact .inl h1
          · exact .inr ⟨y, List.mem_cons_of_mem _ hy, h4⟩
        · rcases List.mem_cons.1 hy with rfl | hy
          · cases b with
            | none => rw [hy2] at hc; simp [bett] at hc
            | some u =>
              have hu := h2 u rfl
              rw [hy2] at hc
              simp only [bett, Bool.true_and, Bool.not_eq_true] at hc
              exact T.le_trans hu hc
          · exact h3 y hy hy2
theorem pick_none (T : TotLt lt) {L : List (α × List α)} {out : List α} (h : pick lt L out = none) : ∀ x ∈ L, rdyB out x = false := by
  have hs := best_spec T out L none
  unfold pick at h
  rw [h] at hs
  exact hs.2
theorem pick_some (T : TotLt lt) {L : List (α × List α)} {out : List α} {v : α} (h : pick lt L out = some v) : (∃ x ∈ L, x.1 = v ∧ rdyB out x = true) ∧ ∀ x ∈ L, rdyB out x = true → lt x.1 v = false := by
  have hs := best_spec T out L none
  unfold pick at h
  rw [h] at hs
  exact ⟨hs.1.resolve_left (by intro e; cases e), hs.2.2⟩
/-- The least of those that are ready is picked. -/
theorem pick_eq (T : TotLt lt) {L : List (α × List α)} {out : List α} {v : α} (h1 : ∃ x ∈ L, x.1 = v ∧ rdyB out x = true) (h2 : ∀ x ∈ L, rdyB out x = true → lt x.1 v = false) : pick lt L out = some v := by
  obtain ⟨x, hx, rfl, hr⟩ := h1
  cases hp : pick lt L out with
  | none =>
    have := pick_none T hp x hx
    rw [hr] at this; cases this
  | some u =>
    obtain ⟨⟨y, hy, rfl, hy2⟩, h3⟩ := pick_some T hp
    rw [T.eq (h2 y hy hy2) (h3 x hx hr)]
theorem Reach.nodup (T : TotLt lt) {L : List (α × List α)} {out : List α} (h : Reach lt L out) : out.Nodup ∧ ∀ v ∈ out, ∃ x ∈ L, x.1 = v := by
  induction h with
  | nil => exact ⟨List.nodup_nil, fun v hv => by cases hv⟩
  | snoc h hp ih =>
    obtain ⟨⟨x, hx, rfl, hr⟩, -⟩ := pick_some T hp
    unfold rdyB at hr
    simp only [Bool.and_eq_true, decide_eq_true_eq] at hr
    refine ⟨?_, fun v hv => ?_⟩
    · rw [List.nodup_append]
      exact ⟨ih.1, by simp, fun a ha b hb => by rw [List.mem_singleton.1 hb]; exact fun e => hr.1 (by rw [← e]; exact ha)⟩
    · rcases List.mem_append.1 hv with hv | hv
      · exact ih.2 v hv
      · exact ⟨x, hx, (List.mem_singleton.1 hv).symm⟩
theorem nodup_len : ∀ (l k : List α), l.Nodup → l ⊆ k → l.length ≤ k.length
  | [], k, _, _ => Nat.zero_le _
  | a :: l, k, hn, hs => by
    obtain ⟨h1, h2⟩ := List.nodup_cons.1 hn
    have ha : a ∈ k := hs List.mem_cons_self
    have := nodup_len l (k.erase a) h2 fun b hb => (List.mem_erase_of_ne (fun e => h1 (by rw [← e]; exact hb))).2 (hs (List.mem_cons_of_mem _ hb))
    rw [List.length_erase_of_mem ha] at this
    have hk := List.length_pos_of_mem ha
    rw [List.length_cons]
    omega
theorem Reach.len (T : TotLt lt) {L : List (α × List α)} {out : List α} (h : Reach lt L out) : out.length ≤ L.length := by
  obtain ⟨h1, h2⟩ := h.nodup T
  have hsub : out ⊆ L.map (·.1) := fun v hv => by
    obtain ⟨x, hx, rfl⟩ := h2 v hv
    exact List.mem_map_of_mem hx
  have := nodup_len out (L.map (·.1)) h1 hsub
  rwa [List.length_map] at this
theorem Reach.topo (T : TotLt lt) {L : List (α × List α)} {out : List α} (h : Reach lt L out) : topo lt L L.length [] = topo lt L (L.length - out.length) out := by
  induction h with
  | nil => rfl
  | @snoc o v h hp ih =>
    have hl := (Reach.snoc h hp).len T
    rw [List.length_append, List.length_singleton] at hl
    obtain ⟨k, hk⟩ : ∃ k, L.length - o.length = k + 1 := ⟨L.length - o.length - 1, by omega⟩
    rw [ih, hk, List.length_append, List.length_singleton, show L.length - (o.length + 1) = k by omega]
    show (match pick lt L o with | none => none | some v => Go.Proofs.Ytcakdjnnfonijaa.topo lt L k (o ++ [v])) = _
    rw [hp]
theorem Reach.end_ (T : TotLt lt) {L : List (α × List α)} {out : List α} (h : Reach lt L out) (hp : pick lt L out = none) : Go.Proofs.Ytcakdjnnfonijaa.topo lt L L.length [] = if out.length < L.length then none else some out := by
  rw [h.topo T]
  have hl := h.len T
  by_cases hlt : out.length < L.length
  · rw [if_pos hlt]
    obtain ⟨k, hk⟩ : ∃ k, L.length - out.length = k + 1 := ⟨L.length - out.length - 1, by omega⟩
    rw [hk]
    show (match pick lt L out with | none => none | some v => Go.Proofs.Ytcakdjnnfonijaa.topo lt L k (out ++ [v])) = _
    rw [hp]
  · rw [if_neg hlt, show L.length - out.length = 0 by omega]
    rfl
/-- How many targets have not been told. -/
def cnt (out : List α) (x : α × List α) : Nat := (x.2.filter fun t => decide (t ∉ out)).length
theorem cnt_zero {out : List α} {x : α × List α} : cnt out x = 0 ↔ ∀ t ∈ x.2, t ∈ out := by
  unfold cnt
  rw [List.length_eq_zero_iff, List.filter_eq_nil_iff]
  constructor
  · intro h t ht
    have := h t ht
    simpa using this
  · intro h t ht
    simpa using h t ht
theorem cnt_nil (x : α × List α) : cnt [] x = x.2.length := by
  unfold cnt
  rw [List.filter_eq_self.2]
  intro t _
  simp
theorem cnt_snoc {out : List α} {x : α × List α} {v : α} (hn : x.2.Nodup) (hv : v ∉ out) : cnt out x = cnt (out ++ [v]) x + if v ∈ x.2 then 1 else 0 := by
  unfold cnt
  have key : ∀ l : List α, l.Nodup → (l.filter fun t => decide (t ∉ out)).length = (l.filter fun t => decide (t ∉ out ++ [v])).length + if v ∈ l then 1 else 0 := by
    intro l
    induction l with
    | nil => intro _; rfl
    | cons t l ih =>
      intro hn
      obtain ⟨h1, h2⟩ := List.nodup_cons.1 hn
      have ih := ih h2
      by_cases htv : t = v
      · subst htv
        rw [if_neg h1] at ih
        rw [List.filter_cons_of_pos (by simpa using hv), List.filter_cons_of_neg (by simp), if_pos List.mem_cons_self, List.length_cons, ih]
      · have hm : (v ∈ t :: l) ↔ v ∈ l := by
          rw [List.mem_cons]
          exact ⟨fun h => h.resolve_left fun e => htv e.symm, .inr⟩
        by_cases hto : t ∈ out
        · rw [List.filter_cons_of_neg (by simpa using hto), List.filter_cons_of_neg (by simp [hto]), ih]
          simp only [hm]
        · rw [List.filter_cons_of_pos (by simpa using hto), List.filter_cons_of_pos (by simp [hto, htv]), List.length_cons, List.length_cons, ih]
          simp only [hm]
          omega
  exact key x.2 hn
theorem rdyB_iff {out : List α} {x : α × List α} : rdyB out x = true ↔ x.1 ∉ out ∧ cnt out x = 0 := by
  rw [cnt_zero]
  unfold rdyB
  simp [List.all_eq_true]
end
end Go.Proofs.Ytcakdjnnfonijaa
