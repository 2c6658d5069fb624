/- A reckoner of closed runs, 16: regions that draw their order. Nothing of the program is used here. -/
import Derived.Test.YtcakdjnnfonijaaEvStill
namespace Go.Proofs.Ytcakdjnnfonijaa
open Go.RowKit

noncomputable def Waits (ops : Array Oper) (i k : Nat) : Prop := ∃ o, ops[i]? = some o ∧ ∃ e ∈ o.after, Region.binds .any e = true ∧ e.on = k
structure Sound (ops : Array Oper) : Prop where
  back : ∀ i k, Waits ops i k → k < i
  pair : ∀ (i j : Nat) (x y : Oper), i ≠ j → ops[i]? = some x → ops[j]? = some y → Waits ops j i ∨ Waits ops i j ∨ ∀ t, x.dst = some t → t ∉ y.looksAt ops
  dst : ∀ (i j : Nat) (x y : Oper) (t : Tmp), ops[i]? = some x → ops[j]? = some y → x.dst = some t → y.dst = some t → i = j
  sel : ∀ (i : Nat) (x : Oper), ops[i]? = some x → Oper.isSelect x = false
noncomputable def drawGo : Nat → List Masks → Bool
  | _, [] => true
  | k, m :: r => match Nat.blt m.2.2 (2 ^ k) with
    | false => false
    | true => match r.all (fun y => pairOk k m y && Nat.beq (m.1 &&& y.1) 0) with
      | false => false
      | true => drawGo (k + 1) r
theorem drawGo_spec : ∀ (ms : List Masks) (k : Nat), drawGo k ms = true → ∀ i m, ms[i]? = some m → m.2.2 < 2 ^ (k + i) ∧ ∀ j m', i < j → ms[j]? = some m' → pairOk (k + i) m m' = true ∧ Nat.beq (m.1 &&& m'.1) 0 = true
  | [], k, _, i, m, hi => by simp at hi
  | x :: r, k, h, i, m, hi => by
    simp only [drawGo, nblt] at h
    cases h1 : decide (x.2.2 < 2 ^ k) with
    | false => rw [h1] at h; cases h
    | true =>
      rw [h1] at h
      dsimp only at h
      cases h2 : r.all (fun y => pairOk k x y && Nat.beq (x.1 &&& y.1) 0) with
      | false => rw [h2] at h; cases h
      | true =>
        rw [h2] at h
        cases i with
        | zero =>
          simp only [List.getElem?_cons_zero, Option.some.injEq] at hi
          subst hi
          refine ⟨of_decide_eq_true h1, fun j m' hj hm' => ?_⟩
          obtain ⟨j', rfl⟩ : ∃ j', j = j' + 1 := ⟨j - 1, by omega⟩
          have := List.all_eq_true.1 h2 m' (List.mem_of_getElem? (by simpa using hm'))
          simpa [Bool.and_eq_true] using this
        | succ i =>
          obtain ⟨a1, a2⟩ := drawGo_spec r (k + 1) h i m (by simpa using hi)
          rw [show k + 1 + i = k + (i + 1) by omega] at a1 a2
          refine ⟨a1, fun j m' hj hm' => ?_⟩
          obtain ⟨j', rfl⟩ : ∃ j', j = j' + 1 := ⟨j - 1, by omega⟩
          exact a2 j' m' (by omega) (by simpa using hm')
theorem waits_bit {ops : Array Oper} {i k : Nat} {o : Oper} (ho : ops[i]? = some o) : (maskOf ops o).2.2.testBit k = true ↔ Waits ops i k := by
  rw [after_bit]
  constructor
  · rintro ⟨e, he, hb, hk⟩
    exact ⟨o, ho, e, he, hb, hk⟩
  · rintro ⟨o', ho', e, he, hb, hk⟩
    obtain rfl := Option.some.inj (ho.symm.trans ho')
    exact ⟨e, he, hb, hk⟩
theorem sound_of {ops : Array Oper} (h : drawGo 0 (ops.toList.map (maskOf ops)) = true) (hs : ops.toList.all (fun o => !Oper.isSelect o) = true) : Sound ops := by
  have hm : ∀ (i : Nat) (o : Oper), ops[i]? = some o → (ops.toList.map (maskOf ops))[i]? = some (maskOf ops o) := fun i o ho => by rw [List.getElem?_map, Array.getElem?_toList, ho]; rfl
  have hsp := fun i o ho => drawGo_spec _ 0 h i (maskOf ops o) (hm i o ho)
  simp only [Nat.zero_add] at hsp
  have hap : ∀ i j x y, i < j → ops[i]? = some x → ops[j]? = some y → Waits ops j i ∨ x.apart ops y = true := fun i j x y hij hx hy => by
    have hp := ((hsp i x hx).2 j _ hij (hm j y hy)).1
    cases hw : (maskOf ops y).2.2.testBit i with
    | true => exact .inl ((waits_bit hy).1 hw)
    | false => exact .inr (apart_of hp hw)
  refine ⟨fun i k hw => ?_, fun i j x y hne hx hy => ?_, fun i j x y t hx hy hxt hyt => ?_, fun i x hx => ?_⟩
  · obtain ⟨o, ho, _⟩ := id hw
    have h1 := (hsp i o ho).1
    have h2 := (waits_bit ho).2 hw
    rcases Nat.lt_or_ge k i with h3 | h3
    · exact h3
    · rw [Nat.testBit_lt_two_pow (Nat.lt_of_lt_of_le h1 (Nat.pow_le_pow_right (by decide) h3))] at h2
      cases h2
  · rcases Nat.lt_or_ge i j with hlt | hge
    · rcases hap i j x y hlt hx hy with h1 | h1
      · exact .inl h1
      · exact .inr (.inr fun t ht => (Oper.apart_spec h1).1 t ht)
    · rcases hap j i y x (by omega) hy hx with h1 | h1
      · exact .inr (.inl h1)
      · exact .inr (.inr fun t ht => (Oper.apart_spec h1).2.2 t ht)
  · have key : ∀ (i j : Nat) (x y : Oper), i < j → ops[i]? = some x → ops[j]? = some y → x.dst = some t → y.dst = some t → False := fun i j x y hij hx hy hxt hyt => by
      have h1 := ((hsp i x hx).2 j _ hij (hm j y hy)).2
      have h2 := land_zero h1 (t := t) (by show (bitO x.dst).testBit t = true; rw [bitO_bit]; exact decide_eq_true hxt)
      have h3 : (bitO y.dst).testBit t = false := h2
      rw [bitO_bit, decide_eq_true hyt] at h3
      cases h3
    rcases Nat.lt_trichotomy i j with h1 | h1 | h1
    · exact (key i j x y h1 hx hy hxt hyt).elim
    · exact h1
    · exact (key j i y x h1 hy hx hyt hxt).elim
  · have := List.all_eq_true.1 hs x (List.mem_of_getElem? (by rw [Array.getElem?_toList]; exact hx))
    simpa using this
/-- Whom an operation waits for, near or far. -/
noncomputable def gather (a : Nat) : List Nat → Nat → Nat
  | [], _ => 0
  | x :: r, j => match a.testBit j with
    | true => x ||| gather a r (j + 1)
    | false => gather a r (j + 1)
noncomputable def ancGo : List Masks → List Nat → List Nat
  | [], acc => acc
  | m :: r, acc => ancGo r (acc ++ [m.2.2 ||| gather m.2.2 acc 0])
noncomputable def Anc (ops : Array Oper) (A k : Nat) : Prop := ∀ i, A.testBit i = true → ∀ L : Nat → Prop, (∀ x y, L x → Waits ops x y → L y) → L k → L i
theorem gather_bit (a : Nat) : ∀ (l : List Nat) (j i : Nat), (gather a l j).testBit i = true → ∃ p A, l[p]? = some A ∧ a.testBit (j + p) = true ∧ A.testBit i = true
  | [], j, i, h => by simp [gather] at h
  | x :: r, j, i, h => by
    simp only [gather] at h
    cases ha : a.testBit j with
    | true =>
      rw [ha] at h
      simp only [Nat.testBit_or, Bool.or_eq_true] at h
      rcases h with h | h
      · exact ⟨0, x, rfl, ha, h⟩
      · obtain ⟨p, A, h1, h2, h3⟩ := gather_bit a r (j + 1) i h
        exact ⟨p + 1, A, by simpa using h1, by rwa [show j + (p + 1) = j + 1 + p by omega], h3⟩
    | false =>
      rw [ha] at h
      obtain ⟨p, A, h1, h2, h3⟩ := gather_bit a r (j + 1) i h
      exact ⟨p + 1, A, by simpa using h1, by rwa [show j + (p + 1) = j + 1 + p by omega], h3⟩
theorem ancGo_ok {ops : Array Oper} : ∀ (l : List Oper) (acc : List Nat), (∀ j, l[j]? = ops[acc.length + j]?) → (∀ k A, acc[k]? = some A → Anc ops A k) →
    (ancGo (l.map (maskOf ops)) acc).length = acc.length + l.length ∧ ∀ k A, (ancGo (l.map (maskOf ops)) acc)[k]? = some A → Anc ops A k
  | [], acc, _, ha => ⟨by simp [ancGo], ha⟩
  | o :: l, acc, hl, ha => by
    have h0 : ops[acc.length]? = some o := by simpa using (hl 0).symm
    have hnew : Anc ops ((maskOf ops o).2.2 ||| gather (maskOf ops o).2.2 acc 0) acc.length := fun i hi L hL hk => by
      rw [Nat.testBit_or, Bool.or_eq_true] at hi
      rcases hi with hi | hi
      · exact hL _ _ hk ((waits_bit h0).1 hi)
      · obtain ⟨p, A, h1, h2, h3⟩ := gather_bit _ _ _ _ hi
        rw [Nat.zero_add] at h2
        exact ha p A h1 i h3 L hL (hL _ _ hk ((waits_bit h0).1 h2))
    obtain ⟨r1, r2⟩ := ancGo_ok l (acc ++ [(maskOf ops o).2.2 ||| gather (maskOf ops o).2.2 acc 0]) (fun j => by
      have := hl (j + 1)
      rw [List.length_append, List.length_singleton, Nat.add_assoc, Nat.add_comm 1 j]
      simpa using this) (fun k A hk => by
      rcases Nat.lt_trichotomy k acc.length with h1 | h1 | h1
      · rw [List.getElem?_append_left h1] at hk; exact ha k A hk
      · subst h1
        rw [List.getElem?_append_right (Nat.le_refl _), Nat.sub_self] at hk
        obtain rfl := Option.some.inj hk
        exact hnew
      · rw [List.getElem?_append_right (by omega)] at hk
        obtain ⟨d, hd⟩ : ∃ d, k - acc.length = d + 1 := ⟨k - acc.length - 1, by omega⟩
        rw [hd] at hk
        simp at hk)
    refine ⟨?_, r2⟩
    simp only [List.map_cons, ancGo]
    rw [r1]
    simp
    omega
/-- The table of a region: each operation, its masks, whom it waits for. -/
abbrev Row := Oper × Masks × Nat
noncomputable def tabOf (ops : Array Oper) : List Row := ops.toList.zip ((ops.toList.map (maskOf ops)).zip (ancGo (ops.toList.map (maskOf ops)) []))
theorem tab_get {ops : Array Oper} {i : Nat} {o : Oper} {m : Masks} {A : Nat} (h : (tabOf ops)[i]? = some (o, m, A)) : ops[i]? = some o ∧ m = maskOf ops o ∧ Anc ops A i := by
  unfold tabOf at h
  rw [List.getElem?_zip_eq_some] at h
  obtain ⟨h1, h2⟩ := h
  rw [List.getElem?_zip_eq_some] at h2
  obtain ⟨h2, h3⟩ := h2
  have ho : ops[i]? = some o := by rw [← Array.getElem?_toList]; exact h1
  refine ⟨ho, ?_, (ancGo_ok ops.toList [] (fun j => by simp) (fun k A hk => by simp at hk)).2 i A h3⟩
  rw [List.getElem?_map, h1] at h2
  exact (Option.some.inj h2).symm
theorem tab_some {ops : Array Oper} {i : Nat} {o : Oper} (ho : ops[i]? = some o) : ∃ m A, (tabOf ops)[i]? = some (o, m, A) := by
  have hi := (Array.getElem?_eq_some_iff.1 ho).1
  have hi' : i < (ancGo (ops.toList.map (maskOf ops)) []).length := by
    rw [(ancGo_ok ops.toList [] (ops := ops) (fun j => by simp) (fun k A hk => by simp at hk)).1, List.length_nil, Nat.zero_add, Array.length_toList]
    exact hi
  refine ⟨maskOf ops o, (ancGo (ops.toList.map (maskOf ops)) [])[i], ?_⟩
  unfold tabOf
  rw [List.getElem?_zip_eq_some]
  refine ⟨by rw [Array.getElem?_toList]; exact ho, ?_⟩
  rw [List.getElem?_zip_eq_some]
  exact ⟨by rw [List.getElem?_map, Array.getElem?_toList, ho]; rfl, List.getElem?_eq_getElem _⟩
noncomputable def isReady (done i : Nat) (m : Masks) : Bool := match done.testBit i with
  | true => false
  | false => Nat.beq (m.2.2 &&& done) m.2.2
theorem isReady_iff {ops : Array Oper} {done i : Nat} {o : Oper} (ho : ops[i]? = some o) : isReady done i (maskOf ops o) = true ↔ done.testBit i = false ∧ ∀ k, Waits ops i k → done.testBit k = true := by
  unfold isReady
  cases hd : done.testBit i with
  | true => simp
  | false =>
    dsimp only
    constructor
    · intro h
      refine ⟨rfl, fun k hk => ?_⟩
      have h1 := congrArg (fun x => x.testBit k) (Nat.eq_of_beq_eq_true h)
      simpa [Nat.testBit_and, (waits_bit ho).2 hk] using h1
    · rintro ⟨_, h⟩
      have : (maskOf ops o).2.2 &&& done = (maskOf ops o).2.2 := by
        apply Nat.eq_of_testBit_eq
        intro k
        rw [Nat.testBit_and]
        cases hk : (maskOf ops o).2.2.testBit k with
        | false => rfl
        | true => simp [h k ((waits_bit ho).1 hk)]
      rw [this]
      simp
end Go.Proofs.Ytcakdjnnfonijaa
