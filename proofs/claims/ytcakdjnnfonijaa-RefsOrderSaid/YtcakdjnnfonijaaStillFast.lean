/- A drawn region of many operations that only read: its order is checked by numbers (bits), which the kernel reckons fast. Nothing of the program is used here. -/
import Derived.StillTail
namespace Go.Proofs.Ytcakdjnnfonijaa
open Go

def bitO : Option Nat → Nat
  | none => 0
  | some d => 2 ^ d
def bitsL : List Nat → Nat
  | [] => 0
  | t :: r => 2 ^ t ||| bitsL r
theorem bitsL_bit : ∀ (l : List Nat) (t : Nat), (bitsL l).testBit t = decide (t ∈ l)
  | [], t => by simp [bitsL]
  | a :: r, t => by
    simp only [bitsL, Nat.testBit_or, Nat.testBit_two_pow, bitsL_bit r t, List.mem_cons]
    by_cases h : a = t
    · simp [h]
    · simp [h, Ne.symm h]
theorem bitO_bit (o : Option Nat) (t : Nat) : (bitO o).testBit t = decide (o = some t) := by
  cases o with
  | none => simp [bitO]
  | some d => simp [bitO, Nat.testBit_two_pow]
abbrev Masks := Nat × Nat × Nat
def maskOf (ops : Array Oper) (o : Oper) : Masks := (bitO o.dst, bitsL (o.looksAt ops), bitsL ((o.after.toList.filter (Region.binds .any)).map (·.on)))
def pairOk (k : Nat) (x y : Masks) : Bool := match y.2.2.testBit k with
  | true => true
  | false => match Nat.beq (x.1 &&& (y.1 ||| y.2.1)) 0 with
    | true => Nat.beq (x.2.1 &&& y.1) 0
    | false => false
def fastGo (n : Nat) : Nat → List Masks → Bool
  | _, [] => true
  | k, m :: r => match Nat.blt m.2.2 (2 ^ k) with
    | false => false
    | true => match (match Nat.blt k n with
      | true => (r.all (pairOk k m) && (r.take (n - k)).any (fun y => y.2.2.testBit k))
      | false => (match Nat.blt n k with
        | true => m.2.2.testBit (k - 1)
        | false => true)) with
      | false => false
      | true => fastGo n (k + 1) r
theorem nblt (i n : Nat) : Nat.blt i n = decide (i < n) := by
  cases h : decide (i < n) with
  | true => exact Nat.ble_eq_true_of_le (of_decide_eq_true h)
  | false =>
    have := of_decide_eq_false h
    cases hb : Nat.blt i n with
    | true => exact absurd (Nat.le_of_ble_eq_true hb) this
    | false => rfl
theorem fastGo_spec (n : Nat) : ∀ (ms : List Masks) (k : Nat), fastGo n k ms = true → ∀ i m, ms[i]? = some m → m.2.2 < 2 ^ (k + i) ∧
    (k + i < n → (∀ j m', i < j → ms[j]? = some m' → pairOk (k + i) m m' = true) ∧ ∃ j m', i < j ∧ k + j ≤ n ∧ ms[j]? = some m' ∧ m'.2.2.testBit (k + i) = true) ∧ (n < k + i → m.2.2.testBit (k + i - 1) = true)
  | [], k, _, i, m, hi => by simp at hi
  | x :: r, k, h, i, m, hi => by
    simp only [fastGo, nblt] at h
    cases h1 : decide (x.2.2 < 2 ^ k) with
    | false => rw [h1] at h; cases h
    | true =>
      rw [h1] at h
      dsimp only at h
      generalize hc : (match decide (k < n) with
        | true => (r.all (pairOk k x) && (r.take (n - k)).any (fun y => y.2.2.testBit k))
        | false => (match decide (n < k) with
          | true => x.2.2.testBit (k - 1)
          | false => true)) = c at h
      cases c with
      | false => cases h
      | true =>
        dsimp only at h
        cases i with
        | zero =>
          simp only [List.getElem?_cons_zero, Option.some.injEq] at hi
          subst hi
          rw [Nat.add_zero]
          refine ⟨of_decide_eq_true h1, fun hk => ?_, fun hk => ?_⟩
          · rw [decide_eq_true hk] at hc
            simp only [Bool.and_eq_true, List.all_eq_true, List.any_eq_true] at hc
            refine ⟨fun j m' hj hm' => ?_, ?_⟩
            · obtain ⟨j', rfl⟩ : ∃ j', j = j' + 1 := ⟨j - 1, by omega⟩
              exact hc.1 m' (List.mem_of_getElem? (by simpa using hm'))
            · obtain ⟨y, hy, hb⟩ := hc.2
              obtain ⟨p, hp⟩ := List.mem_iff_getElem?.1 hy
              rw [List.getElem?_take] at hp
              by_cases hpn : p < n - k
              · rw [if_pos hpn] at hp
                exact ⟨p + 1, y, by omega, by omega, by simpa using hp, hb⟩
              · rw [if_neg hpn] at hp; cases hp
          · rw [decide_eq_false (by omega : ¬ k < n), decide_eq_true hk] at hc
            exact hc
        | succ i =>
          obtain ⟨a1, a2, a3⟩ := fastGo_spec n r (k + 1) h i m (by simpa using hi)
          rw [show k + 1 + i = k + (i + 1) by omega] at a1 a2 a3
          refine ⟨a1, fun hk => ?_, a3⟩
          obtain ⟨b1, j, m', b2, b3, b4, b5⟩ := a2 hk
          refine ⟨fun j m' hj hm' => ?_, j + 1, m', by omega, by omega, by simpa using b4, b5⟩
          obtain ⟨j', rfl⟩ : ∃ j', j = j' + 1 := ⟨j - 1, by omega⟩
          exact b1 j' m' (by omega) (by simpa using hm')
theorem land_zero {a b : Nat} (h : Nat.beq (a &&& b) 0 = true) {t : Nat} (ha : a.testBit t = true) : b.testBit t = false := by
  have h1 := congrArg (fun x => x.testBit t) (Nat.eq_of_beq_eq_true h)
  simpa [Nat.testBit_and, ha] using h1
theorem apart_of {ops : Array Oper} {k : Nat} {x y : Oper} (h : pairOk k (maskOf ops x) (maskOf ops y) = true) (hw : (maskOf ops y).2.2.testBit k = false) : x.apart ops y = true := by
  unfold pairOk at h
  rw [hw] at h
  dsimp only at h
  split at h
  · rename_i h1
    have k1 : ∀ d, x.dst = some d → d ∉ y.looksAt ops ∧ y.dst ≠ some d := fun d hd => by
      have := land_zero h1 (t := d) (by show (bitO x.dst).testBit d = true; rw [bitO_bit]; exact decide_eq_true hd)
      simp only [Nat.testBit_or, Bool.or_eq_false_iff] at this
      refine ⟨fun hm => ?_, fun hm => ?_⟩
      · have h2 : (bitsL (y.looksAt ops)).testBit d = false := this.2
        rw [bitsL_bit, decide_eq_true hm] at h2; cases h2
      · have h2 : (bitO y.dst).testBit d = false := this.1
        rw [bitO_bit, decide_eq_true hm] at h2; cases h2
    have k2 : ∀ d, y.dst = some d → d ∉ x.looksAt ops := fun d hd hm => by
      have := land_zero h (t := d) (by show (bitsL (x.looksAt ops)).testBit d = true; rw [bitsL_bit]; exact decide_eq_true hm)
      have h2 : (bitO y.dst).testBit d = false := this
      rw [bitO_bit, decide_eq_true hd] at h2; cases h2
    unfold Oper.apart
    cases hx : x.dst with
    | none =>
      cases hy : y.dst with
      | none => rfl
      | some e => have := k2 e hy; simpa using this
    | some d =>
      have := k1 d hx
      cases hy : y.dst with
      | none => simp [this.1]
      | some e =>
        have h3 := k2 e hy
        have h4 : e ≠ d := fun e' => this.2 (by rw [hy, e'])
        simp [this.1, h3, h4]
  · cases h
theorem after_bit {ops : Array Oper} {o : Oper} {i : Nat} : (maskOf ops o).2.2.testBit i = true ↔ ∃ e ∈ o.after, Region.binds .any e = true ∧ e.on = i := by
  show (bitsL _).testBit i = true ↔ _
  rw [bitsL_bit, decide_eq_true_eq, List.mem_map]
  constructor
  · rintro ⟨e, he, rfl⟩
    rw [List.mem_filter, Array.mem_toList_iff] at he
    exact ⟨e, he.1, he.2, rfl⟩
  · rintro ⟨e, he, hb, rfl⟩
    exact ⟨e, by rw [List.mem_filter, Array.mem_toList_iff]; exact ⟨he, hb⟩, rfl⟩
theorem waits_of {ops : Array Oper} {i j : Nat} {o : Oper} (hj : ops[j]? = some o) (h : (maskOf ops o).2.2.testBit i = true) : Region.waitsFor .any ops j i = true := by
  obtain ⟨e, he, hb, rfl⟩ := after_bit.1 h
  unfold Region.waitsFor
  rw [hj]
  exact Array.any_eq_true'.2 ⟨e, he, by simp [hb]⟩
theorem filter_range_one (p : Nat → Bool) : ∀ (N k : Nat), k < N → p k = true → (∀ j, j < N → p j = true → j = k) → (List.range N).filter p = [k]
  | 0, k, h, _, _ => by omega
  | N + 1, k, h, hk, hj => by
    rw [List.range_succ, List.filter_append]
    by_cases e : k = N
    · subst e
      have : (List.range k).filter p = [] := List.filter_eq_nil_iff.2 fun j hj' hp => by have := hj j (by have := List.mem_range.1 hj'; omega) hp; have := List.mem_range.1 hj'; omega
      rw [this]
      simp [hk]
    · rw [filter_range_one p N k (by omega) hk fun j hjn hp => hj j (by omega) hp]
      have : p N = false := by
        cases hp : p N with
        | false => rfl
        | true => have := hj N (by omega) hp; omega
      simp [this]
def Listed (ops : Array Oper) (k : Nat) (listed : Array Bool) : Prop := listed.size = ops.size ∧ ∀ j d, j < ops.size → listed.getD j d = decide (j < k)
theorem Listed.set {ops : Array Oper} {k : Nat} {listed : Array Bool} (h : Listed ops k listed) (hk : k < ops.size) : Listed ops (k + 1) (listed.setIfInBounds k true) := by
  refine ⟨by simp [h.1], fun j d hj => ?_⟩
  have := h.2 j d hj
  by_cases e : j = k
  · subst e
    simp [h.1, hj]
  · rw [getD_set_ne d (Ne.symm e), this]
    congr 1
    exact propext ⟨fun h => by omega, fun h => by omega⟩
theorem fast_ok (l : List Oper) (n : Nat) (hs : Region.noSelect l.toArray = true) (hn : n < l.length) (h : fastGo n 0 (l.map (maskOf l.toArray)) = true) : Region.lexTailB .any l.toArray n = true := by
  generalize hops : l.toArray = ops at *
  have hsz : ops.size = l.length := by rw [← hops]; rfl
  have hget : ∀ i : Nat, ops[i]? = l[i]? := fun i => by rw [← hops]; simp
  have S := fun (i : Nat) (o : Oper) (ho : ops[i]? = some o) => by
    have := fastGo_spec n _ 0 h i (maskOf ops o) (by rw [List.getElem?_map, ← hget i, ho]; rfl)
    simp only [Nat.zero_add] at this
    exact this
  have hpick : ∀ i, i < ops.size → ∃ o, ops[i]? = some o := fun i hi => ⟨ops[i], Array.getElem?_eq_getElem hi⟩
  have hback : ∀ (j : Nat) (m : Masks), (l.map (maskOf ops))[j]? = some m → ∃ o, ops[j]? = some o ∧ maskOf ops o = m := fun j m hm => by
    rw [List.getElem?_map, ← hget j] at hm
    obtain ⟨o, ho, rfl⟩ := Option.map_eq_some_iff.1 hm
    exact ⟨o, ho, rfl⟩
  have hmap : ∀ (j : Nat) (o : Oper), ops[j]? = some o → (l.map (maskOf ops))[j]? = some (maskOf ops o) := fun j o ho => by rw [List.getElem?_map, ← hget j, ho]; rfl
  have hedge : ∀ (i : Nat) (o : Oper), ops[i]? = some o → ∀ e ∈ o.after, Region.binds .any e = true → e.on < i := fun i o ho e he hb => by
    have h1 := (S i o ho).1
    have h2 : (maskOf ops o).2.2.testBit e.on = true := after_bit.2 ⟨e, he, hb, rfl⟩
    rcases Nat.lt_or_ge e.on i with h3 | h3
    · exact h3
    · rw [Nat.testBit_lt_two_pow (Nat.lt_of_lt_of_le h1 (Nat.pow_le_pow_right (by decide) h3))] at h2
      cases h2
  have hready : ∀ (k : Nat) (listed : Array Bool), k < ops.size → Listed ops k listed → k ∈ Region.ready .any ops listed := fun k listed hk hl => by
    obtain ⟨o, ho⟩ := hpick k hk
    refine mem_ready.2 ⟨by rw [hl.2 k true hk]; simp, o, ho, fun e he hb => ?_⟩
    have h1 := hedge k o ho e he hb
    rw [hl.2 e.on false (by omega)]
    exact decide_eq_true h1
  unfold Region.lexTailB
  simp only [Bool.and_eq_true, decide_eq_true_eq]
  refine ⟨⟨⟨⟨hs, by omega⟩, ?_⟩, ?_⟩, ?_⟩
  · refine List.all_eq_true.2 fun i hi => ?_
    have hin := List.mem_range.1 hi
    obtain ⟨o, ho⟩ := hpick i (by omega)
    obtain ⟨_, j, m', h1, h2, h3, h4⟩ := (S i o ho).2.1 hin
    obtain ⟨oj, hoj, rfl⟩ := hback j m' h3
    refine List.any_eq_true.2 ⟨j, List.mem_range.2 (by omega), ?_⟩
    rw [Bool.and_eq_true]
    exact ⟨decide_eq_true h1, waits_of hoj h4⟩
  · refine List.all_eq_true.2 fun t ht => ?_
    have htn := List.mem_range.1 ht
    by_cases hle : t ≤ n
    · simp [hle]
    · obtain ⟨o, ho⟩ := hpick t htn
      simp [waits_of ho ((S t o ho).2.2 (by omega))]
  · have hseq : ∀ (g k : Nat) (listed : Array Bool), n ≤ k → k + g = ops.size → Listed ops k listed → Region.seqB .any ops g k listed = true := by
      intro g
      induction g with
      | zero =>
        intro k listed _ hk hl
        simp only [Region.seqB, List.isEmpty_iff]
        cases hr : Region.ready .any ops listed with
        | nil => rfl
        | cons x xs =>
          have : x ∈ Region.ready .any ops listed := by rw [hr]; exact List.mem_cons_self
          obtain ⟨h1, o, ho, _⟩ := mem_ready.1 this
          have hx := (Array.getElem?_eq_some_iff.1 ho).1
          rw [hl.2 x true hx] at h1
          simp at h1
          omega
      | succ g ih =>
        intro k listed hnk hk hl
        simp only [Region.seqB, Bool.and_eq_true, decide_eq_true_eq]
        refine ⟨?_, ih (k + 1) _ (by omega) (by omega) (hl.set (by omega))⟩
        have h0 := hready k listed (by omega) hl
        have h1 : ∀ j ∈ Region.ready .any ops listed, j = k := fun j hj => by
          obtain ⟨h2, o, ho, h3⟩ := mem_ready.1 hj
          have hjs := (Array.getElem?_eq_some_iff.1 ho).1
          rw [hl.2 j true hjs] at h2
          have hjk : k ≤ j := by simpa using h2
          by_cases e : j = k
          · exact e
          · obtain ⟨e1, he1, hb1, ho1⟩ := after_bit.1 ((S j o ho).2.2 (by omega))
            have := h3 e1 he1 hb1
            rw [hl.2 e1.on false (by omega), ho1] at this
            have := of_decide_eq_true this
            omega
        unfold Region.ready at h0 h1 ⊢
        rw [List.mem_filter] at h0
        exact filter_range_one _ _ _ (by omega) h0.2 fun j hj hp => h1 j (List.mem_filter.2 ⟨List.mem_range.2 hj, hp⟩)
    have hhead : ∀ (f k : Nat) (listed : Array Bool), k + f = n → Listed ops k listed → Region.lexHead .any ops (ops.size - n) f k listed = true := by
      intro f
      induction f with
      | zero => intro k listed hk hl; exact hseq _ k listed (by omega) (by omega) hl
      | succ f ih =>
        intro k listed hk hl
        have hks : k < ops.size := by omega
        obtain ⟨o, ho⟩ := hpick k hks
        simp only [Region.lexHead, Bool.and_eq_true]
        refine ⟨⟨?_, ?_⟩, ih (k + 1) _ (by omega) (hl.set hks)⟩
        · simpa using hready k listed hks hl
        · unfold Region.free
          rw [ho]
          dsimp only
          refine List.all_eq_true.2 fun j hj => ?_
          have hjs := List.mem_range.1 hj
          obtain ⟨oj, hoj⟩ := hpick j hjs
          rw [hoj, hl.2 j true hjs]
          simp only [Bool.or_eq_true, beq_iff_eq, decide_eq_true_eq]
          rcases Nat.lt_trichotomy j k with e | e | e
          · exact .inl (.inr e)
          · exact .inl (.inl e)
          · refine .inr ?_
            have hp := ((S k o ho).2.1 (by omega)).1 j _ e (hmap j oj hoj)
            cases hw : (maskOf ops oj).2.2.testBit k with
            | true =>
              obtain ⟨e1, he1, hb1, ho1⟩ := after_bit.1 hw
              exact .inl (Array.any_eq_true'.2 ⟨e1, he1, by simp [hb1, ho1]⟩)
            | false => exact .inr (apart_of hp hw)
    exact hhead n 0 _ (by omega) ⟨by simp, fun j d hj => by simp [hj]⟩
end Go.Proofs.Ytcakdjnnfonijaa
