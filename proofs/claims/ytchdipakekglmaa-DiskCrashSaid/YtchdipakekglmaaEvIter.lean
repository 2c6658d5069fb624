/- A reckoner of closed runs, 12b: ranges over strings and maps. Nothing of the program is used here. -/
import Derived.Test.YtchdipakekglmaaEvCall
import Derived.Maps.RangeRun
import Derived.Laws.RangeString
namespace Go.Proofs.Ytchdipakekglmaa
open Go.RowKit

noncomputable def evRange (P : Program) (h : Hp) (t : TypeId) (x : AV) : Option (AV × Hp) := match P.underlying t, x with
  | some .string, .v (.string s) => some (.ptr h.nx 0, h.new (.sit s 0))
  | some (.map _ _), .v (.map none) => some (.ptr h.nx 0, h.new (.mit none 0 [] 0))
  | some (.map _ _), .mp id => match h.get id with
    | .map _ clock => some (.ptr h.nx 0, h.new (.mit (some id) clock [] clock))
    | _ => none
  | _, _ => none
theorem evRange_ok {P : Program} {ρ : Env} {base : Kp} {w0 : World} {h h' : Hp} {w : World} (E : Emb ρ base w0 h w) {t : TypeId} {x v : AV} {y : Value} (hx : x.real ρ = some y) (hv : evRange P h t x = some (v, h')) : Does P ρ base w0 (Instr.range t y) w v h' := by
  have fin : ∀ (o : Obj) (b : Blk), v = .ptr h.nx 0 → h' = h.new b → (Instr.range t y).run P w = .ok (.pointer (some ⟨w.heap.size, 0, none⟩)) (w.alloc o) → BlkR (ρ.add h.nx ⟨w.heap.size, 0, 0⟩) ⟨w.heap.size, 0, 0⟩ b (some o) → Does P ρ base w0 (Instr.range t y) w v h' := fun o b h1 h2 h3 h4 => by
    subst h1; subst h2
    exact ⟨ρ.add h.nx ⟨w.heap.size, 0, 0⟩, _, _, h3, by simp [AV.real, add_self], Env.le_add E.fresh0, E.alloc o b 0 h4⟩
  unfold evRange at hv
  split at hv
  · rename_i s ht
    obtain ⟨h1, h2⟩ := Prod.mk.inj (Option.some.inj hv)
    simp only [AV.real, Option.some.injEq] at hx
    subst hx
    exact fin (.stringIter s 0) _ h1.symm h2.symm (run_range_string w t s ht) ⟨rfl, rfl⟩
  · rename_i k e ht
    obtain ⟨h1, h2⟩ := Prod.mk.inj (Option.some.inj hv)
    simp only [AV.real, Option.some.injEq] at hx
    subst hx
    exact fin (.mapIter none 0 #[] 0) _ h1.symm h2.symm (run_range_nilMap w t k e ht) ⟨rfl, none, rfl, fun _ => rfl, fun _ hh => by cases hh⟩
  · rename_i k e id ht
    split at hv
    case h_2 => cases hv
    rename_i es clock hg
    obtain ⟨h1, h2⟩ := Prod.mk.inj (Option.some.inj hv)
    simp only [AV.real, Option.map_eq_some_iff] at hx
    obtain ⟨l, hl, rfl⟩ := hx
    obtain ⟨l', es', hl', _, ho, ha⟩ := E.map hg
    obtain rfl := Option.some.inj (hl.symm.trans hl')
    exact fin (.mapIter (some l.blk) clock #[] clock) _ h1.symm h2.symm (run_range_map w t k e l.blk es' clock ht ho) ⟨rfl, some l.blk, rfl, (fun hh => by cases hh), fun id' hh => by
      obtain rfl := Option.some.inj hh
      exact ⟨l, Env.le_add E.fresh0 _ _ hl, rfl⟩⟩
  · cases hv
noncomputable def inL (n : Nat) : List Nat → Bool
  | [] => false
  | x :: r => match Nat.beq n x with
    | true => true
    | false => inL n r
theorem inL_eq (n : Nat) : ∀ l : List Nat, inL n l = l.contains n
  | [] => rfl
  | x :: r => by
    simp only [inL, List.contains_cons]
    cases h : Nat.beq n x with
    | true => rw [Nat.eq_of_beq_eq_true h]; simp
    | false =>
      have : n ≠ x := fun e => by rw [e] at h; simp at h
      simp [inL_eq n r, this]
noncomputable def oldAll (since : Nat) : List (AV × AV × Nat) → Bool
  | [] => true
  | e :: r => match Nat.blt e.2.2 since with
    | true => oldAll since r
    | false => false
noncomputable def leftA (seen : List Nat) (mk : AV × AV × Nat → AV × Hp) : List (AV × AV × Nat) → List (AV × Hp)
  | [] => []
  | e :: r => match inL e.2.2 seen with
    | true => leftA seen mk r
    | false => mk e :: leftA seen mk r
noncomputable def nextMk (h : Hp) (id m since clock : Nat) (seen : List Nat) (e : AV × AV × Nat) : AV × Hp := (.tup [.v (.bool true), e.1, e.2.1], h.put id (.mit (some m) since (seen ++ [e.2.2]) clock))
noncomputable def lastN : List Nat → Option Nat
  | [] => none
  | [x] => some x
  | _ :: y :: r => lastN (y :: r)
noncomputable def findBorn (n : Nat) : List (AV × AV × Nat) → Option AV
  | [] => none
  | e :: r => match Nat.beq e.2.2 n with
    | true => some (.tup [e.1, e.2.1])
    | false => findBorn n r
noncomputable def evEntry (h : Hp) (x : AV) : Option AV := match x with
  | .ptr id 0 => match h.get id with
    | .mit (some m) _ seen stp => match h.get m, lastN seen with
      | .map es clock, some n => match Nat.beq clock stp with
        | true => findBorn n es
        | false => none
      | _, _ => none
    | _ => none
  | _ => none
theorem lastN_ok : ∀ (l : List Nat) (n : Nat), lastN l = some n → l.toArray.back? = some n
  | [], _, h => by cases h
  | [x], n, h => by obtain rfl := Option.some.inj h; rfl
  | x :: y :: r, n, h => by
    have := lastN_ok (y :: r) n h
    simp only [List.back?_toArray] at this ⊢
    rw [List.getLast?_cons_cons]
    exact this
theorem findBorn_ok {ρ : Env} {n : Nat} {es : List (AV × AV × Nat)} {ms : List MapEntry} (h : All2 (entR ρ) es ms) : ∀ v, findBorn n es = some v → ∃ e, ms.find? (·.born == n) = some e ∧ v.real ρ = some (.tuple #[e.key, e.val]) := by
  induction h with
  | nil => intro v hv; cases hv
  | cons hh _ ih =>
    intro v hv
    simp only [findBorn] at hv
    split at hv
    · rename_i hb
      obtain rfl := Option.some.inj hv
      have hb := Nat.eq_of_beq_eq_true hb
      rw [hh.2.2] at hb
      exact ⟨_, by rw [List.find?_cons_of_pos (by simp [hb])], by simp [AV.real, AV.reals, hh.1, hh.2.1]⟩
    · rename_i hb
      obtain ⟨e, h1, h2⟩ := ih v hv
      refine ⟨e, ?_, h2⟩
      rw [List.find?_cons_of_neg]
      · exact h1
      · rw [← hh.2.2]
        intro e'
        rw [beq_iff_eq] at e'
        rw [e'] at hb
        simp at hb
theorem evEntry_ok {P : Program} {ρ : Env} {base : Kp} {w0 : World} {h : Hp} {w : World} (E : Emb ρ base w0 h w) {x v : AV} {y : Value} (hx : x.real ρ = some y) (hv : evEntry h x = some v) : Gives P ρ (Instr.entry y) w v := by
  unfold evEntry at hv
  split at hv
  case h_2 => cases hv
  rename_i id
  simp only [AV.real, Option.map_eq_some_iff] at hx
  obtain ⟨l, hl, rfl⟩ := hx
  split at hv
  case h_2 => cases hv
  rename_i m since seen stp hg
  have hlive : h.get id ≠ .gone := by rw [hg]; exact fun e => by cases e
  obtain ⟨l', hl', _, hr⟩ := E.live id hlive
  obtain rfl := Option.some.inj (hl.symm.trans hl')
  rw [hg] at hr
  obtain ⟨h0, m', hr, _, hm'⟩ := hr
  obtain ⟨lm, hlm, rfl⟩ := hm' m rfl
  obtain ⟨lb, lo, lx⟩ := l
  dsimp only at h0 hr
  subst h0
  split at hv
  case h_2 => cases hv
  rename_i es clock n hgm hls
  obtain ⟨lm', es', hlm', _, ho, ha⟩ := E.map hgm
  obtain rfl := Option.some.inj (hlm.symm.trans hlm')
  split at hv
  case h_2 => cases hv
  rename_i hb
  obtain rfl := Nat.eq_of_beq_eq_true hb
  obtain ⟨e, he, hve⟩ := findBorn_ok ha v hv
  refine ⟨_, ?_, hve⟩
  have he' : es'.find? (·.born == n) = some e := by rw [← he, Array.find?_toList]
  simp [Instr.entry, getObj, Sem.run_bind, Sem.run, hr, ho, lastN_ok seen n hls, he']
noncomputable def evNext (h : Hp) (isStr : Bool) (x : AV) : R := match x with
  | .ptr id 0 => match h.get id with
    | .sit s pos => match isStr with
      | true => match Nat.blt pos s.size with
        | true => .val (.v (.tuple #[.bool true, goInt pos, .int .i32 ((Utf8.decode s pos).1 : Nat)])) (h.put id (.sit s (pos + (Utf8.decode s pos).2)))
        | false => .val (.v (.tuple #[.bool false])) h
      | false => .bad
    | .mit none _ _ _ => match isStr with
      | true => .bad
      | false => .val (.v (.tuple #[.bool false])) h
    | .mit (some m) since seen stp => match isStr with
      | true => .bad
      | false => match h.get m with
        | .map es clock => match Nat.ble since stp with
          | true => match oldAll since es with
            | true => match leftA seen (nextMk h id m since clock seen) es with
              | [] => .val (.v (.tuple #[.bool false])) h
              | a :: l => .alts (a :: l)
            | false => .bad
          | false => .bad
        | _ => .bad
    | _ => .bad
  | _ => .bad
theorem oldAll_ok {ρ : Env} {since : Nat} {es : List (AV × AV × Nat)} {ms : List MapEntry} (h : All2 (entR ρ) es ms) (ho : oldAll since es = true) : ∀ x ∈ ms, x.born < since := by
  induction h with
  | nil => intro x hx; cases hx
  | cons hh _ ih =>
    simp only [oldAll, blt_eq] at ho
    intro x hx
    split at ho
    · rename_i hlt
      rcases List.mem_cons.1 hx with rfl | hx
      · rw [← hh.2.2]; exact of_decide_eq_true hlt
      · exact ih ho x hx
    · cases ho
theorem leftA_ok {ρ : Env} {seen : List Nat} (mk : AV × AV × Nat → AV × Hp) {es : List (AV × AV × Nat)} {ms : List MapEntry} (h : All2 (entR ρ) es ms) : ∀ x ∈ ms.filter (fun e => !seen.toArray.contains e.born), ∃ e, entR ρ e x ∧ mk e ∈ leftA seen mk es := by
  induction h with
  | nil => intro x hx; cases hx
  | @cons ea eb _ _ hh _ ih =>
    intro x hx
    obtain ⟨hm, hc⟩ := List.mem_filter.1 hx
    simp only [leftA]
    rcases List.mem_cons.1 hm with rfl | hm
    · rw [show inL ea.2.2 seen = false from by rw [inL_eq, hh.2.2]; simpa using hc]
      exact ⟨_, hh, List.mem_cons_self⟩
    · obtain ⟨e, h1, h2⟩ := ih x (List.mem_filter.2 ⟨hm, hc⟩)
      refine ⟨e, h1, ?_⟩
      split
      · exact h2
      · exact List.mem_cons_of_mem _ h2
theorem leftA_nil {ρ : Env} {seen : List Nat} {mk : AV × AV × Nat → AV × Hp} {es : List (AV × AV × Nat)} {ms : List MapEntry} (h : All2 (entR ρ) es ms) (hn : (ms.filter (fun e => !seen.toArray.contains e.born)) = []) : leftA seen mk es = [] := by
  induction h with
  | nil => rfl
  | @cons ea eb _ _ hh _ ih =>
    simp only [leftA]
    rw [List.filter_cons] at hn
    split at hn
    · cases hn
    · rename_i hc
      rw [show inL ea.2.2 seen = true from by rw [inL_eq, hh.2.2]; simpa using hc]
      exact ih hn
theorem evNext_ok {P : Program} {ρ : Env} {base : Kp} {w0 : World} {h : Hp} {w : World} (E : Emb ρ base w0 h w) (t : TypeId) {isStr : Bool} {x : AV} {y : Value} (hx : x.real ρ = some y) :
    OpR P ρ base w0 (do pure (.value (← Instr.next y isStr t))) w (evNext h isStr x) := by
  unfold evNext
  split
  case h_2 => trivial
  rename_i id
  simp only [AV.real, Option.map_eq_some_iff] at hx
  obtain ⟨l, hl, rfl⟩ := hx
  split
  case h_4 => trivial
  · rename_i s pos hg
    have hlive : h.get id ≠ .gone := by rw [hg]; exact fun e => by cases e
    obtain ⟨l', hl', _, hr⟩ := E.live id hlive
    obtain rfl := Option.some.inj (hl.symm.trans hl')
    rw [hg] at hr
    obtain ⟨h0, hr⟩ : l.off = 0 ∧ w.heap[l.blk]? = some (.stringIter s pos) := hr
    obtain ⟨lb, lo, lx⟩ := l
    dsimp only at h0 hr
    subst h0
    split
    case h_2 => trivial
    split
    · rename_i hlt
      rw [blt_eq] at hlt
      have hlt := of_decide_eq_true hlt
      refine ⟨ρ, _, _, ?_, rfl, Env.le_refl ρ, E.setObj hlive hl (.stringIter s (pos + (Utf8.decode s pos).2)) _ ⟨rfl, rfl⟩⟩
      simp [Instr.next, getObj, setObj, Sem.run_bind, Sem.run, hr, hlt, World.putObj, AV.real]
    · rename_i hlt
      rw [blt_eq] at hlt
      have hlt := of_decide_eq_false hlt
      refine ⟨ρ, w, _, ?_, rfl, Env.le_refl ρ, E⟩
      simp [Instr.next, getObj, Sem.run_bind, Sem.run, hr, hlt]
  · rename_i since seen stp hg
    have hlive : h.get id ≠ .gone := by rw [hg]; exact fun e => by cases e
    obtain ⟨l', hl', _, hr⟩ := E.live id hlive
    obtain rfl := Option.some.inj (hl.symm.trans hl')
    rw [hg] at hr
    obtain ⟨h0, m', hr, hm', _⟩ := hr
    obtain rfl := hm' rfl
    obtain ⟨lb, lo, lx⟩ := l
    dsimp only at h0 hr
    subst h0
    split
    · trivial
    · refine ⟨ρ, w, _, ?_, rfl, Env.le_refl ρ, E⟩
      simp [Instr.next, getObj, Sem.run_bind, Sem.run, hr]
  · rename_i m since seen stp hg
    have hlive : h.get id ≠ .gone := by rw [hg]; exact fun e => by cases e
    obtain ⟨l', hl', _, hr⟩ := E.live id hlive
    obtain rfl := Option.some.inj (hl.symm.trans hl')
    rw [hg] at hr
    obtain ⟨h0, m', hr, _, hm'⟩ := hr
    obtain ⟨lm, hlm, rfl⟩ := hm' m rfl
    obtain ⟨lb, lo, lx⟩ := l
    dsimp only at h0 hr
    subst h0
    split
    · trivial
    · split
      case h_2 => trivial
      rename_i es clock hgm
      obtain ⟨lm', es', hlm', _, ho, ha⟩ := E.map hgm
      obtain rfl := Option.some.inj (hlm.symm.trans hlm')
      split
      case h_2 => trivial
      rename_i hle
      have hle := Nat.le_of_ble_eq_true hle
      split
      case h_2 => trivial
      rename_i hold
      have hrun := run_next_at (P := P) w t lb lm.blk since stp seen.toArray es' clock hr ho (oldAll_ok ha hold) hle
      have hfl : (leftOf es' seen.toArray).toList = es'.toList.filter (fun e => !seen.toArray.contains e.born) := by simp [leftOf]
      split
      · rename_i hnil
        rcases hrun with ⟨_, hrun⟩ | ⟨e, he, _⟩
        · refine ⟨ρ, w, _, ?_, rfl, Env.le_refl ρ, E⟩
          rw [Sem.run_bind, hrun]
          rfl
        · rw [hfl] at he
          obtain ⟨e', _, h2⟩ := leftA_ok (nextMk h id m since clock seen) ha e he
          rw [hnil] at h2
          cases h2
      · rename_i a r hal
        rcases hrun with ⟨h0, _⟩ | ⟨e, he, w1, hw1, hrun⟩
        · have h0' : (leftOf es' seen.toArray).toList = [] := by
            have := Array.length_toList (xs := leftOf es' seen.toArray)
            rw [h0] at this
            exact List.eq_nil_of_length_eq_zero this
          rw [hfl] at h0'
          rw [leftA_nil (mk := nextMk h id m since clock seen) ha h0'] at hal
          cases hal
        · rw [hfl] at he
          obtain ⟨e', h1, h2⟩ := leftA_ok (nextMk h id m since clock seen) ha e he
          rw [hal] at h2
          have E1 : Emb ρ base w0 h w1 := by
            rcases hw1 with rfl | rfl
            · exact E
            · exact E.drew _ rfl rfl rfl rfl
          refine ⟨_, h2, ρ, _, .tuple #[.bool true, e.key, e.val], ?_, ?_, Env.le_refl ρ, E1.setObj hlive hl (.mapIter (some lm.blk) since (seen.toArray.push e.born) clock) _ ⟨rfl, some lm.blk, ?_, (fun hh => by cases hh), fun id' hh => ?_⟩⟩
          · rw [Sem.run_bind, hrun]
            rfl
          · simp [nextMk, AV.real, AV.reals, h1.1, h1.2.1]
          · rw [h1.2.2]
            simp
          · obtain rfl := Option.some.inj hh
            exact ⟨lm, hlm, rfl⟩
end Go.Proofs.Ytchdipakekglmaa
