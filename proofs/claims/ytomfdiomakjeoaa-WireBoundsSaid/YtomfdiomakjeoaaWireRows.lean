/- Fields that are put are read as they were; fields that are read are told in as many bytes or fewer; rows of fields one behind the other are the fields of both: plain Lean. -/
import Derived.Test.YtomfdiomakjeoaaWireUnPlain
namespace Go.Proofs.Ytomfdiomakjeoaa
open Go.RowKit

theorem vtake_some {l : List UInt8} {x k : Nat} (h : vtake l = some (x, k)) : vval l = x ∧ vlen l = k ∧ verr l = 0 := by
  unfold vval vlen verr
  rw [h]
  exact ⟨rfl, rfl, rfl⟩
theorem vtake_of {l : List UInt8} (h : verr l = 0) : vtake l = some (vval l, vlen l) := by
  unfold verr at h
  unfold vval vlen
  cases hv : vtake l with
  | none => rw [hv] at h; cases h
  | some p => rfl
theorem vgo_more (l : List UInt8) : ∀ (i acc m : Nat) (p : Nat × Nat) (r : List UInt8), vgo i acc m l = some p → vgo i acc m (l ++ r) = some p := by
  induction l with
  | nil => intro i acc m p r h; simp [vgo] at h
  | cons c l ih =>
    intro i acc m p r h
    rw [List.cons_append, vgo]
    rw [vgo] at h
    by_cases h1 : i = 9 ∧ 1 < c.toNat
    · rw [if_pos h1] at h; cases h
    · rw [if_neg h1] at h ⊢
      by_cases h2 : c.toNat < 128
      · rw [if_pos h2] at h ⊢; exact h
      · rw [if_neg h2] at h ⊢; exact ih _ _ _ _ _ h
theorem vtake_more {l : List UInt8} {p : Nat × Nat} (h : vtake l = some p) (r : List UInt8) : vtake (l ++ r) = some p := vgo_more l 0 0 1 p r h

theorem rdOne_told {f : Fd} (hf : mayB f = true) (hok : f.Ok) (r : List UInt8) (hlen : f.bytes.length < 18446744073709551616) : rdOne (told f ++ r) = some (f, (told f).length) := by
  have hb := hf
  obtain ⟨m, t, word, bytes, rfl, hm1, hm2, ht⟩ := may_parts hf
  have hw := hok.w1
  dsimp only at hw hlen
  have htag : 8 * m + t < 18446744073709551616 := by omega
  obtain ⟨body, hbody⟩ : ∃ body, told ⟨m, t, word, bytes⟩ = vput (8 * m + t) ++ body := ⟨_, rfl⟩
  have hv := vtake_some (vtake_vput (8 * m + t) htag (body ++ r))
  have hd : (told ⟨m, t, word, bytes⟩ ++ r) = vput (8 * m + t) ++ (body ++ r) := by rw [hbody, List.append_assoc]
  have hdrop : (vput (8 * m + t) ++ (body ++ r)).drop (vput (8 * m + t)).length = body ++ r := List.drop_left' rfl
  have htl : (told ⟨m, t, word, bytes⟩).length = (vput (8 * m + t)).length + body.length := by rw [hbody, List.length_append]
  rw [hd, htl]
  unfold rdOne
  rw [hv.1, hv.2.1, hv.2.2, hdrop, if_neg (by omega), show (8 * m + t) % 8 = t by omega, show (8 * m + t) / 8 = m by omega]
  have hbd : body = if (t : Int) = 0 then vput word else if (t : Int) = 1 ∨ (t : Int) = 5 then lowB word (if (t : Int) = 1 then 8 else 4) else vput bytes.length ++ bytes := by
    have : told ⟨m, t, word, bytes⟩ = vput (8 * m + t) ++ (if (t : Int) = 0 then vput word else if (t : Int) = 1 ∨ (t : Int) = 5 then lowB word (if (t : Int) = 1 then 8 else 4) else vput bytes.length ++ bytes) := rfl
    rw [this] at hbody
    exact (List.append_cancel_left hbody).symm
  unfold mayB at hb
  dsimp only at hb
  rw [if_neg (by omega)] at hb
  rcases ht with rfl | rfl | rfl | rfl
  · rw [if_pos (by omega)] at hb
    simp at hb
    have hbz : body = vput word := hbd.trans (if_pos rfl)
    clear hbd
    subst hb
    have hv2 := vtake_some (vtake_vput word hw r)
    rw [hbz, if_pos rfl, hv2.1, hv2.2.1, hv2.2.2, if_pos rfl]
    rfl
  · rw [if_pos (by omega)] at hb
    simp at hb
    have hbz : body = lowB word 8 := hbd.trans ((if_neg (by decide)).trans ((if_pos (.inl rfl)).trans (congrArg (lowB word) (if_pos rfl))))
    clear hbd
    subst hb
    rw [hbz, if_neg (by decide), if_pos (.inl rfl), if_pos rfl, if_neg (by rw [List.length_append, lowB_length]; omega), List.take_left' (lowB_length 8 word), leB_lowB 8 word (by exact hw), lowB_length]
  · rw [if_pos (by omega)] at hb
    simp at hb
    have hbz : body = lowB word 4 := hbd.trans ((if_neg (by decide)).trans ((if_pos (.inr rfl)).trans (congrArg (lowB word) (if_neg (by decide)))))
    clear hbd
    obtain ⟨rfl, hw4⟩ := hb
    rw [hbz, if_neg (by decide), if_pos (.inr rfl), show (if (5 : Nat) = 1 then 8 else 4) = 4 from rfl, if_neg (by rw [List.length_append, lowB_length]; omega), List.take_left' (lowB_length 4 word), leB_lowB 4 word (by show word < 4294967296; omega), lowB_length]
  · rw [if_neg (by omega)] at hb
    simp at hb
    have hbz : body = vput bytes.length ++ bytes := hbd.trans ((if_neg (by decide)).trans (if_neg (by decide)))
    clear hbd
    subst hb
    have hv2 := vtake_some (vtake_vput bytes.length hlen (bytes ++ r))
    have hdrop2 : (vput bytes.length ++ (bytes ++ r)).drop (vput bytes.length).length = bytes ++ r := List.drop_left' rfl
    rw [hbz, List.append_assoc, if_neg (by decide), if_neg (by decide), if_pos rfl, hv2.1, hv2.2.1, hv2.2.2, hdrop2, if_neg (by rw [List.length_append, List.length_append]; omega), List.take_left' rfl, List.length_append]
    rw [Nat.add_assoc]
    rfl
theorem rdOne_short {l : List UInt8} {f : Fd} {k : Nat} (h : rdOne l = some (f, k)) : mayB f = true ∧ (told f).length ≤ k := by
  unfold rdOne at h
  by_cases hb : verr l ≠ 0 ∨ 4294967296 ≤ vval l ∨ vval l < 8
  · rw [if_pos hb] at h; cases h
  · rw [if_neg hb] at h
    have hk1 := vput_len_take (vtake_of (by omega : verr l = 0))
    obtain ⟨tag, htag⟩ : ∃ x, vval l = x := ⟨_, rfl⟩
    obtain ⟨k1, hk1e⟩ : ∃ x, vlen l = x := ⟨_, rfl⟩
    rw [htag, hk1e] at h hk1
    rw [htag] at hb
    generalize hr : l.drop k1 = r at h
    by_cases t0 : tag % 8 = 0
    · rw [if_pos t0] at h
      split at h
      · rename_i he
        have hk2 := vput_len_take (vtake_of he)
        obtain ⟨rfl, rfl⟩ := Prod.mk.injEq _ _ _ _ ▸ Option.some.inj h
        refine ⟨?_, ?_⟩
        · unfold mayB; dsimp only; rw [if_neg (by omega), if_pos (.inl rfl)]; rfl
        · unfold told
          dsimp only
          rw [if_pos rfl, List.length_append, show (8 * ((tag / 8 : Nat) : Int).toNat + (0 : Int).toNat) = tag by omega]
          omega
      · cases h
    · rw [if_neg t0] at h
      by_cases t1 : tag % 8 = 1 ∨ tag % 8 = 5
      · rw [if_pos t1] at h
        obtain ⟨z, hz⟩ : ∃ z, (if tag % 8 = 1 then 8 else 4) = z := ⟨_, rfl⟩
        rw [hz] at h
        split at h
        · cases h
        · obtain ⟨rfl, rfl⟩ := Prod.mk.injEq _ _ _ _ ▸ Option.some.inj h
          have hlt := leB_lt (r.take z)
          have hzi : (if ((tag % 8 : Nat) : Int) = 1 then 8 else 4) = z := by rw [← hz]; split <;> split <;> omega
          refine ⟨?_, ?_⟩
          · unfold mayB; dsimp only
            rw [if_neg (by omega), if_pos (by omega)]
            rcases t1 with t1 | t1
            · rw [t1]; rfl
            · have hz4 : z = 4 := by rw [← hz, t1]; rfl
              have hlt2 : (256 : Nat) ^ (r.take z).length ≤ 256 ^ 4 := Nat.pow_le_pow_right (by decide) (by rw [List.length_take]; omega)
              rw [t1, decide_eq_true (by omega : ((leB (r.take z) : Nat) : Int) < 4294967296)]; rfl
          · unfold told
            dsimp only
            rw [if_neg (by omega), if_pos (by omega), hzi, List.length_append, lowB_length, show (8 * ((tag / 8 : Nat) : Int).toNat + ((tag % 8 : Nat) : Int).toNat) = tag by omega]
            omega
      · rw [if_neg t1] at h
        by_cases t2 : tag % 8 = 2
        · rw [if_pos t2] at h
          split at h
          · cases h
          · rename_i hn
            have hk2 := vput_len_take (vtake_of (by omega : verr r = 0))
            obtain ⟨rfl, rfl⟩ := Prod.mk.injEq _ _ _ _ ▸ Option.some.inj h
            have hbl : ((r.drop (vlen r)).take (vval r)).length = vval r := by rw [List.length_take, List.length_drop]; omega
            refine ⟨?_, ?_⟩
            · unfold mayB; dsimp only; rw [if_neg (by omega), if_neg (by decide)]; rfl
            · unfold told
              dsimp only
              rw [if_neg (by decide), if_neg (by decide), List.length_append, List.length_append, hbl, show (8 * ((tag / 8 : Nat) : Int).toNat + (2 : Int).toNat) = tag by omega]
              omega
        · rw [if_neg t2] at h; cases h
theorem rdOne_more {l : List UInt8} {f : Fd} {k : Nat} (h : rdOne l = some (f, k)) (r : List UInt8) : rdOne (l ++ r) = some (f, k) := by
  have hb : ¬ (verr l ≠ 0 ∨ 4294967296 ≤ vval l ∨ vval l < 8) := by
    intro hb
    unfold rdOne at h
    rw [if_pos hb] at h; cases h
  have hv := vtake_some (vtake_more (vtake_of (by omega : verr l = 0)) r)
  have hd : (l ++ r).drop (vlen l) = l.drop (vlen l) ++ r := by rw [List.drop_append_of_le_length (vlen_le l)]
  unfold rdOne at h ⊢
  rw [hv.1, hv.2.1, hv.2.2, hd, if_neg (by omega)]
  rw [if_neg hb] at h
  obtain ⟨s, hs⟩ : ∃ s, l.drop (vlen l) = s := ⟨_, rfl⟩
  rw [hs] at h ⊢
  by_cases t0 : vval l % 8 = 0
  · rw [if_pos t0] at h ⊢
    split at h
    · rename_i he
      have hv2 := vtake_some (vtake_more (vtake_of he) r)
      rw [hv2.1, hv2.2.1, hv2.2.2, if_pos rfl]
      exact h
    · cases h
  · rw [if_neg t0] at h ⊢
    by_cases t1 : vval l % 8 = 1 ∨ vval l % 8 = 5
    · rw [if_pos t1] at h ⊢
      obtain ⟨z, hz⟩ : ∃ z, (if vval l % 8 = 1 then 8 else 4) = z := ⟨_, rfl⟩
      rw [hz] at h ⊢
      split at h
      · cases h
      · rename_i hlen
        rw [if_neg (by rw [List.length_append]; omega), List.take_append_of_le_length (by omega)]
        exact h
    · rw [if_neg t1] at h ⊢
      by_cases t2 : vval l % 8 = 2
      · rw [if_pos t2] at h ⊢
        split at h
        · cases h
        · rename_i hn
          have hv2 := vtake_some (vtake_more (vtake_of (by omega : verr s = 0)) r)
          have hls := vlen_le s
          rw [hv2.1, hv2.2.1, hv2.2.2, if_neg (by rw [List.length_append]; omega), List.drop_append_of_le_length hls, List.take_append_of_le_length (by rw [List.length_drop]; omega)]
          exact h
      · rw [if_neg t2] at h; cases h

theorem told_pos (f : Fd) : 0 < (told f).length := by
  unfold told
  rw [List.length_append]
  have : 0 < (vput (8 * f.num.toNat + f.typ.toNat)).length := by
    by_cases hx : 8 * f.num.toNat + f.typ.toNat < 128
    · rw [vput_lt hx]; simp
    · rw [vput_ge hx]; simp
  omega
theorem told_bytes (f : Fd) (h : mayB f = true) : f.bytes.length ≤ (told f).length := by
  obtain ⟨m, t, word, bytes, rfl, hm1, hm2, ht⟩ := may_parts h
  unfold mayB at h
  dsimp only at h
  rw [if_neg (by omega)] at h
  by_cases h3 : (t : Int) = 0 ∨ (t : Int) = 1 ∨ (t : Int) = 5
  · rw [if_pos h3] at h
    simp at h
    rw [h.1]; simp
  · unfold told
    dsimp only
    rw [if_neg (by omega), if_neg (by omega), List.length_append, List.length_append]
    omega
theorem rdAll_tolds (fs : List Fd) : ∀ n, (tolds fs).length < n → n < 18446744073709551616 → (∀ f ∈ fs, f.Ok) → fs.all mayB = true → rdAll n (tolds fs) = some fs := by
  induction fs with
  | nil => intro n hn _ _ _; obtain ⟨m, rfl⟩ : ∃ k, n = k + 1 := ⟨n - 1, by omega⟩; exact rdAll_nil m
  | cons f r ih =>
    intro n hn hn2 hok hf
    have hw : tolds (f :: r) = told f ++ tolds r := rfl
    have hp := told_pos f
    rw [hw] at hn ⊢
    rw [List.length_append] at hn
    obtain ⟨m, rfl⟩ : ∃ k, n = k + 1 := ⟨n - 1, by omega⟩
    rw [List.all_cons, Bool.and_eq_true] at hf
    have hbl := told_bytes f hf.1
    rw [rdAll_cons (by intro e; have := congrArg List.length e; rw [List.length_append, List.length_nil] at this; omega), rdOne_told hf.1 (hok f (by simp)) _ (by omega)]
    dsimp only
    rw [List.drop_left' rfl, ih m (by omega) (by omega) (fun g hg => hok g (by simp [hg])) hf.2]
    rfl
theorem rdAll_short (n : Nat) : ∀ (l : List UInt8) (fs : List Fd), rdAll n l = some fs → fs.all mayB = true ∧ (∀ f ∈ fs, f.Ok) ∧ (tolds fs).length ≤ l.length ∧ fs.length ≤ l.length := by
  induction n with
  | zero => intro l fs h; simp [rdAll] at h
  | succ n ih =>
    intro l fs h
    by_cases hl : l = []
    · subst hl
      rw [rdAll_nil] at h
      obtain rfl := Option.some.inj h
      exact ⟨rfl, by simp, by simp [tolds], by simp⟩
    · rw [rdAll_cons hl] at h
      cases hr : rdOne l with
      | none => rw [hr] at h; cases h
      | some p =>
        obtain ⟨f, k⟩ := p
        rw [hr] at h
        dsimp only at h
        obtain ⟨fs', hfs', rfl⟩ := Option.map_eq_some_iff.1 h
        obtain ⟨h1, h2, h3, h4⟩ := ih _ _ hfs'
        have hp := rdOne_pos hr
        have hs := rdOne_short hr
        rw [List.length_drop] at h3 h4
        refine ⟨by rw [List.all_cons, hs.1, h1]; rfl, ?_, ?_, ?_⟩
        · intro g hg
          rcases List.mem_cons.1 hg with rfl | hg
          · exact hp.2.2
          · exact h2 g hg
        · show (told f ++ tolds fs').length ≤ _
          rw [List.length_append]
          omega
        · rw [List.length_cons]; omega
theorem rdAll_append (n : Nat) : ∀ (l r : List UInt8) (fs : List Fd) (m : Nat), rdAll n l = some fs → (l ++ r).length < m → rdAll m (l ++ r) = (rdAll (r.length + 1) r).map (fs ++ ·) := by
  induction n with
  | zero => intro l r fs m h; simp [rdAll] at h
  | succ n ih =>
    intro l r fs m h hm
    by_cases hl : l = []
    · subst hl
      rw [rdAll_nil] at h
      obtain rfl := Option.some.inj h
      rw [List.nil_append] at hm ⊢
      rw [rdAll_more m (r.length + 1) r hm (by omega)]
      simp
    · rw [rdAll_cons hl] at h
      cases hr : rdOne l with
      | none => rw [hr] at h; cases h
      | some p =>
        obtain ⟨f, k⟩ := p
        rw [hr] at h
        dsimp only at h
        obtain ⟨fs', hfs', rfl⟩ := Option.map_eq_some_iff.1 h
        have hp := rdOne_pos hr
        obtain ⟨m, rfl⟩ : ∃ j, m = j + 1 := ⟨m - 1, by omega⟩
        rw [rdAll_cons (by intro e; exact hl (List.append_eq_nil_iff.1 e).1), rdOne_more hr r]
        dsimp only
        rw [List.drop_append_of_le_length hp.2.1, ih (l.drop k) r fs' m hfs' (by rw [List.length_append, List.length_drop]; rw [List.length_append] at hm; omega), Option.map_map]
        congr 1
end Go.Proofs.Ytomfdiomakjeoaa
