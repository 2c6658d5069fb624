/- What a log's disk holds, plainly: the invariant of a log that lies on a disk, and what the calls do to it. / What a log's disk holds, plainly: a batch is added; a log is laid. / What a crash leaves of a log, plainly. -/
import Derived.Test.YtagipfkgnobjlaaWlHi
namespace Go.Proofs.Ytagipfkgnobjlaa
open Go.RowKit

theorem low8 {r : Nat} (h : r < 4611686018427387904) : leB (lowB r 8) = r := leB_lowB 8 r (Nat.lt_trans h (by decide))
theorem headB_1 (r b : Nat) : (headB r b).take 8 = lowB r 8 := by
  unfold headB
  rw [List.take_append_of_le_length (by rw [lowB_length]; exact Nat.le_refl _), List.take_of_length_le (by rw [lowB_length]; exact Nat.le_refl _)]
theorem drop_app {α : Type} (P Q : List α) (k j : Nat) (hk : P.length = k) : (P ++ Q).drop (k + j) = Q.drop j := by
  subst hk
  rw [List.drop_append, List.drop_of_length_le (by omega), List.nil_append]
  congr 1
  omega
theorem headB_2 (r b : Nat) : ((headB r b).drop 8).take 8 = lowB b 8 := by
  unfold headB
  rw [show (8 : Nat) = 8 + 0 from rfl, drop_app _ _ 8 0 (lowB_length 8 r), List.drop_zero, List.take_append_of_le_length (by rw [lowB_length]; exact Nat.le_refl _), List.take_of_length_le (by rw [lowB_length]; exact Nat.le_refl _)]
theorem headB_3 (r b : Nat) : (headB r b).drop 504 = lowB r 8 := by
  unfold headB
  rw [show (504 : Nat) = 8 + 496 from rfl, drop_app _ _ 8 496 (lowB_length 8 r), show (496 : Nat) = 8 + 488 from rfl, drop_app _ _ 8 488 (lowB_length 8 b), show (488 : Nat) = 488 + 0 from rfl, drop_app _ _ 488 0 List.length_replicate, List.drop_zero]
/-- The sector of the head that holds, and the other. -/
def HeadsI (h0 h1 : List UInt8) (run base : Nat) : Prop :=
  (if run % 2 = 0 then h0 else h1) = headB run base ∧ (leB ((if run % 2 = 0 then h1 else h0).take 8) ≠ leB ((if run % 2 = 0 then h1 else h0).drop 504) ∨ leB ((if run % 2 = 0 then h1 else h0).take 8) < run)
theorem hdOk_head {run base i cur : Nat} (h1 : cur < run) (h2 : run < 4611686018427387904) (h3 : run % 2 = i) (h4 : base ≤ run) : hdOk (headB run base) i cur = true := by
  unfold hdOk
  rw [headB_1, headB_2, headB_3, low8 h2, low8 (by omega)]
  simp [h1, h2, h3, h4]
theorem hdStep_head {run base i : Nat} {c : Nat × Nat} (h1 : c.1 < run) (h2 : run < 4611686018427387904) (h3 : run % 2 = i) (h4 : base ≤ run) : hdStep (headB run base) i c = (run, base) := by
  unfold hdStep
  rw [hdOk_head h1 h2 h3 h4, if_pos rfl, headB_1, headB_2, low8 h2, low8 (by omega)]
theorem hdStep_no {s : List UInt8} {i : Nat} {c : Nat × Nat} (h : leB (s.take 8) ≠ leB (s.drop 504) ∨ leB (s.take 8) ≤ c.1) : hdStep s i c = c := by
  unfold hdStep
  rw [if_neg]
  unfold hdOk
  intro hc
  simp only [Bool.and_eq_true, decide_eq_true_eq, beq_iff_eq] at hc
  rcases h with h | h
  · exact h hc.2.2.2.1
  · omega
theorem hdStep_lt {s : List UInt8} {i r : Nat} (h0 : 0 < r) (h : leB (s.take 8) ≠ leB (s.drop 504) ∨ leB (s.take 8) < r) : (hdStep s i (0, 0)).1 < r := by
  unfold hdStep
  split
  · rename_i hc
    unfold hdOk at hc
    simp only [Bool.and_eq_true, decide_eq_true_eq, beq_iff_eq] at hc
    rcases h with h | h
    · exact absurd hc.2.2.2.1 h
    · exact h
  · exact h0
theorem heads_read {L : Int → List UInt8} {from_ : Int} {run base : Nat} (h : HeadsI (L from_) (L (from_ + 1)) run base) (h1 : 1 ≤ base) (h2 : base ≤ run) (h3 : run < 4611686018427387904) : headsP L from_ 2 = (run, base) := by
  show hdStep (L (from_ + ((1 : Nat) : Int))) 1 (hdStep (L (from_ + ((0 : Nat) : Int))) 0 (0, 0)) = (run, base)
  rw [show from_ + ((0 : Nat) : Int) = from_ by omega, show from_ + ((1 : Nat) : Int) = from_ + 1 by omega]
  unfold HeadsI at h
  by_cases hr : run % 2 = 0
  · rw [if_pos hr, if_pos hr] at h
    rw [h.1, hdStep_head (by show 0 < run; omega) h3 hr h2]
    refine hdStep_no (h.2.imp id fun e => ?_)
    exact Nat.le_of_lt e
  · rw [if_neg hr, if_neg hr] at h
    rw [h.1]
    exact hdStep_head (hdStep_lt (by omega) h.2) h3 (by omega) h2
/-- The reading of a sector of the body. -/
def SEq (BY BY' : List UInt8) (base run run' j : Nat) : Prop := secOk (sec BY' j) j base run' = secOk (sec BY j) j base run ∧ leB ((sec BY' j).take 8) = leB ((sec BY j).take 8) ∧ dataOf BY' j = dataOf BY j
theorem SEq.refl (BY : List UInt8) (base run j : Nat) : SEq BY BY base run run j := ⟨rfl, rfl, rfl⟩
theorem coll_congr {BY BY' : List UInt8} {n base run run' r long : Nat} : ∀ (f i : Nat) (acc a' : List UInt8) (i' : Nat), coll BY n base run r long f i acc = some (a', i') → (∀ j, j < i' → SEq BY BY' base run run' j) → coll BY' n base run' r long f i acc = some (a', i')
  | 0, i, acc, a', i', h, _ => by unfold coll at h ⊢; exact h
  | f + 1, i, acc, a', i', h, hs => by
    unfold coll at h ⊢
    split at h
    · rename_i hl
      rw [if_pos hl]
      exact h
    · rename_i hl
      rw [if_neg hl]
      split at h
      · rename_i hg
        have hi := (coll_len _ _ _ _ _ h).2.1
        obtain ⟨e1, e2, e3⟩ := hs i (by omega)
        have hg' : secGood BY' n base run' r i = true := by
          unfold secGood at hg ⊢
          rw [e1, e2]
          exact hg
        rw [if_pos hg', e3]
        exact coll_congr f (i + 1) _ _ _ h hs
      · cases h
theorem coll_more {BY : List UInt8} {n base run r long f i : Nat} {a' : List UInt8} {i' : Nat} (h0 : 0 < long) (h : coll BY n base run r long f i [] = some (a', i')) : i < i' := by
  cases f with
  | zero =>
    unfold coll at h
    rw [if_neg (by simp; omega)] at h
    cases h
  | succ f =>
    unfold coll at h
    rw [if_neg (by simp; omega)] at h
    split at h
    · have := (coll_len _ _ _ _ _ h).2.1
      omega
    · cases h
theorem longOf_pos (BY : List UInt8) (i : Nat) : 0 < longOf BY i := by unfold longOf; omega
theorem parse_mono {BY : List UInt8} {n base run : Nat} : ∀ (f u l : Nat) (bs : List (List UInt8)), u ≤ (parse BY n base run f u l bs).1
  | 0, u, l, bs => Nat.le_refl _
  | f + 1, u, l, bs => by
    unfold parse
    split
    · split
      · exact Nat.le_refl _
      · rename_i acc i hc
        have h1 := coll_more (longOf_pos BY u) hc
        have h2 := parse_mono (BY := BY) (n := n) (base := base) (run := run) f i (leB ((sec BY u).take 8)) (bs ++ [(acc.take (longOf BY u)).drop 4])
        omega
    · exact Nat.le_refl _
/-- The reading of a log up to its end, on whatever is there behind. -/
theorem parse_split {BY : List UInt8} {n base run : Nat} : ∀ (f u l : Nat) (bs : List (List UInt8)) (U : Nat) (bs' : List (List UInt8)), parse BY n base run f u l bs = (U, bs') → n - 2 < f + u → base ≤ l → l ≤ run →
    ∃ f' l', base ≤ l' ∧ l' ≤ run ∧ n - 2 < f' + U ∧ ∀ BY' run', (∀ j, j < U → SEq BY BY' base run run' j) → parse BY' n base run' f u l bs = parse BY' n base run' f' U l' bs'
  | 0, u, l, bs, U, bs', h, hf, h1, h2 => by
    unfold parse at h
    cases h
    exact ⟨0, l, h1, h2, hf, fun _ _ _ => rfl⟩
  | f + 1, u, l, bs, U, bs', h, hf, h1, h2 => by
    unfold parse at h
    split at h
    · rename_i hc
      split at h
      · cases h
        exact ⟨f + 1, l, h1, h2, hf, fun _ _ _ => rfl⟩
      · rename_i acc i hcl
        have hui := coll_more (longOf_pos BY u) hcl
        have hiU : i ≤ U := by have := parse_mono (BY := BY) (n := n) (base := base) (run := run) f i (leB ((sec BY u).take 8)) (bs ++ [(acc.take (longOf BY u)).drop 4]); rw [h] at this; exact this
        have hc2 := hc
        simp only [Bool.and_eq_true, decide_eq_true_eq] at hc2
        have hok := hc2.2.1
        unfold secOk at hok
        simp only [Bool.and_eq_true, decide_eq_true_eq, beq_iff_eq] at hok
        obtain ⟨f', l', q1, q2, q3, q4⟩ := parse_split f i (leB ((sec BY u).take 8)) _ U bs' h (by omega) hok.2.2.1 hok.2.2.2
        refine ⟨f', l', q1, q2, q3, fun BY' run' hs => ?_⟩
        obtain ⟨e1, e2, e3⟩ := hs u (by omega)
        have hlo : longOf BY' u = longOf BY u := by unfold longOf; rw [e3]
        have hcl' := coll_congr _ _ _ _ _ hcl fun j hj => hs j (by omega)
        conv => lhs; unfold parse
        rw [e1, e2, if_pos hc, hlo, hcl']
        exact q4 BY' run' hs
    · cases h
      exact ⟨f + 1, l, h1, h2, hf, fun _ _ _ => rfl⟩
theorem sec_body {L : Int → List UInt8} (hL : ∀ k, (L k).length = 512) (from_ : Int) (n i : Nat) (h : i < n - 2) : sec (bodyP L from_ n) i = L (from_ + 2 + (i : Int)) := by
  unfold bodyP sec
  obtain ⟨m, hm⟩ : ∃ m, n - 2 = m := ⟨_, rfl⟩
  rw [hm] at h ⊢
  clear hm
  induction m with
  | zero => omega
  | succ m ih =>
    rw [flatS_succ]
    have hl := flatS_len hL (from_ + 2) m
    by_cases him : i < m
    · rw [List.drop_append_of_le_length (by omega), List.take_append_of_le_length (by rw [List.length_drop]; omega)]
      exact ih him
    · obtain rfl : i = m := by omega
      have hd := drop_app (flatS L (from_ + 2) i) (L (from_ + 2 + (i : Int))) (i * 512) 0 hl
      rw [Nat.add_zero] at hd
      rw [hd, List.drop_zero, List.take_of_length_le (by rw [hL]; exact Nat.le_refl _)]
/-- A log lies on a disk. -/
structure LgI (L : Int → List UInt8) (from_ : Int) (n run base used : Nat) (bs : List (List UInt8)) : Prop where
  len : ∀ k, (L k).length = 512
  hd : HeadsI (L from_) (L (from_ + 1)) run base
  b1 : 1 ≤ base
  br : base ≤ run
  r62 : run < 4611686018427387904
  par : parse (bodyP L from_ n) n base run (n + 1) 0 base [] = (used, bs)
  low : ∀ i : Nat, i < n - 2 → leB ((L (from_ + 2 + (i : Int))).take 8) ≤ run ∧ leB (((L (from_ + 2 + (i : Int))).drop 500).take 8) ≤ run
  us : used ≤ n - 2
/-- Nothing of this run lies behind the last batch. -/
def LgFree (L : Int → List UInt8) (from_ : Int) (n run used : Nat) : Prop := ∀ i : Nat, used ≤ i → i < n - 2 → leB ((L (from_ + 2 + (i : Int))).take 8) < run ∧ leB (((L (from_ + 2 + (i : Int))).drop 500).take 8) < run
theorem stale_no {BY : List UInt8} {run : Nat} : ∀ m, (∀ i, i < m → leB ((sec BY i).take 8) ≤ run) → stale BY run m = false
  | 0, _ => rfl
  | m + 1, h => by
    unfold stale
    rw [stale_no m fun i hi => h i (by omega), decide_eq_false (by have := h m (by omega); omega)]
    rfl
set_option maxRecDepth 100000 in
theorem LgI.look {L : Int → List UInt8} {from_ : Int} {n run base used : Nat} {bs : List (List UInt8)} (h : LgI L from_ n run base used bs) : lookP L from_ n = some (run, base, used, bs) := by
  have h1 := heads_read h.hd h.b1 h.br h.r62
  have h0 : run ≠ 0 := by
    have h2 := h.b1
    have h3 := h.br
    omega
  have hs := stale_no (BY := bodyP L from_ n) (run := run) (n - 2) fun i hi => by
    rw [sec_body h.len from_ n i hi]
    exact (h.low i hi).1
  have hl := lookP_good (n := n) (BY := bodyP L from_ n) h1 rfl h0 hs
  rw [h.par] at hl
  exact hl
theorem SEq.run {BY : List UInt8} {base run run' j : Nat} (h : leB ((sec BY j).take 8) ≤ run) (h2 : run ≤ run') : SEq BY BY base run run' j := by
  refine ⟨?_, rfl, rfl⟩
  unfold secOk
  rw [decide_eq_true h, decide_eq_true (Nat.le_trans h h2)]
/-- The head is written anew. -/
theorem heads_put {h0 h1 : List UInt8} {run base b2 : Nat} (h : HeadsI h0 h1 run base) (hr : run < 4611686018427387904) : HeadsI (if (run + 1) % 2 = 0 then headB (run + 1) b2 else h0) (if (run + 1) % 2 = 0 then h1 else headB (run + 1) b2) (run + 1) b2 := by
  unfold HeadsI at h ⊢
  by_cases hp : run % 2 = 0
  · have hq : ¬ (run + 1) % 2 = 0 := by omega
    rw [if_pos hp] at h
    simp only [if_neg hq]
    exact ⟨by first | exact rfl | trivial, .inr (by rw [h.1, headB_1, low8 hr]; omega)⟩
  · have hq : (run + 1) % 2 = 0 := by omega
    rw [if_neg hp] at h
    simp only [if_pos hq]
    exact ⟨by first | exact rfl | trivial, .inr (by rw [h.1, headB_1, low8 hr]; omega)⟩
theorem laid_wps_at (L : Int → List UInt8) (at_ : Int) (B : List UInt8) : ∀ c k, laid L (wps at_ B c) k = if at_ ≤ k ∧ k < at_ + (c : Int) then sec B (k - at_).toNat else L k
  | 0, k => by
    rw [if_neg (by omega)]
    rfl
  | c + 1, k => by
    rw [wps_succ]
    unfold laid
    rw [List.foldl_append]
    show updS (laid L (wps at_ B c)) (at_ + (c : Int), sec B c) k = _
    unfold updS
    dsimp only
    by_cases hk : k = at_ + (c : Int)
    · rw [if_pos hk, if_pos (by omega), hk]
      congr 1
      omega
    · rw [if_neg hk, laid_wps_at L at_ B c k]
      by_cases h2 : at_ ≤ k ∧ k < at_ + (c : Int)
      · rw [if_pos h2, if_pos (by omega)]
      · rw [if_neg h2, if_neg (by omega)]
theorem sec_whole {B : List UInt8} (h : B.length = 512) : sec B 0 = B := by unfold sec; rw [Nat.zero_mul, List.drop_zero, List.take_of_length_le (by omega)]
theorem laid_head {L : Int → List UInt8} {at_ : Int} {r b : Nat} (k : Int) : laid L (wps at_ (headB r b) ((headB r b).length / 512)) k = if k = at_ then headB r b else L k := by
  rw [headB_len, laid_wps_at]
  by_cases hk : k = at_
  · rw [if_pos hk, if_pos (by omega), hk, show (at_ - at_).toNat = 0 by omega, sec_whole (headB_len r b)]
  · rw [if_neg hk, if_neg (by omega)]
theorem laid_body {L : Int → List UInt8} {from_ : Int} {r b q : Nat} (i : Nat) (hq : q < 2) : laid L (wps (from_ + (q : Int)) (headB r b) ((headB r b).length / 512)) (from_ + 2 + (i : Int)) = L (from_ + 2 + (i : Int)) := by
  rw [laid_head, if_neg (by omega)]
theorem LgI.head {L L' : Int → List UInt8} {from_ : Int} {n run base used b2 : Nat} {bs : List (List UInt8)} (h : LgI L from_ n run base used bs) (hL : L' = laid L (wps (from_ + (((run + 1) % 2 : Nat) : Int)) (headB (run + 1) b2) ((headB (run + 1) b2).length / 512))) :
    (∀ k, (L' k).length = 512) ∧ HeadsI (L' from_) (L' (from_ + 1)) (run + 1) b2 ∧ ∀ i : Nat, L' (from_ + 2 + (i : Int)) = L (from_ + 2 + (i : Int)) := by
  subst hL
  refine ⟨fun k => ?_, ?_, fun i => laid_body i (by omega)⟩
  · rw [laid_head]
    split
    · exact headB_len _ _
    · exact h.len k
  · rw [laid_head, laid_head]
    have := heads_put (b2 := b2) h.hd h.r62
    by_cases hp : (run + 1) % 2 = 0
    · rw [if_pos hp, if_pos hp] at this
      rw [hp, if_pos (by omega), if_neg (by omega)]
      exact this
    · rw [if_neg hp, if_neg hp] at this
      rw [show (run + 1) % 2 = 1 by omega, if_neg (by omega), if_pos (by omega)]
      exact this
/-- A log is opened: its run is one more. -/
theorem LgI.open {L L' : Int → List UInt8} {from_ : Int} {n run base used : Nat} {bs : List (List UInt8)} (h : LgI L from_ n run base used bs) (hr : run + 1 < 4611686018427387904) (hL : L' = laid L (wps (from_ + (((run + 1) % 2 : Nat) : Int)) (headB (run + 1) base) ((headB (run + 1) base).length / 512))) :
    LgI L' from_ n (run + 1) base used bs ∧ LgFree L' from_ n (run + 1) used := by
  obtain ⟨h1, h2, h3⟩ := h.head hL
  have hb : ∀ j, j < n - 2 → sec (bodyP L' from_ n) j = sec (bodyP L from_ n) j := fun j hj => by rw [sec_body h1 from_ n j hj, sec_body h.len from_ n j hj, h3]
  refine ⟨⟨h1, h2, h.b1, by have := h.br; omega, hr, ?_, fun i hi => ?_, h.us⟩, fun i _ hi => ?_⟩
  · have hbe : bodyP L' from_ n = bodyP L from_ n := flatS_congr _ _ fun i _ => h3 i
    rw [hbe]
    have hus := h.us
    obtain ⟨f', l', q1, q2, q3, q4⟩ := parse_split _ _ _ _ _ _ h.par (by omega) (Nat.le_refl _) h.br
    have hv : ∀ j, j < n - 2 → leB ((sec (bodyP L from_ n) j).take 8) ≤ run := fun j hj => by rw [sec_body h.len from_ n j hj]; exact (h.low j hj).1
    rw [q4 (bodyP L from_ n) (run + 1) fun j hj => SEq.run (hv j (by omega)) (by omega)]
    have hpar := h.par
    rw [q4 (bodyP L from_ n) run fun j hj => SEq.refl _ _ _ _] at hpar
    clear q4
    cases f' with
    | zero => rw [← hpar]; rfl
    | succ f =>
      unfold parse at hpar ⊢
      by_cases hu : used < n - 2
      · obtain ⟨e1, e2, e3⟩ := SEq.run (base := base) (BY := bodyP L from_ n) (run' := run + 1) (hv used hu) (by omega)
        rw [e1]
        split at hpar
        · rename_i hc
          rw [if_pos hc]
          cases hcl : coll (bodyP L from_ n) n base run (leB ((sec (bodyP L from_ n) used).take 8)) (longOf (bodyP L from_ n) used) (n - used) used [] with
          | some p =>
            obtain ⟨acc, i⟩ := p
            rw [hcl] at hpar
            have hm := coll_more (longOf_pos _ used) hcl
            have := parse_mono (BY := bodyP L from_ n) (n := n) (base := base) (run := run) f i (leB ((sec (bodyP L from_ n) used).take 8)) (bs ++ [(acc.take (longOf (bodyP L from_ n) used)).drop 4])
            dsimp only at hpar
            rw [hpar] at this
            dsimp only at this
            omega
          | none =>
            have hn : coll (bodyP L from_ n) n base (run + 1) (leB ((sec (bodyP L from_ n) used).take 8)) (longOf (bodyP L from_ n) used) (n - used) used [] = none := by
              cases hcl2 : coll (bodyP L from_ n) n base (run + 1) (leB ((sec (bodyP L from_ n) used).take 8)) (longOf (bodyP L from_ n) used) (n - used) used [] with
              | none => rfl
              | some p =>
                obtain ⟨acc, i⟩ := p
                have hgood : ∀ (f i : Nat) (acc a' : List UInt8) (i' : Nat) (r long : Nat), coll (bodyP L from_ n) n base (run + 1) r long f i acc = some (a', i') → coll (bodyP L from_ n) n base run r long f i acc = some (a', i') := by
                  intro f
                  induction f with
                  | zero => intro i acc a' i' r long h; unfold coll at h ⊢; exact h
                  | succ f ih =>
                    intro i acc a' i' r long h
                    unfold coll at h ⊢
                    split at h
                    · rename_i hl; rw [if_pos hl]; exact h
                    · rename_i hl
                      rw [if_neg hl]
                      split at h
                      · rename_i hg
                        have hg' : secGood (bodyP L from_ n) n base run r i = true := by
                          unfold secGood at hg ⊢
                          simp only [Bool.and_eq_true, decide_eq_true_eq] at hg ⊢
                          refine ⟨hg.1, ?_, hg.2.2⟩
                          rw [← (SEq.run (base := base) (BY := bodyP L from_ n) (run' := run + 1) (hv i hg.1) (by omega)).1]
                          exact hg.2.1
                        rw [if_pos hg']
                        exact ih _ _ _ _ _ _ h
                      · cases h
                rw [hgood _ _ _ _ _ _ _ hcl2] at hcl
                cases hcl
            rw [hn]
        · rename_i hc
          rw [if_neg hc]
      · rw [if_neg (by simp [hu])]
  · rw [h3]
    have := h.low i hi
    omega
  · rw [h3]
    have := h.low i hi
    omega
/-- A log is emptied. -/
theorem LgI.reset {L L' : Int → List UInt8} {from_ : Int} {n run base used : Nat} {bs : List (List UInt8)} (h : LgI L from_ n run base used bs) (hr : run + 1 < 4611686018427387904) (hL : L' = laid L (wps (from_ + (((run + 1) % 2 : Nat) : Int)) (headB (run + 1) (run + 1)) ((headB (run + 1) (run + 1)).length / 512))) :
    LgI L' from_ n (run + 1) (run + 1) 0 [] ∧ LgFree L' from_ n (run + 1) 0 := by
  obtain ⟨h1, h2, h3⟩ := h.head hL
  refine ⟨⟨h1, h2, by omega, Nat.le_refl _, hr, ?_, fun i hi => ?_, Nat.zero_le _⟩, fun i _ hi => ?_⟩
  · refine parse_stop (.inl ?_)
    by_cases h0 : 0 < n - 2
    · have := (h.low 0 h0).1
      rw [sec_body h1 from_ n 0 h0, h3]
      unfold secOk
      rw [decide_eq_false (p := run + 1 ≤ _) (by omega)]
      simp
    · rw [decide_eq_false h0]; rfl
  · rw [h3]
    have := h.low i hi
    omega
  · rw [h3]
    have := h.low i hi
    omega
end Go.Proofs.Ytagipfkgnobjlaa
namespace Go.Proofs.Ytagipfkgnobjlaa
open Go.RowKit

theorem take_app {α : Type} (P Q : List α) (k : Nat) (hk : P.length = k) : (P ++ Q).take k = P := by
  rw [List.take_append_of_le_length (by omega), List.take_of_length_le (by omega)]
theorem drop_app0 {α : Type} (P Q : List α) (k : Nat) (hk : P.length = k) : (P ++ Q).drop k = Q := by
  have h := drop_app P Q k 0 hk
  rwa [Nat.add_zero, List.drop_zero] at h
section
variable {run i : Nat} {p : List UInt8}
theorem secB_12 : (secB run i p).take 12 = markB run i := by unfold secB; rw [List.append_assoc]; exact take_app _ _ 12 (markB_len _ _)
theorem secB_data (h : p.length ≤ 488) : ((secB run i p).drop 12).take 488 = padB p := by
  unfold secB
  rw [List.append_assoc, drop_app0 _ _ 12 (markB_len _ _)]
  exact take_app _ _ 488 (padB_len h)
theorem secB_500 (h : p.length ≤ 488) : (secB run i p).drop 500 = markB run i := by
  unfold secB
  exact drop_app0 _ _ 500 (by rw [List.length_append, markB_len, padB_len h])
theorem markB_8 : (markB run i).take 8 = lowB run 8 := by unfold markB; exact take_app _ _ 8 (lowB_length 8 run)
theorem markB_4 : (markB run i).drop 8 = lowB i 4 := by unfold markB; exact drop_app0 _ _ 8 (lowB_length 8 run)
theorem secB_8 : (secB run i p).take 8 = lowB run 8 := by
  have h : ((secB run i p).take 12).take 8 = (secB run i p).take 8 := by rw [List.take_take]; rfl
  rw [← h, secB_12, markB_8]
theorem secB_4 : ((secB run i p).drop 8).take 4 = lowB i 4 := by
  have h : ((secB run i p).take 12).drop 8 = ((secB run i p).drop 8).take 4 := by rw [List.drop_take]
  rw [← h, secB_12, markB_4]
theorem secB_ok {base : Nat} (h : p.length ≤ 488) (hr : run < 4611686018427387904) (hi : i < 4294967296) (hb : base ≤ run) : secOk (secB run i p) i base run = true := by
  unfold secOk
  rw [secB_12, secB_500 h, secB_4, secB_8, low8 hr, leB_lowB 4 i (by omega)]
  simp [hb]
end
theorem sec_app (run i0 : Nat) (all : List UInt8) (j : Nat) : ∀ c, j < c → sec (appB run i0 all c) j = secB run (i0 + j) ((all.drop (j * 488)).take 488)
  | 0, h => by omega
  | c + 1, h => by
    rw [appB_succ]
    have hl := appB_len run i0 all c
    unfold sec
    by_cases hjc : j < c
    · rw [List.drop_append_of_le_length (by omega), List.take_append_of_le_length (by rw [List.length_drop]; omega)]
      exact sec_app run i0 all j c hjc
    · obtain rfl : j = c := by omega
      rw [drop_app0 _ _ _ hl, List.take_of_length_le (by rw [secB_len _ _ (by rw [List.length_take]; omega)]; exact Nat.le_refl _)]
/-- The data of the first sectors of a batch. -/
def accB (all : List UInt8) (j : Nat) : List UInt8 := (List.range j).flatMap fun k => padB ((all.drop (k * 488)).take 488)
theorem accB_succ (all : List UInt8) (j : Nat) : accB all (j + 1) = accB all j ++ padB ((all.drop (j * 488)).take 488) := by
  unfold accB
  rw [List.range_succ, List.flatMap_append, List.flatMap_singleton]
theorem accB_len (all : List UInt8) : ∀ j, (accB all j).length = j * 488
  | 0 => by simp [accB]
  | j + 1 => by rw [accB_succ, List.length_append, accB_len all j, padB_len (by rw [List.length_take]; omega), Nat.succ_mul]
theorem padB_full {p : List UInt8} (h : p.length = 488) : padB p = p := by unfold padB; rw [h]; simp
theorem accB_take (all : List UInt8) (j : Nat) (h : j * 488 ≤ all.length) : accB all j = all.take (j * 488) := by
  induction j with
  | zero => unfold accB; rw [Nat.zero_mul, List.take_zero]; rfl
  | succ j ih =>
    have hj : j * 488 + 488 ≤ all.length := by omega
    have h0 : j * 488 ≤ all.length := Nat.le_trans (Nat.le_add_right _ _) hj
    have hl : ((all.drop (j * 488)).take 488).length = 488 := by rw [List.length_take, List.length_drop]; omega
    have ht : all.take (j * 488 + 488) = all.take (j * 488) ++ (all.drop (j * 488)).take 488 := List.take_add
    rw [accB_succ, ih h0, padB_full hl, Nat.succ_mul, ht]
theorem accB_all (all : List UInt8) (c : Nat) (h1 : all.length ≤ c * 488) (h2 : (c - 1) * 488 ≤ all.length) (hc : 0 < c) : (accB all c).take all.length = all := by
  obtain ⟨d, rfl⟩ : ∃ d, c = d + 1 := ⟨c - 1, by omega⟩
  rw [Nat.add_sub_cancel] at h2
  have hrest : (all.drop (d * 488)).take 488 = all.drop (d * 488) := List.take_of_length_le (by rw [List.length_drop]; omega)
  rw [accB_succ, accB_take all d h2, hrest]
  unfold padB
  rw [← List.append_assoc, List.take_append_drop]
  exact take_app _ _ _ rfl
theorem coll_app {BY : List UInt8} {n base run long used c : Nat} {all : List UInt8} (hlong : long = all.length) (h1 : all.length ≤ c * 488) (h2 : ∀ j, j < c → j * 488 < all.length)
    (hs : ∀ j, j < c → used + j < n - 2 ∧ sec BY (used + j) = secB run (used + j) ((all.drop (j * 488)).take 488)) (hr : run < 4611686018427387904) (hn : n < 4294967296) (hb : base ≤ run) :
    ∀ k j f, j + k = c → k ≤ f → coll BY n base run run long f (used + j) (accB all j) = some (accB all c, used + c)
  | 0, j, f, hj, hf => by
    obtain rfl : j = c := by omega
    exact coll_end (by rw [accB_len]; omega)
  | k + 1, j, f, hj, hf => by
    obtain ⟨f, rfl⟩ : ∃ g, f = g + 1 := ⟨f - 1, by omega⟩
    have hjc : j < c := by omega
    obtain ⟨q1, q2⟩ := hs j hjc
    have hcl : ((all.drop (j * 488)).take 488).length ≤ 488 := by rw [List.length_take]; omega
    rw [coll_yes (by rw [accB_len]; have := h2 j hjc; omega) (by rw [q2, secB_ok hcl hr (by omega) hb, decide_eq_true q1]; rfl) (by rw [q2, secB_8, low8 hr])]
    have hd : dataOf BY (used + j) = padB ((all.drop (j * 488)).take 488) := by unfold dataOf; rw [q2, secB_data hcl]
    rw [hd, ← accB_succ, Nat.add_assoc]
    exact coll_app hlong h1 h2 hs hr hn hb k (j + 1) f (by omega) (by omega)
/-- A batch that lies whole behind the others is read. -/
theorem parse_app {BY : List UInt8} {n base run used c f l : Nat} {bs : List (List UInt8)} {b : List UInt8} (hc : c = secsOf b.length) (hbl : b.length < 4294967296)
    (hs : ∀ j, j < c → used + j < n - 2 ∧ sec BY (used + j) = secB run (used + j) (((lowB b.length 4 ++ b).drop (j * 488)).take 488)) (hr : run < 4611686018427387904) (hn : n < 4294967296) (hb : base ≤ run) (hl : l ≤ run) (hf : n - 2 < f + used)
    (hend : used + c < n - 2 → leB ((sec BY (used + c)).take 8) < run) : parse BY n base run f used l bs = (used + c, bs ++ [b]) := by
  have hal : (lowB b.length 4 ++ b).length = b.length + 4 := by rw [List.length_append, lowB_length]; omega
  have hc1 : 0 < c := by rw [hc]; unfold secsOf; omega
  have hcm : b.length + 4 ≤ c * 488 := by rw [hc]; unfold secsOf; omega
  have hcl : ∀ j, j < c → j * 488 < b.length + 4 := fun j hj => by rw [hc] at hj; unfold secsOf at hj; omega
  obtain ⟨hu, hs0⟩ := hs 0 hc1
  rw [Nat.add_zero, Nat.zero_mul, List.drop_zero] at hs0
  rw [Nat.add_zero] at hu
  obtain ⟨f, rfl⟩ : ∃ g, f = g + 2 := ⟨f - 2, by omega⟩
  have hl0 : ((lowB b.length 4 ++ b).take 488).length ≤ 488 := by rw [List.length_take]; omega
  have hv : leB ((sec BY used).take 8) = run := by rw [hs0, secB_8, low8 hr]
  have hlong : longOf BY used = b.length + 4 := by
    unfold longOf dataOf
    rw [hs0, secB_data hl0]
    have : (padB ((lowB b.length 4 ++ b).take 488)).take 4 = lowB b.length 4 := by
      unfold padB
      rw [List.take_append_of_le_length (by rw [List.length_take]; omega), List.take_take]
      exact take_app _ _ 4 (lowB_length 4 _)
    rw [this, leB_lowB 4 _ (by omega)]
  have hcoll := coll_app (BY := BY) (n := n) (base := base) (run := run) (long := b.length + 4) (used := used) (c := c) (all := lowB b.length 4 ++ b) hal.symm (by omega) (fun j hj => by rw [hal]; exact hcl j hj) hs hr hn hb c 0 (n - used) (by omega) (by have := (hs (c - 1) (by omega)).1; omega)
  rw [Nat.add_zero, show accB (lowB b.length 4 ++ b) 0 = [] by simp [accB]] at hcoll
  rw [parse_more (acc := accB (lowB b.length 4 ++ b) c) (i := used + c) (by rw [hs0, secB_ok hl0 hr (by omega) hb, decide_eq_true hu]; rfl) (by rw [hv]; exact hl) (by rw [hv, hlong]; exact hcoll), hv, hlong]
  have hall : ((accB (lowB b.length 4 ++ b) c).take (b.length + 4)).drop 4 = b := by
    have := accB_all (lowB b.length 4 ++ b) c (by omega) (by rw [hal]; have := hcl (c - 1) (by omega); omega) hc1
    rw [hal] at this
    rw [this]
    exact drop_app0 _ _ 4 (lowB_length 4 _)
  rw [hall]
  by_cases he : used + c < n - 2
  · exact parse_stop (.inr (hend he))
  · exact parse_stop (.inl (by rw [decide_eq_false he]; rfl))
theorem LgI.append {L L' : Int → List UInt8} {from_ : Int} {n run base used : Nat} {bs : List (List UInt8)} (h : LgI L from_ n run base used bs) (hf : LgFree L from_ n run used) (b : List UInt8) (hbl : b.length < 4294967296) (hn : n < 4294967296) (hfit : used + secsOf b.length ≤ n - 2)
    (hL : L' = laid L (wps (from_ + 2 + (used : Int)) (appB run used (lowB b.length 4 ++ b) (secsOf b.length)) ((appB run used (lowB b.length 4 ++ b) (secsOf b.length)).length / 512))) :
    LgI L' from_ n run base (used + secsOf b.length) (bs ++ [b]) ∧ LgFree L' from_ n run (used + secsOf b.length) := by
  obtain ⟨c, hc⟩ : ∃ c, secsOf b.length = c := ⟨_, rfl⟩
  rw [hc] at hfit hL ⊢
  rw [appB_len, Nat.mul_div_cancel _ (by omega : 0 < 512)] at hL
  have hin : ∀ j, j < c → L' (from_ + 2 + ((used + j : Nat) : Int)) = secB run (used + j) (((lowB b.length 4 ++ b).drop (j * 488)).take 488) := fun j hj => by
    rw [hL, laid_wps_at, if_pos (by omega), show (from_ + 2 + ((used + j : Nat) : Int) - (from_ + 2 + (used : Int))).toNat = j by omega, sec_app _ _ _ _ _ hj]
  have hout : ∀ k, ¬ (from_ + 2 + (used : Int) ≤ k ∧ k < from_ + 2 + (used : Int) + (c : Int)) → L' k = L k := fun k hk => by rw [hL, laid_wps_at, if_neg hk]
  have hlen : ∀ k, (L' k).length = 512 := fun k => by
    by_cases hk : from_ + 2 + (used : Int) ≤ k ∧ k < from_ + 2 + (used : Int) + (c : Int)
    · have := hin (k - (from_ + 2 + (used : Int))).toNat (by omega)
      rw [show from_ + 2 + ((used + (k - (from_ + 2 + (used : Int))).toNat : Nat) : Int) = k by omega] at this
      rw [this]
      exact secB_len _ _ (by rw [List.length_take]; omega)
    · rw [hout k hk]; exact h.len k
  clear hL
  have hus := h.us
  refine ⟨⟨hlen, ?_, h.b1, h.br, h.r62, ?_, fun i hi => ?_, hfit⟩, fun i hi1 hi2 => ?_⟩
  · rw [hout _ (by omega), hout _ (by omega)]; exact h.hd
  · obtain ⟨f', l', q1, q2, q3, q4⟩ := parse_split _ _ _ _ _ _ h.par (by omega) (Nat.le_refl _) h.br
    rw [q4 (bodyP L' from_ n) run fun j hj => by
      have e : sec (bodyP L' from_ n) j = sec (bodyP L from_ n) j := by rw [sec_body hlen from_ n j (by omega), sec_body h.len from_ n j (by omega), hout _ (by omega)]
      exact ⟨by rw [e], by rw [e], by unfold dataOf; rw [e]⟩]
    refine parse_app hc.symm hbl (fun j hj => ⟨by omega, ?_⟩) h.r62 hn h.br q2 q3 fun he => ?_
    · rw [sec_body hlen from_ n _ (by omega)]; exact hin j hj
    · rw [sec_body hlen from_ n _ he, hout _ (by omega)]
      exact (hf _ (by omega) he).1
  · by_cases hk : used ≤ i ∧ i < used + c
    · have := hin (i - used) (by omega)
      rw [show used + (i - used) = i by omega] at this
      rw [this, secB_8, secB_500 (by rw [List.length_take]; omega), markB_8, low8 h.r62]
      exact ⟨Nat.le_refl _, Nat.le_refl _⟩
    · rw [hout _ (by omega)]; exact h.low i hi
  · rw [hout _ (by omega)]
    exact hf i (by omega) hi2
theorem leB_zero : ∀ k, leB (List.replicate k (0 : UInt8)) = 0
  | 0 => rfl
  | k + 1 => by rw [List.replicate_succ]; unfold leB; rw [leB_zero k]; rfl
theorem fmtB_eq {n : Nat} (h : 2 ≤ n) : fmtB n = List.replicate 512 0 ++ (headB 1 1 ++ List.replicate ((n - 2) * 512) 0) := by
  unfold fmtB
  have e : List.replicate (n * 512) (0 : UInt8) = List.replicate 512 0 ++ (List.replicate 512 0 ++ List.replicate ((n - 2) * 512) 0) := by
    rw [List.replicate_append_replicate, List.replicate_append_replicate]; congr 1; omega
  rw [e]
  exact splice_mid _ _ _ _ 512 List.length_replicate (by rw [headB_len, List.length_replicate])
/-- A log is laid. -/
theorem LgI.format {L L' : Int → List UInt8} {from_ : Int} {n : Nat} (hlen : ∀ k, (L k).length = 512) (hn : 4 ≤ n) (hL : L' = laid L (wps from_ (fmtB n) ((fmtB n).length / 512))) : LgI L' from_ n 1 1 0 [] ∧ LgFree L' from_ n 1 0 := by
  rw [fmtB_len (by omega), Nat.mul_div_cancel _ (by omega : 0 < 512)] at hL
  have h0 : L' from_ = List.replicate 512 0 := by
    rw [hL, laid_wps_at, if_pos (by omega), show (from_ - from_).toNat = 0 by omega, fmtB_eq (by omega)]
    unfold sec
    rw [Nat.zero_mul, List.drop_zero]
    exact take_app _ _ 512 List.length_replicate
  have h1 : L' (from_ + 1) = headB 1 1 := by
    rw [hL, laid_wps_at, if_pos (by omega), show (from_ + 1 - from_).toNat = 1 by omega, fmtB_eq (by omega)]
    unfold sec
    rw [Nat.one_mul, drop_app0 _ _ 512 List.length_replicate]
    exact take_app _ _ 512 (headB_len 1 1)
  have h2 : ∀ i : Nat, i < n - 2 → L' (from_ + 2 + (i : Int)) = List.replicate 512 0 := fun i hi => by
    rw [hL, laid_wps_at, if_pos (by omega), show (from_ + 2 + (i : Int) - from_).toNat = i + 2 by omega, fmtB_eq (by omega)]
    unfold sec
    rw [← List.append_assoc, show (i + 2) * 512 = 1024 + i * 512 by omega, drop_app _ _ 1024 _ (by rw [List.length_append, List.length_replicate, headB_len]), List.drop_replicate, List.take_replicate]
    congr 1
    omega
  have hl : ∀ k, (L' k).length = 512 := fun k => by
    by_cases hk : from_ ≤ k ∧ k < from_ + (n : Int)
    · by_cases hk0 : k = from_
      · rw [hk0, h0, List.length_replicate]
      · by_cases hk1 : k = from_ + 1
        · rw [hk1, h1, headB_len]
        · rw [show k = from_ + 2 + (((k - from_ - 2).toNat : Nat) : Int) by omega, h2 _ (by omega), List.length_replicate]
    · rw [hL, laid_wps_at, if_neg hk]; exact hlen k
  clear hL
  have hz : ∀ i : Nat, i < n - 2 → leB ((L' (from_ + 2 + (i : Int))).take 8) = 0 ∧ leB (((L' (from_ + 2 + (i : Int))).drop 500).take 8) = 0 := fun i hi => by
    rw [h2 i hi, List.take_replicate, List.drop_replicate, List.take_replicate, leB_zero, leB_zero]
    exact ⟨rfl, rfl⟩
  refine ⟨⟨hl, ?_, Nat.le_refl _, Nat.le_refl _, by decide, ?_, fun i hi => by rw [(hz i hi).1, (hz i hi).2]; exact ⟨Nat.zero_le _, Nat.zero_le _⟩, Nat.zero_le _⟩, fun i _ hi => by rw [(hz i hi).1, (hz i hi).2]; exact ⟨Nat.one_pos, Nat.one_pos⟩⟩
  · unfold HeadsI
    rw [if_neg (by decide), if_neg (by decide), h1, h0]
    exact ⟨rfl, .inr (by rw [List.take_replicate, leB_zero]; exact Nat.one_pos)⟩
  · refine parse_stop (.inl ?_)
    rw [sec_body hl from_ n 0 (by omega)]
    have := (hz 0 (by omega)).1
    unfold secOk
    rw [this]
    simp
end Go.Proofs.Ytagipfkgnobjlaa
namespace Go.Proofs.Ytagipfkgnobjlaa
open Go.RowKit

/-- The head's sector that does not hold. -/
def Oth (L : Int → List UInt8) (from_ : Int) (run : Nat) : List UInt8 := if run % 2 = 0 then L (from_ + 1) else L from_
def LgPrev (L : Int → List UInt8) (from_ : Int) (run : Nat) : Prop := leB ((Oth L from_ run).drop 504) < run
theorem LgI.prev {L L' : Int → List UInt8} {from_ : Int} {n run base used b2 : Nat} {bs : List (List UInt8)} (h : LgI L from_ n run base used bs) (hL : L' = laid L (wps (from_ + (((run + 1) % 2 : Nat) : Int)) (headB (run + 1) b2) ((headB (run + 1) b2).length / 512))) : LgPrev L' from_ (run + 1) := by
  subst hL
  have hd := h.hd.1
  unfold LgPrev Oth
  by_cases hp : run % 2 = 0
  · rw [if_pos hp] at hd
    rw [if_neg (by omega), laid_head, if_neg (by omega), hd, headB_3, low8 h.r62]
    omega
  · rw [if_neg hp] at hd
    rw [if_pos (by omega), laid_head, if_neg (by omega), hd, headB_3, low8 h.r62]
    omega
theorem coll_good {BY : List UInt8} {n base run r long : Nat} : ∀ (f i : Nat) (acc a' : List UInt8) (i' : Nat), coll BY n base run r long f i acc = some (a', i') → (∀ x, i ≤ x → x < i' → secGood BY n base run r x = true) ∧ long ≤ acc.length + (i' - i) * 488
  | 0, i, acc, a', i', h => by
    unfold coll at h
    split at h
    · cases h
      exact ⟨fun x _ _ => by omega, by omega⟩
    · cases h
  | f + 1, i, acc, a', i', h => by
    unfold coll at h
    split at h
    · cases h
      exact ⟨fun x _ _ => by omega, by omega⟩
    · split at h
      · rename_i hg
        obtain ⟨q1, q2⟩ := coll_good f (i + 1) _ _ _ h
        have hi := (coll_len _ _ _ _ _ h).2.1
        have hdl : (dataOf BY i).length ≤ 488 := by unfold dataOf; rw [List.length_take]; omega
        rw [List.length_append] at q2
        refine ⟨fun x hx hx2 => ?_, by omega⟩
        by_cases hxi : x = i
        · rw [hxi]; exact hg
        · exact q1 x (by omega) hx2
      · cases h
end Go.Proofs.Ytagipfkgnobjlaa
