/- What a log's disk holds, plainly: a batch is added; a log is laid. -/
import Derived.Test.YtmbpacpkabbcgaaWlLawA
namespace Go.Proofs.Ytmbpacpkabbcgaa
open Go.RowKit

theorem take_app {α : Type} (P Q : List α) (k : Nat) (hk : P.length = k) : (P ++ Q).take k = P := by
  rw [List.take_append_of_le_length (by omega), List.take_of_length_le (by omega)]
theorem drop_app0 {α : Type} (P Q : List α) (k : Nat) (hk : P.length = k) : (P ++ Q).drop k = Q := by
  have h := drop_app P Q k 0 hk
  rwa [Nat.add_zero, List.drop_zero] at h
section
variable {run i : Nat} {p : List UInt8}
theorem secB_12 : (secB run i p).take 12 = markB run i := by unfold secB; rw [List.append_assoc]; exact take_app _ _ 12 (markB_len _ _)
theorem secB_data (h : p.length ≤ 488) : ((secB run i p).drop 12).take 488 = padB p := by
  unfold secB
  rw [List.append_assoc, drop_app0 _ _ 12 (markB_len _ _)]
  exact take_app _ _ 488 (padB_len h)
theorem secB_500 (h : p.length ≤ 488) : (secB run i p).drop 500 = markB run i := by
  unfold secB
  exact drop_app0 _ _ 500 (by rw [List.length_append, markB_len, padB_len h])
theorem markB_8 : (markB run i).take 8 = lowB run 8 := by unfold markB; exact take_app _ _ 8 (lowB_length 8 run)
theorem markB_4 : (markB run i).drop 8 = lowB i 4 := by unfold markB; exact drop_app0 _ _ 8 (lowB_length 8 run)
theorem secB_8 : (secB run i p).take 8 = lowB run 8 := by
  have h : ((secB run i p).take 12).take 8 = (secB run i p).take 8 := by rw [List.take_take]; rfl
  rw [← h, secB_12, markB_8]
theorem secB_4 : ((secB run i p).drop 8).take 4 = lowB i 4 := by
  have h : ((secB run i p).take 12).drop 8 = ((secB run i p).drop 8).take 4 := by rw [List.drop_take]
  rw [← h, secB_12, markB_4]
theorem secB_ok {base : Nat} (h : p.length ≤ 488) (hr : run < 4611686018427387904) (hi : i < 4294967296) (hb : base ≤ run) : secOk (secB run i p) i base run = true := by
  unfold secOk
  rw [secB_12, secB_500 h, secB_4, secB_8, low8 hr, leB_lowB 4 i (by omega)]
  simp [hb]
end
theorem sec_app (run i0 : Nat) (all : List UInt8) (j : Nat) : ∀ c, j < c → sec (appB run i0 all c) j = secB run (i0 + j) ((all.drop (j * 488)).take 488)
  | 0, h => by omega
  | c + 1, h => by
    rw [appB_succ]
    have hl := appB_len run i0 all c
    unfold sec
    by_cases hjc : j < c
    · rw [List.drop_append_of_le_length (by omega), List.take_append_of_le_length (by rw [List.length_drop]; omega)]
      exact sec_app run i0 all j c hjc
    · obtain rfl : j = c := by omega
      rw [drop_app0 _ _ _ hl, List.take_of_length_le (by rw [secB_len _ _ (by rw [List.length_take]; omega)]; exact Nat.le_refl _)]
/-- The data of the first sectors of a batch. -/
def accB (all : List UInt8) (j : Nat) : List UInt8 := (List.range j).flatMap fun k => padB ((all.drop (k * 488)).take 488)
theorem accB_succ (all : List UInt8) (j : Nat) : accB all (j + 1) = accB all j ++ padB ((all.drop (j * 488)).take 488) := by
  unfold accB
  rw [List.range_succ, List.flatMap_append, List.flatMap_singleton]
theorem accB_len (all : List UInt8) : ∀ j, (accB all j).length = j * 488
  | 0 => by simp [accB]
  | j + 1 => by rw [accB_succ, List.length_append, accB_len all j, padB_len (by rw [List.length_take]; omega), Nat.succ_mul]
theorem padB_full {p : List UInt8} (h : p.length = 488) : padB p = p := by unfold padB; rw [h]; simp
theorem accB_take (all : List UInt8) (j : Nat) (h : j * 488 ≤ all.length) : accB all j = all.take (j * 488) := by
  induction j with
  | zero => unfold accB; rw [Nat.zero_mul, List.take_zero]; rfl
  | succ j ih =>
    have hj : j * 488 + 488 ≤ all.length := by omega
    have h0 : j * 488 ≤ all.length := Nat.le_trans (Nat.le_add_right _ _) hj
    have hl : ((all.drop (j * 488)).take 488).length = 488 := by rw [List.length_take, List.length_drop]; omega
    have ht : all.take (j * 488 + 488) = all.take (j * 488) ++ (all.drop (j * 488)).take 488 := List.take_add
    rw [accB_succ, ih h0, padB_full hl, Nat.succ_mul, ht]
theorem accB_all (all : List UInt8) (c : Nat) (h1 : all.length ≤ c * 488) (h2 : (c - 1) * 488 ≤ all.length) (hc : 0 < c) : (accB all c).take all.length = all := by
  obtain ⟨d, rfl⟩ : ∃ d, c = d + 1 := ⟨c - 1, by omega⟩
  rw [Nat.add_sub_cancel] at h2
  have hrest : (all.drop (d * 488)).take 488 = all.drop (d * 488) := List.take_of_length_le (by rw [List.length_drop]; omega)
  rw [accB_succ, accB_take all d h2, hrest]
  unfold padB
  rw [← List.append_assoc, List.take_append_drop]
  exact take_app _ _ _ rfl
theorem coll_app {BY : List UInt8} {n base run long used c : Nat} {all : List UInt8} (hlong : long = all.length) (h1 : all.length ≤ c * 488) (h2 : ∀ j, j < c → j * 488 < all.length)
    (hs : ∀ j, j < c → used + j < n - 2 ∧ sec BY (used + j) = secB run (used + j) ((all.drop (j * 488)).take 488)) (hr : run < 4611686018427387904) (hn : n < 4294967296) (hb : base ≤ run) :
    ∀ k j f, j + k = c → k ≤ f → coll BY n base run run long f (used + j) (accB all j) = some (accB all c, used + c)
  | 0, j, f, hj, hf => by
    obtain rfl : j = c := by omega
    exact coll_end (by rw [accB_len]; omega)
  | k + 1, j, f, hj, hf => by
    obtain ⟨f, rfl⟩ : ∃ g, f = g + 1 := ⟨f - 1, by omega⟩
    have hjc : j < c := by omega
    obtain ⟨q1, q2⟩ := hs j hjc
    have hcl : ((all.drop (j * 488)).take 488).length ≤ 488 := by rw [List.length_take]; omega
    rw [coll_yes (by rw [accB_len]; have := h2 j hjc; omega) (by rw [q2, secB_ok hcl hr (by omega) hb, decide_eq_true q1]; rfl) (by rw [q2, secB_8, low8 hr])]
    have hd : dataOf BY (used + j) = padB ((all.drop (j * 488)).take 488) := by unfold dataOf; rw [q2, secB_data hcl]
    rw [hd, ← accB_succ, Nat.add_assoc]
    exact coll_app hlong h1 h2 hs hr hn hb k (j + 1) f (by omega) (by omega)
/-- A batch that lies whole behind the others is read. -/
theorem parse_app {BY : List UInt8} {n base run used c f l : Nat} {bs : List (List UInt8)} {b : List UInt8} (hc : c = secsOf b.length) (hbl : b.length < 4294967296)
    (hs : ∀ j, j < c → used + j < n - 2 ∧ sec BY (used + j) = secB run (used + j) (((lowB b.length 4 ++ b).drop (j * 488)).take 488)) (hr : run < 4611686018427387904) (hn : n < 4294967296) (hb : base ≤ run) (hl : l ≤ run) (hf : n - 2 < f + used)
    (hend : used + c < n - 2 → leB ((sec BY (used + c)).take 8) < run) : parse BY n base run f used l bs = (used + c, bs ++ [b]) := by
  have hal : (lowB b.length 4 ++ b).length = b.length + 4 := by rw [List.length_append, lowB_length]; omega
  have hc1 : 0 < c := by rw [hc]; unfold secsOf; omega
  have hcm : b.length + 4 ≤ c * 488 := by rw [hc]; unfold secsOf; omega
  have hcl : ∀ j, j < c → j * 488 < b.length + 4 := fun j hj => by rw [hc] at hj; unfold secsOf at hj; omega
  obtain ⟨hu, hs0⟩ := hs 0 hc1
  rw [Nat.add_zero, Nat.zero_mul, List.drop_zero] at hs0
  rw [Nat.add_zero] at hu
  obtain ⟨f, rfl⟩ : ∃ g, f = g + 2 := ⟨f - 2, by omega⟩
  have hl0 : ((lowB b.length 4 ++ b).take 488).length ≤ 488 := by rw [List.length_take]; omega
  have hv : leB ((sec BY used).take 8) = run := by rw [hs0, secB_8, low8 hr]
  have hlong : longOf BY used = b.length + 4 := by
    unfold longOf dataOf
    rw [hs0, secB_data hl0]
    have : (padB ((lowB b.length 4 ++ b).take 488)).take 4 = lowB b.length 4 := by
      unfold padB
      rw [List.take_append_of_le_length (by rw [List.length_take]; omega), List.take_take]
      exact take_app _ _ 4 (lowB_length 4 _)
    rw [this, leB_lowB 4 _ (by omega)]
  have hcoll := coll_app (BY := BY) (n := n) (base := base) (run := run) (long := b.length + 4) (used := used) (c := c) (all := lowB b.length 4 ++ b) hal.symm (by omega) (fun j hj => by rw [hal]; exact hcl j hj) hs hr hn hb c 0 (n - used) (by omega) (by have := (hs (c - 1) (by omega)).1; omega)
  rw [Nat.add_zero, show accB (lowB b.length 4 ++ b) 0 = [] by simp [accB]] at hcoll
  rw [parse_more (acc := accB (lowB b.length 4 ++ b) c) (i := used + c) (by rw [hs0, secB_ok hl0 hr (by omega) hb, decide_eq_true hu]; rfl) (by rw [hv]; exact hl) (by rw [hv, hlong]; exact hcoll), hv, hlong]
  have hall : ((accB (lowB b.length 4 ++ b) c).take (b.length + 4)).drop 4 = b := by
    have := accB_all (lowB b.length 4 ++ b) c (by omega) (by rw [hal]; have := hcl (c - 1) (by omega); omega) hc1
    rw [hal] at this
    rw [this]
    exact drop_app0 _ _ 4 (lowB_length 4 _)
  rw [hall]
  by_cases he : used + c < n - 2
  · exact parse_stop (.inr (hend he))
  · exact parse_stop (.inl (by rw [decide_eq_false he]; rfl))
theorem LgI.append {L L' : Int → List UInt8} {from_ : Int} {n run base used : Nat} {bs : List (List UInt8)} (h : LgI L from_ n run base used bs) (hf : LgFree L from_ n run used) (b : List UInt8) (hbl : b.length < 4294967296) (hn : n < 4294967296) (hfit : used + secsOf b.length ≤ n - 2)
    (hL : L' = laid L (wps (from_ + 2 + (used : Int)) (appB run used (lowB b.length 4 ++ b) (secsOf b.length)) ((appB run used (lowB b.length 4 ++ b) (secsOf b.length)).length / 512))) :
    LgI L' from_ n run base (used + secsOf b.length) (bs ++ [b]) ∧ LgFree L' from_ n run (used + secsOf b.length) := by
  obtain ⟨c, hc⟩ : ∃ c, secsOf b.length = c := ⟨_, rfl⟩
  rw [hc] at hfit hL ⊢
  rw [appB_len, Nat.mul_div_cancel _ (by omega : 0 < 512)] at hL
  have hin : ∀ j, j < c → L' (from_ + 2 + ((used + j : Nat) : Int)) = secB run (used + j) (((lowB b.length 4 ++ b).drop (j * 488)).take 488) := fun j hj => by
    rw [hL, laid_wps_at, if_pos (by omega), show (from_ + 2 + ((used + j : Nat) : Int) - (from_ + 2 + (used : Int))).toNat = j by omega, sec_app _ _ _ _ _ hj]
  have hout : ∀ k, ¬ (from_ + 2 + (used : Int) ≤ k ∧ k < from_ + 2 + (used : Int) + (c : Int)) → L' k = L k := fun k hk => by rw [hL, laid_wps_at, if_neg hk]
  have hlen : ∀ k, (L' k).length = 512 := fun k => by
    by_cases hk : from_ + 2 + (used : Int) ≤ k ∧ k < from_ + 2 + (used : Int) + (c : Int)
    · have := hin (k - (from_ + 2 + (used : Int))).toNat (by omega)
      rw [show from_ + 2 + ((used + (k - (from_ + 2 + (used : Int))).toNat : Nat) : Int) = k by omega] at this
      rw [this]
      exact secB_len _ _ (by rw [List.length_take]; omega)
    · rw [hout k hk]; exact h.len k
  clear hL
  have hus := h.us
  refine ⟨⟨hlen, ?_, h.b1, h.br, h.r62, ?_, fun i hi => ?_, hfit⟩, fun i hi1 hi2 => ?_⟩
  · rw [hout _ (by omega), hout _ (by omega)]; exact h.hd
  · obtain ⟨f', l', q1, q2, q3, q4⟩ := parse_split _ _ _ _ _ _ h.par (by omega) (Nat.le_refl _) h.br
    rw [q4 (bodyP L' from_ n) run fun j hj => by
      have e : sec (bodyP L' from_ n) j = sec (bodyP L from_ n) j := by rw [sec_body hlen from_ n j (by omega), sec_body h.len from_ n j (by omega), hout _ (by omega)]
      exact ⟨by rw [e], by rw [e], by unfold dataOf; rw [e]⟩]
    refine parse_app hc.symm hbl (fun j hj => ⟨by omega, ?_⟩) h.r62 hn h.br q2 q3 fun he => ?_
    · rw [sec_body hlen from_ n _ (by omega)]; exact hin j hj
    · rw [sec_body hlen from_ n _ he, hout _ (by omega)]
      exact (hf _ (by omega) he).1
  · by_cases hk : used ≤ i ∧ i < used + c
    · have := hin (i - used) (by omega)
      rw [show used + (i - used) = i by omega] at this
      rw [this, secB_8, secB_500 (by rw [List.length_take]; omega), markB_8, low8 h.r62]
      exact ⟨Nat.le_refl _, Nat.le_refl _⟩
    · rw [hout _ (by omega)]; exact h.low i hi
  · rw [hout _ (by omega)]
    exact hf i (by omega) hi2
theorem leB_zero : ∀ k, leB (List.replicate k (0 : UInt8)) = 0
  | 0 => rfl
  | k + 1 => by rw [List.replicate_succ]; unfold leB; rw [leB_zero k]; rfl
theorem fmtB_eq {n : Nat} (h : 2 ≤ n) : fmtB n = List.replicate 512 0 ++ (headB 1 1 ++ List.replicate ((n - 2) * 512) 0) := by
  unfold fmtB
  have e : List.replicate (n * 512) (0 : UInt8) = List.replicate 512 0 ++ (List.replicate 512 0 ++ List.replicate ((n - 2) * 512) 0) := by
    rw [List.replicate_append_replicate, List.replicate_append_replicate]; congr 1; omega
  rw [e]
  exact splice_mid _ _ _ _ 512 List.length_replicate (by rw [headB_len, List.length_replicate])
/-- A log is laid. -/
theorem LgI.format {L L' : Int → List UInt8} {from_ : Int} {n : Nat} (hlen : ∀ k, (L k).length = 512) (hn : 4 ≤ n) (hL : L' = laid L (wps from_ (fmtB n) ((fmtB n).length / 512))) : LgI L' from_ n 1 1 0 [] ∧ LgFree L' from_ n 1 0 := by
  rw [fmtB_len (by omega), Nat.mul_div_cancel _ (by omega : 0 < 512)] at hL
  have h0 : L' from_ = List.replicate 512 0 := by
    rw [hL, laid_wps_at, if_pos (by omega), show (from_ - from_).toNat = 0 by omega, fmtB_eq (by omega)]
    unfold sec
    rw [Nat.zero_mul, List.drop_zero]
    exact take_app _ _ 512 List.length_replicate
  have h1 : L' (from_ + 1) = headB 1 1 := by
    rw [hL, laid_wps_at, if_pos (by omega), show (from_ + 1 - from_).toNat = 1 by omega, fmtB_eq (by omega)]
    unfold sec
    rw [Nat.one_mul, drop_app0 _ _ 512 List.length_replicate]
    exact take_app _ _ 512 (headB_len 1 1)
  have h2 : ∀ i : Nat, i < n - 2 → L' (from_ + 2 + (i : Int)) = List.replicate 512 0 := fun i hi => by
    rw [hL, laid_wps_at, if_pos (by omega), show (from_ + 2 + (i : Int) - from_).toNat = i + 2 by omega, fmtB_eq (by omega)]
    unfold sec
    rw [← List.append_assoc, show (i + 2) * 512 = 1024 + i * 512 by omega, drop_app _ _ 1024 _ (by rw [List.length_append, List.length_replicate, headB_len]), List.drop_replicate, List.take_replicate]
    congr 1
    omega
  have hl : ∀ k, (L' k).length = 512 := fun k => by
    by_cases hk : from_ ≤ k ∧ k < from_ + (n : Int)
    · by_cases hk0 : k = from_
      · rw [hk0, h0, List.length_replicate]
      · by_cases hk1 : k = from_ + 1
        · rw [hk1, h1, headB_len]
        · rw [show k = from_ + 2 + (((k - from_ - 2).toNat : Nat) : Int) by omega, h2 _ (by omega), List.length_replicate]
    · rw [hL, laid_wps_at, if_neg hk]; exact hlen k
  clear hL
  have hz : ∀ i : Nat, i < n - 2 → leB ((L' (from_ + 2 + (i : Int))).take 8) = 0 ∧ leB (((L' (from_ + 2 + (i : Int))).drop 500).take 8) = 0 := fun i hi => by
    rw [h2 i hi, List.take_replicate, List.drop_replicate, List.take_replicate, leB_zero, leB_zero]
    exact ⟨rfl, rfl⟩
  refine ⟨⟨hl, ?_, Nat.le_refl _, Nat.le_refl _, by decide, ?_, fun i hi => by rw [(hz i hi).1, (hz i hi).2]; exact ⟨Nat.zero_le _, Nat.zero_le _⟩, Nat.zero_le _⟩, fun i _ hi => by rw [(hz i hi).1, (hz i hi).2]; exact ⟨Nat.one_pos, Nat.one_pos⟩⟩
  · unfold HeadsI
    rw [if_neg (by decide), if_neg (by decide), h1, h0]
    exact ⟨rfl, .inr (by rw [List.take_replicate, leB_zero]; exact Nat.one_pos)⟩
  · refine parse_stop (.inl ?_)
    rw [sec_body hl from_ n 0 (by omega)]
    have := (hz 0 (by omega)).1
    unfold secOk
    rw [this]
    simp
end Go.Proofs.Ytmbpacpkabbcgaa
