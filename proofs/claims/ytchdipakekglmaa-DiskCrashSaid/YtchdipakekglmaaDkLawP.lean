/- What a crash leaves, in plain words: with all pieces what is read, with none what lasted, elsewhere as it was; sectors written are sectors that last. -/
import Derived.Test.YtchdipakekglmaaDkPlay
namespace Go.Proofs.Ytchdipakekglmaa
open Go.RowKit

theorem crs_cons (L : Int → List UInt8) (l : List Int) (p : Int × List UInt8) (r : List (Int × List UInt8)) : crs L l (p :: r) = crs (updS L (p.1, cut (L p.1) p.2 (nextP l))) l.tail r := rfl
theorem crs_ones : ∀ (pcs : List (Int × List UInt8)) (L : Int → List UInt8), (crs L (List.replicate pcs.length 1) pcs).1 = laid L pcs
  | [], _ => rfl
  | p :: r, L => by
    rw [crs_cons, List.length_cons, List.replicate_succ]
    exact crs_ones r (updS L p)
theorem upd_same (L : Int → List UInt8) (k : Int) : updS L (k, L k) = L := by
  funext j
  unfold updS
  dsimp only
  split
  · rename_i h; rw [h]
  · rfl
theorem crs_none : ∀ (pcs : List (Int × List UInt8)) (L : Int → List UInt8), (crs L [] pcs).1 = L
  | [], _ => rfl
  | p :: r, L => by
    rw [crs_cons, show nextP [] = 0 from rfl, cut_zero, upd_same]
    exact crs_none r L
theorem upd_far (L : Int → List UInt8) {p : Int × List UInt8} {k : Int} (h : p.1 ≠ k) : updS L p k = L k := by
  unfold updS
  rw [if_neg (Ne.symm h)]
theorem crs_far : ∀ (pcs : List (Int × List UInt8)) (L : Int → List UInt8) (l : List Int) (k : Int), (∀ p ∈ pcs, p.1 ≠ k) → (crs L l pcs).1 k = L k
  | [], _, _, _, _ => rfl
  | p :: r, L, l, k, h => by
    rw [crs_cons, crs_far r _ _ k fun q hq => h q (List.mem_cons_of_mem _ hq)]
    exact upd_far (p := (p.1, _)) L (h p List.mem_cons_self)
theorem laid_far : ∀ (pcs : List (Int × List UInt8)) (L : Int → List UInt8) (k : Int), (∀ p ∈ pcs, p.1 ≠ k) → laid L pcs k = L k
  | [], _, _, _ => rfl
  | p :: r, L, k, h => by
    show laid (updS L p) r k = _
    rw [laid_far r _ k fun q hq => h q (List.mem_cons_of_mem _ hq), upd_far L (h p List.mem_cons_self)]
/-- Some sectors' bytes, one of them. -/
theorem flatS_split (L : Int → List UInt8) (at_ : Int) (a b : Nat) : flatS L at_ (a + b) = flatS L at_ a ++ flatS L (at_ + (a : Int)) b := by
  induction b with
  | zero => simp [flatS]
  | succ b ih => rw [← Nat.add_assoc, flatS_succ, ih, flatS_succ, List.append_assoc]; congr 3; omega
theorem sec_flat {L : Int → List UInt8} (hL : ∀ k, (L k).length = 512) {n i : Nat} (h : i < n) : sec (flatS L 0 n) i = L (i : Int) := by
  obtain ⟨b, rfl⟩ : ∃ b, n = i + (1 + b) := ⟨n - i - 1, by omega⟩
  have hl := flatS_len hL 0 i
  rw [flatS_split, flatS_split]
  unfold sec
  rw [← hl, List.drop_left]
  have h1 : flatS L (0 + (i : Int)) 1 = L (i : Int) := by
    rw [show (1 : Nat) = 0 + 1 from rfl, flatS_succ]
    simp [flatS]
  rw [h1, List.take_append_of_le_length (by rw [hL]; exact Nat.le_refl _), List.take_of_length_le (by rw [hL]; exact Nat.le_refl _)]
theorem laid_snoc (L : Int → List UInt8) (l : List (Int × List UInt8)) (p : Int × List UInt8) : laid L (l ++ [p]) = updS (laid L l) p := by
  unfold laid
  rw [List.foldl_append]
  rfl
theorem laid_wps {L : Int → List UInt8} (hL : ∀ k, (L k).length = 512) (n : Nat) : ∀ m, m ≤ n → ∀ k, laid (fun _ => nought) (wps 0 (flatS L 0 n) m) k = if 0 ≤ k ∧ k < (m : Int) then L k else nought
  | 0, _, k => by rw [if_neg (by omega)]; rfl
  | m + 1, h, k => by
    rw [wps_succ, laid_snoc, sec_flat hL (by omega : m < n)]
    unfold updS
    dsimp only
    by_cases hk : k = 0 + (m : Int)
    · rw [if_pos hk, if_pos (by omega)]
      congr 1
      omega
    · rw [if_neg hk, laid_wps hL n m (by omega) k]
      by_cases h2 : 0 ≤ k ∧ k < (m : Int)
      · rw [if_pos h2, if_pos (by omega)]
      · rw [if_neg h2, if_neg (by omega)]
theorem laid_all {L : Int → List UInt8} (hL : ∀ k, (L k).length = 512) (n : Nat) (hout : ∀ k, (k < 0 ∨ (n : Int) ≤ k) → L k = nought) : laid (fun _ => nought) (wps 0 (flatS L 0 n) n) = L := by
  funext k
  rw [laid_wps hL n n (Nat.le_refl _)]
  by_cases h : 0 ≤ k ∧ k < (n : Int)
  · rw [if_pos h]
  · rw [if_neg h, hout k (by omega)]
theorem flatS_get {L : Int → List UInt8} (hL : ∀ k, (L k).length = 512) : ∀ (n i : Nat), i < n * 512 → (flatS L 0 n)[i]? = (L ((i / 512 : Nat) : Int))[i % 512]?
  | 0, i, h => by omega
  | n + 1, i, h => by
    have hl := flatS_len hL 0 n
    rw [flatS_succ]
    by_cases hi : i < n * 512
    · rw [List.getElem?_append_left (by omega), flatS_get hL n i hi]
    · rw [List.getElem?_append_right (by omega), hl, show i / 512 = n by omega, show i - n * 512 = i % 512 by omega]
      congr 2
      omega
/-- A byte of a sector that no piece touches. -/
theorem flat_far {L M : Int → List UInt8} (hL : ∀ k, (L k).length = 512) (hM : ∀ k, (M k).length = 512) {n i : Nat} (h : i < n * 512) (hk : L ((i / 512 : Nat) : Int) = M ((i / 512 : Nat) : Int)) : (flatS L 0 n)[i]? = (flatS M 0 n)[i]? := by
  rw [flatS_get hL n i h, flatS_get hM n i h, hk]
end Go.Proofs.Ytchdipakekglmaa
