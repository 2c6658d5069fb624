/- Keys of rows as bytes: what a part's bytes are, what bytes tell, and their order. Nothing of the program is used here. -/
import Derived.Test.YtlchnfjbcefkoaaGreatRow
namespace Go.Proofs.YtlchnfjbcefkoaaGreat
open Go.RowKit

/-- A part of a key. -/
structure Pt where
  s : List UInt8
  n : Int
  is : Bool
def Pt.Ok (p : Pt) : Prop := -9223372036854775808 ≤ p.n ∧ p.n ≤ 9223372036854775807
def esc : List UInt8 → List UInt8
  | [] => []
  | c :: l => if c = 0 then 0 :: 255 :: esc l else c :: esc l
def beN : Nat → Nat → List UInt8
  | 0, _ => []
  | k + 1, m => UInt8.ofNat (m / 256 ^ k) :: beN k m
def up (n : Int) : Nat := (n + 9223372036854775808).toNat
def enc (p : Pt) : List UInt8 := if p.is then 1 :: beN 8 (up p.n) else 2 :: (esc p.s ++ [0, 1])
def encs (l : List Pt) : List UInt8 := (l.map enc).flatten
def tab (t : List UInt8) : Pt := ⟨t, 0, false⟩
/-- May a part be? -/
def fineP (p : Pt) : Bool := if p.is then p.s.length == 0 else p.n == 0
def keyOk (t : List UInt8) (l : List Pt) : Bool := decide (1 ≤ t.length) && decide (t.length ≤ 32) && decide (1 ≤ l.length) && decide (l.length ≤ 8) && l.all fineP && decide ((encs (tab t :: l)).length ≤ 300)
/-- Parts held against each other. -/
def cmpL (a b : List UInt8) : Int := if Op.bytesLess a b then -1 else if a == b then 0 else 1
def cmpN (a b : Int) : Int := if a < b then -1 else if b < a then 1 else 0
def cmpP (p q : Pt) : Int := if p.is then (if q.is then cmpN p.n q.n else -1) else (if q.is then 1 else cmpL p.s q.s)
def cmpK : List Pt → List Pt → Int
  | [], [] => 0
  | [], _ :: _ => -1
  | _ :: _, [] => 1
  | p :: a, q :: b => if cmpP p q = 0 then cmpK a b else cmpP p q

/-! ### Order -/
theorem bl_asymm : ∀ a b : List UInt8, Op.bytesLess a b = true → Op.bytesLess b a = false
  | _, [], h => by cases ‹List UInt8› <;> simp [Op.bytesLess] at h
  | [], _ :: _, _ => rfl
  | a :: x, b :: y, h => by
    simp only [Op.bytesLess, Bool.or_eq_true, Bool.and_eq_true, decide_eq_true_eq, beq_iff_eq] at h
    simp only [Op.bytesLess, Bool.or_eq_false_iff, Bool.and_eq_false_iff, decide_eq_false_iff_not, beq_eq_false_iff_ne]
    rcases h with h | ⟨rfl, h⟩
    · exact ⟨fun h2 => by rw [UInt8.lt_iff_toNat_lt] at h h2; omega, .inl fun e => by subst e; rw [UInt8.lt_iff_toNat_lt] at h; omega⟩
    · exact ⟨fun h2 => by rw [UInt8.lt_iff_toNat_lt] at h2; omega, .inr (bl_asymm x y h)⟩
theorem bl_total : ∀ a b : List UInt8, Op.bytesLess a b = false → Op.bytesLess b a = false → a = b
  | [], [], _, _ => rfl
  | [], _ :: _, h, _ => by simp [Op.bytesLess] at h
  | _ :: _, [], _, h => by simp [Op.bytesLess] at h
  | a :: x, b :: y, h, h2 => by
    simp only [Op.bytesLess, Bool.or_eq_false_iff, Bool.and_eq_false_iff, decide_eq_false_iff_not, beq_eq_false_iff_ne, UInt8.lt_iff_toNat_lt] at h h2
    have e : a = b := UInt8.toNat_inj.1 (by omega)
    subst e
    rw [bl_total x y (by simpa using h.2) (by simpa using h2.2)]
theorem bl_irrefl (a : List UInt8) : Op.bytesLess a a = false := by
  cases h : Op.bytesLess a a with
  | false => rfl
  | true => have := bl_asymm a a h; rw [h] at this; cases this
theorem bl_trans : ∀ a b c : List UInt8, Op.bytesLess a b = true → Op.bytesLess b c = true → Op.bytesLess a c = true
  | _, _, [], _, h => by cases ‹List UInt8› <;> simp [Op.bytesLess] at h
  | [], _, _ :: _, _, _ => rfl
  | _ :: _, [], _ :: _, h, _ => by simp [Op.bytesLess] at h
  | a :: x, b :: y, c :: z, h, h2 => by
    simp only [Op.bytesLess, Bool.or_eq_true, Bool.and_eq_true, decide_eq_true_eq, beq_iff_eq, UInt8.lt_iff_toNat_lt] at h h2 ⊢
    rcases h with h | ⟨rfl, h⟩
    · rcases h2 with h2 | ⟨rfl, h2⟩
      · exact .inl (by omega)
      · exact .inl h
    · rcases h2 with h2 | ⟨rfl, h2⟩
      · exact .inl h2
      · exact .inr ⟨rfl, bl_trans x y z h h2⟩
theorem cmpL_in (a b : List UInt8) : cmpL a b = -1 ∧ Op.bytesLess a b = true ∨ cmpL a b = 0 ∧ a = b ∨ cmpL a b = 1 ∧ Op.bytesLess b a = true := by
  unfold cmpL
  cases h : Op.bytesLess a b with
  | true => exact .inl ⟨rfl, rfl⟩
  | false =>
    cases he : a == b with
    | true => exact .inr (.inl ⟨rfl, eq_of_beq he⟩)
    | false =>
      refine .inr (.inr ⟨rfl, ?_⟩)
      cases h2 : Op.bytesLess b a with
      | true => rfl
      | false => rw [bl_total _ _ h h2] at he; simp at he
theorem cmpN_in (m n : Int) : cmpN m n = -1 ∧ m < n ∨ cmpN m n = 0 ∧ m = n ∨ cmpN m n = 1 ∧ n < m := by
  unfold cmpN
  split
  · exact .inl ⟨rfl, by assumption⟩
  · split
    · exact .inr (.inr ⟨rfl, by assumption⟩)
    · exact .inr (.inl ⟨rfl, by omega⟩)
theorem cmpL_neg (s t : List UInt8) : cmpL t s = - cmpL s t := by
  rcases cmpL_in s t with ⟨h, h2⟩ | ⟨h, rfl⟩ | ⟨h, h2⟩
  · rw [h]; rcases cmpL_in t s with ⟨k, k2⟩ | ⟨k, rfl⟩ | ⟨k, k2⟩
    · rw [bl_asymm _ _ h2] at k2; cases k2
    · rw [bl_irrefl] at h2; cases h2
    · rw [k]; rfl
  · rw [h]; rfl
  · rw [h]; rcases cmpL_in t s with ⟨k, k2⟩ | ⟨k, rfl⟩ | ⟨k, k2⟩
    · rw [k]
    · rw [bl_irrefl] at h2; cases h2
    · rw [bl_asymm _ _ h2] at k2; cases k2
theorem cmpN_neg (m n : Int) : cmpN n m = - cmpN m n := by
  unfold cmpN
  split <;> split <;> first | rfl | omega
theorem cmpP_neg (p q : Pt) : cmpP q p = - cmpP p q := by
  unfold cmpP
  cases p.is <;> cases q.is <;> simp [cmpL_neg p.s q.s, cmpN_neg p.n q.n]
theorem cmpK_neg : ∀ a b : List Pt, cmpK b a = - cmpK a b
  | [], [] => rfl
  | [], _ :: _ => rfl
  | _ :: _, [] => rfl
  | p :: a, q :: b => by
    unfold cmpK
    rw [cmpP_neg p q, cmpK_neg a b]
    by_cases h : cmpP p q = 0
    · rw [if_pos h, if_pos (by omega)]
    · rw [if_neg h, if_neg (by omega)]
theorem cmpP_in (p q : Pt) : cmpP p q = -1 ∨ cmpP p q = 0 ∨ cmpP p q = 1 := by
  unfold cmpP
  have h1 := cmpL_in p.s q.s
  have h2 := cmpN_in p.n q.n
  cases p.is <;> cases q.is <;> simp <;> omega
theorem cmpK_in : ∀ a b : List Pt, cmpK a b = -1 ∨ cmpK a b = 0 ∨ cmpK a b = 1
  | [], [] => by simp [cmpK]
  | [], _ :: _ => by simp [cmpK]
  | _ :: _, [] => by simp [cmpK]
  | p :: a, q :: b => by
    unfold cmpK
    split
    · exact cmpK_in a b
    · exact cmpP_in p q

/-! ### Bytes ahead of others -/
/-- Two rows of bytes part, and the first has the lesser one there. -/
def Ahead (x y : List UInt8) : Prop := ∃ l u v r r', x = l ++ u :: r ∧ y = l ++ v :: r' ∧ u < v
theorem Ahead.app {x y : List UInt8} (h : Ahead x y) (s t : List UInt8) : Ahead (x ++ s) (y ++ t) := by
  obtain ⟨l, u, v, r, r', rfl, rfl, h⟩ := h
  exact ⟨l, u, v, r ++ s, r' ++ t, by simp, by simp, h⟩
theorem Ahead.pre {x y : List UInt8} (h : Ahead x y) (s : List UInt8) : Ahead (s ++ x) (s ++ y) := by
  obtain ⟨l, u, v, r, r', rfl, rfl, h⟩ := h
  exact ⟨s ++ l, u, v, r, r', by simp, by simp, h⟩
theorem Ahead.less {x y : List UInt8} (h : Ahead x y) : Op.bytesLess x y = true := by
  obtain ⟨l, u, v, r, r', rfl, rfl, h⟩ := h
  induction l with
  | nil => simp [Op.bytesLess, h]
  | cons c l ih => simp [Op.bytesLess, ih]
theorem Ahead.head {u v : UInt8} (r r' : List UInt8) (h : u < v) : Ahead (u :: r) (v :: r') := ⟨[], u, v, r, r', rfl, rfl, h⟩
theorem beN_ahead : ∀ (k m n : Nat), m < n → n < 256 ^ k → Ahead (beN k m) (beN k n)
  | 0, m, n, h, h2 => by simp at h2; omega
  | k + 1, m, n, h, h2 => by
    have hp : 0 < 256 ^ k := Nat.pow_pos (by decide)
    have hn : n / 256 ^ k < 256 := Nat.div_lt_of_lt_mul (by rw [Nat.mul_comm, ← Nat.pow_succ']; exact h2)
    have hle : m / 256 ^ k ≤ n / 256 ^ k := Nat.div_le_div_right (by omega)
    unfold beN
    by_cases he : m / 256 ^ k = n / 256 ^ k
    · rw [he]
      have hm : m % 256 ^ k < n % 256 ^ k := by
        have a := Nat.div_add_mod m (256 ^ k)
        have b := Nat.div_add_mod n (256 ^ k)
        rw [he] at a
        omega
      have e1 : ∀ j x, beN j (x % 256 ^ k) = beN j x ∨ k < j := by
        intro j x
        by_cases hj : k < j
        · exact .inr hj
        refine .inl ?_
        induction j with
        | zero => rfl
        | succ j ih =>
          unfold beN
          rw [ih (by omega)]
          congr 1
          have hd : 256 ^ k = 256 ^ j * 256 ^ (k - j) := by rw [← Nat.pow_add]; congr 1; omega
          have h3 : x % 256 ^ k / 256 ^ j = (x / 256 ^ j) % 256 ^ (k - j) := by rw [hd, Nat.mod_mul_right_div_self]
          rw [h3]
          have hd2 : 256 ^ (k - j) = 256 * 256 ^ (k - j - 1) := by rw [← Nat.pow_succ']; congr 1; omega
          apply UInt8.toNat_inj.1
          rw [UInt8.toNat_ofNat', UInt8.toNat_ofNat', hd2]
          exact Nat.mod_mul_right_mod _ _ _
      have e2 := (e1 k m).resolve_right (by omega)
      have e3 := (e1 k n).resolve_right (by omega)
      have := beN_ahead k (m % 256 ^ k) (n % 256 ^ k) hm (Nat.mod_lt _ hp)
      rw [e2, e3] at this
      exact this.pre [_]
    · refine Ahead.head _ _ ?_
      rw [UInt8.lt_iff_toNat_lt, UInt8.toNat_ofNat', UInt8.toNat_ofNat']
      generalize m / 256 ^ k = x at hle he ⊢
      generalize n / 256 ^ k = y at hle he hn ⊢
      omega
theorem esc_ahead : ∀ s t : List UInt8, Op.bytesLess s t = true → Ahead (esc s ++ [0, 1]) (esc t ++ [0, 1])
  | _, [], h => by cases ‹List UInt8› <;> simp [Op.bytesLess] at h
  | [], c :: t, _ => by
    unfold esc
    by_cases hc : c = 0
    · rw [if_pos hc]
      exact ⟨[0], 1, 255, [], esc t ++ [0, 1], rfl, by simp, by decide⟩
    · rw [if_neg hc]
      refine Ahead.head _ _ ?_
      rw [UInt8.lt_iff_toNat_lt]
      have : c.toNat ≠ 0 := fun e => hc (UInt8.toNat_inj.1 e)
      show 0 < c.toNat
      omega
  | a :: s, b :: t, h => by
    simp only [Op.bytesLess, Bool.or_eq_true, Bool.and_eq_true, decide_eq_true_eq, beq_iff_eq] at h
    rcases h with h | ⟨rfl, h⟩
    · unfold esc
      have hb : b ≠ 0 := fun e => by subst e; rw [UInt8.lt_iff_toNat_lt] at h; simp at h
      rw [if_neg hb]
      by_cases ha : a = 0
      · rw [if_pos ha]; subst ha; exact Ahead.head _ _ h
      · rw [if_neg ha]; exact Ahead.head _ _ h
    · have ih := esc_ahead s t h
      unfold esc
      by_cases ha : a = 0
      · rw [if_pos ha, if_pos ha]; exact ih.pre [0, 255]
      · rw [if_neg ha, if_neg ha]; exact ih.pre [a]
theorem up_lt {p : Pt} (h : p.Ok) : up p.n < 256 ^ 8 := by
  unfold up
  have := h.1
  have := h.2
  have : (256 : Nat) ^ 8 = 18446744073709551616 := by decide
  omega
theorem enc_ahead {p q : Pt} (hp : p.Ok) (hq : q.Ok) (h : cmpP p q = -1) : Ahead (enc p) (enc q) := by
  unfold cmpP at h
  unfold enc
  cases h1 : p.is <;> cases h2 : q.is <;> simp only [h1, h2, if_true, if_false, Bool.false_eq_true] at h ⊢
  · rcases cmpL_in p.s q.s with ⟨_, k⟩ | ⟨k, _⟩ | ⟨k, _⟩
    · exact (esc_ahead _ _ k).pre [2]
    · omega
    · omega
  · omega
  · exact Ahead.head _ _ (by decide)
  · rcases cmpN_in p.n q.n with ⟨_, k⟩ | ⟨k, _⟩ | ⟨k, _⟩
    · exact (beN_ahead 8 _ _ (by unfold up; have := hp.1; have := hq.1; omega) (up_lt hq)).pre [1]
    · omega
    · omega
theorem fineP_eq {p q : Pt} (hp : fineP p = true) (hq : fineP q = true) (h : cmpP p q = 0) : p = q := by
  obtain ⟨s, n, i⟩ := p
  obtain ⟨s', n', i'⟩ := q
  unfold fineP at hp hq
  unfold cmpP at h
  cases i <;> cases i' <;> simp at hp hq h
  · subst hp hq
    rcases cmpL_in s s' with ⟨k, _⟩ | ⟨_, rfl⟩ | ⟨k, _⟩
    · omega
    · rfl
    · omega
  · subst hp hq
    rcases cmpN_in n n' with ⟨k, _⟩ | ⟨_, rfl⟩ | ⟨k, _⟩
    · omega
    · rfl
    · omega
theorem encs_cons (p : Pt) (l : List Pt) : encs (p :: l) = enc p ++ encs l := by simp [encs]
theorem enc_ne (p : Pt) : enc p ≠ [] := by unfold enc; split <;> simp
/-- What is less as a key is less as bytes. -/
theorem encs_less : ∀ (a b : List Pt), (∀ p ∈ a, p.Ok ∧ fineP p = true) → (∀ p ∈ b, p.Ok ∧ fineP p = true) → cmpK a b = -1 → Op.bytesLess (encs a) (encs b) = true
  | [], [], _, _, h => by simp [cmpK] at h
  | [], q :: b, _, _, _ => by
    rw [encs_cons]
    cases he : enc q with
    | nil => exact absurd he (enc_ne q)
    | cons c r => simp [encs, Op.bytesLess]
  | _ :: _, [], _, _, h => by simp [cmpK] at h
  | p :: a, q :: b, ha, hb, h => by
    unfold cmpK at h
    rw [encs_cons, encs_cons]
    split at h
    · rename_i h0
      have := fineP_eq (ha p (by simp)).2 (hb q (by simp)).2 h0
      subst this
      have ih := encs_less a b (fun x hx => ha x (by simp [hx])) (fun x hx => hb x (by simp [hx])) h
      have : ∀ (l x y : List UInt8), Op.bytesLess x y = true → Op.bytesLess (l ++ x) (l ++ y) = true := by
        intro l x y hxy
        induction l with
        | nil => exact hxy
        | cons c l ih => simp [Op.bytesLess, ih]
      exact this _ _ _ ih
    · exact ((enc_ahead (ha p (by simp)).1 (hb q (by simp)).1 h).app _ _).less
theorem cmpK_zero : ∀ (a b : List Pt), (∀ p ∈ a, fineP p = true) → (∀ p ∈ b, fineP p = true) → cmpK a b = 0 → a = b
  | [], [], _, _, _ => rfl
  | [], _ :: _, _, _, h => by simp [cmpK] at h
  | _ :: _, [], _, _, h => by simp [cmpK] at h
  | p :: a, q :: b, ha, hb, h => by
    unfold cmpK at h
    split at h
    · rename_i h0
      rw [fineP_eq (ha p (by simp)) (hb q (by simp)) h0, cmpK_zero a b (fun x hx => ha x (by simp [hx])) (fun x hx => hb x (by simp [hx])) h]
    · exact absurd h (by assumption)
theorem encs_cmp (a b : List Pt) (ha : ∀ p ∈ a, p.Ok ∧ fineP p = true) (hb : ∀ p ∈ b, p.Ok ∧ fineP p = true) : cmpL (encs a) (encs b) = cmpK a b := by
  rcases cmpK_in a b with h | h | h
  · have := encs_less a b ha hb h
    rw [h]; unfold cmpL; rw [if_pos this]
  · have := cmpK_zero a b (fun p hp => (ha p hp).2) (fun p hp => (hb p hp).2) h
    subst this
    rw [h]; unfold cmpL; rw [bl_irrefl, beq_self_eq_true]; try rfl
  · have h2 : cmpK b a = -1 := by rw [cmpK_neg a b, h]
    have h3 := encs_less b a hb ha h2
    rw [cmpL_neg (encs b), h]; unfold cmpL; rw [if_pos h3]; rfl
theorem cmpL_pre (l x y : List UInt8) : cmpL (l ++ x) (l ++ y) = cmpL x y := by
  have : Op.bytesLess (l ++ x) (l ++ y) = Op.bytesLess x y := by
    induction l with
    | nil => rfl
    | cons c l ih => simp [Op.bytesLess, ih]
  unfold cmpL
  rw [this]
  congr 1
  by_cases h : x = y
  · subst h; simp
  · rw [show ((l ++ x == l ++ y) = false) by simp [h], show ((x == y) = false) by simp [h]]

/-! ### What bytes tell -/
/-- A text's bytes, up to its end. -/
def decT : List UInt8 → List UInt8 → Option (List UInt8 × List UInt8)
  | c :: d :: r, acc => if c = 0 then (if d = 1 then some (acc, r) else if d = 255 then decT r (acc ++ [0]) else none) else decT (d :: r) (acc ++ [c])
  | _, _ => none
def beV (l : List UInt8) : Nat := l.foldl (fun n c => n * 256 + c.toNat) 0
def down (m : Nat) : Int := (m : Int) - 9223372036854775808
def dec (b : List UInt8) : Option (Pt × List UInt8) := match b with
  | [] => none
  | k :: r => if k = 1 ∧ 8 ≤ r.length then some (⟨[], down (beV (r.take 8)), true⟩, r.drop 8) else if k = 2 then (decT r []).map fun x => (⟨x.1, 0, false⟩, x.2) else none
theorem decT_esc : ∀ (s r acc : List UInt8), decT (esc s ++ 0 :: 1 :: r) acc = some (acc ++ s, r)
  | [], r, acc => by simp [esc, decT]
  | c :: s, r, acc => by
    unfold esc
    by_cases hc : c = 0
    · subst hc
      rw [if_pos rfl]
      show decT (0 :: 255 :: (esc s ++ 0 :: 1 :: r)) acc = _
      unfold decT
      rw [if_pos rfl, if_neg (by decide), if_pos rfl, decT_esc s r]
      simp
    · rw [if_neg hc]
      show decT (c :: (esc s ++ 0 :: 1 :: r)) acc = _
      cases he : esc s ++ 0 :: 1 :: r with
      | nil => simp at he
      | cons d t =>
        unfold decT
        rw [if_neg hc, ← he, decT_esc s r]
        simp
theorem decT_len : ∀ (n : Nat) (b acc s r : List UInt8), b.length ≤ n → decT b acc = some (s, r) → r.length + 2 ≤ b.length
  | 0, b, acc, s, r, hn, h => by
    match b, hn with
    | [], _ => simp [decT] at h
  | n + 1, b, acc, s, r, hn, h => by
    match b, hn, h with
    | [], _, h => simp [decT] at h
    | [_], _, h => simp [decT] at h
    | c :: d :: t, hn, h =>
      unfold decT at h
      simp only [List.length_cons] at hn ⊢
      split at h
      · split at h
        · simp only [Option.some.injEq, Prod.mk.injEq] at h; rw [h.2]; omega
        · split at h
          · have := decT_len n t _ s r (by omega) h; omega
          · cases h
      · have := decT_len n (d :: t) _ s r (by simp; omega) h
        simp at this; omega
theorem dec_len {b r : List UInt8} {p : Pt} (h : dec b = some (p, r)) : r.length < b.length := by
  unfold dec at h
  split at h
  · cases h
  · rename_i k t
    split at h
    · simp only [Option.some.injEq, Prod.mk.injEq] at h
      rw [← h.2]
      simp; omega
    · split at h
      · cases hd : decT t [] with
        | none => rw [hd] at h; cases h
        | some x =>
          rw [hd] at h
          simp only [Option.map_some, Option.some.injEq, Prod.mk.injEq] at h
          have := decT_len _ t [] x.1 x.2 (Nat.le_refl _) hd
          rw [← h.2]
          simp; omega
      · cases h
theorem beV_beN : ∀ (k m a : Nat), m < 256 ^ k → (beN k m).foldl (fun n c => n * 256 + c.toNat) a = a * 256 ^ k + m
  | 0, m, a, h => by simp [beN] at h ⊢; omega
  | k + 1, m, a, h => by
    have hp : 0 < 256 ^ k := Nat.pow_pos (by decide)
    have hn : m / 256 ^ k < 256 := Nat.div_lt_of_lt_mul (by rw [Nat.mul_comm, ← Nat.pow_succ']; exact h)
    have key : ∀ j x a, (beN j x).foldl (fun n c => n * 256 + c.toNat) a = a * 256 ^ j + x % 256 ^ j := by
      intro j
      induction j with
      | zero => intro x a; simp [beN, Nat.mod_one]
      | succ j ih =>
        intro x a
        unfold beN
        rw [List.foldl_cons, ih, UInt8.toNat_ofNat']
        have h1 : x % 256 ^ (j + 1) = x % 256 ^ j + 256 ^ j * (x / 256 ^ j % 256) := by rw [Nat.pow_succ, Nat.mod_mul]
        rw [h1, show 256 ^ (j + 1) = 256 ^ j * 256 from Nat.pow_succ ..]
        change (a * 256 + x / 256 ^ j % 256) * 256 ^ j + x % 256 ^ j = _
        generalize 256 ^ j = P
        generalize x / P % 256 = q
        generalize x % P = r
        rw [Nat.add_mul, Nat.mul_assoc, Nat.mul_comm 256 P, Nat.mul_comm q P]
        omega
    rw [key, Nat.mod_eq_of_lt h]
theorem dec_enc (p : Pt) (hp : p.Ok) (hf : fineP p = true) (r : List UInt8) : dec (enc p ++ r) = some (p, r) := by
  obtain ⟨s, n, i⟩ := p
  unfold fineP at hf
  unfold enc dec
  cases i with
  | false =>
    simp only [Bool.false_eq_true, if_false] at hf ⊢
    have h0 : n = 0 := by simpa using hf
    subst h0
    rw [List.cons_append]
    dsimp only
    rw [if_neg (fun h => absurd h.1 (by decide)), if_pos rfl, show esc s ++ [0, 1] ++ r = esc s ++ 0 :: 1 :: r by simp, decT_esc]
    simp
  | true =>
    simp only [if_true] at hf ⊢
    have h0 : s = [] := by simpa using hf
    subst h0
    rw [List.cons_append]
    dsimp only
    have hl : (beN 8 (up n)).length = 8 := rfl
    rw [if_pos ⟨rfl, by rw [List.length_append, hl]; omega⟩, List.take_append_of_le_length (by omega), List.drop_append_of_le_length (by omega), List.take_of_length_le (by omega), List.drop_of_length_le (by omega)]
    have := beV_beN 8 (up n) 0 (up_lt hp)
    unfold beV
    rw [this]
    unfold down up
    have := hp.1
    simp only [Nat.zero_mul, Nat.zero_add, List.nil_append, Option.some.injEq, Prod.mk.injEq, Pt.mk.injEq, true_and, and_true]
    simp only at this
    omega
/-- All parts that bytes tell. -/
def decs : Nat → List UInt8 → Option (List Pt)
  | _, [] => some []
  | 0, _ :: _ => none
  | k + 1, c :: b => match dec (c :: b) with
    | none => none
    | some (p, r) => (decs k r).map (p :: ·)
theorem decs_encs : ∀ (l : List Pt) (k : Nat), (∀ p ∈ l, p.Ok ∧ fineP p = true) → (encs l).length ≤ k → decs k (encs l) = some l
  | [], k, _, _ => by unfold encs; simp [decs]
  | p :: l, k, h, hk => by
    rw [encs_cons] at hk ⊢
    cases he : enc p ++ encs l with
    | nil =>
      have := enc_ne p
      simp_all
    | cons c b =>
      have hlen : (enc p ++ encs l).length = (c :: b).length := by rw [he]
      have h1 : 0 < (enc p).length := List.length_pos_iff.2 (enc_ne p)
      simp only [List.length_append, List.length_cons] at hlen hk
      match k, hk with
      | 0, hk => omega
      | k + 1, hk =>
        unfold decs
        rw [← he, dec_enc p (h p (by simp)).1 (h p (by simp)).2]
        dsimp only
        rw [decs_encs l k (fun x hx => h x (by simp [hx])) (by omega)]
        rfl
theorem esc_append : ∀ a b : List UInt8, esc (a ++ b) = esc a ++ esc b
  | [], b => rfl
  | c :: a, b => by
    simp only [List.cons_append, esc, esc_append a b]
    split <;> rfl
theorem esc_next (s : List UInt8) (k : Nat) (h : k < s.length) : esc (s.take (k + 1)) = esc (s.take k) ++ (if s[k] = 0 then [0, 255] else [s[k]]) := by
  rw [List.take_succ_eq_append_getElem h, esc_append]
  congr 1
theorem esc_len : ∀ s : List UInt8, s.length ≤ (esc s).length
  | [] => Nat.le_refl _
  | c :: s => by
    have := esc_len s
    simp only [esc, List.length_cons]
    split <;> simp <;> omega
theorem esc_take_le (s : List UInt8) (k : Nat) : (esc (s.take k)).length ≤ (esc s).length := by
  have := esc_append (s.take k) (s.drop k)
  rw [List.take_append_drop] at this
  rw [this, List.length_append]
  omega
/-! ### Numbers turned -/
theorem xor_top (y : Nat) (h : y < 2 ^ 63) : y ^^^ 2 ^ 63 = 2 ^ 63 + y := by
  apply Nat.eq_of_testBit_eq
  intro i
  rw [Nat.testBit_xor, Nat.testBit_two_pow]
  rcases Nat.lt_trichotomy i 63 with hi | hi | hi
  · rw [Nat.testBit_two_pow_add_gt hi, decide_eq_false (by omega)]
    simp
  · subst hi
    rw [Nat.testBit_two_pow_add_eq]
    simp
  · have h1 : 2 ^ 64 ≤ 2 ^ i := Nat.pow_le_pow_right (by decide) (by omega)
    have h2 : (2 : Nat) ^ 64 = 2 ^ 63 + 2 ^ 63 := by decide
    rw [Nat.testBit_lt_two_pow (by omega), Nat.testBit_lt_two_pow (by omega), decide_eq_false (by omega)]
    rfl
theorem xor_flip (x : Nat) (h : x < 18446744073709551616) : x ^^^ 9223372036854775808 = (x + 9223372036854775808) % 18446744073709551616 := by
  have e : (9223372036854775808 : Nat) = 2 ^ 63 := by decide
  by_cases hx : x < 9223372036854775808
  · have := xor_top x (by rw [← e]; exact hx)
    rw [← e] at this
    rw [this]
    omega
  · obtain ⟨y, rfl⟩ : ∃ y, x = 9223372036854775808 + y := ⟨x - 9223372036854775808, by omega⟩
    have := xor_top y (by rw [← e]; omega)
    rw [← e] at this
    rw [← this, Nat.xor_assoc, Nat.xor_self, Nat.xor_zero]
    omega
theorem bits_flip (n : Int) (h0 : -9223372036854775808 ≤ n) (h1 : n ≤ 9223372036854775807) : bits .xor .u64 (n % 18446744073709551616) 9223372036854775808 = ((up n : Nat) : Int) := by
  have e : n % 18446744073709551616 = (((n % 18446744073709551616).toNat : Nat) : Int) := by omega
  have hlt : (n % 18446744073709551616).toNat < 18446744073709551616 := by omega
  rw [e]
  refine (bits_xor_nat .u64 rfl _ 9223372036854775808 hlt (by decide)).trans ?_
  rw [xor_flip _ hlt]
  unfold up
  omega
theorem bits_flipw (n : Int) (h0 : -9223372036854775808 ≤ n) (h1 : n ≤ 9223372036854775807) : bits .xor .u64 (IntKind.u64.wrap n) 9223372036854775808 = ((up n : Nat) : Int) := bits_flip n h0 h1
theorem bits_back (m : Nat) (h : m < 18446744073709551616) : bits .xor .u64 (m : Int) 9223372036854775808 = (((m + 9223372036854775808) % 18446744073709551616 : Nat) : Int) := by
  refine (bits_xor_nat .u64 rfl m 9223372036854775808 h (by decide)).trans ?_
  rw [xor_flip _ h]
end Go.Proofs.YtlchnfjbcefkoaaGreat
