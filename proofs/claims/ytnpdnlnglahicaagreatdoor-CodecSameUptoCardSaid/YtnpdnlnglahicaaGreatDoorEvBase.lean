/- A reckoner of closed runs, 1: tries, values with names for blocks, what they stand for in a world. Nothing of the program is used here. -/
import Derived.Test.YtnpdnlnglahicaaGreatDoorRow
import Derived.Test.YtnpdnlnglahicaaGreatDoorRange
namespace Go.Proofs.YtnpdnlnglahicaaGreatDoor
open Go.RowKit

/-- A trie of things under numbers. -/
inductive Tr (α : Type) where
  | nil
  | node (l : Tr α) (o : Option α) (r : Tr α)
/-- The way to a place of a trie. -/
inductive Pa where
  | z
  | l (p : Pa)
  | r (p : Pa)
def paF : Nat → Nat → Pa
  | 0, _ => .z
  | k + 1, n => match n with
    | 0 => .z
    | m + 1 => match Nat.beq (Nat.mod m 2) 0 with
      | true => .l (paF k (Nat.div m 2))
      | false => .r (paF k (Nat.div m 2))
def pa (n : Nat) : Pa := paF n n
def unpa : Pa → Nat
  | .z => 0
  | .l p => 2 * unpa p + 1
  | .r p => 2 * unpa p + 2
theorem unpa_paF : ∀ (k n : Nat), n ≤ k → unpa (paF k n) = n
  | 0, n, h => by
    obtain rfl : n = 0 := by omega
    rfl
  | k + 1, 0, _ => rfl
  | k + 1, m + 1, h => by
    have hd : Nat.div m 2 = m / 2 := rfl
    have hm : Nat.mod m 2 = m % 2 := rfl
    have ih := unpa_paF k (m / 2) (by omega)
    simp only [paF, hd, hm]
    cases hb : Nat.beq (m % 2) 0 with
    | true =>
      have := Nat.eq_of_beq_eq_true hb
      simp only [unpa, ih]
      omega
    | false =>
      have : m % 2 ≠ 0 := fun e => by rw [e] at hb; cases hb
      simp only [unpa, ih]
      omega
theorem unpa_pa (n : Nat) : unpa (pa n) = n := unpa_paF n n (Nat.le_refl n)
noncomputable def getP {α : Type} (p : Pa) : Tr α → Option α :=
  Pa.rec (fun t => Tr.rec none (fun _ o _ _ _ => o) t) (fun _ ih t => Tr.rec none (fun l _ _ _ _ => ih l) t) (fun _ ih t => Tr.rec none (fun _ _ r _ _ => ih r) t) p
noncomputable def setL {α : Type} (p : Pa) : α → Tr α → Tr α :=
  Pa.rec (fun v t => Tr.rec (.node .nil (some v) .nil) (fun l _ r _ _ => .node l (some v) r) t)
    (fun _ ih v t => Tr.rec (.node (ih v .nil) none .nil) (fun l o r _ _ => .node (ih v l) o r) t)
    (fun _ ih v t => Tr.rec (.node .nil none (ih v .nil)) (fun l o r _ _ => .node l o (ih v r)) t) p
theorem getP_nil {α : Type} (p : Pa) : getP p (Tr.nil : Tr α) = none := by cases p <;> rfl
theorem getP_setL {α : Type} (v : α) : ∀ (p q : Pa) (t : Tr α), (q = p → getP q (setL p v t) = some v) ∧ (q ≠ p → getP q (setL p v t) = getP q t)
  | .z, q, t => by
    constructor
    · intro e; subst e; cases t <;> rfl
    · intro e
      cases t with
      | nil => cases q <;> first | exact absurd rfl e | exact getP_nil _
      | node l o r => cases q <;> first | exact absurd rfl e | rfl
  | .l p, q, t => by
    constructor
    · intro e; subst e
      cases t with
      | nil => exact (getP_setL v p p .nil).1 rfl
      | node l o r => exact (getP_setL v p p l).1 rfl
    · intro e
      cases t with
      | nil =>
        cases q with
        | z => rfl
        | l q => exact ((getP_setL v p q .nil).2 fun e' => e (by rw [e'])).trans (getP_nil q)
        | r q => exact getP_nil q
      | node l o r =>
        cases q with
        | z => rfl
        | l q => exact (getP_setL v p q l).2 fun e' => e (by rw [e'])
        | r q => rfl
  | .r p, q, t => by
    constructor
    · intro e; subst e
      cases t with
      | nil => exact (getP_setL v p p .nil).1 rfl
      | node l o r => exact (getP_setL v p p r).1 rfl
    · intro e
      cases t with
      | nil =>
        cases q with
        | z => rfl
        | l q => exact getP_nil q
        | r q => exact ((getP_setL v p q .nil).2 fun e' => e (by rw [e'])).trans (getP_nil q)
      | node l o r =>
        cases q with
        | z => rfl
        | l q => rfl
        | r q => exact (getP_setL v p q r).2 fun e' => e (by rw [e'])
noncomputable def Tr.get {α : Type} (t : Tr α) (n : Nat) : Option α := getP (pa n) t
noncomputable def Tr.set {α : Type} (t : Tr α) (n : Nat) (v : α) : Tr α := setL (pa n) v t
theorem Tr.get_nil {α : Type} (n : Nat) : (Tr.nil : Tr α).get n = none := getP_nil _
theorem Tr.get_set {α : Type} (t : Tr α) (n : Nat) (v : α) (j : Nat) : (t.set n v).get j = if j = n then some v else t.get j := by
  have h := getP_setL v (pa n) (pa j) t
  by_cases e : j = n
  · rw [if_pos e]; exact h.1 (by rw [e])
  · rw [if_neg e]; exact h.2 fun e' => e (by rw [← unpa_pa j, e', unpa_pa n])

/-- A cell packed: its kind in 8 bits, its number in 64. -/
noncomputable def unpackV (c : Nat) : Value :=
  Nat.rec (.int .u8 (.ofNat (Nat.div c 256))) (fun t _ => Nat.rec (.int .i64 (.ofNat (Nat.div c 256))) (fun t _ => Nat.rec (.int .u64 (.ofNat (Nat.div c 256))) (fun t _ => Nat.rec (.bool (Nat.ble 1 (Nat.div c 256))) (fun t _ =>
    Nat.rec (.int .u32 (.ofNat (Nat.div c 256))) (fun t _ => Nat.rec (.int .i32 (.ofNat (Nat.div c 256))) (fun t _ => Nat.rec (.int .i64 (.negSucc (Nat.div c 256))) (fun t _ => Nat.rec (.pointer none) (fun t _ => Nat.rec (.slice none 0 0) (fun t _ => Nat.rec (.map none) (fun t _ => Nat.rec .nilIface (fun t _ => Nat.rec .nilFunc (fun t _ => Nat.rec (.string ⟨#[]⟩) (fun _ _ => .bool false) t) t) t) t) t) t) t) t) t) t) t) t) (Nat.mod c 256)
def codeN (tag n : Nat) : Option Nat := match Nat.blt n 18446744073709551616 with
  | true => some (Nat.add (Nat.mul n 256) tag)
  | false => none
def kindTag : IntKind → Option Nat
  | .u8 => some 0
  | .i64 => some 1
  | .u64 => some 2
  | .u32 => some 4
  | .i32 => some 5
  | _ => none
def packV : Value → Option Nat
  | .int k n => match kindTag k with
    | some tag => match n with
      | .ofNat n => codeN tag n
      | .negSucc n => match tag with
        | 1 => codeN 6 n
        | _ => none
    | none => none
  | .bool b => match b with
    | true => some 259
    | false => some 3
  | .pointer none => some 7
  | .slice none 0 0 => some 8
  | .map none => some 9
  | .nilIface => some 10
  | .nilFunc => some 11
  | _ => none
theorem unpack_code (tag n : Nat) (ht : tag < 256) : Nat.mod (Nat.add (Nat.mul n 256) tag) 256 = tag ∧ Nat.div (Nat.add (Nat.mul n 256) tag) 256 = n := by
  have h1 : Nat.mod (Nat.add (Nat.mul n 256) tag) 256 = (n * 256 + tag) % 256 := rfl
  have h2 : Nat.div (Nat.add (Nat.mul n 256) tag) 256 = (n * 256 + tag) / 256 := rfl
  rw [h1, h2]
  omega
theorem codeN_some {tag n c : Nat} (h : codeN tag n = some c) : c = Nat.add (Nat.mul n 256) tag ∧ n < 18446744073709551616 := by
  unfold codeN at h
  split at h
  · rename_i hb
    exact ⟨(Option.some.inj h).symm, Nat.le_of_ble_eq_true hb⟩
  · cases h
theorem packV_ok {v : Value} {c : Nat} (h : packV v = some c) : c < 4722366482869645213696 ∧ unpackV c = v := by
  have key : ∀ tag n c, codeN tag n = some c → tag < 256 → c < 4722366482869645213696 ∧ Nat.mod c 256 = tag ∧ Nat.div c 256 = n := fun tag n c hc ht => by
    obtain ⟨rfl, hn⟩ := codeN_some hc
    refine ⟨?_, unpack_code tag n ht⟩
    show n * 256 + tag < _
    omega
  unfold packV at h
  split at h
  · rename_i k n
    split at h
    case h_2 => cases h
    rename_i tag htag
    split at h
    · rename_i n
      cases k <;> simp only [kindTag, Option.some.injEq, reduceCtorEq] at htag <;> subst htag <;> (obtain ⟨h1, h2, h3⟩ := key _ _ _ h (by decide); refine ⟨h1, ?_⟩; unfold unpackV; rw [h2, h3] <;> rfl)
    · rename_i n
      split at h
      · cases k <;> simp only [kindTag, Option.some.injEq, reduceCtorEq] at htag <;> first | (exact absurd htag (by decide)) | skip
        obtain ⟨h1, h2, h3⟩ := key _ _ _ h (by decide)
        refine ⟨h1, ?_⟩
        unfold unpackV
        rw [h2, h3] <;> rfl
      · cases h
  · split at h <;> (obtain rfl := Option.some.inj h; exact ⟨by decide, rfl⟩)
  · obtain rfl := Option.some.inj h; exact ⟨by decide, rfl⟩
  · obtain rfl := Option.some.inj h; exact ⟨by decide, rfl⟩
  · obtain rfl := Option.some.inj h; exact ⟨by decide, rfl⟩
  · obtain rfl := Option.some.inj h; exact ⟨by decide, rfl⟩
  · obtain rfl := Option.some.inj h; exact ⟨by decide, rfl⟩
  · cases h
/-- A zero packed: the empty text, too. -/
def packZ : Value → Option Nat
  | .string s => match s with
    | ⟨d⟩ => match d with
      | ⟨l⟩ => match l with
        | [] => some 12
        | _ :: _ => none
  | .int k n => packV (.int k n)
  | .bool b => packV (.bool b)
  | .pointer a => packV (.pointer a)
  | .slice a l c => packV (.slice a l c)
  | .map m => packV (.map m)
  | .nilIface => some 10
  | .nilFunc => some 11
  | _ => none
theorem packZ_ok {v : Value} {c : Nat} (h : packZ v = some c) : c < 4722366482869645213696 ∧ unpackV c = v := by
  unfold packZ at h
  split at h
  · rename_i s
    obtain ⟨⟨l⟩⟩ := s
    cases l with
    | nil => obtain rfl := Option.some.inj h; exact ⟨by decide, rfl⟩
    | cons a r => cases h
  · exact packV_ok h
  · exact packV_ok h
  · exact packV_ok h
  · exact packV_ok h
  · exact packV_ok h
  · obtain rfl := Option.some.inj h; exact ⟨by decide, rfl⟩
  · obtain rfl := Option.some.inj h; exact ⟨by decide, rfl⟩
  · cases h
theorem unpackV_one (c : Nat) : (unpackV c).oneCell' = true := by
  unfold unpackV
  generalize Nat.div c 256 = d
  generalize Nat.mod c 256 = t
  match t with
  | 0 => rfl
  | 1 => rfl
  | 2 => rfl
  | 3 => rfl
  | 4 => rfl
  | 5 => rfl
  | 6 => rfl
  | 7 => rfl
  | 8 => rfl
  | 9 => rfl
  | 10 => rfl
  | 11 => rfl
  | 12 => rfl
  | _ + 13 => rfl
/-- The lower bits, and cells packed behind each other, 72 bits each. -/
def loN (N k : Nat) : Nat := Nat.land N (Nat.sub (Nat.pow 2 k) 1)
def cellN (N i : Nat) : Nat := loN (Nat.shiftRight N (Nat.mul 72 i)) 72
def chunkN (N i k : Nat) : Nat := loN (Nat.shiftRight N (Nat.mul 72 i)) (Nat.mul 72 k)
def spliceN (N i k M : Nat) : Nat := Nat.lor (Nat.lor (loN N (Nat.mul 72 i)) (Nat.shiftLeft (loN M (Nat.mul 72 k)) (Nat.mul 72 i))) (Nat.shiftLeft (Nat.shiftRight N (Nat.mul 72 (Nat.add i k))) (Nat.mul 72 (Nat.add i k)))
theorem loN_bit (N k b : Nat) : (loN N k).testBit b = (decide (b < k) && N.testBit b) := by
  have : loN N k = N % 2 ^ k := Nat.and_two_pow_sub_one_eq_mod N k
  rw [this, Nat.testBit_mod_two_pow]
theorem shr_bit (N k b : Nat) : (Nat.shiftRight N k).testBit b = N.testBit (k + b) := Nat.testBit_shiftRight N
theorem shl_bit (N k b : Nat) : (Nat.shiftLeft N k).testBit b = (decide (k ≤ b) && N.testBit (b - k)) := by
  have := Nat.testBit_shiftLeft (i := k) (j := b) N
  rw [show Nat.shiftLeft N k = N <<< k from rfl, this]
theorem lor_bit (A B b : Nat) : (Nat.lor A B).testBit b = (A.testBit b || B.testBit b) := Nat.testBit_or A B b
theorem cellN_bit (N i b : Nat) : (cellN N i).testBit b = (decide (b < 72) && N.testBit (72 * i + b)) := by
  unfold cellN
  rw [loN_bit, shr_bit]
  rfl
theorem cellN_eq {N N' i i' : Nat} (h : ∀ b, b < 72 → N.testBit (72 * i + b) = N'.testBit (72 * i' + b)) : cellN N i = cellN N' i' := by
  apply Nat.eq_of_testBit_eq
  intro b
  rw [cellN_bit, cellN_bit]
  by_cases hb : b < 72
  · rw [h b hb]
  · rw [decide_eq_false hb]; rfl
theorem cellN_chunk (N i k j : Nat) (hj : j < k) : cellN (chunkN N i k) j = cellN N (i + j) := by
  apply cellN_eq
  intro b hb
  unfold chunkN
  rw [loN_bit, shr_bit, decide_eq_true (by show 72 * j + b < 72 * k; omega), Bool.true_and]
  congr 1
  show 72 * i + (72 * j + b) = _
  omega
theorem cellN_splice (N i k M j : Nat) : cellN (spliceN N i k M) j = if i ≤ j ∧ j < i + k then cellN M (j - i) else cellN N j := by
  have hb0 : ∀ b, (spliceN N i k M).testBit b = (((decide (b < 72 * i) && N.testBit b) || (decide (72 * i ≤ b) && (decide (b - 72 * i < 72 * k) && M.testBit (b - 72 * i)))) || (decide (72 * (i + k) ≤ b) && N.testBit (72 * (i + k) + (b - 72 * (i + k))))) := fun b => by
    unfold spliceN
    rw [lor_bit, lor_bit, loN_bit, shl_bit, loN_bit, shl_bit, shr_bit]
    rfl
  by_cases h : i ≤ j ∧ j < i + k
  · rw [if_pos h]
    apply cellN_eq
    intro b hb
    rw [hb0, decide_eq_false (by omega), decide_eq_true (by omega : 72 * i ≤ 72 * j + b), decide_eq_true (by omega : 72 * j + b - 72 * i < 72 * k), decide_eq_false (by omega : ¬ 72 * (i + k) ≤ 72 * j + b)]
    simp only [Bool.false_and, Bool.false_or, Bool.true_and, Bool.or_false]
    congr 1
    omega
  · rw [if_neg h]
    apply cellN_eq
    intro b hb
    rw [hb0]
    by_cases h1 : j < i
    · rw [decide_eq_true (by omega : 72 * j + b < 72 * i), decide_eq_false (by omega : ¬ 72 * i ≤ 72 * j + b), decide_eq_false (by omega : ¬ 72 * (i + k) ≤ 72 * j + b)]
      simp only [Bool.false_and, Bool.or_false, Bool.true_and]
    · rw [decide_eq_false (by omega : ¬ 72 * j + b < 72 * i), decide_eq_true (by omega : 72 * i ≤ 72 * j + b), decide_eq_false (by omega : ¬ 72 * j + b - 72 * i < 72 * k), decide_eq_true (by omega : 72 * (i + k) ≤ 72 * j + b)]
      simp only [Bool.false_and, Bool.false_or, Bool.true_and]
      congr 1
      omega
/-- So many cells, written out. -/
noncomputable def unpackL (n N : Nat) : List Value := (List.range n).map fun i => unpackV (cellN N i)
theorem unpackL_len (n N : Nat) : (unpackL n N).length = n := by simp [unpackL]
theorem unpackL_get (n N j : Nat) (h : j < n) : (unpackL n N)[j]? = some (unpackV (cellN N j)) := by
  unfold unpackL
  rw [List.getElem?_map, List.getElem?_range h]
  rfl
theorem unpackL_ext {n N N' : Nat} (h : ∀ j, j < n → cellN N j = cellN N' j) : unpackL n N = unpackL n N' := by
  unfold unpackL
  apply List.map_congr_left
  intro i hi
  rw [h i (List.mem_range.1 hi)]
theorem unpackL_one (n N : Nat) : ∀ u ∈ unpackL n N, u.oneCell' = true := by
  intro u hu
  unfold unpackL at hu
  obtain ⟨i, _, rfl⟩ := List.mem_map.1 hu
  exact unpackV_one _
theorem cellN_div (N i : Nat) : cellN N i = N / 2 ^ (72 * i) % 4722366482869645213696 := by
  unfold cellN loN
  have h1 : Nat.shiftRight N (Nat.mul 72 i) = N / 2 ^ (72 * i) := Nat.shiftRight_eq_div_pow N (72 * i)
  rw [h1]
  exact Nat.and_two_pow_sub_one_eq_mod _ 72
theorem cellN_zero (i : Nat) : cellN 0 i = 0 := by rw [cellN_div]; simp
theorem cellN_head (c M : Nat) (hc : c < 4722366482869645213696) : cellN (Nat.add c (Nat.mul M 4722366482869645213696)) 0 = c := by
  rw [cellN_div]
  show (c + M * 4722366482869645213696) / 2 ^ (72 * 0) % _ = c
  rw [Nat.mul_zero, Nat.pow_zero, Nat.div_one]
  omega
theorem cellN_tail (c M i : Nat) (hc : c < 4722366482869645213696) : cellN (Nat.add c (Nat.mul M 4722366482869645213696)) (i + 1) = cellN M i := by
  rw [cellN_div, cellN_div]
  show (c + M * 4722366482869645213696) / 2 ^ (72 * (i + 1)) % _ = _
  have e : (2 : Nat) ^ (72 * (i + 1)) = 4722366482869645213696 * 2 ^ (72 * i) := by
    rw [show 72 * (i + 1) = 72 + 72 * i by omega, Nat.pow_add]
  have e2 : (c + M * 4722366482869645213696) / 4722366482869645213696 = M := by omega
  rw [e, ← Nat.div_div_eq_div_mul, e2]
theorem unpackL_cons (n c M : Nat) (hc : c < 4722366482869645213696) : unpackL (n + 1) (Nat.add c (Nat.mul M 4722366482869645213696)) = unpackV c :: unpackL n M := by
  unfold unpackL
  rw [List.range_succ_eq_map, List.map_cons, List.map_map, cellN_head c M hc]
  refine congrArg (List.cons _) (List.map_congr_left fun i _ => ?_)
  rw [Function.comp_apply]
  exact congrArg unpackV (cellN_tail c M i hc)
theorem unpackL_zero (n : Nat) : unpackL n 0 = List.replicate n (unpackV 0) := by
  unfold unpackL
  apply List.ext_getElem?
  intro i
  rw [List.getElem?_map, List.getElem?_replicate]
  by_cases h : i < n
  · rw [List.getElem?_range h, if_pos h, Option.map_some, cellN_zero]
  · rw [if_neg h, List.getElem?_eq_none (by simpa using h), Option.map_none]
/-- Values packed. -/
def packVs : List Value → Option Nat
  | [] => some 0
  | x :: r => match packZ x with
    | some c => match packVs r with
      | some M => some (Nat.add c (Nat.mul M 4722366482869645213696))
      | none => none
    | none => none
theorem packVs_ok : ∀ {l : List Value} {M : Nat}, packVs l = some M → unpackL l.length M = l
  | [], M, h => rfl
  | x :: r, M, h => by
    simp only [packVs] at h
    split at h
    case h_2 => cases h
    rename_i c hc
    split at h
    case h_2 => cases h
    rename_i M' hM
    obtain rfl := Option.some.inj h
    obtain ⟨h1, h2⟩ := packZ_ok hc
    rw [List.length_cons, unpackL_cons _ _ _ h1, h2, packVs_ok hM]

/-- A value in which blocks go by names. -/
inductive AV where
  | v (x : Value)
  | ptr (id off : Nat)
  | slc (id off len cap : Nat) (ex : Bool)
  | mp (id : Nat)
  | yld (id : Nat)
  | fn (f : Fn) (first captured : List AV)
  | ifc (t : TypeId) (x : AV)
  | agg (cs : List AV)
  | flat (n N : Nat)
  | tup (vs : List AV)
/-- A cell unpacked, its number laid out. -/
noncomputable def natA (s : Nat) (k : Nat → AV) : AV := Nat.rec (k 0) (fun m _ => k (Nat.succ m)) s
theorem natA_eq (s : Nat) (k : Nat → AV) : natA s k = k s := by cases s <;> rfl
noncomputable def unpackA (c : Nat) : AV := natA (Nat.div c 256) fun d =>
  Nat.rec (.v (.int .u8 (.ofNat d))) (fun t _ => Nat.rec (.v (.int .i64 (.ofNat d))) (fun t _ => Nat.rec (.v (.int .u64 (.ofNat d))) (fun t _ => Nat.rec (.v (.bool (Nat.ble 1 d))) (fun t _ =>
    Nat.rec (.v (.int .u32 (.ofNat d))) (fun _ _ => .v (unpackV c)) t) t) t) t) (Nat.mod c 256)
theorem unpackA_eq (c : Nat) : unpackA c = .v (unpackV c) := by
  unfold unpackA
  rw [natA_eq]
  unfold unpackV
  generalize Nat.mod c 256 = t
  match t with
  | 0 => rfl
  | 1 => rfl
  | 2 => rfl
  | 3 => rfl
  | 4 => rfl
  | _ + 5 => rfl
/-- Where a block lies, from which cell on it is ours, and how many elements there is more room for than is known. -/
structure Loc where
  blk : Nat
  off : Nat
  extra : Nat
abbrev Env := Nat → Option Loc
mutual
noncomputable def AV.real (ρ : Env) : AV → Option Value
  | .v x => some x
  | .ptr id off => (ρ id).map fun l => .pointer (some ⟨l.blk, l.off + off, none⟩)
  | .slc id off len cap ex => (ρ id).map fun l => .slice (some ⟨l.blk, l.off + off, none⟩) len (if ex then cap else cap + l.extra)
  | .mp id => (ρ id).map fun l => .map (some l.blk)
  | .yld id => (ρ id).map fun l => .func (.yield l.blk) #[] #[]
  | .fn f a b => (AV.reals ρ a).bind fun x => (AV.reals ρ b).map fun y => .func f x.toArray y.toArray
  | .ifc t x => (AV.real ρ x).map fun y => .iface t y
  | .agg cs => (AV.reals ρ cs).map fun x => .agg x.toArray
  | .flat n N => some (.agg (unpackL n N).toArray)
  | .tup vs => (AV.reals ρ vs).map fun x => .tuple x.toArray
noncomputable def AV.reals (ρ : Env) : List AV → Option (List Value)
  | [] => some []
  | a :: r => (AV.real ρ a).bind fun x => (AV.reals ρ r).map fun y => x :: y
end
/-- Later names are added, none is turned. -/
def Env.le (ρ ρ' : Env) : Prop := ∀ id l, ρ id = some l → ρ' id = some l
theorem Env.le_refl (ρ : Env) : Env.le ρ ρ := fun _ _ h => h
theorem Env.le_trans {a b c : Env} (h : Env.le a b) (k : Env.le b c) : Env.le a c := fun id l e => k id l (h id l e)
mutual
theorem AV.real_mono {ρ ρ' : Env} (h : Env.le ρ ρ') : ∀ (a : AV) (x : Value), a.real ρ = some x → a.real ρ' = some x
  | .v x, y, e => e
  | .ptr id off, y, e => by
    simp only [AV.real, Option.map_eq_some_iff] at e ⊢
    obtain ⟨l, hl, rfl⟩ := e
    exact ⟨l, h _ _ hl, rfl⟩
  | .slc id off len cap ex, y, e => by
    simp only [AV.real, Option.map_eq_some_iff] at e ⊢
    obtain ⟨l, hl, rfl⟩ := e
    exact ⟨l, h _ _ hl, rfl⟩
  | .mp id, y, e => by
    simp only [AV.real, Option.map_eq_some_iff] at e ⊢
    obtain ⟨l, hl, rfl⟩ := e
    exact ⟨l, h _ _ hl, rfl⟩
  | .yld id, y, e => by
    simp only [AV.real, Option.map_eq_some_iff] at e ⊢
    obtain ⟨l, hl, rfl⟩ := e
    exact ⟨l, h _ _ hl, rfl⟩
  | .fn f a b, y, e => by
    simp only [AV.real, Option.bind_eq_some_iff, Option.map_eq_some_iff] at e ⊢
    obtain ⟨x1, h1, x2, h2, rfl⟩ := e
    exact ⟨x1, AV.reals_mono h a x1 h1, x2, AV.reals_mono h b x2 h2, rfl⟩
  | .ifc t x, y, e => by
    simp only [AV.real, Option.map_eq_some_iff] at e ⊢
    obtain ⟨l, hl, rfl⟩ := e
    exact ⟨l, AV.real_mono h x l hl, rfl⟩
  | .agg cs, y, e => by
    simp only [AV.real, Option.map_eq_some_iff] at e ⊢
    obtain ⟨l, hl, rfl⟩ := e
    exact ⟨l, AV.reals_mono h cs l hl, rfl⟩
  | .flat n N, y, e => e
  | .tup cs, y, e => by
    simp only [AV.real, Option.map_eq_some_iff] at e ⊢
    obtain ⟨l, hl, rfl⟩ := e
    exact ⟨l, AV.reals_mono h cs l hl, rfl⟩
theorem AV.reals_mono {ρ ρ' : Env} (h : Env.le ρ ρ') : ∀ (a : List AV) (x : List Value), AV.reals ρ a = some x → AV.reals ρ' a = some x
  | [], y, e => e
  | a :: r, y, e => by
    simp only [AV.reals, Option.bind_eq_some_iff, Option.map_eq_some_iff] at e ⊢
    obtain ⟨x1, h1, x2, h2, rfl⟩ := e
    exact ⟨x1, AV.real_mono h a x1 h1, x2, AV.reals_mono h r x2 h2, rfl⟩
end
end Go.Proofs.YtnpdnlnglahicaaGreatDoor
