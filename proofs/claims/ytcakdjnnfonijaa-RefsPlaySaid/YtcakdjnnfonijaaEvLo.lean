/- A reckoner of closed runs, 1: tries, values with names for blocks, what they stand for in a world. Nothing of the program is used here. / A reckoner of closed runs, 2: blocks under names, and a world in which they lie. Nothing of the program is used here. / A reckoner of closed runs, 3: frames; operations that touch no memory. Nothing of the program is used here. / A reckoner of closed runs, 4: loads, stores, blocks that are made. Nothing of the program is used here. / A reckoner of closed runs, 5: blocks that are made; addresses. Nothing of the program is used here. / A reckoner of closed runs, 6: what an operation comes to; operations whose operands name no block. Nothing of the program is used here. / A reckoner of closed runs, 7: operations over values that name blocks, and that change none. Nothing of the program is used here. / A reckoner of closed runs, 8: slice expressions, lengths, nil checks. Nothing of the program is used here. / A reckoner of closed runs, 9: structs, rows and maps that are made. Nothing of the program is used here. / A reckoner of closed runs, 10: maps. Nothing of the program is used here. / A reckoner of closed runs, 10b: entries of maps in place. Nothing of the program is used here. / A reckoner of closed runs, 11: append. Nothing of the program is used here. -/
import Derived.Test.YtcakdjnnfonijaaRoLo
import Derived.Laws.MakeOwn
import Derived.Laws.Tables
import Derived.Great.BuildSlice
import Derived.MapKept
import Derived.Deep.AppendSrc
import Derived.Deep.Upon
namespace Go.Proofs.Ytcakdjnnfonijaa
open Go.RowKit

/-- A trie of things under numbers. -/
inductive Tr (α : Type) where
  | nil
  | node (l : Tr α) (o : Option α) (r : Tr α)
/-- The way to a place of a trie. -/
inductive Pa where
  | z
  | l (p : Pa)
  | r (p : Pa)
def paF : Nat → Nat → Pa
  | 0, _ => .z
  | k + 1, n => match n with
    | 0 => .z
    | m + 1 => match Nat.beq (Nat.mod m 2) 0 with
      | true => .l (paF k (Nat.div m 2))
      | false => .r (paF k (Nat.div m 2))
def pa (n : Nat) : Pa := paF n n
def unpa : Pa → Nat
  | .z => 0
  | .l p => 2 * unpa p + 1
  | .r p => 2 * unpa p + 2
theorem unpa_paF : ∀ (k n : Nat), n ≤ k → unpa (paF k n) = n
  | 0, n, h => by
    obtain rfl : n = 0 := by omega
    rfl
  | k + 1, 0, _ => rfl
  | k + 1, m + 1, h => by
    have hd : Nat.div m 2 = m / 2 := rfl
    have hm : Nat.mod m 2 = m % 2 := rfl
    have ih := unpa_paF k (m / 2) (by omega)
    simp only [paF, hd, hm]
    cases hb : Nat.beq (m % 2) 0 with
    | true =>
      have := Nat.eq_of_beq_eq_true hb
      simp only [unpa, ih]
      omega
    | false =>
      have : m % 2 ≠ 0 := fun e => by rw [e] at hb; cases hb
      simp only [unpa, ih]
      omega
theorem unpa_pa (n : Nat) : unpa (pa n) = n := unpa_paF n n (Nat.le_refl n)
noncomputable def getP {α : Type} (p : Pa) : Tr α → Option α :=
  Pa.rec (fun t => Tr.rec none (fun _ o _ _ _ => o) t) (fun _ ih t => Tr.rec none (fun l _ _ _ _ => ih l) t) (fun _ ih t => Tr.rec none (fun _ _ r _ _ => ih r) t) p
noncomputable def setL {α : Type} (p : Pa) : α → Tr α → Tr α :=
  Pa.rec (fun v t => Tr.rec (.node .nil (some v) .nil) (fun l _ r _ _ => .node l (some v) r) t)
    (fun _ ih v t => Tr.rec (.node (ih v .nil) none .nil) (fun l o r _ _ => .node (ih v l) o r) t)
    (fun _ ih v t => Tr.rec (.node .nil none (ih v .nil)) (fun l o r _ _ => .node l o (ih v r)) t) p
theorem getP_nil {α : Type} (p : Pa) : getP p (Tr.nil : Tr α) = none := by cases p <;> rfl
theorem getP_setL {α : Type} (v : α) : ∀ (p q : Pa) (t : Tr α), (q = p → getP q (setL p v t) = some v) ∧ (q ≠ p → getP q (setL p v t) = getP q t)
  | .z, q, t => by
    constructor
    · intro e; subst e; cases t <;> rfl
    · intro e
      cases t with
      | nil => cases q <;> first | exact absurd rfl e | exact getP_nil _
      | node l o r => cases q <;> first | exact absurd rfl e | rfl
  | .l p, q, t => by
    constructor
    · intro e; subst e
      cases t with
      | nil => exact (getP_setL v p p .nil).1 rfl
      | node l o r => exact (getP_setL v p p l).1 rfl
    · intro e
      cases t with
      | nil =>
        cases q with
        | z => rfl
        | l q => exact ((getP_setL v p q .nil).2 fun e' => e (by rw [e'])).trans (getP_nil q)
        | r q => exact getP_nil q
      | node l o r =>
        cases q with
        | z => rfl
        | l q => exact (getP_setL v p q l).2 fun e' => e (by rw [e'])
        | r q => rfl
  | .r p, q, t => by
    constructor
    · intro e; subst e
      cases t with
      | nil => exact (getP_setL v p p .nil).1 rfl
      | node l o r => exact (getP_setL v p p r).1 rfl
    · intro e
      cases t with
      | nil =>
        cases q with
        | z => rfl
        | l q => exact getP_nil q
        | r q => exact ((getP_setL v p q .nil).2 fun e' => e (by rw [e'])).trans (getP_nil q)
      | node l o r =>
        cases q with
        | z => rfl
        | l q => rfl
        | r q => exact (getP_setL v p q r).2 fun e' => e (by rw [e'])
noncomputable def Tr.get {α : Type} (t : Tr α) (n : Nat) : Option α := getP (pa n) t
noncomputable def Tr.set {α : Type} (t : Tr α) (n : Nat) (v : α) : Tr α := setL (pa n) v t
theorem Tr.get_nil {α : Type} (n : Nat) : (Tr.nil : Tr α).get n = none := getP_nil _
theorem Tr.get_set {α : Type} (t : Tr α) (n : Nat) (v : α) (j : Nat) : (t.set n v).get j = if j = n then some v else t.get j := by
  have h := getP_setL v (pa n) (pa j) t
  by_cases e : j = n
  · rw [if_pos e]; exact h.1 (by rw [e])
  · rw [if_neg e]; exact h.2 fun e' => e (by rw [← unpa_pa j, e', unpa_pa n])

/-- A cell packed: its kind in 8 bits, its number in 64. -/
noncomputable def unpackV (c : Nat) : Value :=
  Nat.rec (.int .u8 (.ofNat (Nat.div c 256))) (fun t _ => Nat.rec (.int .i64 (.ofNat (Nat.div c 256))) (fun t _ => Nat.rec (.int .u64 (.ofNat (Nat.div c 256))) (fun t _ => Nat.rec (.bool (Nat.ble 1 (Nat.div c 256))) (fun t _ =>
    Nat.rec (.int .u32 (.ofNat (Nat.div c 256))) (fun t _ => Nat.rec (.int .i32 (.ofNat (Nat.div c 256))) (fun t _ => Nat.rec (.int .i64 (.negSucc (Nat.div c 256))) (fun t _ => Nat.rec (.pointer none) (fun t _ => Nat.rec (.slice none 0 0) (fun t _ => Nat.rec (.map none) (fun t _ => Nat.rec .nilIface (fun t _ => Nat.rec .nilFunc (fun t _ => Nat.rec (.string ⟨#[]⟩) (fun _ _ => .bool false) t) t) t) t) t) t) t) t) t) t) t) t) (Nat.mod c 256)
def codeN (tag n : Nat) : Option Nat := match Nat.blt n 18446744073709551616 with
  | true => some (Nat.add (Nat.mul n 256) tag)
  | false => none
def kindTag : IntKind → Option Nat
  | .u8 => some 0
  | .i64 => some 1
  | .u64 => some 2
  | .u32 => some 4
  | .i32 => some 5
  | _ => none
def packV : Value → Option Nat
  | .int k n => match kindTag k with
    | some tag => match n with
      | .ofNat n => codeN tag n
      | .negSucc n => match tag with
        | 1 => codeN 6 n
        | _ => none
    | none => none
  | .bool b => match b with
    | true => some 259
    | false => some 3
  | .pointer none => some 7
  | .slice none 0 0 => some 8
  | .map none => some 9
  | .nilIface => some 10
  | .nilFunc => some 11
  | _ => none
theorem unpack_code (tag n : Nat) (ht : tag < 256) : Nat.mod (Nat.add (Nat.mul n 256) tag) 256 = tag ∧ Nat.div (Nat.add (Nat.mul n 256) tag) 256 = n := by
  have h1 : Nat.mod (Nat.add (Nat.mul n 256) tag) 256 = (n * 256 + tag) % 256 := rfl
  have h2 : Nat.div (Nat.add (Nat.mul n 256) tag) 256 = (n * 256 + tag) / 256 := rfl
  rw [h1, h2]
  omega
theorem codeN_some {tag n c : Nat} (h : codeN tag n = some c) : c = Nat.add (Nat.mul n 256) tag ∧ n < 18446744073709551616 := by
  unfold codeN at h
  split at h
  · rename_i hb
    exact ⟨(Option.some.inj h).symm, Nat.le_of_ble_eq_true hb⟩
  · cases h
theorem packV_ok {v : Value} {c : Nat} (h : packV v = some c) : c < 4722366482869645213696 ∧ unpackV c = v := by
  have key : ∀ tag n c, codeN tag n = some c → tag < 256 → c < 4722366482869645213696 ∧ Nat.mod c 256 = tag ∧ Nat.div c 256 = n := fun tag n c hc ht => by
    obtain ⟨rfl, hn⟩ := codeN_some hc
    refine ⟨?_, unpack_code tag n ht⟩
    show n * 256 + tag < _
    omega
  unfold packV at h
  split at h
  · rename_i k n
    split at h
    case h_2 => cases h
    rename_i tag htag
    split at h
    · rename_i n
      cases k <;> simp only [kindTag, Option.some.injEq, reduceCtorEq] at htag <;> subst htag <;> (obtain ⟨h1, h2, h3⟩ := key _ _ _ h (by decide); refine ⟨h1, ?_⟩; unfold unpackV; rw [h2, h3] <;> rfl)
    · rename_i n
      split at h
      · cases k <;> simp only [kindTag, Option.some.injEq, reduceCtorEq] at htag <;> first | (exact absurd htag (by decide)) | skip
        obtain ⟨h1, h2, h3⟩ := key _ _ _ h (by decide)
        refine ⟨h1, ?_⟩
        unfold unpackV
        rw [h2, h3] <;> rfl
      · cases h
  · split at h <;> (obtain rfl := Option.some.inj h; exact ⟨by decide, rfl⟩)
  · obtain rfl := Option.some.inj h; exact ⟨by decide, rfl⟩
  · obtain rfl := Option.some.inj h; exact ⟨by decide, rfl⟩
  · obtain rfl := Option.some.inj h; exact ⟨by decide, rfl⟩
  · obtain rfl := Option.some.inj h; exact ⟨by decide, rfl⟩
  · obtain rfl := Option.some.inj h; exact ⟨by decide, rfl⟩
  · cases h
/-- A zero packed: the empty text, too. -/
def packZ : Value → Option Nat
  | .string s => match s with
    | ⟨d⟩ => match d with
      | ⟨l⟩ => match l with
        | [] => some 12
        | _ :: _ => none
  | .int k n => packV (.int k n)
  | .bool b => packV (.bool b)
  | .pointer a => packV (.pointer a)
  | .slice a l c => packV (.slice a l c)
  | .map m => packV (.map m)
  | .nilIface => some 10
  | .nilFunc => some 11
  | _ => none
theorem packZ_ok {v : Value} {c : Nat} (h : packZ v = some c) : c < 4722366482869645213696 ∧ unpackV c = v := by
  unfold packZ at h
  split at h
  · rename_i s
    obtain ⟨⟨l⟩⟩ := s
    cases l with
    | nil => obtain rfl := Option.some.inj h; exact ⟨by decide, rfl⟩
    | cons a r => cases h
  · exact packV_ok h
  · exact packV_ok h
  · exact packV_ok h
  · exact packV_ok h
  · exact packV_ok h
  · obtain rfl := Option.some.inj h; exact ⟨by decide, rfl⟩
  · obtain rfl := Option.some.inj h; exact ⟨by decide, rfl⟩
  · cases h
theorem unpackV_one (c : Nat) : (unpackV c).oneCell' = true := by
  unfold unpackV
  generalize Nat.div c 256 = d
  generalize Nat.mod c 256 = t
  match t with
  | 0 => rfl
  | 1 => rfl
  | 2 => rfl
  | 3 => rfl
  | 4 => rfl
  | 5 => rfl
  | 6 => rfl
  | 7 => rfl
  | 8 => rfl
  | 9 => rfl
  | 10 => rfl
  | 11 => rfl
  | 12 => rfl
  | _ + 13 => rfl
/-- The lower bits, and cells packed behind each other, 72 bits each. -/
def loN (N k : Nat) : Nat := Nat.land N (Nat.sub (Nat.pow 2 k) 1)
def cellN (N i : Nat) : Nat := loN (Nat.shiftRight N (Nat.mul 72 i)) 72
def chunkN (N i k : Nat) : Nat := loN (Nat.shiftRight N (Nat.mul 72 i)) (Nat.mul 72 k)
def spliceN (N i k M : Nat) : Nat := Nat.lor (Nat.lor (loN N (Nat.mul 72 i)) (Nat.shiftLeft (loN M (Nat.mul 72 k)) (Nat.mul 72 i))) (Nat.shiftLeft (Nat.shiftRight N (Nat.mul 72 (Nat.add i k))) (Nat.mul 72 (Nat.add i k)))
theorem loN_bit (N k b : Nat) : (loN N k).testBit b = (decide (b < k) && N.testBit b) := by
  have : loN N k = N % 2 ^ k := Nat.and_two_pow_sub_one_eq_mod N k
  rw [this, Nat.testBit_mod_two_pow]
theorem shr_bit (N k b : Nat) : (Nat.shiftRight N k).testBit b = N.testBit (k + b) := Nat.testBit_shiftRight N
theorem shl_bit (N k b : Nat) : (Nat.shiftLeft N k).testBit b = (decide (k ≤ b) && N.testBit (b - k)) := by
  have := Nat.testBit_shiftLeft (i := k) (j := b) N
  rw [show Nat.shiftLeft N k = N <<< k from rfl, this]
theorem lor_bit (A B b : Nat) : (Nat.lor A B).testBit b = (A.testBit b || B.testBit b) := Nat.testBit_or A B b
theorem cellN_bit (N i b : Nat) : (cellN N i).testBit b = (decide (b < 72) && N.testBit (72 * i + b)) := by
  unfold cellN
  rw [loN_bit, shr_bit]
  rfl
theorem cellN_eq {N N' i i' : Nat} (h : ∀ b, b < 72 → N.testBit (72 * i + b) = N'.testBit (72 * i' + b)) : cellN N i = cellN N' i' := by
  apply Nat.eq_of_testBit_eq
  intro b
  rw [cellN_bit, cellN_bit]
  by_cases hb : b < 72
  · rw [h b hb]
  · rw [decide_eq_false hb]; rfl
theorem cellN_chunk (N i k j : Nat) (hj : j < k) : cellN (chunkN N i k) j = cellN N (i + j) := by
  apply cellN_eq
  intro b hb
  unfold chunkN
  rw [loN_bit, shr_bit, decide_eq_true (by show 72 * j + b < 72 * k; omega), Bool.true_and]
  congr 1
  show 72 * i + (72 * j + b) = _
  omega
theorem cellN_splice (N i k M j : Nat) : cellN (spliceN N i k M) j = if i ≤ j ∧ j < i + k then cellN M (j - i) else cellN N j := by
  have hb0 : ∀ b, (spliceN N i k M).testBit b = (((decide (b < 72 * i) && N.testBit b) || (decide (72 * i ≤ b) && (decide (b - 72 * i < 72 * k) && M.testBit (b - 72 * i)))) || (decide (72 * (i + k) ≤ b) && N.testBit (72 * (i + k) + (b - 72 * (i + k))))) := fun b => by
    unfold spliceN
    rw [lor_bit, lor_bit, loN_bit, shl_bit, loN_bit, shl_bit, shr_bit]
    rfl
  by_cases h : i ≤ j ∧ j < i + k
  · rw [if_pos h]
    apply cellN_eq
    intro b hb
    rw [hb0, decide_eq_false (by omega), decide_eq_true (by omega : 72 * i ≤ 72 * j + b), decide_eq_true (by omega : 72 * j + b - 72 * i < 72 * k), decide_eq_false (by omega : ¬ 72 * (i + k) ≤ 72 * j + b)]
    simp only [Bool.false_and, Bool.false_or, Bool.true_and, Bool.or_false]
    congr 1
    omega
  · rw [if_neg h]
    apply cellN_eq
    intro b hb
    rw [hb0]
    by_cases h1 : j < i
    · rw [decide_eq_true (by omega : 72 * j + b < 72 * i), decide_eq_false (by omega : ¬ 72 * i ≤ 72 * j + b), decide_eq_false (by omega : ¬ 72 * (i + k) ≤ 72 * j + b)]
      simp only [Bool.false_and, Bool.or_false, Bool.true_and]
    · rw [decide_eq_false (by omega : ¬ 72 * j + b < 72 * i), decide_eq_true (by omega : 72 * i ≤ 72 * j + b), decide_eq_false (by omega : ¬ 72 * j + b - 72 * i < 72 * k), decide_eq_true (by omega : 72 * (i + k) ≤ 72 * j + b)]
      simp only [Bool.false_and, Bool.false_or, Bool.true_and]
      congr 1
      omega
/-- So many cells, written out. -/
noncomputable def unpackL (n N : Nat) : List Value := (List.range n).map fun i => unpackV (cellN N i)
theorem unpackL_len (n N : Nat) : (unpackL n N).length = n := by simp [unpackL]
theorem unpackL_get (n N j : Nat) (h : j < n) : (unpackL n N)[j]? = some (unpackV (cellN N j)) := by
  unfold unpackL
  rw [List.getElem?_map, List.getElem?_range h]
  rfl
theorem unpackL_one (n N : Nat) : ∀ u ∈ unpackL n N, u.oneCell' = true := by
  intro u hu
  unfold unpackL at hu
  obtain ⟨i, _, rfl⟩ := List.mem_map.1 hu
  exact unpackV_one _
theorem cellN_div (N i : Nat) : cellN N i = N / 2 ^ (72 * i) % 4722366482869645213696 := by
  unfold cellN loN
  have h1 : Nat.shiftRight N (Nat.mul 72 i) = N / 2 ^ (72 * i) := Nat.shiftRight_eq_div_pow N (72 * i)
  rw [h1]
  exact Nat.and_two_pow_sub_one_eq_mod _ 72
theorem cellN_zero (i : Nat) : cellN 0 i = 0 := by rw [cellN_div]; simp
theorem cellN_head (c M : Nat) (hc : c < 4722366482869645213696) : cellN (Nat.add c (Nat.mul M 4722366482869645213696)) 0 = c := by
  rw [cellN_div]
  show (c + M * 4722366482869645213696) / 2 ^ (72 * 0) % _ = c
  rw [Nat.mul_zero, Nat.pow_zero, Nat.div_one]
  omega
theorem cellN_tail (c M i : Nat) (hc : c < 4722366482869645213696) : cellN (Nat.add c (Nat.mul M 4722366482869645213696)) (i + 1) = cellN M i := by
  rw [cellN_div, cellN_div]
  show (c + M * 4722366482869645213696) / 2 ^ (72 * (i + 1)) % _ = _
  have e : (2 : Nat) ^ (72 * (i + 1)) = 4722366482869645213696 * 2 ^ (72 * i) := by
    rw [show 72 * (i + 1) = 72 + 72 * i by omega, Nat.pow_add]
  have e2 : (c + M * 4722366482869645213696) / 4722366482869645213696 = M := by omega
  rw [e, ← Nat.div_div_eq_div_mul, e2]
theorem unpackL_cons (n c M : Nat) (hc : c < 4722366482869645213696) : unpackL (n + 1) (Nat.add c (Nat.mul M 4722366482869645213696)) = unpackV c :: unpackL n M := by
  unfold unpackL
  rw [List.range_succ_eq_map, List.map_cons, List.map_map, cellN_head c M hc]
  refine congrArg (List.cons _) (List.map_congr_left fun i _ => ?_)
  rw [Function.comp_apply]
  exact congrArg unpackV (cellN_tail c M i hc)
theorem unpackL_zero (n : Nat) : unpackL n 0 = List.replicate n (unpackV 0) := by
  unfold unpackL
  apply List.ext_getElem?
  intro i
  rw [List.getElem?_map, List.getElem?_replicate]
  by_cases h : i < n
  · rw [List.getElem?_range h, if_pos h, Option.map_some, cellN_zero]
  · rw [if_neg h, List.getElem?_eq_none (by simpa using h), Option.map_none]
/-- Values packed. -/
def packVs : List Value → Option Nat
  | [] => some 0
  | x :: r => match packZ x with
    | some c => match packVs r with
      | some M => some (Nat.add c (Nat.mul M 4722366482869645213696))
      | none => none
    | none => none
theorem packVs_ok : ∀ {l : List Value} {M : Nat}, packVs l = some M → unpackL l.length M = l
  | [], M, h => rfl
  | x :: r, M, h => by
    simp only [packVs] at h
    split at h
    case h_2 => cases h
    rename_i c hc
    split at h
    case h_2 => cases h
    rename_i M' hM
    obtain rfl := Option.some.inj h
    obtain ⟨h1, h2⟩ := packZ_ok hc
    rw [List.length_cons, unpackL_cons _ _ _ h1, h2, packVs_ok hM]

/-- A value in which blocks go by names. -/
inductive AV where
  | v (x : Value)
  | ptr (id off : Nat)
  | slc (id off len cap : Nat) (ex : Bool)
  | mp (id : Nat)
  | yld (id : Nat)
  | fn (f : Fn) (first captured : List AV)
  | ifc (t : TypeId) (x : AV)
  | agg (cs : List AV)
  | flat (n N : Nat)
  | tup (vs : List AV)
/-- A cell unpacked, its number laid out. -/
noncomputable def natA (s : Nat) (k : Nat → AV) : AV := Nat.rec (k 0) (fun m _ => k (Nat.succ m)) s
theorem natA_eq (s : Nat) (k : Nat → AV) : natA s k = k s := by cases s <;> rfl
noncomputable def unpackA (c : Nat) : AV := natA (Nat.div c 256) fun d =>
  Nat.rec (.v (.int .u8 (.ofNat d))) (fun t _ => Nat.rec (.v (.int .i64 (.ofNat d))) (fun t _ => Nat.rec (.v (.int .u64 (.ofNat d))) (fun t _ => Nat.rec (.v (.bool (Nat.ble 1 d))) (fun t _ =>
    Nat.rec (.v (.int .u32 (.ofNat d))) (fun _ _ => .v (unpackV c)) t) t) t) t) (Nat.mod c 256)
theorem unpackA_eq (c : Nat) : unpackA c = .v (unpackV c) := by
  unfold unpackA
  rw [natA_eq]
  unfold unpackV
  generalize Nat.mod c 256 = t
  match t with
  | 0 => rfl
  | 1 => rfl
  | 2 => rfl
  | 3 => rfl
  | 4 => rfl
  | _ + 5 => rfl
/-- Where a block lies, from which cell on it is ours, and how many elements there is more room for than is known. -/
structure Loc where
  blk : Nat
  off : Nat
  extra : Nat
abbrev Env := Nat → Option Loc
mutual
noncomputable def AV.real (ρ : Env) : AV → Option Value
  | .v x => some x
  | .ptr id off => (ρ id).map fun l => .pointer (some ⟨l.blk, l.off + off, none⟩)
  | .slc id off len cap ex => (ρ id).map fun l => .slice (some ⟨l.blk, l.off + off, none⟩) len (if ex then cap else cap + l.extra)
  | .mp id => (ρ id).map fun l => .map (some l.blk)
  | .yld id => (ρ id).map fun l => .func (.yield l.blk) #[] #[]
  | .fn f a b => (AV.reals ρ a).bind fun x => (AV.reals ρ b).map fun y => .func f x.toArray y.toArray
  | .ifc t x => (AV.real ρ x).map fun y => .iface t y
  | .agg cs => (AV.reals ρ cs).map fun x => .agg x.toArray
  | .flat n N => some (.agg (unpackL n N).toArray)
  | .tup vs => (AV.reals ρ vs).map fun x => .tuple x.toArray
noncomputable def AV.reals (ρ : Env) : List AV → Option (List Value)
  | [] => some []
  | a :: r => (AV.real ρ a).bind fun x => (AV.reals ρ r).map fun y => x :: y
end
/-- Later names are added, none is turned. -/
def Env.le (ρ ρ' : Env) : Prop := ∀ id l, ρ id = some l → ρ' id = some l
theorem Env.le_refl (ρ : Env) : Env.le ρ ρ := fun _ _ h => h
theorem Env.le_trans {a b c : Env} (h : Env.le a b) (k : Env.le b c) : Env.le a c := fun id l e => k id l (h id l e)
mutual
theorem AV.real_mono {ρ ρ' : Env} (h : Env.le ρ ρ') : ∀ (a : AV) (x : Value), a.real ρ = some x → a.real ρ' = some x
  | .v x, y, e => e
  | .ptr id off, y, e => by
    simp only [AV.real, Option.map_eq_some_iff] at e ⊢
    obtain ⟨l, hl, rfl⟩ := e
    exact ⟨l, h _ _ hl, rfl⟩
  | .slc id off len cap ex, y, e => by
    simp only [AV.real, Option.map_eq_some_iff] at e ⊢
    obtain ⟨l, hl, rfl⟩ := e
    exact ⟨l, h _ _ hl, rfl⟩
  | .mp id, y, e => by
    simp only [AV.real, Option.map_eq_some_iff] at e ⊢
    obtain ⟨l, hl, rfl⟩ := e
    exact ⟨l, h _ _ hl, rfl⟩
  | .yld id, y, e => by
    simp only [AV.real, Option.map_eq_some_iff] at e ⊢
    obtain ⟨l, hl, rfl⟩ := e
    exact ⟨l, h _ _ hl, rfl⟩
  | .fn f a b, y, e => by
    simp only [AV.real, Option.bind_eq_some_iff, Option.map_eq_some_iff] at e ⊢
    obtain ⟨x1, h1, x2, h2, rfl⟩ := e
    exact ⟨x1, AV.reals_mono h a x1 h1, x2, AV.reals_mono h b x2 h2, rfl⟩
  | .ifc t x, y, e => by
    simp only [AV.real, Option.map_eq_some_iff] at e ⊢
    obtain ⟨l, hl, rfl⟩ := e
    exact ⟨l, AV.real_mono h x l hl, rfl⟩
  | .agg cs, y, e => by
    simp only [AV.real, Option.map_eq_some_iff] at e ⊢
    obtain ⟨l, hl, rfl⟩ := e
    exact ⟨l, AV.reals_mono h cs l hl, rfl⟩
  | .flat n N, y, e => e
  | .tup cs, y, e => by
    simp only [AV.real, Option.map_eq_some_iff] at e ⊢
    obtain ⟨l, hl, rfl⟩ := e
    exact ⟨l, AV.reals_mono h cs l hl, rfl⟩
theorem AV.reals_mono {ρ ρ' : Env} (h : Env.le ρ ρ') : ∀ (a : List AV) (x : List Value), AV.reals ρ a = some x → AV.reals ρ' a = some x
  | [], y, e => e
  | a :: r, y, e => by
    simp only [AV.reals, Option.bind_eq_some_iff, Option.map_eq_some_iff] at e ⊢
    obtain ⟨x1, h1, x2, h2, rfl⟩ := e
    exact ⟨x1, AV.real_mono h a x1 h1, x2, AV.reals_mono h r x2 h2, rfl⟩
end
end Go.Proofs.Ytcakdjnnfonijaa
namespace Go.Proofs.Ytcakdjnnfonijaa
open Go.RowKit

/-- A row of cells: packed ones, and over them what was put in. -/
structure Cl where
  t : Tr AV
  N : Nat
noncomputable def Cl.at (c : Cl) (i : Nat) : AV :=
  Cl.rec (fun t N => Tr.rec (unpackA (cellN N i)) (fun l o r _ _ => Option.rec (unpackA (cellN N i)) (fun a => a) (getP (pa i) (.node l o r))) t) c
theorem Cl.at_eq (c : Cl) (i : Nat) : c.at i = (c.t.get i).getD (.v (unpackV (cellN c.N i))) := by
  obtain ⟨t, N⟩ := c
  rw [← unpackA_eq]
  cases t with
  | nil => show _ = ((Tr.nil : Tr AV).get i).getD _; rw [Tr.get_nil]; rfl
  | node l o r =>
    show (Option.rec _ _ (getP (pa i) (.node l o r)) : AV) = (getP (pa i) (.node l o r)).getD _
    cases getP (pa i) (.node l o r) <;> rfl
theorem Cl.at_nil (N i : Nat) : (⟨.nil, N⟩ : Cl).at i = .v (unpackV (cellN N i)) := unpackA_eq _
/-- A block: cells (opn: so many cells an element of a row whose room is not known), or a map. -/
inductive Blk where
  | cells (c : Cl) (n : Nat) (elem : TypeId) (opn : Option Nat)
  | map (es : List (AV × AV × Nat)) (clock : Nat)
  | loop (t : Tr AV) (n : Nat) (ps : Array Tmp) (assign body : Code) (st : LoopState) (pend : Option Code) (dfr : Nat)
  | dfr
  | sit (s : ByteArray) (pos : Nat)
  | mit (m : Option Nat) (since : Nat) (seen : List Nat) (stepped : Nat)
  | gone
structure Hp where
  tr : Tr Blk
  nx : Nat
noncomputable def Hp.get (h : Hp) (id : Nat) : Blk := (h.tr.get id).getD .gone
noncomputable def Hp.put (h : Hp) (id : Nat) (b : Blk) : Hp := ⟨h.tr.set id b, h.nx⟩
noncomputable def Hp.new (h : Hp) (b : Blk) : Hp := ⟨h.tr.set h.nx b, h.nx + 1⟩
theorem Hp.get_put (h : Hp) (id : Nat) (b : Blk) (j : Nat) : (h.put id b).get j = if j = id then b else h.get j := by
  unfold Hp.get Hp.put
  simp only [Tr.get_set]
  split <;> rfl
theorem Hp.get_new (h : Hp) (b : Blk) (j : Nat) : (h.new b).get j = if j = h.nx then b else h.get j := by
  unfold Hp.get Hp.new
  simp only [Tr.get_set]
  split <;> rfl
noncomputable def cellAt (c : Cl) (n : Nat) (i : Nat) : Option AV := match Nat.blt i n with
  | true => some (c.at i)
  | false => none
theorem blt_eq (i n : Nat) : Nat.blt i n = decide (i < n) := by
  cases h : decide (i < n) with
  | true => exact Nat.ble_eq_true_of_le (of_decide_eq_true h)
  | false =>
    have := of_decide_eq_false h
    cases hb : Nat.blt i n with
    | true => exact absurd (Nat.le_of_ble_eq_true hb) this
    | false => rfl
theorem cellAt_some {c : Cl} {n : Nat} {i : Nat} {a : AV} (h : cellAt c n i = some a) : i < n ∧ a = c.at i := by
  unfold cellAt at h
  rw [blt_eq] at h
  cases hd : decide (i < n) with
  | true => rw [hd] at h; exact ⟨of_decide_eq_true hd, (Option.some.inj h).symm⟩
  | false => rw [hd] at h; cases h
theorem cellAt_lt {c : Cl} {n : Nat} {i : Nat} (h : i < n) : cellAt c n i = some (c.at i) := by
  unfold cellAt
  rw [blt_eq, decide_eq_true h]
inductive All2 {α β : Type} (R : α → β → Prop) : List α → List β → Prop where
  | nil : All2 R [] []
  | cons {a : α} {b : β} {x : List α} {y : List β} (h : R a b) (k : All2 R x y) : All2 R (a :: x) (b :: y)
def entR (ρ : Env) (e : AV × AV × Nat) (m : MapEntry) : Prop := e.1.real ρ = some m.key ∧ e.2.1.real ρ = some m.val ∧ e.2.2 = m.born
/-- None of a row's cells is frozen (the mark that a string's bytes leave lies behind them). -/
def FzOk (opn : Option Nat) (size : Nat) (fz : Nat × Nat) : Prop := fz = (0, 0) ∨ (opn ≠ none ∧ size ≤ fz.1)
theorem FzOk.free {opn : Option Nat} {size : Nat} {fz : Nat × Nat} (h : FzOk opn size fz) (j : Nat) (hj : j < size) : ¬ (fz.1 ≤ j ∧ j < fz.2) := by
  rcases h with rfl | ⟨_, h⟩
  · simp
  · omega
/-- How a block lies in a world. -/
def BlkR (ρ : Env) (l : Loc) : Blk → Option Obj → Prop
  | .cells c n elem opn, o => ∃ (C : Array Value) (fz : Nat × Nat), o = some (.cells C elem fz) ∧ FzOk opn C.size fz ∧ l.off + n ≤ C.size ∧ (opn = none → l.off = 0 ∧ C.size = n) ∧ (∀ sz, opn = some sz → l.off + n + l.extra * sz ≤ C.size) ∧
      ∀ i a, cellAt c n i = some a → ∃ x, a.real ρ = some x ∧ C[l.off + i]? = some x
  | .map es clock, o => ∃ es' : Array MapEntry, o = some (.map es' clock) ∧ All2 (entR ρ) es es'.toList
  | .loop t n ps cz bd st pe d, o => ∃ (fn : FuncId) (tmps : Array Value) (ld : Loc), o = some (.loop { state := st, pending := pe, fn, tmps, params := ps, assign := cz, body := bd, defers := ld.blk }) ∧ ρ d = some ld ∧ tmps.size = n ∧ ∀ i, ((t.get i).getD (.tup [])).real ρ = some (tmps.getD i undef)
  | .dfr, o => o = some (.deferred (some []))
  | .sit s pos, o => l.off = 0 ∧ o = some (.stringIter s pos)
  | .mit m since seen stp, o => l.off = 0 ∧ ∃ m' : Option Nat, o = some (.mapIter m' since seen.toArray stp) ∧ (m = none → m' = none) ∧ ∀ id, m = some id → ∃ l, ρ id = some l ∧ m' = some l.blk
  | .gone, _ => True
theorem BlkR.mono {ρ ρ' : Env} {l : Loc} {b : Blk} {o : Option Obj} (h : BlkR ρ l b o) (hle : Env.le ρ ρ') : BlkR ρ' l b o := by
  cases b with
  | cells c n elem opn =>
    obtain ⟨C, fz, h1, hf, h2, h3, h4, h5⟩ := h
    exact ⟨C, fz, h1, hf, h2, h3, h4, fun i a hi => let ⟨x, hx, hc⟩ := h5 i a hi; ⟨x, AV.real_mono hle a x hx, hc⟩⟩
  | map es clock =>
    obtain ⟨es', h1, h2⟩ := h
    refine ⟨es', h1, ?_⟩
    revert h2
    generalize es'.toList = ms
    clear h1
    intro h2
    induction h2 with
    | nil => exact .nil
    | cons h _ ih => exact .cons ⟨AV.real_mono hle _ _ h.1, AV.real_mono hle _ _ h.2.1, h.2.2⟩ ih
  | loop t n ps cz bd st pe d =>
    obtain ⟨fn, tmps, ld, h1, h2, h3, h4⟩ := h
    exact ⟨fn, tmps, ld, h1, hle _ _ h2, h3, fun i => AV.real_mono hle _ _ (h4 i)⟩
  | dfr => exact h
  | sit s pos => exact h
  | mit m since seen stp =>
    obtain ⟨h0, m', h1, h2, h3⟩ := h
    exact ⟨h0, m', h1, h2, fun id hid => let ⟨l, hl, e⟩ := h3 id hid; ⟨l, hle _ _ hl, e⟩⟩
  | gone => trivial
/-- What is kept: all below a number, and some blocks besides. -/
structure Kp where
  n : Nat
  B : Nat → Prop
def Kp.ok (k : Kp) (b : Nat) : Prop := k.n ≤ b ∧ ¬ k.B b
structure Emb (ρ : Env) (base : Kp) (w0 : World) (h : Hp) (w : World) : Prop where
  below : Below base.n w0 w
  bw : base.n ≤ w.heap.size
  kept : ∀ b, base.B b → b < w.heap.size ∧ w.heap[b]? = w0.heap[b]?
  fresh : ∀ id l, ρ id = some l → id < h.nx ∧ l.blk < w.heap.size
  live : ∀ id, h.get id ≠ .gone → ∃ l, ρ id = some l ∧ base.ok l.blk ∧ BlkR ρ l (h.get id) w.heap[l.blk]?
  apart : ∀ id id' l l', h.get id ≠ .gone → h.get id' ≠ .gone → ρ id = some l → ρ id' = some l' → l.blk = l'.blk → id = id'
/-- The block of a name. -/
theorem Emb.cells {ρ : Env} {base : Kp} {w0 : World} {h : Hp} {w : World} (E : Emb ρ base w0 h w) {id : Nat} {c : Cl} {n : Nat} {elem : TypeId} {opn : Option Nat} (hg : h.get id = .cells c n elem opn) :
    ∃ l C fz, ρ id = some l ∧ base.ok l.blk ∧ w.heap[l.blk]? = some (.cells C elem fz) ∧ FzOk opn C.size fz ∧ l.off + n ≤ C.size ∧ (opn = none → l.off = 0 ∧ C.size = n) ∧ (∀ sz, opn = some sz → l.off + n + l.extra * sz ≤ C.size) ∧
      ∀ i a, cellAt c n i = some a → ∃ x, a.real ρ = some x ∧ C[l.off + i]? = some x := by
  obtain ⟨l, hl, hb, hr⟩ := E.live id (by rw [hg]; exact fun e => by cases e)
  rw [hg] at hr
  obtain ⟨C, fz, h1, hf, h2, h3, h4, h5⟩ := hr
  exact ⟨l, C, fz, hl, hb, h1, hf, h2, h3, h4, h5⟩
theorem frozen_free {w : World} {b k : Nat} {C : Array Value} {elem : TypeId} {fz : Nat × Nat} {opn : Option Nat} (h : w.heap[b]? = some (.cells C elem fz)) (hf : FzOk opn C.size fz) (hk : k < C.size) : w.frozen? ⟨b, k, none⟩ = false := by
  have := hf.free k hk
  obtain ⟨lo, hi⟩ := fz
  simp only [World.frozen?, h, Bool.and_eq_false_iff, decide_eq_false_iff_not]
  simp only at this
  omega
/-- A cell is read. -/
theorem Emb.load {ρ : Env} {base : Kp} {w0 : World} {h : Hp} {w : World} (E : Emb ρ base w0 h w) {id : Nat} {c : Cl} {n : Nat} {elem : TypeId} {opn : Option Nat} (hg : h.get id = .cells c n elem opn) {l : Loc} (hl : ρ id = some l)
    {i : Nat} {a : AV} (hi : cellAt c n i = some a) : ∃ x, a.real ρ = some x ∧ w.cell? ⟨l.blk, l.off + i, none⟩ = some x ∧ w.frozen? ⟨l.blk, l.off + i, none⟩ = false := by
  obtain ⟨l', C, fz, hl', _, h1, hf, h2, _, _, h5⟩ := E.cells hg
  obtain rfl := Option.some.inj (hl.symm.trans hl')
  obtain ⟨x, hx, hc⟩ := h5 i a hi
  have hlt := (cellAt_some hi).1
  exact ⟨x, hx, by rw [cell_of_row w _ _ C elem fz h1]; exact hc, frozen_free h1 hf (by omega)⟩
theorem Emb.drew {ρ : Env} {base : Kp} {w0 : World} {h : Hp} {w : World} (E : Emb ρ base w0 h w) (w' : World) (hh : w'.heap = w.heap) (ho : w'.os = w.os) (ht : w'.tape = w.tape) (hp : w'.output = w.output) : Emb ρ base w0 h w' :=
  ⟨⟨ho.trans E.below.os, ht.trans E.below.tape, hp.trans E.below.output, by rw [hh]; exact E.below.size, fun k hk => by rw [hh]; exact E.below.block k hk⟩, by rw [hh]; exact E.bw, by rw [hh]; exact E.kept, by rw [hh]; exact E.fresh, by rw [hh]; exact E.live, E.apart⟩
/-- A row is changed. -/
theorem Emb.setRow {ρ : Env} {base : Kp} {w0 : World} {h : Hp} {w : World} (E : Emb ρ base w0 h w) {id : Nat} {c : Cl} {n : Nat} {elem : TypeId} {opn : Option Nat} (hg : h.get id = .cells c n elem opn) {l : Loc} (hl : ρ id = some l)
    {C C' : Array Value} {fz : Nat × Nat} (hC : w.heap[l.blk]? = some (.cells C elem fz)) (hs : C'.size = C.size) {c' : Cl} (hc : ∀ i a, cellAt c' n i = some a → ∃ x, a.real ρ = some x ∧ C'[l.off + i]? = some x) :
    Emb ρ base w0 (h.put id (.cells c' n elem opn)) (w.setRow l.blk C') := by
  obtain ⟨l', C0, fz0, hl', hb, h1, hf, h2, h3, h4, _⟩ := E.cells hg
  obtain rfl := Option.some.inj (hl.symm.trans hl')
  rw [hC] at h1
  obtain ⟨rfl, rfl⟩ : C = C0 ∧ fz = fz0 := by cases h1; exact ⟨rfl, rfl⟩
  have hlive : h.get id ≠ .gone := by rw [hg]; exact fun e => by cases e
  have hsz : (w.setRow l.blk C').heap.size = w.heap.size := by simp [World.setRow]
  have hgone : ∀ j, (h.put id (.cells c' n elem opn)).get j ≠ .gone → h.get j ≠ .gone := fun j hj => by
    rw [Hp.get_put] at hj
    by_cases e : j = id
    · subst e; exact hlive
    · rw [if_neg e] at hj; exact hj
  refine ⟨E.below.grown (grown_setRow w l.blk C') E.bw (fun k hk => by obtain rfl := Option.some.inj hk; exact hb.1), by rw [hsz]; exact E.bw, fun b hB => ⟨by rw [hsz]; exact (E.kept b hB).1, by rw [setRow_other w l.blk b C' (fun e => hb.2 (e ▸ hB))]; exact (E.kept b hB).2⟩, fun j l0 hj => by rw [hsz]; exact E.fresh j l0 hj, fun j hj => ?_, fun j j' l0 l0' hj hj' h0 h0' e => E.apart j j' l0 l0' (hgone j hj) (hgone j' hj') h0 h0' e⟩
  rw [Hp.get_put]
  by_cases e : j = id
  · subst e
    rw [if_pos rfl]
    exact ⟨l, hl, hb, C', fz, setRow_heap w l.blk C C' elem _ hC, by rw [hs]; exact hf, by rw [hs]; exact h2, fun ho => ⟨(h3 ho).1, by rw [hs]; exact (h3 ho).2⟩, fun sz ho => by rw [hs]; exact h4 sz ho, hc⟩
  · rw [if_neg e]
    obtain ⟨l0, hl0, hb0, hr0⟩ := E.live j (hgone j hj)
    have hne : l0.blk ≠ l.blk := fun e' => e (E.apart j id l0 l (hgone j hj) hlive hl0 hl e')
    refine ⟨l0, hl0, hb0, ?_⟩
    rw [setRow_other w l.blk l0.blk C' hne]
    exact hr0
/-- A block is laid anew. -/
theorem Emb.setObj {ρ : Env} {base : Kp} {w0 : World} {h : Hp} {w : World} (E : Emb ρ base w0 h w) {id : Nat} (hlive : h.get id ≠ .gone) {l : Loc} (hl : ρ id = some l) (o : Obj) (b : Blk) (hr : BlkR ρ l b (some o)) :
    Emb ρ base w0 (h.put id b) (w.putObj l.blk o) := by
  obtain ⟨l', hl', hb, _⟩ := E.live id hlive
  obtain rfl := Option.some.inj (hl.symm.trans hl')
  have hsz : (w.putObj l.blk o).heap.size = w.heap.size := World.putObj_size
  have hlt := (E.fresh id l hl).2
  have hgone : ∀ j, (h.put id b).get j ≠ .gone → h.get j ≠ .gone := fun j hj => by
    rw [Hp.get_put] at hj
    by_cases e : j = id
    · subst e; exact hlive
    · rw [if_neg e] at hj; exact hj
  refine ⟨E.below.grown (grownBy_putObj' w l.blk o) E.bw (fun k hk => by obtain rfl := Option.some.inj hk; exact hb.1), by rw [hsz]; exact E.bw, fun b hB => ⟨by rw [hsz]; exact (E.kept b hB).1, by rw [World.putObj_heap_other (show b ≠ l.blk from fun e => hb.2 (e ▸ hB))]; exact (E.kept b hB).2⟩, fun j l0 hj => by rw [hsz]; exact E.fresh j l0 hj, fun j hj => ?_, fun j j' l0 l0' hj hj' h0 h0' e => E.apart j j' l0 l0' (hgone j hj) (hgone j' hj') h0 h0' e⟩
  by_cases e : j = id
  · subst e
    rw [Hp.get_put, if_pos rfl] at hj ⊢
    exact ⟨l, hl, hb, by rw [World.putObj_heap_same hlt]; exact hr⟩
  · obtain ⟨l0, hl0, hb0, hr0⟩ := E.live j (hgone j hj)
    have hne : l0.blk ≠ l.blk := fun e' => e (E.apart j id l0 l (hgone j hj) hlive hl0 hl e')
    rw [Hp.get_put, if_neg e]
    exact ⟨l0, hl0, hb0, by rw [World.putObj_heap_other hne]; exact hr0⟩
/-- A name more. -/
def Env.add (ρ : Env) (id : Nat) (l : Loc) : Env := fun j => if j = id then some l else ρ j
theorem Env.le_add {ρ : Env} {id : Nat} {l : Loc} (h : ρ id = none) : Env.le ρ (ρ.add id l) := fun j l0 hj => by
  unfold Env.add
  by_cases e : j = id
  · subst e; rw [h] at hj; cases hj
  · rw [if_neg e]; exact hj
theorem Emb.fresh0 {ρ : Env} {base : Kp} {w0 : World} {h : Hp} {w : World} (E : Emb ρ base w0 h w) : ρ h.nx = .none := by
  cases hr : ρ h.nx with
  | none => rfl
  | some l => have := (E.fresh _ _ hr).1; omega
/-- A block is made. -/
theorem Emb.alloc {ρ : Env} {base : Kp} {w0 : World} {h : Hp} {w : World} (E : Emb ρ base w0 h w) (o : Obj) (b : Blk) (ex : Nat) (hr : BlkR (ρ.add h.nx ⟨w.heap.size, 0, ex⟩) ⟨w.heap.size, 0, ex⟩ b (some o)) :
    Emb (ρ.add h.nx ⟨w.heap.size, 0, ex⟩) base w0 (h.new b) (w.alloc o) := by
  have hn := E.fresh0
  have hgo : ∀ j, j ≠ h.nx → (h.new b).get j = h.get j := fun j e => by rw [Hp.get_new, if_neg e]
  have hgn : ∀ j, h.get j ≠ .gone → j ≠ h.nx := fun j hj e => by
    obtain ⟨l, hl, _⟩ := E.live j hj
    rw [e, hn] at hl
    cases hl
  refine ⟨E.below.alloc E.bw o, by simp; have := E.bw; omega, fun b hB => ⟨by simp; have := (E.kept b hB).1; omega, by rw [Below.heap_alloc w o b (E.kept b hB).1]; exact (E.kept b hB).2⟩, fun j l hj => ?_, fun j hj => ?_, fun j j' l l' hj hj' h0 h0' e => ?_⟩
  · unfold Env.add at hj
    by_cases e : j = h.nx
    · rw [if_pos e] at hj
      obtain rfl := Option.some.inj hj
      subst e
      exact ⟨Nat.lt_succ_self _, by simp⟩
    · rw [if_neg e] at hj
      have := E.fresh j l hj
      exact ⟨Nat.lt_succ_of_lt this.1, by simp; omega⟩
  · by_cases e : j = h.nx
    · subst e
      rw [Hp.get_new, if_pos rfl]
      exact ⟨_, by unfold Env.add; rw [if_pos rfl], ⟨E.bw, fun hB => Nat.lt_irrefl _ (E.kept _ hB).1⟩, by rw [show (w.alloc o).heap[w.heap.size]? = some o from heap_alloc_new w o]; exact hr⟩
    · rw [hgo j e] at hj ⊢
      obtain ⟨l, hl, hb, hr0⟩ := E.live j hj
      refine ⟨l, (by unfold Env.add; rw [if_neg e]; exact hl), hb, ?_⟩
      rw [Below.heap_alloc w o l.blk (E.fresh j l hl).2]
      exact hr0.mono (Env.le_add hn)
  · unfold Env.add at h0 h0'
    by_cases e1 : j = h.nx
    · by_cases e2 : j' = h.nx
      · rw [e1, e2]
      · rw [if_pos e1] at h0
        rw [if_neg e2] at h0'
        obtain rfl := Option.some.inj h0
        have := (E.fresh j' l' h0').2
        dsimp only at e
        omega
    · by_cases e2 : j' = h.nx
      · rw [if_neg e1] at h0
        rw [if_pos e2] at h0'
        obtain rfl := Option.some.inj h0'
        have := (E.fresh j l h0).2
        dsimp only at e
        omega
      · rw [if_neg e1] at h0
        rw [if_neg e2] at h0'
        rw [hgo j e1] at hj
        rw [hgo j' e2] at hj'
        exact E.apart j j' l l' hj hj' h0 h0' e
end Go.Proofs.Ytcakdjnnfonijaa
namespace Go.Proofs.Ytcakdjnnfonijaa
open Go.RowKit

/-- What a piece of work comes to that asks nothing of the world. -/
def runS {α : Type} (P : Program) : Sem α → Option α
  | .pure a => some a
  | .program k => runS P (k P)
  | .mark _ k => runS P k
  | _ => none
theorem runS_run {α : Type} {P : Program} : ∀ (s : Sem α) (a : α) (w : World), runS P s = some a → s.run P w = .ok a w
  | .pure a, b, w, h => by cases h; rfl
  | .program k, b, w, h => runS_run (k P) b w h
  | .mark _ k, b, w, h => runS_run k b w h
  | .load .., b, w, h => by cases h
  | .store .., b, w, h => by cases h
  | .new .., b, w, h => by cases h
  | .shape .., b, w, h => by cases h
  | .freeze .., b, w, h => by cases h
  | .frozen .., b, w, h => by cases h
  | .getObj .., b, w, h => by cases h
  | .setObj .., b, w, h => by cases h
  | .choose .., b, w, h => by cases h
  | .sys .., b, w, h => by cases h
  | .halt .., b, w, h => by cases h
/-- What a frame does when it is left: the mark of a range over a function, a deferred call. -/
inductive Df where
  | mark (d : Nat)
  | call (g : FuncId) (args : List AV)
/-- A frame: what its slots hold; how many there are; what is to be done when it is left. -/
structure Fr where
  tr : Tr AV
  n : Nat
  ds : List Df
noncomputable def Fr.get (f : Fr) (i : Nat) : AV := (f.tr.get i).getD (.tup [])
def FrR (ρ : Env) (f : Fr) (a : Act) : Prop := a.tmps.size = f.n ∧ ∀ i, (f.get i).real ρ = some (a.tmps.getD i undef)
theorem FrR.mono {ρ ρ' : Env} {f : Fr} {a : Act} (h : FrR ρ f a) (hle : Env.le ρ ρ') : FrR ρ' f a := ⟨h.1, fun i => AV.real_mono hle _ _ (h.2 i)⟩
noncomputable def Fr.put (f : Fr) (d : Option Tmp) (v : AV) : Option Fr := match d with
  | none => some f
  | some d => match Nat.blt d f.n with
    | true => some ⟨f.tr.set d v, f.n, f.ds⟩
    | false => none
theorem FrR.put {ρ : Env} {f f' : Fr} {a : Act} {d : Option Tmp} {v : AV} {x : Value} (h : FrR ρ f a) (hv : v.real ρ = some x) (hp : f.put d v = some f') : FrR ρ f' (a.put d x) := by
  unfold Fr.put at hp
  cases d with
  | none => obtain rfl := Option.some.inj hp; exact h
  | some d =>
    simp only [blt_eq] at hp
    cases hd : decide (d < f.n) with
    | false => rw [hd] at hp; cases hp
    | true =>
      rw [hd] at hp
      obtain rfl := Option.some.inj hp
      have hlt := of_decide_eq_true hd
      refine ⟨by simp [Act.put, h.1], fun i => ?_⟩
      have hi := h.2 i
      unfold Fr.get at hi ⊢
      simp only [Tr.get_set, Act.put]
      by_cases e : i = d
      · subst e
        rw [if_pos rfl]
        simp [h.1, hlt, hv]
      · rw [if_neg e, hi]
        simp [Array.getElem?_setIfInBounds_ne (Ne.symm e)]
noncomputable def evA (f : Fr) : Operand → AV
  | .tmp t => f.get t
  | .const v => .v v
  | .global g => .v (.pointer (some ⟨g, 0, none⟩))
  | .func g => .fn (.func g) [] []
theorem evA_real {ρ : Env} {f : Fr} {a : Act} (h : FrR ρ f a) (x : Operand) : (evA f x).real ρ = some (a.eval x) := by
  cases x with
  | tmp t => exact h.2 t
  | const v => rfl
  | global g => rfl
  | func g => rfl
noncomputable def evAs (f : Fr) : List Operand → List AV
  | [] => []
  | x :: r => evA f x :: evAs f r
theorem evAs_real {ρ : Env} {f : Fr} {a : Act} (h : FrR ρ f a) : ∀ xs, AV.reals ρ (evAs f xs) = some (xs.map a.eval)
  | [] => rfl
  | x :: r => by simp only [evAs, AV.reals, evA_real h x, evAs_real h r, Option.bind_some, Option.map_some, List.map_cons]
theorem Fr.put_ds {f f' : Fr} {d : Option Tmp} {v : AV} (h : f.put d v = some f') : f'.ds = f.ds := by
  unfold Fr.put at h
  cases d with
  | none => obtain rfl := Option.some.inj h; rfl
  | some d =>
    dsimp only at h
    split at h
    · obtain rfl := Option.some.inj h; rfl
    · cases h
/-- The marks of the ranges over functions that a frame has entered, and its deferred calls. -/
def DfR (ρ : Env) : List Df → List Deferred → Prop
  | [], D => D = []
  | .mark d :: r, D => ∃ (l : Loc) (D' : List Deferred), ρ d = some l ∧ D = { target := .collected l.blk, args := #[] } :: D' ∧ DfR ρ r D'
  | .call g args :: r, D => ∃ (xs cap : List Value) (D' : List Deferred), AV.reals ρ args = some (xs ++ cap) ∧ D = { target := .fn (.func g) cap.toArray, args := xs.toArray } :: D' ∧ DfR ρ r D'
theorem DfR.mono {ρ ρ' : Env} (hle : Env.le ρ ρ') : ∀ {ds : List Df} {D : List Deferred}, DfR ρ ds D → DfR ρ' ds D
  | [], _, h => h
  | .mark _ :: _, _, ⟨l, D', h1, h2, h3⟩ => ⟨l, D', hle _ _ h1, h2, DfR.mono hle h3⟩
  | .call _ _ :: _, _, ⟨xs, cap, D', h1, h2, h3⟩ => ⟨xs, cap, D', AV.reals_mono hle _ _ h1, h2, DfR.mono hle h3⟩
/-- The operation does its work: the value that it yields, and the blocks behind it. -/
def Does (P : Program) (ρ : Env) (base : Kp) (w0 : World) (s : Sem Value) (w : World) (v : AV) (h' : Hp) : Prop :=
  ∃ ρ' w' x, s.run P w = .ok x w' ∧ v.real ρ' = some x ∧ Env.le ρ ρ' ∧ Emb ρ' base w0 h' w'
theorem does_pure {P : Program} {ρ : Env} {base : Kp} {w0 : World} {h : Hp} {w : World} (E : Emb ρ base w0 h w) {s : Sem Value} {v : AV} {x : Value} (hs : s.run P w = .ok x w) (hv : v.real ρ = some x) : Does P ρ base w0 s w v h :=
  ⟨ρ, w, x, hs, hv, Env.le_refl ρ, E⟩
/-- A value without names, in whatever form. -/
noncomputable def AV.plain : AV → Option Value
  | .v x => some x
  | .agg cs => (AV.plains cs).map fun l => .agg l.toArray
  | .flat n N => some (.agg (unpackL n N).toArray)
  | .ifc t (.v x) => some (.iface t x)
  | _ => none
where
  AV.plains : List AV → Option (List Value)
  | [] => some []
  | .v x :: r => (AV.plains r).map fun l => x :: l
  | _ :: _ => none
end Go.Proofs.Ytcakdjnnfonijaa
namespace Go.Proofs.Ytcakdjnnfonijaa
open Go.RowKit

noncomputable def cellsFrom (c : Cl) (n : Nat) : Nat → Nat → Option (List AV)
  | 0, _ => some []
  | k + 1, i => match cellAt c n i with
    | some a => (cellsFrom c n k (i + 1)).map fun r => a :: r
    | none => none
theorem cellsFrom_at (c : Cl) (n : Nat) : ∀ (k i : Nat) (cz : List AV), cellsFrom c n k i = some cz → cz.length = k ∧ ∀ j, j < k → cz[j]? = cellAt c n (i + j)
  | 0, i, cz, h => by
    obtain rfl := Option.some.inj h
    exact ⟨rfl, fun j hj => by omega⟩
  | k + 1, i, cz, h => by
    simp only [cellsFrom] at h
    split at h
    · rename_i a ha
      obtain ⟨r, hr, rfl⟩ := Option.map_eq_some_iff.1 h
      obtain ⟨h1, h2⟩ := cellsFrom_at c n k (i + 1) r hr
      refine ⟨by simp [h1], fun j hj => ?_⟩
      cases j with
      | zero => simp [ha]
      | succ j => rw [List.getElem?_cons_succ, h2 j (by omega), show i + 1 + j = i + (j + 1) by omega]
    · cases h
theorem cellsFrom_mk (c : Cl) (n : Nat) : ∀ (k i : Nat) (cz : List AV), cz.length = k → (∀ j, j < k → cz[j]? = cellAt c n (i + j)) → cellsFrom c n k i = some cz
  | 0, i, cz, h, _ => by
    obtain rfl := List.length_eq_zero_iff.1 h
    rfl
  | k + 1, i, [], h, _ => by cases h
  | k + 1, i, a :: r, h, hj => by
    have h0 := hj 0 (by omega)
    simp only [List.getElem?_cons_zero, Nat.add_zero] at h0
    have ih := cellsFrom_mk c n k (i + 1) r (by simpa using h) fun j hlt => by
      have := hj (j + 1) (by omega)
      rw [List.getElem?_cons_succ] at this
      rw [this, show i + (j + 1) = i + 1 + j by omega]
    simp only [cellsFrom, ← h0, ih, Option.map_some]
/-- Cells that were read, or that are to be written: one by one, or packed. -/
inductive Ck where
  | l (cs : List AV)
  | p (n N : Nat)
noncomputable def Ck.list : Ck → List AV
  | .l cs => cs
  | .p n N => (unpackL n N).map .v
def Ck.len : Ck → Nat
  | .l cs => cs.length
  | .p n _ => n
theorem Ck.len_eq (ck : Ck) : ck.list.length = ck.len := by
  cases ck with
  | l cs => rfl
  | p n N => simp [Ck.list, Ck.len, unpackL_len]
noncomputable def Ck.av : Ck → AV
  | .l cs => .agg cs
  | .p n N => .flat n N
noncomputable def readC (c : Cl) (n k i : Nat) : Option Ck :=
  Cl.rec (fun t N => Tr.rec (Bool.rec none (some (.p k (chunkN N i k))) (Nat.ble (Nat.add i k) n)) (fun l o r _ _ => (cellsFrom ⟨.node l o r, N⟩ n k i).map .l) t) c
theorem readC_ok {c : Cl} {n k i : Nat} {ck : Ck} (h : readC c n k i = some ck) : cellsFrom c n k i = some ck.list := by
  obtain ⟨t, N⟩ := c
  cases t with
  | nil =>
    have h : (Bool.rec none (some (.p k (chunkN N i k))) (Nat.ble (Nat.add i k) n) : Option Ck) = some ck := h
    cases hb : Nat.ble (Nat.add i k) n with
    | false => rw [hb] at h; cases h
    | true =>
      rw [hb] at h
      obtain rfl := Option.some.inj h
      have hle : i + k ≤ n := Nat.le_of_ble_eq_true hb
      refine cellsFrom_mk _ _ k i _ (by simp [Ck.list, unpackL_len]) fun j hj => ?_
      rw [cellAt_lt (by omega), Cl.at_nil]
      show ((unpackL k (chunkN N i k)).map AV.v)[j]? = some (.v (unpackV (cellN N (i + j))))
      rw [List.getElem?_map, unpackL_get _ _ _ hj, cellN_chunk _ _ _ _ hj]
      rfl
  | node l o r =>
    have h : (cellsFrom ⟨.node l o r, N⟩ n k i).map Ck.l = some ck := h
    obtain ⟨cs, hcs, rfl⟩ := Option.map_eq_some_iff.1 h
    exact hcs
theorem Addr.add_plain (b o j : Nat) : (⟨b, o, none⟩ : Addr).add j = ⟨b, o + j, none⟩ := by unfold Addr.add; split <;> simp_all
theorem Emb.loads {ρ : Env} {base : Kp} {w0 : World} {h : Hp} {w : World} (E : Emb ρ base w0 h w) {id : Nat} {c : Cl} {n : Nat} {elem : TypeId} {opn : Option Nat} (hg : h.get id = .cells c n elem opn) {l : Loc} (hl : ρ id = some l) :
    ∀ (k i : Nat) (cz : List AV), cellsFrom c n k i = some cz → ∃ xs, AV.reals ρ cz = some xs ∧ xs.length = k ∧ cz.length = k ∧ (∀ j v, xs[j]? = some v → w.cell? ⟨l.blk, l.off + i + j, none⟩ = some v)
  | 0, i, cz, h => by
    simp only [cellsFrom, Option.some.injEq] at h
    subst h
    exact ⟨[], rfl, rfl, rfl, fun j v hj => by simp at hj⟩
  | k + 1, i, cz, h => by
    simp only [cellsFrom] at h
    split at h
    · rename_i a ha
      simp only [Option.map_eq_some_iff] at h
      obtain ⟨r, hr, rfl⟩ := h
      obtain ⟨xs, h1, h2, h3, h4⟩ := Emb.loads E hg hl k (i + 1) r hr
      obtain ⟨x, hx, hc, _⟩ := E.load hg hl ha
      refine ⟨x :: xs, by simp [AV.reals, hx, h1], by simp [h2], by simp [h3], fun j v hj => ?_⟩
      cases j with
      | zero => simp only [List.getElem?_cons_zero, Option.some.injEq] at hj; subst hj; exact hc
      | succ j =>
        simp only [List.getElem?_cons_succ] at hj
        have := h4 j v hj
        rw [show l.off + i + (j + 1) = l.off + (i + 1) + j by omega]
        exact this
    · cases h
theorem reals_v (ρ : Env) : ∀ l : List Value, AV.reals ρ (l.map .v) = some l
  | [] => rfl
  | x :: r => by simp [AV.reals, AV.real, reals_v ρ r]
theorem ck_real {ρ : Env} {ck : Ck} {xs : List Value} (h : AV.reals ρ ck.list = some xs) : ck.av.real ρ = some (.agg xs.toArray) := by
  cases ck with
  | l cs => simp only [Ck.av, AV.real]; rw [show AV.reals ρ cs = some xs from h]; rfl
  | p n N =>
    have := (reals_v ρ (unpackL n N)).symm.trans h
    obtain rfl := Option.some.inj this
    rfl
theorem Emb.loadsRun {ρ : Env} {base : Kp} {w0 : World} {h : Hp} {w : World} {P : Program} (E : Emb ρ base w0 h w) {id : Nat} {c : Cl} {n : Nat} {elem : TypeId} {opn : Option Nat} (hg : h.get id = .cells c n elem opn) {l : Loc} (hl : ρ id = some l)
    {k i : Nat} {cz : List AV} (hc : cellsFrom c n k i = some cz) : ∃ xs, AV.reals ρ cz = some xs ∧ xs.length = k ∧ cz.length = k ∧ (loadCells ⟨l.blk, l.off + i, none⟩ k).run P w = .ok xs.toArray w := by
  obtain ⟨xs, h1, h2, h3, h4⟩ := E.loads hg hl k i cz hc
  refine ⟨xs, h1, h2, h3, ?_⟩
  have := run_loadCells_list (P := P) w ⟨l.blk, l.off + i, none⟩ xs (fun j v hj => by rw [Addr.add_plain]; exact h4 j v hj)
  rwa [h2] at this
def isAggD : TypeDesc → Bool
  | .struct _ => true
  | .array _ _ => true
  | _ => false
theorem run_isAgg {P : Program} {t : TypeId} {d : TypeDesc} (h : P.underlying t = some d) (w : World) : (isAgg t).run P w = .ok (isAggD d) w := by
  unfold isAgg
  rw [Sem.run_bind, run_underlying h w]
  cases d <;> rfl
noncomputable def evLoad (P : Program) (h : Hp) (t : TypeId) (a : AV) : Option AV := match a with
  | .ptr id off => match h.get id with
    | .cells c n _ _ => match P.underlying t with
      | some d => match isAggD d with
        | true => match P.info? t with
          | some i => (readC c n i.size off).map Ck.av
          | none => none
        | false => cellAt c n off
      | none => none
    | _ => none
  | _ => none
noncomputable def AV.ck : AV → Ck
  | .agg cs => .l cs
  | .v (.agg xs) => .l (xs.toList.map .v)
  | .flat n N => .p n N
  | a => .l [a]
noncomputable def AV.cells (a : AV) : List AV := a.ck.list
theorem AV.cells_real {ρ : Env} {a : AV} {x : Value} (h : a.real ρ = some x) : AV.reals ρ a.cells = some x.cells.toList := by
  cases a with
  | v y =>
    simp only [AV.real, Option.some.injEq] at h
    subst h
    cases y <;> simp [AV.cells, AV.ck, Ck.list, AV.reals, AV.real, Value.cells, reals_v]
  | agg cs =>
    simp only [AV.real, Option.map_eq_some_iff] at h
    obtain ⟨l, hl, rfl⟩ := h
    simp [AV.cells, AV.ck, Ck.list, Value.cells, hl]
  | ptr id off => simp only [AV.real, Option.map_eq_some_iff] at h; obtain ⟨l, hl, rfl⟩ := h; simp [AV.cells, AV.ck, Ck.list, AV.reals, AV.real, hl, Value.cells]
  | slc id off len cap ex => simp only [AV.real, Option.map_eq_some_iff] at h; obtain ⟨l, hl, rfl⟩ := h; simp [AV.cells, AV.ck, Ck.list, AV.reals, AV.real, hl, Value.cells]
  | mp id => simp only [AV.real, Option.map_eq_some_iff] at h; obtain ⟨l, hl, rfl⟩ := h; simp [AV.cells, AV.ck, Ck.list, AV.reals, AV.real, hl, Value.cells]
  | yld id => simp only [AV.real, Option.map_eq_some_iff] at h; obtain ⟨l, hl, rfl⟩ := h; simp [AV.cells, AV.ck, Ck.list, AV.reals, AV.real, hl, Value.cells]
  | fn f p q =>
    simp only [AV.real, Option.bind_eq_some_iff, Option.map_eq_some_iff] at h
    obtain ⟨y, hy, z, hz, rfl⟩ := h
    simp [AV.cells, AV.ck, Ck.list, AV.reals, AV.real, hy, hz, Value.cells]
  | ifc t y => simp only [AV.real, Option.map_eq_some_iff] at h; obtain ⟨l, hl, rfl⟩ := h; simp [AV.cells, AV.ck, Ck.list, AV.reals, AV.real, hl, Value.cells]
  | flat n N =>
    obtain rfl := Option.some.inj h
    simp [AV.cells, AV.ck, Ck.list, Value.cells, reals_v]
  | tup vs => simp only [AV.real, Option.map_eq_some_iff] at h; obtain ⟨l, hl, rfl⟩ := h; simp [AV.cells, AV.ck, Ck.list, AV.reals, AV.real, hl, Value.cells]
def AV.one : AV → Bool
  | .agg _ => false
  | .flat _ _ => false
  | .tup _ => false
  | .v x => x.oneCell'
  | _ => true
theorem AV.one_real {ρ : Env} {a : AV} {x : Value} (h : a.real ρ = some x) (h1 : a.one = true) : x.oneCell' = true := by
  cases a with
  | v y => simp only [AV.real, Option.some.injEq] at h; subst h; exact h1
  | agg cs => cases h1
  | flat n N => cases h1
  | tup cs => cases h1
  | ptr id off => simp only [AV.real, Option.map_eq_some_iff] at h; obtain ⟨l, hl, rfl⟩ := h; rfl
  | slc id off len cap ex => simp only [AV.real, Option.map_eq_some_iff] at h; obtain ⟨l, hl, rfl⟩ := h; rfl
  | mp id => simp only [AV.real, Option.map_eq_some_iff] at h; obtain ⟨l, hl, rfl⟩ := h; rfl
  | yld id => simp only [AV.real, Option.map_eq_some_iff] at h; obtain ⟨l, hl, rfl⟩ := h; rfl
  | fn f p q => simp only [AV.real, Option.bind_eq_some_iff, Option.map_eq_some_iff] at h; obtain ⟨y, hy, z, hz, rfl⟩ := h; rfl
  | ifc t y => simp only [AV.real, Option.map_eq_some_iff] at h; obtain ⟨l, hl, rfl⟩ := h; rfl
noncomputable def setCells (n : Nat) : List AV → Tr AV → Nat → Option (Tr AV)
  | [], t, _ => some t
  | a :: r, t, i => match Nat.blt i n with
    | true => match a.one with
      | true => setCells n r (t.set i a) (i + 1)
      | false => none
    | false => none
theorem setCells_spec (n : Nat) : ∀ (cz : List AV) (t : Tr AV) (i : Nat) (t' : Tr AV), setCells n cz t i = some t' →
    (cz = [] ∨ i + cz.length ≤ n) ∧ (∀ a ∈ cz, a.one = true) ∧ ∀ j, t'.get j = if i ≤ j ∧ j < i + cz.length then cz[j - i]? else t.get j
  | [], t, i, t', h => by
    simp only [setCells, Option.some.injEq] at h
    subst h
    exact ⟨.inl rfl, by simp, fun j => by rw [if_neg (by rw [List.length_nil]; omega)]⟩
  | a :: r, t, i, t', h => by
    simp only [setCells, blt_eq] at h
    cases hd : decide (i < n) with
    | false => rw [hd] at h; cases h
    | true =>
      rw [hd] at h
      have hlt := of_decide_eq_true hd
      cases ho : a.one with
      | false => rw [ho] at h; cases h
      | true =>
        rw [ho] at h
        obtain ⟨h1, h2, h3⟩ := setCells_spec n r _ _ _ h
        refine ⟨.inr ?_, fun b hb => ?_, fun j => ?_⟩
        · rcases h1 with h1 | h1
          · subst h1; simp; omega
          · simp; omega
        · rcases List.mem_cons.1 hb with rfl | hb
          · exact ho
          · exact h2 b hb
        · rw [h3 j, Tr.get_set]
          by_cases e : j = i
          · subst e
            rw [if_neg (by omega), if_pos rfl, if_pos (by simp), Nat.sub_self]
            rfl
          · by_cases e2 : i + 1 ≤ j ∧ j < i + 1 + r.length
            · rw [if_pos e2, if_pos (by simp; omega), show j - i = (j - (i + 1)) + 1 by omega]
              rfl
            · rw [if_neg e2, if_neg e, if_neg (by simp; omega)]
noncomputable def packL : List AV → Option Nat
  | [] => some 0
  | .v x :: r => match packV x with
    | some c => match packL r with
      | some M => some (Nat.add c (Nat.mul M 4722366482869645213696))
      | none => none
    | none => none
  | _ :: _ => none
theorem packL_ok : ∀ {l : List AV} {M : Nat}, packL l = some M → l = (unpackL l.length M).map .v
  | [], M, h => rfl
  | a :: r, M, h => by
    cases a with
    | v x =>
      simp only [packL] at h
      split at h
      case h_2 => cases h
      rename_i c hc
      split at h
      case h_2 => cases h
      rename_i M' hM
      obtain rfl := Option.some.inj h
      obtain ⟨h1, h2⟩ := packV_ok hc
      rw [List.length_cons, unpackL_cons _ _ _ h1, h2, List.map_cons, ← packL_ok hM]
    | _ => cases h
/-- Packed cells, their number laid out. -/
noncomputable def clN (N : Nat) : Cl := Nat.rec ⟨.nil, 0⟩ (fun m _ => ⟨.nil, Nat.succ m⟩) N
theorem clN_eq (N : Nat) : clN N = ⟨.nil, N⟩ := by cases N <;> rfl
noncomputable def writeC (n : Nat) (ck : Ck) (c : Cl) (i : Nat) : Option Cl :=
  Cl.rec (fun t N => Tr.rec
    (Ck.rec (fun cs => Option.rec ((setCells n cs .nil i).map fun t => ⟨t, N⟩) (fun M => Bool.rec none (some (clN (spliceN N i cs.length M))) (Nat.ble (Nat.add i cs.length) n)) (packL cs))
      (fun k M => Bool.rec none (some (clN (spliceN N i k M))) (Nat.ble (Nat.add i k) n)) ck)
    (fun l o r _ _ => (setCells n ck.list (.node l o r) i).map fun t => ⟨t, N⟩) t) c
theorem writeC_trie {n i N : Nat} {cz : List AV} {t : Tr AV} {c' : Cl} (_ho : ∀ a ∈ cz, a.one = true ∨ True) (h : (setCells n cz t i).map (fun t => (⟨t, N⟩ : Cl)) = some c') :
    (cz = [] ∨ i + cz.length ≤ n) ∧ (∀ a ∈ cz, a.one = true) ∧ ∀ j, some (c'.at j) = if i ≤ j ∧ j < i + cz.length then cz[j - i]? else some ((⟨t, N⟩ : Cl).at j) := by
  obtain ⟨t', ht', rfl⟩ := Option.map_eq_some_iff.1 h
  obtain ⟨h1, h2, h3⟩ := setCells_spec n cz t i t' ht'
  refine ⟨h1, h2, fun j => ?_⟩
  rw [Cl.at_eq, Cl.at_eq, h3 j]
  split
  · rename_i e
    rw [List.getElem?_eq_getElem (by omega)]
    rfl
  · rfl
theorem writeC_flat {n i k N M : Nat} {cz : List AV} {c' : Cl} (hcz : cz = (unpackL k M).map .v) (h : (Bool.rec none (some (clN (spliceN N i k M))) (Nat.ble (Nat.add i k) n) : Option Cl) = some c') :
    (cz = [] ∨ i + cz.length ≤ n) ∧ (∀ a ∈ cz, a.one = true) ∧ ∀ j, some (c'.at j) = if i ≤ j ∧ j < i + cz.length then cz[j - i]? else some ((⟨.nil, N⟩ : Cl).at j) := by
  have hl : cz.length = k := by rw [hcz]; simp [unpackL_len]
  cases hb : Nat.ble (Nat.add i k) n with
  | false => rw [hb] at h; cases h
  | true =>
    rw [hb] at h
    obtain rfl := Option.some.inj h
    rw [clN_eq]
    have hle : i + k ≤ n := Nat.le_of_ble_eq_true hb
    refine ⟨.inr (by omega), fun a ha => ?_, fun j => ?_⟩
    · rw [hcz] at ha
      obtain ⟨u, hu, rfl⟩ := List.mem_map.1 ha
      exact unpackL_one _ _ u hu
    · rw [Cl.at_nil, Cl.at_nil]
      rw [cellN_splice, hl]
      by_cases e : i ≤ j ∧ j < i + k
      · rw [if_pos e, if_pos e, hcz, List.getElem?_map, unpackL_get _ _ _ (by omega)]
        rfl
      · rw [if_neg e, if_neg e]
theorem writeC_spec (n : Nat) (ck : Ck) (c : Cl) (i : Nat) (c' : Cl) (h : writeC n ck c i = some c') :
    (ck.list = [] ∨ i + ck.list.length ≤ n) ∧ (∀ a ∈ ck.list, a.one = true) ∧ ∀ j, some (c'.at j) = if i ≤ j ∧ j < i + ck.list.length then ck.list[j - i]? else some (c.at j) := by
  obtain ⟨t, N⟩ := c
  cases t with
  | node l o r => exact writeC_trie (fun _ _ => .inr trivial) h
  | nil =>
    cases ck with
    | p k M => exact writeC_flat rfl h
    | l cs =>
      have h : (Option.rec ((setCells n cs .nil i).map fun t => ⟨t, N⟩) (fun M => Bool.rec none (some (clN (spliceN N i cs.length M))) (Nat.ble (Nat.add i cs.length) n)) (packL cs) : Option Cl) = some c' := h
      cases hp : packL cs with
      | none => rw [hp] at h; exact writeC_trie (fun _ _ => .inr trivial) h
      | some M => rw [hp] at h; exact writeC_flat (packL_ok hp) h
theorem splice_get (C vs : List Value) (k p : Nat) (h : k + vs.length ≤ C.length) : (C.take k ++ vs ++ C.drop (k + vs.length))[p]? = if k ≤ p ∧ p < k + vs.length then vs[p - k]? else C[p]? := by
  by_cases h1 : p < k
  · rw [if_neg (by omega), List.append_assoc, List.getElem?_append_left (by rw [List.length_take]; omega), List.getElem?_take, if_pos h1]
  · by_cases h2 : p < k + vs.length
    · rw [if_pos (by omega), List.append_assoc, List.getElem?_append_right (by rw [List.length_take]; omega), List.length_take, Nat.min_eq_left (by omega), List.getElem?_append_left (by omega)]
    · rw [if_neg (by omega), List.getElem?_append_right (by simp; omega), List.getElem?_drop]
      congr 1
      simp
      omega
theorem reals_len {ρ : Env} : ∀ {cz : List AV} {xs : List Value}, AV.reals ρ cz = some xs → xs.length = cz.length
  | [], xs, h => by cases h; rfl
  | a :: r, xs, h => by
    simp only [AV.reals, Option.bind_eq_some_iff, Option.map_eq_some_iff] at h
    obtain ⟨x, _, y, hy, rfl⟩ := h
    simp [reals_len hy]
theorem reals_at {ρ : Env} : ∀ {cz : List AV} {xs : List Value}, AV.reals ρ cz = some xs → ∀ (j : Nat) (a : AV), cz[j]? = some a → ∃ x, a.real ρ = some x ∧ xs[j]? = some x
  | [], xs, h, j, a, hj => by simp at hj
  | b :: r, xs, h, j, a, hj => by
    simp only [AV.reals, Option.bind_eq_some_iff, Option.map_eq_some_iff] at h
    obtain ⟨x, hx, y, hy, rfl⟩ := h
    cases j with
    | zero => simp at hj; subst hj; exact ⟨x, hx, rfl⟩
    | succ j => exact reals_at hy j a (by simpa using hj)
theorem reals_mem {ρ : Env} {cz : List AV} {xs : List Value} (h : AV.reals ρ cz = some xs) {x : Value} (hx : x ∈ xs) : ∃ a ∈ cz, a.real ρ = some x := by
  obtain ⟨j, hj⟩ := List.mem_iff_getElem?.1 hx
  have hlt : j < cz.length := by have := reals_len h; have := (List.getElem?_eq_some_iff.1 hj).1; omega
  obtain ⟨y, hy, hyj⟩ := reals_at h j cz[j] (List.getElem?_eq_getElem hlt)
  rw [hj] at hyj
  obtain rfl := Option.some.inj hyj
  exact ⟨cz[j], List.getElem_mem hlt, hy⟩
theorem run_storeCells_fz (P : Program) (g o : Nat) (t : TypeId) (fz : Nat × Nat) (n : Nat) (opn : Option Nat) (hf : FzOk opn n fz) : ∀ (vs : List Value) (i : Nat) (cur : Array Value) (w : World), cur.size = n → w.heap[g]? = some (.cells cur t fz) → o + i + vs.length ≤ n → (∀ v ∈ vs, v.oneCell' = true) →
    (storeCells ⟨g, o, none⟩ vs i).run P w = .ok () (w.setRow g (cur.toList.take (o + i) ++ vs ++ cur.toList.drop (o + i + vs.length)).toArray)
  | [], i, cur, w, _, hg, _, _ => by
    simp only [storeCells, List.append_nil, List.length_nil, Nat.add_zero, List.take_append_drop, Array.toArray_toList]
    rw [setRow_self w g cur t fz hg]
    rfl
  | v :: rest, i, cur, w, hn, hg, hl, h1 => by
    have hi : o + i < cur.size := by simp at hl; omega
    have hcell : w.cell? ⟨g, o + i, none⟩ = some cur[o + i] := by simp [World.cell?, hg, hi]
    have hfro : w.frozen? ⟨g, o + i, none⟩ = false := frozen_free hg (by rw [hn]; exact hf) hi
    have hst : (store ((⟨g, o, none⟩ : Addr).add i) v).run P w = .ok () (w.setRow g (cur.setIfInBounds (o + i) v)) := by
      rw [Addr.add_plain, run_store P w _ v _ (h1 v (by simp)), hcell]
      simp [hfro, setCell_eq_setRow w g (o + i) cur t fz v hg]
    have ih := run_storeCells_fz P g o t fz n opn hf rest (i + 1) (cur.setIfInBounds (o + i) v) (w.setRow g (cur.setIfInBounds (o + i) v)) (by simpa using hn) (setRow_heap w g cur _ t _ hg) (by simp at hl ⊢; omega) (fun x hx => h1 x (by simp [hx]))
    simp only [storeCells, Sem.run_bind, hst, Result.andThen_ok, ih, setRow_setRow]
    congr 3
    have e := list_seg_step cur.toList (o + i) v rest (by simp at hl ⊢; omega)
    simpa [Array.toList_setIfInBounds, Nat.add_assoc] using e
/-- Cells are written. -/
theorem Emb.stores {ρ : Env} {base : Kp} {w0 : World} {h : Hp} {w : World} {P : Program} (E : Emb ρ base w0 h w) {id : Nat} {c c' : Cl} {n : Nat} {elem : TypeId} {opn : Option Nat} (hg : h.get id = .cells c n elem opn) {l : Loc} (hl : ρ id = some l)
    {ck : Ck} {xs : List Value} (ha : AV.reals ρ ck.list = some xs) {i : Nat} (hs : writeC n ck c i = some c') :
    ∃ w', (storeCells ⟨l.blk, l.off + i, none⟩ xs).run P w = .ok () w' ∧ Emb ρ base w0 (h.put id (.cells c' n elem opn)) w' := by
  obtain ⟨h1, h2, h3⟩ := writeC_spec n ck c i c' hs
  revert ha h1 h2 h3
  generalize ck.list = cz
  intro ha h1 h2 h3
  obtain ⟨l', C, fz, hl', hb, hC, hfz, hn, _, _, hc⟩ := E.cells hg
  obtain rfl := Option.some.inj (hl.symm.trans hl')
  have hlen := reals_len ha
  rcases h1 with rfl | h1
  · simp at hlen
    subst hlen
    have : ∀ j, c'.at j = c.at j := fun j => by have := h3 j; rw [if_neg (by rw [List.length_nil]; omega)] at this; exact Option.some.inj this
    have hput : Emb ρ base w0 (h.put id (.cells c' n elem opn)) (w.setRow l.blk C) := E.setRow hg hl hC rfl (fun j a hj => hc j a (by unfold cellAt at hj ⊢; rw [this] at hj; exact hj))
    rw [setRow_self w l.blk C elem fz hC] at hput
    exact ⟨w, rfl, hput⟩
  · have hfit : l.off + i + xs.length ≤ C.toList.length := by have := Array.length_toList (xs := C); omega
    have hrun := run_storeCells_fz P l.blk (l.off + i) elem fz C.size opn hfz xs 0 C w rfl hC (by rw [← Array.length_toList]; have := hfit; simp only [Nat.add_zero]; exact this) (fun v hv => by obtain ⟨a, ha', hr⟩ := reals_mem ha hv; exact AV.one_real hr (h2 a ha'))
    rw [Nat.add_zero] at hrun
    refine ⟨_, hrun, E.setRow hg hl hC ?_ fun j a hj => ?_⟩
    · simp; simp at hfit; omega
    · rw [List.getElem?_toArray, splice_get _ _ _ _ hfit]
      have hget := h3 j
      obtain ⟨hjn, rfl⟩ := cellAt_some hj
      by_cases e : i ≤ j ∧ j < i + cz.length
      · rw [if_pos e] at hget
        rw [if_pos (by omega)]
        have hlt : j - i < cz.length := by omega
        obtain ⟨x, hx, hxj⟩ := reals_at ha (j - i) (c'.at j) hget.symm
        exact ⟨x, hx, by rw [show l.off + j - (l.off + i) = j - i by omega]; exact hxj⟩
      · rw [if_neg e] at hget
        rw [if_neg (by omega), Option.some.inj hget]
        obtain ⟨x, hx, hxj⟩ := hc j _ (cellAt_lt hjn)
        exact ⟨x, hx, by rw [Array.getElem?_toList]; exact hxj⟩
noncomputable def evStore (P : Program) (h : Hp) (t : TypeId) (a v : AV) : Option Hp := match a with
  | .ptr id off => match h.get id with
    | .cells tr n elem opn => match P.info? t with
      | some i => match Nat.beq v.ck.len i.size with
        | true => (writeC n v.ck tr off).map fun t' => h.put id (.cells t' n elem opn)
        | false => none
      | none => none
    | _ => none
  | _ => none
theorem evStore_run {P : Program} {ρ : Env} {base : Kp} {w0 : World} {h h' : Hp} {w : World} (E : Emb ρ base w0 h w) {t : TypeId} {a v : AV} {x y : Value} (ha : a.real ρ = some x) (hv : v.real ρ = some y) (hs : evStore P h t a v = some h') :
    ∃ w', (Instr.storeAt t x y).run P w = .ok () w' ∧ Emb ρ base w0 h' w' := by
  unfold evStore at hs
  split at hs
  · rename_i id off
    simp only [AV.real, Option.map_eq_some_iff] at ha
    obtain ⟨l, hl, rfl⟩ := ha
    split at hs
    · rename_i tr n elem opn hg
      split at hs
      · rename_i i hi
        split at hs
        · rename_i hb
          simp only [Option.map_eq_some_iff] at hs
          obtain ⟨t', ht', rfl⟩ := hs
          have hc := AV.cells_real hv
          obtain ⟨w', hr, E'⟩ := E.stores (P := P) hg hl hc ht'
          refine ⟨w', ?_, E'⟩
          have hsz : y.cells.size = i.size := by have := reals_len hc; have h1 := Nat.eq_of_beq_eq_true hb; have h2 : v.cells.length = v.ck.len := Ck.len_eq _; rw [Array.length_toList] at this; omega
          simp [Instr.storeAt, Instr.sureAddr, storeVar, Sem.run_bind, sizeOf, typeInfo, hi, hsz, hr]
        · cases hs
      · cases hs
    · cases hs
  · cases hs
end Go.Proofs.Ytcakdjnnfonijaa
namespace Go.Proofs.Ytcakdjnnfonijaa
open Go.RowKit

def isSame : Value → Value → Bool
  | .int k a, .int k' b => (match k, k' with
    | .i8, .i8 | .i16, .i16 | .i32, .i32 | .i64, .i64 | .u8, .u8 | .u16, .u16 | .u32, .u32 | .u64, .u64 => true
    | _, _ => false) && (match a, b with
      | .ofNat x, .ofNat y => Nat.beq x y
      | _, _ => false)
  | .bool a, .bool b => a == b
  | _, _ => false
def sameAV : AV → AV → Bool
  | .v x, .v y => isSame x y
  | _, _ => false
noncomputable def spreadT (d : AV) : List AV → Nat → Tr AV → Tr AV
  | [], _, t => t
  | a :: r, i, t => match sameAV a d with
    | true => spreadT d r (i + 1) t
    | false => spreadT d r (i + 1) (t.set i a)
theorem spreadT_get (d : AV) : ∀ (cs : List AV) (i : Nat) (t : Tr AV) (j : Nat), (spreadT d cs i t).get j = if i ≤ j ∧ j < i + cs.length then (match cs[j - i]? with | some a => (match sameAV a d with | true => t.get j | false => some a) | none => t.get j) else t.get j
  | [], i, t, j => by rw [if_neg (by rw [List.length_nil]; omega)]; rfl
  | a :: r, i, t, j => by
    simp only [spreadT]
    cases hs : sameAV a d with
    | true =>
      simp only [spreadT_get d r (i + 1) t j]
      by_cases e : j = i
      · subst e
        rw [if_neg (by omega), if_pos (by simp), Nat.sub_self]
        simp [hs]
      · by_cases e2 : i + 1 ≤ j ∧ j < i + 1 + r.length
        · rw [if_pos e2, if_pos (by simp; omega), show j - i = (j - (i + 1)) + 1 by omega]
          rfl
        · rw [if_neg e2, if_neg (by simp; omega)]
    | false =>
      simp only [spreadT_get d r (i + 1) (t.set i a) j, Tr.get_set]
      by_cases e : j = i
      · subst e
        rw [if_neg (by omega), if_pos rfl, if_pos (by simp), Nat.sub_self]
        simp [hs]
      · by_cases e2 : i + 1 ≤ j ∧ j < i + 1 + r.length
        · rw [if_pos e2, if_neg e, if_pos (by simp; omega), show j - i = (j - (i + 1)) + 1 by omega]
          rfl
        · rw [if_neg e2, if_neg e, if_neg (by simp; omega)]
/-- A row of cells out of what lies in them. -/
noncomputable def newCl (ck : Ck) : Cl :=
  Ck.rec (fun cs => List.rec ⟨.nil, 0⟩ (fun a r _ => List.rec ⟨.node .nil (some a) .nil, 0⟩ (fun _ _ _ => Option.rec ⟨spreadT (.tup []) cs 0 .nil, 0⟩ (fun N => clN N) (packL cs)) r) cs) (fun _ N => clN N) ck
theorem newCl_at (ck : Ck) (i : Nat) (a : AV) (h : ck.list[i]? = some a) : (newCl ck).at i = a := by
  have flat : ∀ (cs : List AV) (n N : Nat), cs = (unpackL n N).map .v → cs[i]? = some a → (⟨.nil, N⟩ : Cl).at i = a := fun cs n N hcs hi => by
    rw [hcs, List.getElem?_map] at hi
    have hlt : i < n := by
      cases hn : (unpackL n N)[i]? with
      | none => rw [hn] at hi; cases hi
      | some u => have := (List.getElem?_eq_some_iff.1 hn).1; rwa [unpackL_len] at this
    rw [unpackL_get _ _ _ hlt] at hi
    rw [Cl.at_nil]
    exact Option.some.inj hi
  cases ck with
  | p n N =>
    show (clN N).at i = a
    rw [clN_eq]
    exact flat _ n N rfl h
  | l cs =>
    have h : cs[i]? = some a := h
    match cs, h with
    | [b], h =>
      have hi : i = 0 := by have := (List.getElem?_eq_some_iff.1 h).1; simpa using this
      subst hi
      exact Option.some.inj h
    | b :: d :: r, h =>
      show Cl.at (Option.rec _ _ (packL (b :: d :: r))) i = a
      cases hp : packL (b :: d :: r) with
      | some M =>
        show (clN M).at i = a
        rw [clN_eq]
        exact flat _ _ M (packL_ok hp) h
      | none =>
        show (⟨spreadT (.tup []) (b :: d :: r) 0 .nil, 0⟩ : Cl).at i = a
        have hlt := (List.getElem?_eq_some_iff.1 h).1
        rw [Cl.at_eq, spreadT_get, if_pos (by omega), Nat.sub_zero, h]
        have hs : sameAV a (.tup []) = false := by cases a <;> rfl
        dsimp only
        rw [hs]
        rfl
noncomputable def newBlk (ck : Ck) (elem : TypeId) : Blk := .cells (newCl ck) ck.len elem none
theorem run_newRow {P : Program} (w : World) (elem : TypeId) (cells : Array Value) : (newRow elem cells).run P w = .ok ⟨w.heap.size, 0, none⟩ (w.alloc (.cells cells elem)) := rfl
theorem Emb.row {ρ : Env} {base : Kp} {w0 : World} {h : Hp} {w : World} (E : Emb ρ base w0 h w) {ck : Ck} {xs : List Value} (hx : AV.reals ρ ck.list = some xs) (elem : TypeId) :
    Emb (ρ.add h.nx ⟨w.heap.size, 0, 0⟩) base w0 (h.new (newBlk ck elem)) (w.alloc (.cells xs.toArray elem)) := by
  have hlen := reals_len hx
  rw [Ck.len_eq] at hlen
  refine E.alloc _ _ 0 ⟨xs.toArray, (0, 0), rfl, .inl rfl, by show 0 + ck.len ≤ xs.toArray.size; rw [List.size_toArray]; omega, fun _ => ⟨rfl, by rw [List.size_toArray]; exact hlen⟩, (fun sz hs => by cases hs), fun i a hi => ?_⟩
  obtain ⟨hlt, rfl⟩ := cellAt_some hi
  have hlt2 : i < ck.list.length := by rw [Ck.len_eq]; exact hlt
  have hcell := List.getElem?_eq_getElem hlt2
  rw [newCl_at ck i _ hcell]
  obtain ⟨x, hr, hj⟩ := reals_at hx i _ hcell
  exact ⟨x, AV.real_mono (Env.le_add E.fresh0) _ _ hr, by simpa using hj⟩
theorem add_self (ρ : Env) (id : Nat) (l : Loc) : ρ.add id l id = some l := by unfold Env.add; rw [if_pos rfl]
noncomputable def evBox (h : Hp) (elem : TypeId) (v : AV) : AV × Hp := (.ptr h.nx 0, h.new (newBlk v.ck elem))
theorem newVar_run {P : Program} {ρ : Env} {base : Kp} {w0 : World} {h : Hp} {w : World} (E : Emb ρ base w0 h w) (elem : TypeId) {v : AV} {x : Value} (hv : v.real ρ = some x) :
    Does P ρ base w0 (do pure (.pointer (some (← newVar elem x)))) w (.ptr h.nx 0) (h.new (newBlk v.ck elem)) := by
  refine ⟨_, _, .pointer (some ⟨w.heap.size, 0, none⟩), ?_, ?_, Env.le_add E.fresh0, E.row (AV.cells_real hv) elem⟩
  · simp [newVar, run_newRow]
  · simp [AV.real, add_self]
/-- A zero, packed if it can be. -/
noncomputable def zeroA (z : Value) : AV := Value.rec (motive_1 := fun _ => AV) (motive_2 := fun _ => Unit) (motive_3 := fun _ => Unit) (fun b => .v (.bool b)) (fun k n => .v (.int k n)) (fun _ _ => .v z) (fun _ _ _ => .v z) (fun _ => .v z) (fun _ => .v z) (fun _ _ _ => .v z) (fun _ => .v z) (fun _ => .v z) (fun _ _ _ _ _ => .v z) (.v z) (fun _ _ _ => .v z) (.v z) (fun xs _ => Option.rec (.v z) (fun N => .flat xs.size N) (packVs xs.toList)) (fun _ _ => .v z) (fun _ _ => ()) () (fun _ _ _ _ => ()) z
theorem zeroA_real (ρ : Env) (z : Value) : (zeroA z).real ρ = some z := by
  cases z with
  | agg xs =>
    show (Option.rec (.v (.agg xs)) (fun N => .flat xs.size N) (packVs xs.toList) : AV).real ρ = _
    cases hp : packVs xs.toList with
    | none => rfl
    | some N =>
      show some (Value.agg (unpackL xs.size N).toArray) = _
      have := packVs_ok hp
      rw [Array.length_toList] at this
      rw [this]
  | _ => rfl
noncomputable def evAlloc (P : Program) (h : Hp) (elem : TypeId) : Option (AV × Hp) := match P.info? elem with
  | some i => match i.zero with
    | some z => some (evBox h elem (zeroA z))
    | none => none
  | none => none
theorem evAlloc_run {P : Program} {ρ : Env} {base : Kp} {w0 : World} {h h' : Hp} {w : World} (E : Emb ρ base w0 h w) {elem : TypeId} {v : AV} (hs : evAlloc P h elem = some (v, h')) : Does P ρ base w0 (Instr.alloc elem true (.tuple #[])) w v h' := by
  unfold evAlloc at hs
  split at hs
  · rename_i i hi
    split at hs
    · rename_i z hz
      obtain ⟨rfl, rfl⟩ := Prod.mk.inj (Option.some.inj hs)
      obtain ⟨ρ', w', x, h1, h2⟩ := newVar_run (P := P) E elem (v := zeroA z) (zeroA_real ρ z)
      refine ⟨ρ', w', x, ?_, h2⟩
      rw [← h1]
      simp [Instr.alloc, zeroValue, typeInfo, hi, hz, Sem.run_bind]
    · cases hs
  · cases hs
/-- Parts are laid into cells. -/
noncomputable def fillL (place : Nat → Option (Nat × Nat)) (cs : List AV) : List (Nat × AV) → Option (List AV)
  | [] => some cs
  | (i, v) :: r => match place i with
    | none => none
    | some (off, size) => match Nat.beq v.cells.length size with
      | true => match Nat.ble (off + size) cs.length with
        | true => fillL place (cs.take off ++ v.cells ++ cs.drop (off + size)) r
        | false => none
      | false => none
theorem foldl_splice (vs : List Value) : ∀ (k off : Nat) (C : Array Value), off + k + vs.length ≤ C.size →
    ((vs.zipIdx k).foldl (fun cs (c, j) => cs.setIfInBounds (off + j) c) C).toList = C.toList.take (off + k) ++ vs ++ C.toList.drop (off + k + vs.length) := by
  induction vs with
  | nil => intro k off C h; simp
  | cons v r ih =>
    intro k off C h
    rw [List.zipIdx_cons, List.foldl_cons]
    simp only [List.length_cons] at h
    rw [ih (k + 1) off _ (by simp; omega)]
    simp only [Array.toList_setIfInBounds]
    have hk : off + k < C.toList.length := by rw [Array.length_toList]; omega
    apply List.ext_getElem?
    intro p
    rw [splice_get _ _ _ _ (by simp; omega), splice_get _ _ _ _ (by simp; omega), List.getElem?_set]
    by_cases e : p = off + k
    · subst e
      rw [if_neg (by omega), if_pos rfl, if_pos hk, if_pos (by simp), Nat.sub_self]
      rfl
    · by_cases e2 : off + (k + 1) ≤ p ∧ p < off + (k + 1) + r.length
      · rw [if_pos e2, if_pos (by simp; omega), show p - (off + k) = (p - (off + (k + 1))) + 1 by omega]
        rfl
      · rw [if_neg e2, if_neg (Ne.symm e), if_neg (by simp; omega)]
theorem reals_append {ρ : Env} : ∀ {cz : List AV} {xs : List Value} {bs : List AV} {ys : List Value}, AV.reals ρ cz = some xs → AV.reals ρ bs = some ys → AV.reals ρ (cz ++ bs) = some (xs ++ ys)
  | [], xs, bs, ys, h, k => by cases h; exact k
  | a :: r, xs, bs, ys, h, k => by
    simp only [AV.reals, Option.bind_eq_some_iff, Option.map_eq_some_iff] at h
    obtain ⟨x, hx, y, hy, rfl⟩ := h
    simp [AV.reals, hx, reals_append hy k]
theorem reals_take {ρ : Env} : ∀ {cz : List AV} {xs : List Value} (k : Nat), AV.reals ρ cz = some xs → AV.reals ρ (cz.take k) = some (xs.take k)
  | cz, xs, 0, h => by simp [AV.reals]
  | [], xs, k + 1, h => by cases h; rfl
  | a :: r, xs, k + 1, h => by
    simp only [AV.reals, Option.bind_eq_some_iff, Option.map_eq_some_iff] at h
    obtain ⟨x, hx, y, hy, rfl⟩ := h
    simp [AV.reals, hx, reals_take k hy]
theorem reals_drop {ρ : Env} : ∀ {cz : List AV} {xs : List Value} (k : Nat), AV.reals ρ cz = some xs → AV.reals ρ (cz.drop k) = some (xs.drop k)
  | cz, xs, 0, h => by simpa using h
  | [], xs, k + 1, h => by cases h; rfl
  | a :: r, xs, k + 1, h => by
    simp only [AV.reals, Option.bind_eq_some_iff, Option.map_eq_some_iff] at h
    obtain ⟨x, hx, y, hy, rfl⟩ := h
    simpa using reals_drop k hy
/-- Parts, each with what it stands for. -/
inductive PartsR (ρ : Env) : List (Nat × AV) → List (Nat × Value) → Prop where
  | nil : PartsR ρ [] []
  | cons {i : Nat} {a : AV} {x : Value} {r : List (Nat × AV)} {s : List (Nat × Value)} (h : a.real ρ = some x) (k : PartsR ρ r s) : PartsR ρ ((i, a) :: r) ((i, x) :: s)
theorem fillL_fill {ρ : Env} (place : Nat → Option (Nat × Nat)) : ∀ (ps : List (Nat × AV)) (qs : List (Nat × Value)) (cs cs' : List AV) (C : Array Value), PartsR ρ ps qs → AV.reals ρ cs = some C.toList → fillL place cs ps = some cs' →
    ∃ C', Instr.fill place C qs = some C' ∧ AV.reals ρ cs' = some C'.toList
  | [], qs, cs, cs', C, hp, hc, h => by
    cases hp
    simp only [fillL, Option.some.injEq] at h
    subst h
    exact ⟨C, rfl, hc⟩
  | (i, a) :: r, qs, cs, cs', C, hp, hc, h => by
    cases hp with
    | cons ha hr =>
      rename_i x s
      simp only [fillL] at h
      cases hpl : place i with
      | none => rw [hpl] at h; cases h
      | some os =>
        obtain ⟨off, size⟩ := os
        rw [hpl] at h
        dsimp only at h
        cases h1 : Nat.beq a.cells.length size with
        | false => rw [h1] at h; cases h
        | true =>
          rw [h1] at h
          dsimp only at h
          cases h2 : Nat.ble (off + size) cs.length with
          | false => rw [h2] at h; cases h
          | true =>
            rw [h2] at h
            dsimp only at h
            have hxc := AV.cells_real ha
            have hl1 := reals_len hxc
            have hl2 := reals_len hc
            rw [Array.length_toList (xs := x.cells)] at hl1
            rw [Array.length_toList (xs := C)] at hl2
            have e1 := Nat.eq_of_beq_eq_true h1
            have e2 := Nat.le_of_ble_eq_true h2
            have hsz : x.cells.size = size := by omega
            have hle : off + x.cells.size ≤ C.size := by omega
            have hsp : (x.cells.zipIdx.foldl (fun cs (c, j) => cs.setIfInBounds (off + j) c) C).toList = C.toList.take off ++ x.cells.toList ++ C.toList.drop (off + size) := by
              have := foldl_splice x.cells.toList 0 off C (by rw [Array.length_toList]; omega)
              rw [Nat.add_zero, Array.length_toList, hsz] at this
              rw [← this, ← Array.foldl_toList, Array.toList_zipIdx]
            have hcs : AV.reals ρ (cs.take off ++ a.cells ++ cs.drop (off + size)) = some (x.cells.zipIdx.foldl (fun cs (c, j) => cs.setIfInBounds (off + j) c) C).toList := by
              rw [hsp]
              exact reals_append (reals_append (reals_take off hc) hxc) (reals_drop (off + size) hc)
            obtain ⟨C', hC', hr'⟩ := fillL_fill place r s _ cs' _ hr hcs h
            refine ⟨C', ?_, hr'⟩
            simp only [Instr.fill, hpl]
            rw [if_neg (by simp; omega)]
            exact hC'
end Go.Proofs.Ytcakdjnnfonijaa
namespace Go.Proofs.Ytcakdjnnfonijaa
open Go.RowKit

inductive R where
  | bad
  | val (v : AV) (h : Hp)
  | skip (h : Hp)
  | enter (f : FuncId) (args : List AV)
  | round (id : Nat) (args : List AV)
  | alts (l : List (AV × Hp))
def OpR (P : Program) (ρ : Env) (base : Kp) (w0 : World) (s : Sem Next) (w : World) : R → Prop
  | .bad => True
  | .val v h' => ∃ ρ' w' x, s.run P w = .ok (.value x) w' ∧ v.real ρ' = some x ∧ Env.le ρ ρ' ∧ Emb ρ' base w0 h' w'
  | .skip h' => ∃ ρ' w', s.run P w = .ok .skip w' ∧ Env.le ρ ρ' ∧ Emb ρ' base w0 h' w'
  | .enter f args => ∃ xs : Array Value, s.run P w = .ok (.enter f xs) w ∧ AV.reals ρ args = some xs.toList
  | .round id args => ∃ (l : Loc) (xs : Array Value), ρ id = some l ∧ s.run P w = (Instr.yield l.blk xs).run P w ∧ AV.reals ρ args = some xs.toList
  | .alts l => ∃ p ∈ l, ∃ ρ' w' x, s.run P w = .ok (.value x) w' ∧ p.1.real ρ' = some x ∧ Env.le ρ ρ' ∧ Emb ρ' base w0 p.2 w'
theorem OpR.ofDoes {P : Program} {ρ : Env} {base : Kp} {w0 : World} {s : Sem Value} {w : World} {v : AV} {h' : Hp} (D : Does P ρ base w0 s w v h') : OpR P ρ base w0 (do pure (.value (← s))) w (.val v h') := by
  obtain ⟨ρ', w', x, h1, h2⟩ := D
  refine ⟨ρ', w', x, ?_, h2⟩
  rw [Sem.run_bind, h1]
  rfl
theorem plains_real (ρ : Env) : ∀ (cz : List AV) (xs : List Value), AV.plain.AV.plains cz = some xs → AV.reals ρ cz = some xs
  | [], xs, h => by cases h; rfl
  | a :: r, xs, h => by
    cases a with
    | v x =>
      simp only [AV.plain.AV.plains, Option.map_eq_some_iff] at h
      obtain ⟨l, hl, rfl⟩ := h
      simp [AV.reals, AV.real, plains_real ρ r l hl]
    | _ => cases h
theorem plain_real (ρ : Env) (a : AV) (x : Value) (h : a.plain = some x) : a.real ρ = some x := by
  cases a with
  | v y => exact h
  | agg cs =>
    simp only [AV.plain, Option.map_eq_some_iff] at h
    obtain ⟨l, hl, rfl⟩ := h
    simp [AV.real, plains_real ρ cs l hl]
  | flat n N => exact h
  | ifc t b =>
    cases b with
    | v y => simp only [AV.plain, Option.some.injEq] at h; subst h; rfl
    | _ => cases h
  | _ => cases h
def Oper.isSelect (o : Oper) : Bool := match o.op with
  | .select _ _ => true
  | .defer _ => true
  | _ => false
theorem not_defer {o : Oper} (h : Oper.isSelect o = false) (c : Call) : o.op ≠ .defer c := fun e => by
  unfold Oper.isSelect at h
  rw [e] at h
  cases h
theorem not_select {o : Oper} (h : Oper.isSelect o = false) (cs : Array SelectCase) (b : Bool) : o.op ≠ .select cs b := fun e => by
  unfold Oper.isSelect at h
  rw [e] at h
  cases h
noncomputable def plainIn (f : Fr) (x : Operand) : Value := ((evA f x).plain).getD undef
noncomputable def allPlain (f : Fr) : List Operand → Bool
  | [] => true
  | x :: r => match (evA f x).plain with
    | some _ => allPlain f r
    | none => false
theorem allPlain_spec {ρ : Env} {f : Fr} {a : Act} (hf : FrR ρ f a) : ∀ (xs : List Operand), allPlain f xs = true → ∀ x ∈ xs, a.eval x = plainIn f x
  | [], _, x, hx => by simp at hx
  | y :: r, h, x, hx => by
    simp only [allPlain] at h
    split at h
    · rename_i v hv
      rcases List.mem_cons.1 hx with rfl | hx
      · unfold plainIn
        rw [hv]
        have := plain_real ρ _ _ hv
        rw [evA_real hf x] at this
        exact Option.some.inj this
      · exact allPlain_spec hf r h x hx
    · cases h
noncomputable def evPlain (P : Program) (f : Fr) (h : Hp) (o : Oper) : R := match Oper.isSelect o with
  | true => .bad
  | false => match allPlain f o.op.operands.toList with
    | false => .bad
    | true => match runS P (execOp (plainIn f) o) with
      | some (.value v) => .val (.v v) h
      | some .skip => .skip h
      | some (.enter g xs) => .enter g (xs.toList.map .v)
      | _ => .bad
theorem evPlain_ok {P : Program} {ρ : Env} {base : Kp} {w0 : World} {h : Hp} {w : World} (E : Emb ρ base w0 h w) {f : Fr} {a : Act} (hf : FrR ρ f a) (o : Oper) : OpR P ρ base w0 (execOp a.eval o) w (evPlain P f h o) := by
  unfold evPlain
  split
  · trivial
  · rename_i hs
    split
    · trivial
    · rename_i hp
      have hc : execOp a.eval o = execOp (plainIn f) o := execOp_congr o (not_select hs) fun x hx => allPlain_spec hf _ hp x (by simpa using hx)
      rw [hc]
      split
      · rename_i v hr
        exact ⟨ρ, w, v, runS_run _ _ w hr, rfl, Env.le_refl ρ, E⟩
      · rename_i hr
        exact ⟨ρ, w, runS_run _ _ w hr, Env.le_refl ρ, E⟩
      · rename_i g xs hr
        exact ⟨xs, runS_run _ _ w hr, reals_v ρ _⟩
      · trivial
end Go.Proofs.Ytcakdjnnfonijaa
namespace Go.Proofs.Ytcakdjnnfonijaa
open Go.RowKit

/-- A value's work that leaves the world as it is. -/
def Gives (P : Program) (ρ : Env) (s : Sem Value) (w : World) (v : AV) : Prop := ∃ x, s.run P w = .ok x w ∧ v.real ρ = some x
theorem Gives.does {P : Program} {ρ : Env} {base : Kp} {w0 : World} {h : Hp} {w : World} (E : Emb ρ base w0 h w) {s : Sem Value} {v : AV} (G : Gives P ρ s w v) : Does P ρ base w0 s w v h :=
  let ⟨_, h1, h2⟩ := G; does_pure E h1 h2

theorem evLoad_gives {P : Program} {ρ : Env} {base : Kp} {w0 : World} {h : Hp} {w : World} (E : Emb ρ base w0 h w) {t : TypeId} {a v : AV} {x : Value} (ha : a.real ρ = some x) (hv : evLoad P h t a = some v) : Gives P ρ (Instr.loadAt t x) w v := by
  unfold evLoad at hv
  split at hv
  · rename_i id off
    simp only [AV.real, Option.map_eq_some_iff] at ha
    obtain ⟨l, hl, rfl⟩ := ha
    split at hv
    · rename_i tr n elem opn hg
      split at hv
      · rename_i d hd
        split at hv
        · rename_i hag
          split at hv
          · rename_i i hi
            simp only [Option.map_eq_some_iff] at hv
            obtain ⟨cz, has, rfl⟩ := hv
            obtain ⟨xs, h1, h2, h3, h4⟩ := E.loadsRun (P := P) hg hl (readC_ok has)
            refine ⟨.agg xs.toArray, ?_, ck_real h1⟩
            simp [Instr.loadAt, Instr.sureAddr, loadVar, Sem.run_bind, run_isAgg hd, hag, sizeOf, typeInfo, hi, h4]
          · cases hv
        · rename_i hag
          obtain ⟨x, hx, hc, _⟩ := E.load hg hl hv
          refine ⟨x, ?_, hx⟩
          simp [Instr.loadAt, Instr.sureAddr, loadVar, Sem.run_bind, run_isAgg hd, hag, load, Sem.run, hc]
      · cases hv
    · cases hv
  · cases hv

noncomputable def evExtract (a : AV) (ix : Nat) : Option AV := match a with
  | .tup vs => vs[ix]?
  | _ => none
theorem evExtract_ok {P : Program} {ρ : Env} {a v : AV} {x : Value} {ix : Nat} (w : World) (ha : a.real ρ = some x) (h : evExtract a ix = some v) : Gives P ρ (Instr.extract x ix) w v := by
  unfold evExtract at h
  split at h
  · rename_i vs
    simp only [AV.real, Option.map_eq_some_iff] at ha
    obtain ⟨l, hl, rfl⟩ := ha
    obtain ⟨y, hy, hj⟩ := reals_at hl ix v h
    refine ⟨y, ?_, hy⟩
    have : l.toArray[ix]? = some y := by simpa using hj
    simp [Instr.extract, this]
  · cases h

noncomputable def evPart (P : Program) (t : TypeId) (cs : List AV) (off : Nat) : Option AV := match P.underlying t with
  | some d => match isAggD d with
    | true => match P.info? t with
      | some i => some (.agg ((cs.drop off).take i.size))
      | none => none
    | false => cs[off]?
  | none => none
theorem evPart_ok {P : Program} {ρ : Env} {t : TypeId} {cs : List AV} {C : Array Value} {off : Nat} {v : AV} (w : World) (hc : AV.reals ρ cs = some C.toList) (h : evPart P t cs off = some v) : Gives P ρ (part t C off) w v := by
  unfold evPart at h
  split at h
  · rename_i d hd
    split at h
    · rename_i hag
      split at h
      · rename_i i hi
        obtain rfl := Option.some.inj h
        refine ⟨.agg (C.extract off (off + i.size)), ?_, ?_⟩
        · simp [part, Sem.run_bind, run_isAgg hd, hag, sizeOf, typeInfo, hi]
        · have := reals_take i.size (reals_drop off hc)
          simp only [AV.real, this, Option.map_some, Option.some.injEq, Value.agg.injEq]
          apply Array.ext'
          simp
      · cases h
    · rename_i hag
      obtain ⟨y, hy, hj⟩ := reals_at hc off v h
      refine ⟨y, ?_, hy⟩
      have : C[off]? = some y := by simpa using hj
      simp [part, Sem.run_bind, run_isAgg hd, hag, this]
  · cases h
/-- A part of packed cells. -/
noncomputable def evPartF (P : Program) (t : TypeId) (n N off : Nat) : Option AV := match P.underlying t with
  | some d => match isAggD d with
    | true => match P.info? t with
      | some i => match Nat.ble (Nat.add off i.size) n with
        | true => some (.flat i.size (chunkN N off i.size))
        | false => none
      | none => none
    | false => match Nat.blt off n with
      | true => some (unpackA (cellN N off))
      | false => none
  | none => none
theorem evPartF_ok {P : Program} {ρ : Env} {t : TypeId} {n N off : Nat} {v : AV} (w : World) (h : evPartF P t n N off = some v) : Gives P ρ (part t (unpackL n N).toArray off) w v := by
  unfold evPartF at h
  split at h
  · rename_i d hd
    split at h
    · rename_i hag
      split at h
      · rename_i i hi
        split at h
        case h_2 => cases h
        rename_i hle
        have hle : off + i.size ≤ n := Nat.le_of_ble_eq_true hle
        obtain rfl := Option.some.inj h
        refine ⟨.agg ((unpackL n N).toArray.extract off (off + i.size)), ?_, ?_⟩
        · simp [part, Sem.run_bind, run_isAgg hd, hag, sizeOf, typeInfo, hi]
        · simp only [AV.real, Option.some.injEq, Value.agg.injEq]
          apply Array.ext'
          apply List.ext_getElem?
          intro j
          simp only [List.toList_toArray, List.extract_toArray, List.extract_eq_take_drop, Nat.add_sub_cancel_left]
          rw [List.getElem?_take]
          by_cases hj : j < i.size
          · rw [if_pos hj, List.getElem?_drop, unpackL_get _ _ _ hj, unpackL_get _ _ _ (by omega), cellN_chunk _ _ _ _ hj]
          · rw [if_neg hj, List.getElem?_eq_none (by rw [unpackL_len]; omega)]
      · cases h
    · rename_i hag
      split at h
      case h_2 => cases h
      rename_i hlt
      rw [blt_eq] at hlt
      have hlt := of_decide_eq_true hlt
      obtain rfl := Option.some.inj h
      refine ⟨unpackV (cellN N off), ?_, by rw [unpackA_eq]; rfl⟩
      have : (unpackL n N).toArray[off]? = some (unpackV (cellN N off)) := by rw [List.getElem?_toArray]; exact unpackL_get _ _ _ hlt
      simp [part, Sem.run_bind, run_isAgg hd, hag, this]
  · cases h
noncomputable def evField (P : Program) (t : TypeId) (a : AV) (ix : Nat) : Option AV := match a with
  | .agg cs => match P.underlying t with
    | some (.struct fields) => match fields[ix]? with
      | some f => evPart P f.type cs f.offset
      | none => none
    | _ => none
  | .flat n N => match P.underlying t with
    | some (.struct fields) => match fields[ix]? with
      | some f => evPartF P f.type n N f.offset
      | none => none
    | _ => none
  | _ => none
theorem evField_ok {P : Program} {ρ : Env} {t : TypeId} {a v : AV} {x : Value} {ix : Nat} (w : World) (ha : a.real ρ = some x) (h : evField P t a ix = some v) : Gives P ρ (Instr.field t x ix) w v := by
  unfold evField at h
  split at h
  · rename_i cs
    simp only [AV.real, Option.map_eq_some_iff] at ha
    obtain ⟨l, hl, rfl⟩ := ha
    split at h
    · rename_i fields hd
      split at h
      · rename_i f hf
        obtain ⟨y, h1, h2⟩ := evPart_ok (C := l.toArray) w (by simpa using hl) h
        refine ⟨y, ?_, h2⟩
        simp [Instr.field, Sem.run_bind, run_underlying hd, hf, asAgg, h1]
      · cases h
    · cases h
  · rename_i n N
    obtain rfl := Option.some.inj ha
    split at h
    · rename_i fields hd
      split at h
      · rename_i f hf
        obtain ⟨y, h1, h2⟩ := evPartF_ok (ρ := ρ) w h
        refine ⟨y, ?_, h2⟩
        simp [Instr.field, Sem.run_bind, run_underlying hd, hf, asAgg, h1]
      · cases h
    · cases h
  · cases h
def evIface (P : Program) (t : TypeId) (a : AV) : Option AV := match P.underlying t with
  | some (.interface _) => none
  | some _ => some (.ifc t a)
  | none => none
theorem evIface_ok {P : Program} {ρ : Env} {t : TypeId} {a v : AV} {x : Value} (w : World) (ha : a.real ρ = some x) (h : evIface P t a = some v) : Gives P ρ (Instr.makeInterface t x) w v := by
  unfold evIface at h
  split at h
  · cases h
  · rename_i d hn hd
    obtain rfl := Option.some.inj h
    refine ⟨.iface t x, ?_, by simp [AV.real, ha]⟩
    unfold Instr.makeInterface
    rw [Sem.run_bind, run_underlying hd]
    cases d <;> first | rfl | exact (hn _ rfl).elim
  · cases h
noncomputable def evFn (f : Fr) (fn : Fn) (first captured : Array Operand) : AV := .fn fn (evAs f first.toList) (evAs f captured.toList)
theorem evFn_ok {P : Program} {ρ : Env} {f : Fr} {a : Act} (hf : FrR ρ f a) (w : World) (fn : Fn) (first captured : Array Operand) : Gives P ρ (Instr.makeFunc fn (first.map a.eval) (captured.map a.eval)) w (evFn f fn first captured) := by
  refine ⟨.func fn (first.map a.eval) (captured.map a.eval), rfl, ?_⟩
  simp only [evFn, AV.real, evAs_real hf, Option.bind_some, Option.map_some, Option.some.injEq, Value.func.injEq, true_and]
  exact ⟨by apply Array.ext'; simp, by apply Array.ext'; simp⟩
def evHolds (ok : Bool) (v : AV) : AV := match ok with
  | true => .tup [v, .v (.bool true)]
  | false => v
def evAssert (P : Program) (a : AV) (asserted : TypeId) (ok : Bool) : Option AV := match a with
  | .ifc t v => match P.underlying asserted with
    | some (.interface want) => match P.info? t with
      | some i => match Instr.missingMethod want i.methods with
        | none => some (evHolds ok a)
        | some _ => none
      | none => none
    | some _ => match Nat.beq t asserted with
      | true => some (evHolds ok v)
      | false => match ok with
        | true => match P.info? asserted with
          | some i => match i.zero with
            | some z => some (.tup [.v z, .v (.bool false)])
            | none => none
          | none => none
        | false => none
    | none => none
  | _ => none
theorem evHolds_real {ρ : Env} {v : AV} {y : Value} (h : v.real ρ = some y) (ok : Bool) : (evHolds ok v).real ρ = some (if ok then .tuple #[y, .bool true] else y) := by
  cases ok with
  | true => simp [evHolds, AV.real, AV.reals, h]
  | false => simpa [evHolds] using h
theorem evAssert_ok {P : Program} {ρ : Env} {a v : AV} {x : Value} (w : World) (xType asserted : TypeId) (ok : Bool) (ha : a.real ρ = some x) (h : evAssert P a asserted ok = some v) : Gives P ρ (Instr.typeAssert x xType asserted ok) w v := by
  unfold evAssert at h
  split at h
  · rename_i t b
    have ha0 := ha
    simp only [AV.real, Option.map_eq_some_iff] at ha
    obtain ⟨y, hy, rfl⟩ := ha
    split at h
    · rename_i want hd
      split at h
      · rename_i i hi
        split at h
        · rename_i hm
          obtain rfl := Option.some.inj h
          refine ⟨_, ?_, evHolds_real ha0 ok⟩
          unfold Instr.typeAssert
          rw [Sem.run_bind, run_underlying hd]
          simp [Sem.run_bind, typeInfo, hi, hm]
        · cases h
      · cases h
    · rename_i d hn hd
      split at h
      · rename_i he
        obtain rfl := Nat.eq_of_beq_eq_true he
        obtain rfl := Option.some.inj h
        refine ⟨_, ?_, evHolds_real hy ok⟩
        unfold Instr.typeAssert
        rw [Sem.run_bind, run_underlying hd]
        cases d <;> first | (exact (hn _ rfl).elim) | simp
      · rename_i he
        have hne : t ≠ asserted := fun e => by rw [e] at he; simp at he
        split at h
        · split at h
          · rename_i i hi
            split at h
            · rename_i z hz
              obtain rfl := Option.some.inj h
              refine ⟨.tuple #[z, .bool false], ?_, by simp [AV.real, AV.reals]⟩
              unfold Instr.typeAssert
              rw [Sem.run_bind, run_underlying hd]
              cases d <;> first | (exact (hn _ rfl).elim) | simp [hne, Sem.run_bind, zeroValue, typeInfo, hi, hz]
            · cases h
          · cases h
        · cases h
    · cases h
  · cases h
def evFieldAddr (P : Program) (s : TypeId) (a : AV) (ix : Nat) : Option AV := match a with
  | .ptr id off => match P.underlying s with
    | some (.struct fields) => match fields[ix]? with
      | some f => match P.info? f.type with
        | some i => match Nat.beq i.size 0 with
          | true => none
          | false => some (.ptr id (off + f.offset))
        | none => none
      | none => none
    | _ => none
  | _ => none
theorem evFieldAddr_ok {P : Program} {ρ : Env} {s : TypeId} {a v : AV} {x : Value} {ix : Nat} (w : World) (ha : a.real ρ = some x) (h : evFieldAddr P s a ix = some v) : Gives P ρ (Instr.fieldAt s x ix) w v := by
  unfold evFieldAddr at h
  split at h
  · rename_i id off
    simp only [AV.real, Option.map_eq_some_iff] at ha
    obtain ⟨l, hl, rfl⟩ := ha
    split at h
    · rename_i fields hd
      split at h
      · rename_i f hf
        split at h
        · rename_i i hi
          split at h
          · cases h
          · rename_i hz
            obtain rfl := Option.some.inj h
            have hne : i.size ≠ 0 := fun e => by rw [e] at hz; cases hz
            refine ⟨.pointer (some ⟨l.blk, l.off + (off + f.offset), none⟩), ?_, by simp [AV.real, hl]⟩
            simp [Instr.fieldAt, Sem.run_bind, run_underlying hd, hf, Instr.sureAddr, fieldPlace, sizeOf, typeInfo, hi, hne, Addr.add_plain, Nat.add_assoc]
        · cases h
      · cases h
    · cases h
  · cases h
theorem run_size {P : Program} {t : TypeId} {i : TypeInfo} (h : P.info? t = some i) (w : World) : (sizeOf t).run P w = .ok i.size w := by
  simp [sizeOf, typeInfo, h, Sem.run_bind]
def evIndexAddr (P : Program) (t : TypeId) (a ix : AV) : Option AV := match ix with
  | .v (.int _ (.ofNat i)) => match P.underlying t, a with
    | some (.slice elem), .slc id off len _ _ => match Nat.blt i len with
      | true => match P.info? elem with
        | some j => some (.ptr id (off + i * j.size))
        | none => none
      | false => none
    | some (.array len elem), .ptr id off => match Nat.blt i len with
      | true => match P.info? elem with
        | some j => some (.ptr id (off + i * j.size))
        | none => none
      | false => none
    | _, _ => none
  | _ => none
theorem evIndexAddr_ok {P : Program} {ρ : Env} {t : TypeId} {a ix v : AV} {x y : Value} (w : World) (ha : a.real ρ = some x) (hi : ix.real ρ = some y) (h : evIndexAddr P t a ix = some v) : Gives P ρ (Instr.indexAt t x y) w v := by
  unfold evIndexAddr at h
  split at h
  · rename_i k i
    simp only [AV.real, Option.some.injEq] at hi
    subst hi
    split at h
    · rename_i elem id off len cap ex hd
      simp only [AV.real, Option.map_eq_some_iff] at ha
      obtain ⟨l, hl, rfl⟩ := ha
      split at h
      · rename_i hlt
        rw [blt_eq] at hlt
        have hlt := of_decide_eq_true hlt
        split at h
        · rename_i j hj
          obtain rfl := Option.some.inj h
          refine ⟨.pointer (some ⟨l.blk, l.off + (off + i * j.size), none⟩), ?_, by simp [AV.real, hl]⟩
          have h1 : (0 : Int) ≤ Int.ofNat i ∧ Int.ofNat i < (len : Int) := ⟨Int.natCast_nonneg i, Int.ofNat_lt.2 hlt⟩
          have h2 : (Int.ofNat i).toNat = i := rfl
          simp only [Instr.indexAt, Sem.run_bind, run_underlying hd, asIntOf, Result.andThen_ok, Sem.run_pure, h1, and_self, if_true, run_size hj, h2, Addr.add_plain, Nat.add_assoc]
        · cases h
      · cases h
    · rename_i len elem id off hd
      simp only [AV.real, Option.map_eq_some_iff] at ha
      obtain ⟨l, hl, rfl⟩ := ha
      split at h
      · rename_i hlt
        rw [blt_eq] at hlt
        have hlt := of_decide_eq_true hlt
        split at h
        · rename_i j hj
          obtain rfl := Option.some.inj h
          refine ⟨.pointer (some ⟨l.blk, l.off + (off + i * j.size), none⟩), ?_, by simp [AV.real, hl]⟩
          have h1 : (0 : Int) ≤ Int.ofNat i ∧ Int.ofNat i < (len : Int) := ⟨Int.natCast_nonneg i, Int.ofNat_lt.2 hlt⟩
          have h2 : (Int.ofNat i).toNat = i := rfl
          simp only [Instr.indexAt, Sem.run_bind, run_underlying hd, asIntOf, Result.andThen_ok, Sem.run_pure, h1, and_self, if_true, run_size hj, h2, Addr.add_plain, Nat.add_assoc, Instr.sureAddr]
        · cases h
      · cases h
    · cases h
  · cases h
end Go.Proofs.Ytcakdjnnfonijaa
namespace Go.Proofs.Ytcakdjnnfonijaa
open Go.RowKit

def natOf : AV → Option Nat
  | .v (.int _ (.ofNat i)) => some i
  | _ => none
theorem natOf_real {ρ : Env} {a : AV} {x : Value} {i : Nat} (h : natOf a = some i) (ha : a.real ρ = some x) : ∃ k, x = .int k (i : Int) := by
  unfold natOf at h
  split at h
  · rename_i k j
    obtain rfl := Option.some.inj h
    simp only [AV.real, Option.some.injEq] at ha
    exact ⟨k, ha.symm⟩
  · cases h
noncomputable def boundOf (d top : Nat) : Option AV → Option Nat
  | none => some d
  | some a => match natOf a with
    | some i => match Nat.ble i top with
      | true => some i
      | false => none
    | none => none
theorem run_sliceBound {P : Program} (w : World) (k : IntKind) (i y : Nat) (c : BoundsCode) (h : i ≤ y) : (Instr.sliceBound (.int k (i : Int)) y c).run P w = .ok i w := by
  have h1 : (0 : Int) ≤ (i : Int) ∧ (i : Int) ≤ (y : Int) := ⟨Int.natCast_nonneg i, Int.ofNat_le.2 h⟩
  simp [Instr.sliceBound, asIntOf, h]
theorem bound_some {ρ : Env} {f : Fr} {a : Act} (hf : FrR ρ f a) {d top : Nat} {o : Option Operand} {i : Nat} (h : boundOf d top (o.map (evA f)) = some i) :
    (o.map a.eval = none ∧ i = d) ∨ ∃ k, o.map a.eval = some (.int k (i : Int)) ∧ i ≤ top := by
  cases o with
  | none => exact .inl ⟨rfl, (Option.some.inj h).symm⟩
  | some x =>
    simp only [Option.map_some, boundOf] at h
    split at h
    · rename_i j hj
      split at h
      · rename_i hle
        obtain rfl := Option.some.inj h
        obtain ⟨k, hk⟩ := natOf_real hj (evA_real hf x)
        exact .inr ⟨k, by rw [Option.map_some, hk], Nat.le_of_ble_eq_true hle⟩
      · cases h
    · cases h
theorem run_bounds2 {P : Program} {ρ : Env} {f : Fr} {a : Act} (hf : FrR ρ f a) (w : World) (isS : Bool) {len cap top l h : Nat} {lo hi : Option Operand} (hh : boundOf len top (hi.map (evA f)) = some h) (hl : boundOf 0 h (lo.map (evA f)) = some l) (hc : top ≤ cap) :
    (Instr.sliceBounds isS len cap (lo.map a.eval) (hi.map a.eval) none).run P w = .ok (l, h, cap) w := by
  unfold Instr.sliceBounds
  rcases bound_some hf hh with ⟨e1, rfl⟩ | ⟨k, e1, e2⟩ <;> rcases bound_some hf hl with ⟨e3, rfl⟩ | ⟨k', e3, e4⟩
  · rw [e1, e3]; rfl
  · rw [e1, e3]; simp [run_sliceBound _ _ _ _ _ e4]
  · rw [e1, e3]; simp [run_sliceBound _ _ _ _ _ (Nat.le_trans e2 hc)]
  · rw [e1, e3]; simp [Sem.run_bind, run_sliceBound _ _ _ _ _ (Nat.le_trans e2 hc), run_sliceBound _ _ _ _ _ e4]
theorem run_bounds3 {P : Program} {ρ : Env} {f : Fr} {a : Act} (hf : FrR ρ f a) (w : World) (isS : Bool) {len cap top l h m : Nat} {lo : Option Operand} {hi mx : Operand} (hm : boundOf 0 top (some (evA f mx)) = some m) (hh : boundOf 0 m (some (evA f hi)) = some h) (hl : boundOf 0 h (lo.map (evA f)) = some l) (hc : top ≤ cap) :
    (Instr.sliceBounds isS len cap (lo.map a.eval) (some (a.eval hi)) (some (a.eval mx))).run P w = .ok (l, h, m) w := by
  have hm' : boundOf 0 top ((some mx).map (evA f)) = some m := hm
  have hh' : boundOf 0 m ((some hi).map (evA f)) = some h := hh
  unfold Instr.sliceBounds
  rcases bound_some hf hm' with ⟨e, _⟩ | ⟨k0, e0, e00⟩
  · cases e
  rcases bound_some hf hh' with ⟨e, _⟩ | ⟨k, e1, e2⟩
  · cases e
  simp only [Option.map_some, Option.some.injEq] at e0 e1
  rw [e0, e1]
  rcases bound_some hf hl with ⟨e3, rfl⟩ | ⟨k', e3, e4⟩
  · rw [e3]; simp [Sem.run_bind, run_sliceBound _ _ _ _ _ e2, run_sliceBound _ _ _ _ _ (Nat.le_trans e00 hc)]
  · rw [e3]; simp [Sem.run_bind, run_sliceBound _ _ _ _ _ e2, run_sliceBound _ _ _ _ _ (Nat.le_trans e00 hc), run_sliceBound _ _ _ _ _ e4]
/-- A name for a place of which nothing is known. -/
theorem Emb.name {ρ : Env} {base : Kp} {w0 : World} {h : Hp} {w : World} (E : Emb ρ base w0 h w) (l : Loc) (hb : l.blk < w.heap.size) : Emb (ρ.add h.nx l) base w0 (h.new .gone) w := by
  have hn := E.fresh0
  have hgo : ∀ j, (h.new .gone).get j ≠ .gone → j ≠ h.nx ∧ h.get j ≠ .gone := fun j hj => by
    rw [Hp.get_new] at hj
    by_cases e : j = h.nx
    · rw [if_pos e] at hj; exact absurd rfl hj
    · rw [if_neg e] at hj; exact ⟨e, hj⟩
  refine ⟨E.below, E.bw, E.kept, fun j l0 hj => ?_, fun j hj => ?_, fun j j' l0 l0' hj hj' h0 h0' e => ?_⟩
  · unfold Env.add at hj
    by_cases e : j = h.nx
    · rw [if_pos e] at hj
      obtain rfl := Option.some.inj hj
      subst e
      exact ⟨Nat.lt_succ_self _, hb⟩
    · rw [if_neg e] at hj
      have := E.fresh j l0 hj
      exact ⟨Nat.lt_succ_of_lt this.1, this.2⟩
  · obtain ⟨e, hg⟩ := hgo j hj
    obtain ⟨l0, hl, hb0, hr0⟩ := E.live j hg
    refine ⟨l0, (by unfold Env.add; rw [if_neg e]; exact hl), hb0, ?_⟩
    rw [Hp.get_new, if_neg e]
    exact hr0.mono (Env.le_add hn)
  · obtain ⟨e1, hg1⟩ := hgo j hj
    obtain ⟨e2, hg2⟩ := hgo j' hj'
    unfold Env.add at h0 h0'
    rw [if_neg e1] at h0
    rw [if_neg e2] at h0'
    exact E.apart j j' l0 l0' hg1 hg2 h0 h0' e
noncomputable def evSlice (P : Program) (f : Fr) (h : Hp) (t : TypeId) (x : Operand) (lo hi mx : Option Operand) : Option (AV × Hp) := match P.underlying t, evA f x with
  | some (.slice elem), .slc id off len cap ex => match P.info? elem with
    | some i => match mx with
      | none => match boundOf len cap (hi.map (evA f)) with
        | some hh => match boundOf 0 hh (lo.map (evA f)) with
          | some l => match Nat.blt l cap with
            | true => some (.slc id (off + l * i.size) (hh - l) (cap - l) ex, h)
            | false => match Nat.beq l cap with
              | false => none
              | true => match ex with
                | true => some (.slc id off (hh - l) (cap - l) true, h)
                | false => some (.slc h.nx 0 (hh - l) 0 false, h.new .gone)
          | none => none
        | none => none
      | some mx => match hi with
        | none => none
        | some hi => match boundOf 0 cap (some (evA f mx)) with
          | some m => match boundOf 0 m (some (evA f hi)) with
            | some hh => match boundOf 0 hh (lo.map (evA f)) with
              | some l => match Nat.beq m l with
                | true => some (.slc id off (hh - l) (m - l) true, h)
                | false => some (.slc id (off + l * i.size) (hh - l) (m - l) true, h)
              | none => none
            | none => none
          | none => none
    | none => none
  | some (.array n elem), .ptr id off => match P.info? elem with
    | some i => match mx with
      | none => match boundOf n n (hi.map (evA f)) with
        | some hh => match boundOf 0 hh (lo.map (evA f)) with
          | some l => match Nat.beq n l with
            | true => some (.slc id off (hh - l) (n - l) true, h)
            | false => some (.slc id (off + l * i.size) (hh - l) (n - l) true, h)
          | none => none
        | none => none
      | some _ => none
    | none => none
  | _, _ => none
theorem evSlice_any {P : Program} {ρ : Env} {base : Kp} {w0 : World} {h h' : Hp} {w : World} (E : Emb ρ base w0 h w) {f : Fr} {a : Act} (hf : FrR ρ f a) {t : TypeId} {x : Operand} {lo hi mx : Option Operand} {v : AV} (hv : evSlice P f h t x lo hi mx = some (v, h')) :
    (Gives P ρ (Instr.sliceAt t (a.eval x) (lo.map a.eval) (hi.map a.eval) (mx.map a.eval)) w v ∧ h' = h) ∨ (Does P ρ base w0 (Instr.sliceAt t (a.eval x) (lo.map a.eval) (hi.map a.eval) (mx.map a.eval)) w v h' ∧ ∃ n, v = .slc h.nx 0 n 0 false) := by
  have hx := evA_real hf x
  unfold evSlice at hv
  split at hv
  · rename_i elem id off len cap ex hd he
    rw [he] at hx
    simp only [AV.real, Option.map_eq_some_iff] at hx
    obtain ⟨l0, hl0, hx⟩ := hx
    rw [← hx]
    have hrl : cap ≤ (if ex = true then cap else cap + l0.extra) := by split <;> omega
    split at hv
    · rename_i i hi0
      split at hv
      · split at hv
        · rename_i hh hhe
          split at hv
          · rename_i l hle
            have hb := run_bounds2 (P := P) hf w true hhe hle hrl
            have hrun : ∀ y, (Value.slice (if (if ex = true then cap else cap + l0.extra) = l then some ⟨l0.blk, l0.off + off, none⟩ else Option.map (fun x : Addr => x.add (l * i.size)) (some (⟨l0.blk, l0.off + off, none⟩ : Addr))) (hh - l) ((if ex = true then cap else cap + l0.extra) - l)) = y →
                (Instr.sliceAt t (.slice (some ⟨l0.blk, l0.off + off, none⟩) len (if ex = true then cap else cap + l0.extra)) (lo.map a.eval) (hi.map a.eval) (none : Option Value)).run P w = .ok y w := fun y hy => by
              rw [← hy]
              simp only [Instr.sliceAt, Sem.run_bind, run_underlying hd, Result.andThen_ok, Instr.slice, hb, run_size hi0, Sem.run_pure]
            split at hv
            · rename_i hlt
              rw [blt_eq] at hlt
              have hlt := of_decide_eq_true hlt
              obtain ⟨rfl, rfl⟩ := Prod.mk.inj (Option.some.inj hv)
              refine .inl ⟨⟨_, hrun _ rfl, ?_⟩, rfl⟩
              rw [if_neg (by omega)]
              simp only [AV.real, hl0, Option.map_some, Addr.add_plain, Nat.add_assoc, Option.some.injEq, Value.slice.injEq, true_and]
              split <;> omega
            · split at hv
              · cases hv
              · rename_i heq
                have heq := Nat.eq_of_beq_eq_true heq
                split at hv
                · obtain ⟨rfl, rfl⟩ := Prod.mk.inj (Option.some.inj hv)
                  refine .inl ⟨⟨_, hrun _ rfl, ?_⟩, rfl⟩
                  rw [if_pos (by simp; exact heq.symm)]
                  simp [AV.real, hl0]
                · obtain ⟨rfl, rfl⟩ := Prod.mk.inj (Option.some.inj hv)
                  have hfr := E.fresh id l0 hl0
                  refine .inr ⟨⟨ρ.add h.nx ⟨l0.blk, (if cap + l0.extra = l then l0.off + off else l0.off + off + l * i.size), l0.extra⟩, w, _, hrun _ rfl, ?_, Env.le_add E.fresh0, E.name _ hfr.2⟩, _, rfl⟩
                  simp only [AV.real, add_self, Option.map_some, Option.some.injEq, Value.slice.injEq, Bool.false_eq_true, if_false, Nat.add_zero, Nat.zero_add, true_and]
                  refine ⟨?_, by omega⟩
                  split <;> simp [Addr.add_plain]
          · cases hv
        · cases hv
      · rename_i mx0
        split at hv
        · cases hv
        · rename_i hi1
          split at hv
          · rename_i m hme
            split at hv
            · rename_i hh hhe
              split at hv
              · rename_i l hle
                have hb := run_bounds3 (P := P) (len := len) hf w true hme hhe hle hrl
                have hrun : ∀ y, (Value.slice (if m = l then some ⟨l0.blk, l0.off + off, none⟩ else Option.map (fun x : Addr => x.add (l * i.size)) (some (⟨l0.blk, l0.off + off, none⟩ : Addr))) (hh - l) (m - l)) = y →
                    (Instr.sliceAt t (.slice (some ⟨l0.blk, l0.off + off, none⟩) len (if ex = true then cap else cap + l0.extra)) (lo.map a.eval) (some (a.eval hi1)) (some (a.eval mx0))).run P w = .ok y w := fun y hy => by
                  rw [← hy]
                  simp only [Instr.sliceAt, Sem.run_bind, run_underlying hd, Result.andThen_ok, Instr.slice, hb, run_size hi0, Sem.run_pure]
                split at hv
                · rename_i heq
                  have heq := Nat.eq_of_beq_eq_true heq
                  obtain ⟨rfl, rfl⟩ := Prod.mk.inj (Option.some.inj hv)
                  refine .inl ⟨⟨_, hrun _ rfl, ?_⟩, rfl⟩
                  rw [if_pos heq]
                  simp [AV.real, hl0]
                · rename_i heq
                  obtain ⟨rfl, rfl⟩ := Prod.mk.inj (Option.some.inj hv)
                  have hne : m ≠ l := fun e => by rw [e] at heq; simp at heq
                  refine .inl ⟨⟨_, hrun _ rfl, ?_⟩, rfl⟩
                  rw [if_neg hne]
                  simp [AV.real, hl0, Addr.add_plain, Nat.add_assoc]
              · cases hv
            · cases hv
          · cases hv
    · cases hv
  · rename_i n elem id off hd he
    rw [he] at hx
    simp only [AV.real, Option.map_eq_some_iff] at hx
    obtain ⟨l0, hl0, hx⟩ := hx
    rw [← hx]
    split at hv
    · rename_i i hi0
      split at hv
      · split at hv
        · rename_i hh hhe
          split at hv
          · rename_i l hle
            have hb := run_bounds2 (P := P) hf w false hhe hle (Nat.le_refl _)
            have hrun : ∀ y, (Value.slice (some (if n = l then (⟨l0.blk, l0.off + off, none⟩ : Addr) else (⟨l0.blk, l0.off + off, none⟩ : Addr).add (l * i.size))) (hh - l) (n - l)) = y →
                (Instr.sliceAt t (.pointer (some ⟨l0.blk, l0.off + off, none⟩)) (lo.map a.eval) (hi.map a.eval) (none : Option Value)).run P w = .ok y w := fun y hy => by
              rw [← hy]
              simp only [Instr.sliceAt, Sem.run_bind, run_underlying hd, Result.andThen_ok, Instr.sureAddr, hb, run_size hi0, Sem.run_pure]
            split at hv
            · rename_i heq
              have heq := Nat.eq_of_beq_eq_true heq
              obtain ⟨rfl, rfl⟩ := Prod.mk.inj (Option.some.inj hv)
              refine .inl ⟨⟨_, hrun _ rfl, ?_⟩, rfl⟩
              rw [if_pos heq]
              simp [AV.real, hl0]
            · rename_i heq
              obtain ⟨rfl, rfl⟩ := Prod.mk.inj (Option.some.inj hv)
              have hne : n ≠ l := fun e => by rw [e] at heq; simp at heq
              refine .inl ⟨⟨_, hrun _ rfl, ?_⟩, rfl⟩
              rw [if_neg hne]
              simp [AV.real, hl0, Addr.add_plain, Nat.add_assoc]
          · cases hv
        · cases hv
      · cases hv
    · cases hv
  · cases hv
theorem evSlice_ok {P : Program} {ρ : Env} {base : Kp} {w0 : World} {h h' : Hp} {w : World} (E : Emb ρ base w0 h w) {f : Fr} {a : Act} (hf : FrR ρ f a) {t : TypeId} {x : Operand} {lo hi mx : Option Operand} {v : AV} (hv : evSlice P f h t x lo hi mx = some (v, h')) :
    Does P ρ base w0 (Instr.sliceAt t (a.eval x) (lo.map a.eval) (hi.map a.eval) (mx.map a.eval)) w v h' := by
  rcases evSlice_any E hf hv with ⟨h1, rfl⟩ | ⟨h1, _⟩
  · exact h1.does E
  · exact h1
def evNilCheck (a : AV) : Option AV := match a with
  | .ptr id off => some (.ptr id off)
  | .fn (.func g) x y => some (.fn (.func g) x y)
  | .ifc t x => some (.ifc t x)
  | _ => none
noncomputable def evLen (P : Program) (h : Hp) (t : TypeId) (a : AV) : Option AV := match P.underlying t, a with
  | some (.slice _), .slc _ _ len _ _ => some (.v (.int .i64 (len : Nat)))
  | some (.map _ _), .mp id => match h.get id with
    | .map es _ => some (.v (.int .i64 (es.length : Nat)))
    | _ => none
  | _, _ => none
theorem all2_len {α β : Type} {R : α → β → Prop} {xs : List α} {ys : List β} (h : All2 R xs ys) : ys.length = xs.length := by
  induction h with
  | nil => rfl
  | cons _ _ ih => simp [ih]
theorem Emb.map {ρ : Env} {base : Kp} {w0 : World} {h : Hp} {w : World} (E : Emb ρ base w0 h w) {id : Nat} {es : List (AV × AV × Nat)} {clock : Nat} (hg : h.get id = .map es clock) :
    ∃ l es', ρ id = some l ∧ base.ok l.blk ∧ w.heap[l.blk]? = some (.map es' clock) ∧ All2 (entR ρ) es es'.toList := by
  obtain ⟨l, hl, hb, hr⟩ := E.live id (by rw [hg]; exact fun e => by cases e)
  rw [hg] at hr
  obtain ⟨es', h1, h2⟩ := hr
  exact ⟨l, es', hl, hb, h1, h2⟩
theorem run_getMap {P : Program} {w : World} {b c : Nat} {es : Array MapEntry} (h : w.heap[b]? = some (.map es c)) : (getObj b).run P w = .ok (.map es c) w := by
  simp [getObj, Sem.run, h]
theorem evLen_ok {P : Program} {ρ : Env} {base : Kp} {w0 : World} {h : Hp} {w : World} (E : Emb ρ base w0 h w) {t : TypeId} {a v : AV} {x : Value} (ty : TypeId) (ats : Array TypeId) (hat : ats[0]? = some t) (args : Array Value) (harg : args[0]? = some x) (ha : a.real ρ = some x) (hv : evLen P h t a = some v) :
    Gives P ρ (Builtin.len_ ats ty args) w v := by
  unfold evLen at hv
  split at hv
  · rename_i e id off len cap ex hd
    obtain rfl := Option.some.inj hv
    simp only [AV.real, Option.map_eq_some_iff] at ha
    obtain ⟨l, hl, rfl⟩ := ha
    refine ⟨_, ?_, rfl⟩
    simp [Builtin.len_, hat, harg, Sem.run_bind, run_underlying hd, goInt]
  · rename_i k e id hd
    simp only [AV.real, Option.map_eq_some_iff] at ha
    obtain ⟨l, hl, rfl⟩ := ha
    split at hv
    · rename_i es clock hg
      obtain rfl := Option.some.inj hv
      obtain ⟨l', es', hl', _, ho, hr⟩ := E.map hg
      obtain rfl := Option.some.inj (hl.symm.trans hl')
      refine ⟨_, ?_, rfl⟩
      have := all2_len hr
      simp [Builtin.len_, hat, harg, Sem.run_bind, run_underlying hd, goInt, run_getMap ho]
      rw [← this]; simp
    · cases hv
  · cases hv
end Go.Proofs.Ytcakdjnnfonijaa
namespace Go.Proofs.Ytcakdjnnfonijaa
open Go.RowKit

noncomputable def partsA (f : Fr) : List (Nat × Operand) → List (Nat × AV)
  | [] => []
  | p :: r => (p.1, evA f p.2) :: partsA f r
theorem partsA_R {ρ : Env} {f : Fr} {a : Act} (hf : FrR ρ f a) : ∀ ps : List (Nat × Operand), PartsR ρ (partsA f ps) (ps.map fun (i, x) => (i, a.eval x))
  | [] => .nil
  | p :: r => .cons (evA_real hf p.2) (partsA_R hf r)
/-- Parts are laid into packed cells. -/
noncomputable def fillN (place : Nat → Option (Nat × Nat)) (n : Nat) : List (Nat × AV) → Nat → Option Nat
  | [], N => some N
  | (i, v) :: r, N => match place i with
    | none => none
    | some (off, size) => match Nat.ble (off + size) n with
      | false => none
      | true => match v.ck with
        | .p k M => match Nat.beq k size with
          | true => fillN place n r (spliceN N off size M)
          | false => none
        | .l cs => match Nat.beq cs.length size with
          | true => match packL cs with
            | some M => fillN place n r (spliceN N off size M)
            | none => none
          | false => none
theorem unpackL_splice {n N off k M : Nat} (h : off + k ≤ n) : (unpackL n (spliceN N off k M)).map AV.v = ((unpackL n N).map AV.v).take off ++ (unpackL k M).map AV.v ++ ((unpackL n N).map AV.v).drop (off + k) := by
  have e : unpackL n (spliceN N off k M) = (unpackL n N).take off ++ unpackL k M ++ (unpackL n N).drop (off + (unpackL k M).length) := by
    apply List.ext_getElem?
    intro j
    rw [splice_get _ _ _ _ (by rw [unpackL_len, unpackL_len]; exact h), unpackL_len]
    by_cases hj : j < n
    · rw [unpackL_get _ _ _ hj, cellN_splice]
      by_cases e : off ≤ j ∧ j < off + k
      · rw [if_pos e, if_pos e, unpackL_get _ _ _ (by omega)]
      · rw [if_neg e, if_neg e, unpackL_get _ _ _ hj]
    · rw [if_neg (by omega), List.getElem?_eq_none (by rw [unpackL_len]; omega), List.getElem?_eq_none (by rw [unpackL_len]; omega)]
  rw [e, List.map_append, List.map_append, List.map_take, List.map_drop, unpackL_len]
theorem fillN_fillL (place : Nat → Option (Nat × Nat)) (n : Nat) : ∀ (ps : List (Nat × AV)) (N N' : Nat), fillN place n ps N = some N' → fillL place ((unpackL n N).map .v) ps = some ((unpackL n N').map .v)
  | [], N, N', h => by obtain rfl := Option.some.inj h; rfl
  | (i, v) :: r, N, N', h => by
    simp only [fillN] at h
    simp only [fillL]
    cases hpl : place i with
    | none => rw [hpl] at h; cases h
    | some os =>
      obtain ⟨off, size⟩ := os
      rw [hpl] at h
      dsimp only at h ⊢
      split at h
      · cases h
      rename_i hle0
      have hle : off + size ≤ n := Nat.le_of_ble_eq_true hle0
      have key : ∀ M, v.cells = (unpackL size M).map .v → fillN place n r (spliceN N off size M) = some N' →
          (match Nat.beq v.cells.length size with
            | true => match Nat.ble (off + size) ((unpackL n N).map AV.v).length with
              | true => fillL place (((unpackL n N).map AV.v).take off ++ v.cells ++ ((unpackL n N).map AV.v).drop (off + size)) r
              | false => none
            | false => none) = some ((unpackL n N').map AV.v) := fun M hM hf => by
        have ih := fillN_fillL place n r _ _ hf
        rw [unpackL_splice hle] at ih
        have h1 : Nat.beq v.cells.length size = true := by rw [hM, List.length_map, unpackL_len]; exact Nat.beq_refl _
        have h2 : Nat.ble (off + size) ((unpackL n N).map AV.v).length = true := by rw [List.length_map, unpackL_len]; exact hle0
        rw [h1, h2, hM]
        exact ih
      split at h
      · rename_i k M hck
        split at h
        case h_2 => cases h
        rename_i hk
        obtain rfl := Nat.eq_of_beq_eq_true hk
        exact key M (by show v.ck.list = _; rw [hck]; rfl) h
      · rename_i cs hck
        split at h
        case h_2 => cases h
        rename_i hk
        have hk := Nat.eq_of_beq_eq_true hk
        split at h
        case h_2 => cases h
        rename_i M hM
        refine key M ?_ h
        show v.ck.list = _
        rw [hck, ← hk]
        exact packL_ok hM
/-- The zero of a long value, packed. -/
noncomputable def longZ (z : Value) : Option (Nat × Nat) :=
  AV.rec (motive_1 := fun _ => Option (Nat × Nat)) (motive_2 := fun _ => Unit) (fun _ => none) (fun _ _ => none) (fun _ _ _ _ _ => none) (fun _ => none) (fun _ => none) (fun _ _ _ _ _ => none) (fun _ _ _ => none) (fun _ _ => none) (fun n N => Bool.rec none (some (n, N)) (Nat.ble 16 n)) (fun _ _ => none) () (fun _ _ _ _ => ()) (zeroA z)
theorem longZ_ok {z : Value} {n N : Nat} (h : longZ z = some (n, N)) : z.cells.toList.map AV.v = (unpackL n N).map .v := by
  unfold longZ at h
  have hz := zeroA_real (fun _ => none) z
  revert h hz
  generalize zeroA z = a
  intro h hz
  cases a with
  | flat m M =>
    have h : (Bool.rec none (some (m, M)) (Nat.ble 16 m) : Option (Nat × Nat)) = some (n, N) := h
    cases hb : Nat.ble 16 m with
    | false => rw [hb] at h; cases h
    | true =>
      rw [hb] at h
      obtain ⟨rfl, rfl⟩ := Prod.mk.inj (Option.some.inj h)
      obtain rfl := Option.some.inj hz
      simp [Value.cells]
  | _ => cases h
noncomputable def fillA (place : Nat → Option (Nat × Nat)) (z : Value) (ps : List (Nat × AV)) : Option AV := match longZ z with
  | some (n, N) => match fillN place n ps N with
    | some N' => some (.flat n N')
    | none => (fillL place (z.cells.toList.map .v) ps).map .agg
  | none => (fillL place (z.cells.toList.map .v) ps).map .agg
theorem fillA_ok {ρ : Env} (place : Nat → Option (Nat × Nat)) {z : Value} {ps : List (Nat × AV)} {qs : List (Nat × Value)} {v : AV} (hp : PartsR ρ ps qs) (h : fillA place z ps = some v) : ∃ C, Instr.fill place z.cells qs = some C ∧ v.real ρ = some (.agg C) := by
  have slow : (fillL place (z.cells.toList.map .v) ps).map AV.agg = some v → ∃ C, Instr.fill place z.cells qs = some C ∧ v.real ρ = some (.agg C) := fun h => by
    obtain ⟨cs, hcs, rfl⟩ := Option.map_eq_some_iff.1 h
    obtain ⟨C, h1, h2⟩ := fillL_fill _ _ _ _ _ z.cells hp (reals_v ρ _) hcs
    exact ⟨C, h1, by simp [AV.real, h2]⟩
  unfold fillA at h
  split at h
  · rename_i n N hz
    split at h
    · rename_i N' hf
      obtain rfl := Option.some.inj h
      have hL := fillN_fillL place n ps N N' hf
      rw [← longZ_ok hz] at hL
      obtain ⟨C, h1, h2⟩ := fillL_fill _ _ _ _ _ z.cells hp (reals_v ρ _) hL
      refine ⟨C, h1, ?_⟩
      rw [reals_v] at h2
      show some (Value.agg (unpackL n N').toArray) = _
      rw [Option.some.inj h2]
    · exact slow h
  · exact slow h
noncomputable def evBuild (P : Program) (f : Fr) (t : TypeId) (parts : Array (Nat × Operand)) : Option AV := match P.info? t, P.underlying t with
  | some it, some (.array _ e) => match it.zero, P.info? e with
    | some z, some ie => fillA (fun i => some (i * ie.size, ie.size)) z (partsA f parts.toList)
    | _, _ => none
  | some it, some (.struct fields) => match it.zero, fields.toList.mapM (fun f => (P.info? f.type).map fun i => (f.offset, i.size)) with
    | some z, some places => fillA (places.toArray[·]?) z (partsA f parts.toList)
    | _, _ => none
  | _, _ => none
theorem evBuild_ok {P : Program} {ρ : Env} {f : Fr} {a : Act} (hf : FrR ρ f a) (w : World) {t : TypeId} {parts : Array (Nat × Operand)} {v : AV} (h : evBuild P f t parts = some v) : Gives P ρ (Instr.build t (parts.map fun (i, x) => (i, a.eval x))) w v := by
  have hps := partsA_R hf parts.toList
  have key : ∀ C, P.built t (parts.toList.map fun (i, x) => (i, a.eval x)) = some C → v.real ρ = some (.agg C) → Gives P ρ (Instr.build t (parts.map fun (i, x) => (i, a.eval x))) w v := fun C h1 h2 =>
    ⟨.agg C, run_build w t _ C (by rw [Array.toList_map]; exact h1), h2⟩
  unfold evBuild at h
  unfold Program.built at key
  split at h
  · rename_i it n e hi hd
    split at h
    · rename_i z ie hz0 he
      obtain ⟨C, h1, h2⟩ := fillA_ok _ hps h
      refine key C ?_ h2
      simp only [hi, hd, hz0, he]
      exact h1
    · cases h
  · rename_i it fields hi hd
    split at h
    · rename_i z places hz0 he
      obtain ⟨C, h1, h2⟩ := fillA_ok _ hps h
      refine key C ?_ h2
      simp only [hi, hd, hz0, he]
      exact h1
    · cases h
  · cases h
def zerosL (z : Array Value) (n : Nat) : List AV := (List.range n).map fun i => .v z[i % z.size]!
theorem zerosL_real (ρ : Env) (z : Array Value) (n : Nat) : AV.reals ρ (zerosL z n) = some ((Array.range n).map (z[· % z.size]!)).toList := by
  have : zerosL z n = (((Array.range n).map (z[· % z.size]!)).toList).map .v := by simp [zerosL, List.map_map, Function.comp_def]
  rw [this]
  exact reals_v ρ _
/-- One long element alone. -/
noncomputable def quickPart (len size : Nat) : List (Nat × AV) → Option Ck
  | [(0, x)] => match Nat.beq len 1 with
    | true => match x.ck with
      | .p k M => match Nat.beq k size with
        | true => some (.p k M)
        | false => none
      | .l _ => none
    | false => none
  | _ => none
theorem quickPart_ok {len size : Nat} {ps : List (Nat × AV)} {ck : Ck} (h : quickPart len size ps = some ck) (zc : Array Value) : fillL (fun i => some (i * size, size)) (zerosL zc (len * size)) ps = some ck.list := by
  unfold quickPart at h
  split at h
  case h_2 => cases h
  rename_i x
  split at h
  case h_2 => cases h
  rename_i hl
  have hl := Nat.eq_of_beq_eq_true hl
  split at h
  case h_2 => cases h
  rename_i k M hck
  split at h
  case h_2 => cases h
  rename_i hk
  have hk := Nat.eq_of_beq_eq_true hk
  obtain rfl := Option.some.inj h
  have hc : x.cells = (Ck.p k M).list := by unfold AV.cells; rw [hck]
  have hlen : x.cells.length = size := by rw [hc]; simp [Ck.list, unpackL_len, hk]
  have hz : (zerosL zc (len * size)).length = size := by simp [zerosL, hl]
  have h1 : Nat.beq x.cells.length size = true := by rw [hlen]; simp
  have h2 : Nat.ble (0 * size + size) (zerosL zc (len * size)).length = true := by rw [hz]; exact Nat.ble_eq_true_of_le (by omega)
  simp only [fillL]
  rw [h1]
  dsimp only
  rw [h2]
  dsimp only
  rw [Nat.zero_mul, Nat.zero_add, List.take_zero, List.nil_append, List.drop_of_length_le (by omega), List.append_nil, hc]
noncomputable def evBuildSlice (P : Program) (f : Fr) (h : Hp) (t : TypeId) (len : Nat) (parts : Array (Nat × Operand)) : Option (AV × Hp) := match P.underlying t with
  | some (.slice e) => match P.info? e with
    | some ie => match ie.zero with
      | some z => match Nat.beq (len * ie.size) 0 with
        | true => match parts.toList with
          | [] => some (.slc h.nx 0 len len true, h.new (newBlk (.l []) e))
          | _ :: _ => none
        | false => match Nat.ble (len * ie.size) 16777216 with
          | true => match quickPart len ie.size (partsA f parts.toList) with
            | some ck => some (.slc h.nx 0 len len true, h.new (newBlk ck e))
            | none => match fillL (fun i => some (i * ie.size, ie.size)) (zerosL z.cells (len * ie.size)) (partsA f parts.toList) with
              | some cs => some (.slc h.nx 0 len len true, h.new (newBlk (.l cs) e))
              | none => none
          | false => none
      | none => none
    | none => none
  | _ => none
theorem evBuildSlice_ok {P : Program} {ρ : Env} {base : Kp} {w0 : World} {h h' : Hp} {w : World} (E : Emb ρ base w0 h w) {f : Fr} {a : Act} (hf : FrR ρ f a) {t : TypeId} {len : Nat} {parts : Array (Nat × Operand)} {v : AV} (hv : evBuildSlice P f h t len parts = some (v, h')) :
    Does P ρ base w0 (Instr.buildSlice t len (parts.map fun (i, x) => (i, a.eval x))) w v h' := by
  have hps := partsA_R hf parts.toList
  unfold evBuildSlice at hv
  split at hv
  · rename_i e hd
    split at hv
    · rename_i ie hi
      split at hv
      · rename_i z hz
        split at hv
        · rename_i h0
          have h0 := Nat.eq_of_beq_eq_true h0
          split at hv
          · rename_i hnil
            obtain ⟨rfl, rfl⟩ := Prod.mk.inj (Option.some.inj hv)
            have hp : parts = #[] := by cases parts; simpa using hnil
            subst hp
            have E' := E.row (ρ := ρ) (ck := .l []) (xs := []) rfl e
            refine ⟨ρ.add h.nx ⟨w.heap.size, 0, 0⟩, _, .slice (some ⟨w.heap.size, 0, none⟩) len len, ?_, ?_, Env.le_add E.fresh0, E'⟩
            · simp [Instr.buildSlice, run_underlying hd, sizeOf, typeInfo, hi, h0, newRow, Instr.fill, Array.range_zero']
            · simp [AV.real, add_self]
          · cases hv
        · rename_i h0
          split at hv
          · rename_i hle
            have hle := Nat.le_of_ble_eq_true hle
            have hne : ¬ len * ie.size = 0 := fun e' => by rw [e'] at h0; cases h0
            split at hv
            · rename_i ck hck
              obtain ⟨rfl, rfl⟩ := Prod.mk.inj (Option.some.inj hv)
              obtain ⟨C, h1, h2⟩ := fillL_fill _ _ _ _ _ ((Array.range (len * ie.size)).map (z.cells[· % z.cells.size]!)) hps (zerosL_real ρ _ _) (quickPart_ok hck z.cells)
              have hrun := run_buildSlice (P := P) w t e len (parts.map fun (i, x) => (i, a.eval x)) C ie z hd hi hz (by omega) hne (by rw [Array.toList_map]; exact h1)
              refine ⟨ρ.add h.nx ⟨w.heap.size, 0, 0⟩, _, _, hrun, ?_, Env.le_add E.fresh0, ?_⟩
              · simp [AV.real, add_self]
              · have := E.row (ck := ck) h2 e
                simpa using this
            split at hv
            · rename_i cs hcs
              obtain ⟨rfl, rfl⟩ := Prod.mk.inj (Option.some.inj hv)
              obtain ⟨C, h1, h2⟩ := fillL_fill _ _ _ _ _ ((Array.range (len * ie.size)).map (z.cells[· % z.cells.size]!)) hps (zerosL_real ρ _ _) hcs
              have hrun := run_buildSlice (P := P) w t e len (parts.map fun (i, x) => (i, a.eval x)) C ie z hd hi hz (by omega) hne (by rw [Array.toList_map]; exact h1)
              refine ⟨ρ.add h.nx ⟨w.heap.size, 0, 0⟩, _, _, hrun, ?_, Env.le_add E.fresh0, ?_⟩
              · simp [AV.real, add_self]
              · have := E.row (ck := .l cs) h2 e
                simpa using this
            · cases hv
          · cases hv
      · cases hv
    · cases hv
  · cases hv
noncomputable def evMakeSlice (P : Program) (f : Fr) (h : Hp) (t : TypeId) (l c : Operand) : Option (AV × Hp) := match P.underlying t with
  | some (.slice e) => match P.info? e with
    | some ie => match ie.zero with
      | some z => match natOf (evA f l), natOf (evA f c) with
        | some l, some c => match Nat.ble l c with
          | true => match Nat.ble (ie.bytes * c) 281474976710656 with
            | true => match Nat.ble c 9223372036854775807 with
              | true => match Nat.beq ie.size 1, z.cells.toList with
                | true, [z0] => match packV z0 with
                  | some 0 => some (.slc h.nx 0 l c true, h.new (.cells ⟨.nil, 0⟩ c e none))
                  | _ => some (.slc h.nx 0 l c true, h.new (newBlk (.l (zerosL z.cells (c * ie.size))) e))
                | _, _ => some (.slc h.nx 0 l c true, h.new (newBlk (.l (zerosL z.cells (c * ie.size))) e))
              | false => none
            | false => none
          | false => none
        | _, _ => none
      | none => none
    | none => none
  | _ => none
theorem evMakeSlice_ok {P : Program} {ρ : Env} {base : Kp} {w0 : World} {h h' : Hp} {w : World} (E : Emb ρ base w0 h w) {f : Fr} {a : Act} (hf : FrR ρ f a) {t : TypeId} {l c : Operand} {v : AV} (hv : evMakeSlice P f h t l c = some (v, h')) :
    Does P ρ base w0 (Instr.makeSlice t (a.eval l) (a.eval c)) w v h' := by
  unfold evMakeSlice at hv
  split at hv
  · rename_i e hd
    split at hv
    · rename_i ie hi
      split at hv
      · rename_i z hz
        split at hv
        · rename_i l' c' hl hc
          obtain ⟨kl, hl⟩ := natOf_real hl (evA_real hf l)
          obtain ⟨kc, hc⟩ := natOf_real hc (evA_real hf c)
          rw [hl, hc]
          split at hv
          · rename_i hlc
            have hlc := Nat.le_of_ble_eq_true hlc
            split at hv
            · rename_i hb
              have hb := Nat.le_of_ble_eq_true hb
              split at hv
              · rename_i h63
                have h63 := Nat.le_of_ble_eq_true h63
                have hrun := run_make (P := P) w t e ie z hd hi hz kl kc l' c' (by omega) (by omega) (by have : ((ie.bytes * c' : Nat) : Int) ≤ 281474976710656 := by omega
                                                                                                         rwa [Int.natCast_mul] at this) (by omega)
                simp only [Int.toNat_natCast] at hrun
                have slow : some (AV.slc h.nx 0 l' c' true, h.new (newBlk (.l (zerosL z.cells (c' * ie.size))) e)) = some (v, h') → Does P ρ base w0 (Instr.makeSlice t (.int kl (l' : Int)) (.int kc (c' : Int))) w v h' := fun hv => by
                  obtain ⟨rfl, rfl⟩ := Prod.mk.inj (Option.some.inj hv)
                  refine ⟨ρ.add h.nx ⟨w.heap.size, 0, 0⟩, _, _, hrun, (by simp [AV.real, add_self]), Env.le_add E.fresh0, ?_⟩
                  have := E.row (ck := .l (zerosL z.cells (c' * ie.size))) (zerosL_real ρ z.cells (c' * ie.size)) e
                  rwa [Array.toArray_toList] at this
                split at hv
                · rename_i z0 hs1 hz0
                  split at hv
                  · rename_i hp0
                    have hs1 := Nat.eq_of_beq_eq_true hs1
                    obtain ⟨rfl, rfl⟩ := Prod.mk.inj (Option.some.inj hv)
                    refine ⟨ρ.add h.nx ⟨w.heap.size, 0, 0⟩, _, _, hrun, (by simp [AV.real, add_self]), Env.le_add E.fresh0, E.alloc _ _ 0 ⟨_, (0, 0), rfl, .inl rfl, ?_, fun _ => ⟨rfl, ?_⟩, (fun sz hs => by cases hs), fun i b hb => ?_⟩⟩
                    · show 0 + c' ≤ _
                      rw [size_madeCells, hs1]; omega
                    · rw [size_madeCells, hs1]; omega
                    · obtain ⟨hlt, rfl⟩ := cellAt_some hb
                      have hz1 := (packV_ok hp0).2
                      refine ⟨z0, ?_, ?_⟩
                      · rw [Cl.at_nil, cellN_zero, hz1]
                        rfl
                      have hzc : z.cells = #[z0] := by apply Array.ext'; simpa using hz0
                      show (madeCells z.cells (c' * ie.size))[0 + i]? = some z0
                      rw [hzc, hs1]
                      simp [madeCells, hlt, Nat.mod_one]
                  · exact slow hv
                · exact slow hv
              · cases hv
            · cases hv
          · cases hv
        · cases hv
      · cases hv
    · cases hv
  · cases hv
noncomputable def evMakeMap (P : Program) (f : Fr) (h : Hp) (t : TypeId) (r : Option Operand) : Option (AV × Hp) := match r with
  | none => some (.mp h.nx, h.new (.map [] 0))
  | some r => match P.underlying t with
    | some (.map _ _) => match natOf (evA f r) with
      | some _ => some (.mp h.nx, h.new (.map [] 0))
      | none => none
    | _ => none
theorem evMakeMap_ok {P : Program} {ρ : Env} {base : Kp} {w0 : World} {h h' : Hp} {w : World} (E : Emb ρ base w0 h w) {f : Fr} {a : Act} (hf : FrR ρ f a) {t : TypeId} {r : Option Operand} {v : AV} (hv : evMakeMap P f h t r = some (v, h')) :
    Does P ρ base w0 (Instr.makeMap t (r.map a.eval)) w v h' := by
  have fin : v = .mp h.nx → h' = h.new (.map [] 0) → (Instr.makeMap t (r.map a.eval)).run P w = .ok (.map (some w.heap.size)) (w.alloc (.map #[] 0)) → Does P ρ base w0 (Instr.makeMap t (r.map a.eval)) w v h' := fun e1 e2 h3 => by
    subst e1 e2
    exact ⟨ρ.add h.nx ⟨w.heap.size, 0, 0⟩, _, _, h3, by simp [AV.real, add_self], Env.le_add E.fresh0, E.alloc _ _ 0 ⟨#[], rfl, .nil⟩⟩
  unfold evMakeMap at hv
  split at hv
  · obtain ⟨rfl, rfl⟩ := Prod.mk.inj (Option.some.inj hv)
    exact fin rfl rfl rfl
  · rename_i r
    split at hv
    · rename_i k e hd
      split at hv
      · rename_i n hn
        obtain ⟨rfl, rfl⟩ := Prod.mk.inj (Option.some.inj hv)
        obtain ⟨kk, hk⟩ := natOf_real hn (evA_real hf r)
        refine fin rfl rfl ?_
        rw [Option.map_some, hk]
        simp [Instr.makeMap, Sem.run_bind, run_underlying hd, asInt, asIntOf]
      · cases hv
    · cases hv
end Go.Proofs.Ytcakdjnnfonijaa
namespace Go.Proofs.Ytcakdjnnfonijaa
open Go.RowKit

/-- A block that is no row is changed. -/
theorem Emb.setBlk {ρ : Env} {base : Kp} {w0 : World} {h : Hp} {w : World} (E : Emb ρ base w0 h w) {id : Nat} {b' : Blk} (hlive : h.get id ≠ .gone) {l : Loc} (hl : ρ id = some l) {o o' : Obj} (ho : w.heap[l.blk]? = some o) (hr : BlkR ρ l b' (some o')) :
    Emb ρ base w0 (h.put id b') { w with heap := w.heap.setIfInBounds l.blk o' } := by
  obtain ⟨l0, hl0, hb, _⟩ := E.live id hlive
  obtain rfl := Option.some.inj (hl.symm.trans hl0)
  have hlt : l.blk < w.heap.size := (Array.getElem?_eq_some_iff.1 ho).1
  have hgone : ∀ j, (h.put id b').get j ≠ .gone → h.get j ≠ .gone := fun j hj => by
    rw [Hp.get_put] at hj
    by_cases e : j = id
    · subst e; exact hlive
    · rw [if_neg e] at hj; exact hj
  refine ⟨⟨E.below.os, E.below.tape, E.below.output, by simpa using E.below.size, fun k hk => ?_⟩, by simpa using E.bw, (fun b hB => ⟨by simpa using (E.kept b hB).1, by
    rw [← (E.kept b hB).2]
    simp only [Array.getElem?_setIfInBounds]
    exact if_neg (fun e : l.blk = b => hb.2 (by rw [e]; exact hB))⟩), (fun j l1 hj => ⟨(E.fresh j l1 hj).1, by simpa using (E.fresh j l1 hj).2⟩), fun j hj => ?_, fun j j' l1 l1' hj hj' h0 h0' e => E.apart j j' l1 l1' (hgone j hj) (hgone j' hj') h0 h0' e⟩
  · rw [← E.below.block k hk]
    simp only [Array.getElem?_setIfInBounds]
    rw [if_neg (by have := hb.1; omega)]
  · rw [Hp.get_put]
    by_cases e : j = id
    · subst e
      rw [if_pos rfl]
      refine ⟨l, hl, hb, ?_⟩
      simp only [Array.getElem?_setIfInBounds, if_true, hlt]
      exact hr
    · rw [if_neg e]
      obtain ⟨l1, hl1, hb1, hr1⟩ := E.live j (hgone j hj)
      have hne : l.blk ≠ l1.blk := fun e' => e (E.apart j id l1 l (hgone j hj) hlive hl1 hl e'.symm)
      refine ⟨l1, hl1, hb1, ?_⟩
      simp only [Array.getElem?_setIfInBounds]
      rw [if_neg hne]
      exact hr1
noncomputable def quickKey : TypeDesc → Bool
  | .int _ => true
  | .string => true
  | .bool => true
  | _ => false
/-- Where a key lies: 'some none' is nowhere, 'none' is not known. -/
noncomputable def evFind (P : Program) (kt : TypeId) (kd : TypeDesc) (k : Value) : List (AV × AV × Nat) → Nat → Option (Option Nat)
  | [], _ => some none
  | e :: r, i => match e.1.plain with
    | none => none
    | some ek => match quickKey kd with
      | true => match Instr.sameNow kd k ek with
        | some true => some (some i)
        | some false => evFind P kt kd k r (i + 1)
        | none => none
      | false => match runS P (Op.equal kt k ek) with
        | some true => some (some i)
        | some false => evFind P kt kd k r (i + 1)
        | none => none
noncomputable def hit (es : List MapEntry) (i0 : Nat) : Option Nat → Option (Nat × Value)
  | none => none
  | some i => some (i, ((es[i - i0]?).map (·.val)).getD undef)
theorem sameNow_slow {kd : TypeDesc} (h : quickKey kd = false) (x y : Value) : Instr.sameNow kd x y = none := by
  cases kd <;> first | (cases h; done) | (unfold Instr.sameNow; split <;> first | rfl | simp_all)
theorem evFind_now {P : Program} {ρ : Env} {kt : TypeId} {kd : TypeDesc} {k : Value} (hq : quickKey kd = true) : ∀ {es : List (AV × AV × Nat)} {ms : List MapEntry} (i : Nat) (r : Option Nat), All2 (entR ρ) es ms → evFind P kt kd k es i = some r →
    (∀ j, r = some j → i ≤ j ∧ j < i + es.length) ∧ Instr.findNow kd k ms i = some (hit ms i r)
  | [], ms, i, r, ha, h => by
    cases ha
    obtain rfl := Option.some.inj h
    exact ⟨fun j hj => (by cases hj), rfl⟩
  | e :: es, ms, i, r, ha, h => by
    cases ha with
    | cons he hr =>
      rename_i m ms
      simp only [evFind, hq] at h
      cases hp : e.1.plain with
      | none => rw [hp] at h; cases h
      | some ek =>
        rw [hp] at h
        dsimp only at h
        have hk : ek = m.key := by have := plain_real ρ _ _ hp; rw [he.1] at this; exact (Option.some.inj this).symm
        subst hk
        simp only [Instr.findNow]
        cases hs : Instr.sameNow kd k m.key with
        | none => rw [hs] at h; cases h
        | some b =>
          rw [hs] at h
          cases b with
          | true =>
            obtain rfl := Option.some.inj h
            refine ⟨fun j hj => by obtain rfl := Option.some.inj hj; simp, ?_⟩
            simp [hit]
          | false =>
            obtain ⟨h1, h2⟩ := evFind_now hq (i + 1) r hr h
            refine ⟨fun j hj => by have := h1 j hj; simp; omega, ?_⟩
            dsimp only
            rw [h2]
            cases r with
            | none => rfl
            | some j =>
              have := h1 j rfl
              simp only [hit, Option.some.injEq, Prod.mk.injEq, true_and]
              rw [show j - i = (j - (i + 1)) + 1 by omega]
              rfl
theorem evFind_ask {P : Program} {ρ : Env} {kt : TypeId} {kd : TypeDesc} {k : Value} (hq : quickKey kd = false) (w : World) : ∀ {es : List (AV × AV × Nat)} {ms : List MapEntry} (i : Nat) (r : Option Nat), All2 (entR ρ) es ms → evFind P kt kd k es i = some r →
    (∀ j, r = some j → i ≤ j ∧ j < i + es.length) ∧ (Instr.findAsking kt k ms i).run P w = .ok (hit ms i r) w
  | [], ms, i, r, ha, h => by
    cases ha
    obtain rfl := Option.some.inj h
    exact ⟨fun j hj => (by cases hj), rfl⟩
  | e :: es, ms, i, r, ha, h => by
    cases ha with
    | cons he hr =>
      rename_i m ms
      simp only [evFind, hq] at h
      cases hp : e.1.plain with
      | none => rw [hp] at h; cases h
      | some ek =>
        rw [hp] at h
        dsimp only at h
        have hk : ek = m.key := by have := plain_real ρ _ _ hp; rw [he.1] at this; exact (Option.some.inj this).symm
        subst hk
        simp only [Instr.findAsking]
        cases hs : runS P (Op.equal kt k m.key) with
        | none => rw [hs] at h; cases h
        | some b =>
          rw [hs] at h
          rw [Sem.run_bind, runS_run _ _ w hs]
          cases b with
          | true =>
            obtain rfl := Option.some.inj h
            refine ⟨fun j hj => by obtain rfl := Option.some.inj hj; simp, ?_⟩
            simp [hit]
          | false =>
            obtain ⟨h1, h2⟩ := evFind_ask hq w (i + 1) r hr h
            refine ⟨fun j hj => by have := h1 j hj; simp; omega, ?_⟩
            simp only [Result.andThen_ok, Bool.false_eq_true, if_false]
            rw [h2]
            cases r with
            | none => rfl
            | some j =>
              have := h1 j rfl
              simp only [hit, Result.ok.injEq, Option.some.injEq, Prod.mk.injEq, true_and, and_true]
              rw [show j - i = (j - (i + 1)) + 1 by omega]
              rfl
theorem evFind_ok {P : Program} {ρ : Env} {kt : TypeId} {kd : TypeDesc} {k : Value} (hd : P.underlying kt = some kd) (w : World) {es : List (AV × AV × Nat)} {ms : List MapEntry} {r : Option Nat} (ha : All2 (entR ρ) es ms) (h : evFind P kt kd k es 0 = some r) :
    (∀ j, r = some j → j < es.length) ∧ (Instr.findKey kt k ms).run P w = .ok (hit ms 0 r) w := by
  unfold Instr.findKey
  rw [Sem.run_bind, run_underlying hd]
  cases hq : quickKey kd with
  | true =>
    obtain ⟨h1, h2⟩ := evFind_now hq 0 r ha h
    refine ⟨fun j hj => by have := h1 j hj; omega, ?_⟩
    simp only [Result.andThen_ok, h2]
    rfl
  | false =>
    obtain ⟨h1, h2⟩ := evFind_ask hq w 0 r ha h
    refine ⟨fun j hj => by have := h1 j hj; omega, ?_⟩
    simp only [Result.andThen_ok]
    cases ms with
    | nil =>
      cases ha
      obtain rfl := Option.some.inj h
      rfl
    | cons m ms =>
      simp only [Instr.findNow, sameNow_slow hq]
      exact h2
theorem all2_at {α β : Type} {R : α → β → Prop} {xs : List α} {ys : List β} (h : All2 R xs ys) : ∀ (i : Nat) (x : α), xs[i]? = some x → ∃ y, ys[i]? = some y ∧ R x y := by
  induction h with
  | nil => intro i x hi; simp at hi
  | cons hh _ ih =>
    intro i x hi
    cases i with
    | zero => simp at hi; subst hi; exact ⟨_, rfl, hh⟩
    | succ i => exact ih i x (by simpa using hi)
theorem all2_modify {α β : Type} {R : α → β → Prop} {xs : List α} {ys : List β} (h : All2 R xs ys) : ∀ (i : Nat) (f : α → α) (g : β → β), (∀ x y, xs[i]? = some x → ys[i]? = some y → R x y → R (f x) (g y)) → All2 R (xs.modify i f) (ys.modify i g) := by
  induction h with
  | nil => intro i f g _; cases i <;> exact .nil
  | cons hh ht ih =>
    intro i f g hf
    cases i with
    | zero => exact .cons (hf _ _ rfl rfl hh) ht
    | succ i => exact .cons hh (ih i f g fun x y h1 h2 => hf x y (by simpa using h1) (by simpa using h2))
theorem all2_push {α β : Type} {R : α → β → Prop} {xs : List α} {ys : List β} (h : All2 R xs ys) {x : α} {y : β} (hr : R x y) : All2 R (xs ++ [x]) (ys ++ [y]) := by
  induction h with
  | nil => exact .cons hr .nil
  | cons hh _ ih => exact .cons hh ih
theorem all2_erase {α β : Type} {R : α → β → Prop} {xs : List α} {ys : List β} (h : All2 R xs ys) : ∀ i, All2 R (xs.eraseIdx i) (ys.eraseIdx i) := by
  induction h with
  | nil => intro i; exact .nil
  | cons hh ht ih =>
    intro i
    cases i with
    | zero => exact ht
    | succ i => exact .cons hh (ih i)
noncomputable def evLookup (P : Program) (h : Hp) (t : TypeId) (m k : AV) (ok : Bool) : Option AV := match P.underlying t with
  | some (.map kt et) => match P.underlying kt, k.plain, m with
    | some kd, some kv, .mp id => match h.get id with
      | .map es _ => match runS P (Instr.checkKey es.isEmpty 10000 kt kv) with
        | some _ => match evFind P kt kd kv es 0 with
          | some (some i) => match es[i]? with
            | some e => some (match ok with
              | true => .tup [e.2.1, .v (.bool true)]
              | false => e.2.1)
            | none => none
          | some none => match P.info? et with
            | some ie => match ie.zero with
              | some z => some (match ok with
                | true => .tup [.v z, .v (.bool false)]
                | false => .v z)
              | none => none
            | none => none
          | none => none
        | none => none
      | _ => none
    | _, _, _ => none
  | _ => none
theorem isEmpty_same {ρ : Env} {es : List (AV × AV × Nat)} {ms : Array MapEntry} (h : All2 (entR ρ) es ms.toList) : ms.isEmpty = es.isEmpty := by
  have := all2_len h
  rw [Array.length_toList] at this
  unfold Array.isEmpty
  cases es with
  | nil => simp at this; simp [this]
  | cons e r => simp at this; simp [this]
theorem evLookup_ok {P : Program} {ρ : Env} {base : Kp} {w0 : World} {h : Hp} {w : World} (E : Emb ρ base w0 h w) {t : TypeId} {m k v : AV} {x y : Value} {ok : Bool} (hm : m.real ρ = some x) (hk : k.real ρ = some y) (hv : evLookup P h t m k ok = some v) :
    Gives P ρ (Instr.lookup t x y ok) w v := by
  unfold evLookup at hv
  split at hv
  · rename_i kt et hd
    split at hv
    · rename_i kd kv id hkd hkv
      have hky : kv = y := by have := plain_real ρ _ _ hkv; rw [hk] at this; exact (Option.some.inj this).symm
      subst hky
      simp only [AV.real, Option.map_eq_some_iff] at hm
      obtain ⟨l, hl, rfl⟩ := hm
      split at hv
      · rename_i es clock hg
        obtain ⟨l', es', hl', _, ho, ha⟩ := E.map hg
        obtain rfl := Option.some.inj (hl.symm.trans hl')
        split at hv
        · rename_i u hck
          have hck := runS_run _ _ w hck
          rw [← isEmpty_same ha] at hck
          split at hv
          · rename_i i hf
            obtain ⟨_, hfk⟩ := evFind_ok hkd w ha hf
            split at hv
            · rename_i e he
              obtain rfl := Option.some.inj hv
              obtain ⟨me, hme, hr⟩ := all2_at ha i e he
              have hhit : hit es'.toList 0 (some i) = some (i, me.val) := by simp [hit, hme]
              rw [hhit] at hfk
              refine ⟨if ok then .tuple #[me.val, .bool true] else me.val, ?_, ?_⟩
              · simp [Instr.lookup, Sem.run_bind, run_underlying hd, MapKept.run_getObj_map ho, hck, hfk]
              · cases ok with
                | true => simp [AV.real, AV.reals, hr.2.1]
                | false => simpa using hr.2.1
            · cases hv
          · rename_i hf
            obtain ⟨_, hfk⟩ := evFind_ok hkd w ha hf
            split at hv
            · rename_i ie hie
              split at hv
              · rename_i z hz
                obtain rfl := Option.some.inj hv
                refine ⟨if ok then .tuple #[z, .bool false] else z, ?_, ?_⟩
                · simp [Instr.lookup, Sem.run_bind, run_underlying hd, MapKept.run_getObj_map ho, hck, hfk, hit, zeroValue, typeInfo, hie, hz]
                · cases ok <;> simp [AV.real, AV.reals]
              · cases hv
            · cases hv
          · cases hv
        · cases hv
      · cases hv
    · cases hv
  · cases hv
noncomputable def evUpdate (P : Program) (h : Hp) (t : TypeId) (m k v : AV) : Option Hp := match P.underlying t with
  | some (.map kt _) => match P.underlying kt, k.plain, m with
    | some kd, some kv, .mp id => match h.get id with
      | .map es clock => match runS P (Instr.checkKey false 10000 kt kv) with
        | some _ => match evFind P kt kd kv es 0 with
          | some (some i) => match es[i]? with
            | some e => match e.1.plain with
              | some ek => match Instr.sameBits 10000 ek kv with
                | true => some (h.put id (.map (es.modify i fun e => (k, v, e.2.2)) clock))
                | false => none
              | none => none
            | none => none
          | some none => some (h.put id (.map (es ++ [(k, v, clock)]) (clock + 1)))
          | none => none
        | none => none
      | _ => none
    | _, _, _ => none
  | _ => none
theorem evUpdate_ok {P : Program} {ρ : Env} {base : Kp} {w0 : World} {h h' : Hp} {w : World} (E : Emb ρ base w0 h w) {t : TypeId} {m k v : AV} {x y z : Value} (hm : m.real ρ = some x) (hk : k.real ρ = some y) (hz : v.real ρ = some z) (hv : evUpdate P h t m k v = some h') :
    ∃ w', (Instr.mapUpdate t x y z).run P w = .ok () w' ∧ Emb ρ base w0 h' w' := by
  unfold evUpdate at hv
  split at hv
  · rename_i kt et hd
    split at hv
    · rename_i kd kv id hkd hkv
      have hky : kv = y := by have := plain_real ρ _ _ hkv; rw [hk] at this; exact (Option.some.inj this).symm
      subst hky
      simp only [AV.real, Option.map_eq_some_iff] at hm
      obtain ⟨l, hl, rfl⟩ := hm
      split at hv
      · rename_i es clock hg
        have hlive : h.get id ≠ .gone := by rw [hg]; exact fun e => by cases e
        obtain ⟨l', es', hl', _, ho, ha⟩ := E.map hg
        obtain rfl := Option.some.inj (hl.symm.trans hl')
        split at hv
        · rename_i u hck
          have hck := runS_run _ _ w hck
          split at hv
          · rename_i i hf
            obtain ⟨_, hfk⟩ := evFind_ok hkd w ha hf
            split at hv
            · rename_i e he
              obtain ⟨me, hme, hr⟩ := all2_at ha i e he
              have hhit : hit es'.toList 0 (some i) = some (i, me.val) := by simp [hit, hme]
              rw [hhit] at hfk
              split at hv
              · rename_i ek hek
                have hekk : ek = me.key := by have := plain_real ρ _ _ hek; rw [hr.1] at this; exact (Option.some.inj this).symm
                subst hekk
                split at hv
                · rename_i hsb
                  obtain rfl := Option.some.inj hv
                  have hmi : es'[i]? = some me := by simpa using hme
                  refine ⟨_, ?_, E.setBlk hlive hl ho (o' := .map (es'.modify i fun e => { e with key := kv, val := z }) clock) ⟨_, rfl, ?_⟩⟩
                  · simp [Instr.mapUpdate, Sem.run_bind, run_underlying hd, MapKept.run_getObj_map ho, hck, hfk, hmi, Instr.keyThatStays, hsb, MapKept.run_setObj_map _ ho]
                  · rw [Array.toList_modify]
                    exact all2_modify ha i _ _ fun a b h1 h2 h3 => ⟨hk, hz, h3.2.2⟩
                · cases hv
              · cases hv
            · cases hv
          · rename_i hf
            obtain ⟨_, hfk⟩ := evFind_ok hkd w ha hf
            obtain rfl := Option.some.inj hv
            refine ⟨_, ?_, E.setBlk hlive hl ho (o' := .map (es'.push { key := kv, val := z, born := clock }) (clock + 1)) ⟨_, rfl, ?_⟩⟩
            · simp [Instr.mapUpdate, Sem.run_bind, run_underlying hd, MapKept.run_getObj_map ho, hck, hfk, hit, MapKept.run_setObj_map _ ho]
            · rw [Array.toList_push]
              exact all2_push ha ⟨hk, hz, rfl⟩
          · cases hv
        · cases hv
      · cases hv
    · cases hv
  · cases hv
noncomputable def evDelete (P : Program) (h : Hp) (t : TypeId) (m k : AV) : Option Hp := match P.underlying t with
  | some (.map kt _) => match P.underlying kt, k.plain, m with
    | some kd, some kv, .mp id => match h.get id with
      | .map es clock => match runS P (Instr.checkKey es.isEmpty 10000 kt kv) with
        | some _ => match evFind P kt kd kv es 0 with
          | some (some i) => some (h.put id (.map (es.eraseIdx i) clock))
          | some none => some (h.put id (.map es clock))
          | none => none
        | none => none
      | _ => none
    | _, _, _ => none
  | _ => none
theorem evDelete_ok {P : Program} {ρ : Env} {base : Kp} {w0 : World} {h h' : Hp} {w : World} (E : Emb ρ base w0 h w) {t : TypeId} {m k : AV} {x y : Value} (ats : Array TypeId) (ty : TypeId) (hat : ats[0]? = some t) (hm : m.real ρ = some x) (hk : k.real ρ = some y) (hv : evDelete P h t m k = some h') :
    ∃ w', (Builtin.delete_ ats ty #[x, y]).run P w = .ok (.tuple #[]) w' ∧ Emb ρ base w0 h' w' := by
  unfold evDelete at hv
  split at hv
  · rename_i kt et hd
    split at hv
    · rename_i kd kv id hkd hkv
      have hky : kv = y := by have := plain_real ρ _ _ hkv; rw [hk] at this; exact (Option.some.inj this).symm
      subst hky
      simp only [AV.real, Option.map_eq_some_iff] at hm
      obtain ⟨l, hl, rfl⟩ := hm
      split at hv
      · rename_i es clock hg
        have hlive : h.get id ≠ .gone := by rw [hg]; exact fun e => by cases e
        obtain ⟨l', es', hl', _, ho, ha⟩ := E.map hg
        obtain rfl := Option.some.inj (hl.symm.trans hl')
        split at hv
        · rename_i u hck
          have hck := runS_run _ _ w hck
          rw [← isEmpty_same ha] at hck
          split at hv
          · rename_i i hf
            obtain ⟨hlt, hfk⟩ := evFind_ok hkd w ha hf
            obtain rfl := Option.some.inj hv
            refine ⟨_, ?_, E.setBlk hlive hl ho (o' := .map (es'.eraseIdxIfInBounds i) clock) ⟨_, rfl, ?_⟩⟩
            · simp [Builtin.delete_, Sem.run_bind, run_underlying hd, MapKept.run_getObj_map ho, hck, hfk, hit, hat, MapKept.run_setObj_map _ ho]
            · have hi := hlt i rfl
              have hlen := all2_len ha
              rw [Array.length_toList] at hlen
              have : i < es'.size := by omega
              simp only [Array.eraseIdxIfInBounds, this, dif_pos, Array.toList_eraseIdx]
              exact all2_erase ha i
          · rename_i hf
            obtain ⟨_, hfk⟩ := evFind_ok hkd w ha hf
            obtain rfl := Option.some.inj hv
            refine ⟨_, ?_, E.setBlk hlive hl ho (o' := .map es' clock) ⟨_, rfl, ha⟩⟩
            simp [Builtin.delete_, Sem.run_bind, run_underlying hd, MapKept.run_getObj_map ho, hck, hfk, hit, hat, MapKept.run_setObj_map _ ho]
          · cases hv
        · cases hv
      · cases hv
    · cases hv
  · cases hv
/-- A map is emptied. -/
noncomputable def evClear (P : Program) (h : Hp) (t : TypeId) (m : AV) : Option Hp := match P.underlying t with
  | some _ => match m with
    | .mp id => match h.get id with
      | .map _ clock => some (h.put id (.map [] clock))
      | _ => none
    | .v (.map none) => some h
    | _ => none
  | none => none
theorem evClear_ok {P : Program} {ρ : Env} {base : Kp} {w0 : World} {h h' : Hp} {w : World} (E : Emb ρ base w0 h w) {t : TypeId} {m : AV} {x : Value} (ats : Array TypeId) (ty : TypeId) (hat : ats[0]? = some t) (hm : m.real ρ = some x) (hv : evClear P h t m = some h') :
    ∃ w', (Builtin.clear_ ats ty #[x]).run P w = .ok (.tuple #[]) w' ∧ Emb ρ base w0 h' w' := by
  unfold evClear at hv
  split at hv
  · rename_i d hd
    split at hv
    · rename_i id
      simp only [AV.real, Option.map_eq_some_iff] at hm
      obtain ⟨l, hl, rfl⟩ := hm
      split at hv
      · rename_i es clock hg
        have hlive : h.get id ≠ .gone := by rw [hg]; exact fun e => by cases e
        obtain ⟨l', es', hl', _, ho, ha⟩ := E.map hg
        obtain rfl := Option.some.inj (hl.symm.trans hl')
        obtain rfl := Option.some.inj hv
        refine ⟨_, ?_, E.setBlk hlive hl ho (o' := .map #[] clock) ⟨_, rfl, .nil⟩⟩
        simp [Builtin.clear_, Sem.run_bind, run_underlying hd, MapKept.run_getObj_map ho, hat, MapKept.run_setObj_map _ ho]
      · cases hv
    · obtain rfl := Option.some.inj hm
      obtain rfl := Option.some.inj hv
      refine ⟨w, ?_, E⟩
      simp [Builtin.clear_, run_underlying hd, hat]
    · cases hv
  · cases hv
end Go.Proofs.Ytcakdjnnfonijaa
namespace Go.Proofs.Ytcakdjnnfonijaa
open Go.RowKit

noncomputable def evMapEntry (P : Program) (h : Hp) (t : TypeId) (m k : AV) : Option (AV × Hp) := match P.underlying t with
  | some (.map kt et) => match P.underlying kt, k.plain, m with
    | some kd, some kv, .mp id => match h.get id with
      | .map es clock => match runS P (Instr.checkKey false 10000 kt kv) with
        | some _ => match evFind P kt kd kv es 0 with
          | some (some i) => match es[i]? with
            | some e => match e.1.plain with
              | some ek => match Instr.sameBits 10000 ek kv with
                | true => some (.tup [e.2.1, .v (.int .i64 ((e.2.2 : Nat) : Int))], h.put id (.map (es.modify i fun e => (k, e.2.1, e.2.2)) clock))
                | false => none
              | none => none
            | none => none
          | some none => match P.info? et with
            | some ie => match ie.zero with
              | some z => some (.tup [.v z, .v (.int .i64 ((clock : Nat) : Int))], h.put id (.map (es ++ [(k, .v z, clock)]) (clock + 1)))
              | none => none
            | none => none
          | none => none
        | none => none
      | _ => none
    | _, _, _ => none
  | _ => none
theorem evMapEntry_ok {P : Program} {ρ : Env} {base : Kp} {w0 : World} {h h' : Hp} {w : World} (E : Emb ρ base w0 h w) {t : TypeId} {m k v : AV} {x y : Value} (hm : m.real ρ = some x) (hk : k.real ρ = some y) (hv : evMapEntry P h t m k = some (v, h')) :
    Does P ρ base w0 (Instr.mapEntry t x y) w v h' := by
  unfold evMapEntry at hv
  split at hv
  · rename_i kt et hd
    split at hv
    · rename_i kd kv id hkd hkv
      have hky : kv = y := by have := plain_real ρ _ _ hkv; rw [hk] at this; exact (Option.some.inj this).symm
      subst hky
      simp only [AV.real, Option.map_eq_some_iff] at hm
      obtain ⟨l, hl, rfl⟩ := hm
      split at hv
      · rename_i es clock hg
        have hlive : h.get id ≠ .gone := by rw [hg]; exact fun e => by cases e
        obtain ⟨l', es', hl', _, ho, ha⟩ := E.map hg
        obtain rfl := Option.some.inj (hl.symm.trans hl')
        split at hv
        · rename_i u hck
          have hck := runS_run _ _ w hck
          split at hv
          · rename_i i hf
            obtain ⟨_, hfk⟩ := evFind_ok hkd w ha hf
            split at hv
            · rename_i e he
              obtain ⟨me, hme, hr⟩ := all2_at ha i e he
              have hhit : hit es'.toList 0 (some i) = some (i, me.val) := by simp [hit, hme]
              rw [hhit] at hfk
              split at hv
              · rename_i ek hek
                have hekk : ek = me.key := by have := plain_real ρ _ _ hek; rw [hr.1] at this; exact (Option.some.inj this).symm
                subst hekk
                split at hv
                · rename_i hsb
                  obtain ⟨rfl, rfl⟩ := Prod.mk.inj (Option.some.inj hv)
                  have hmi : es'[i]? = some me := by simpa using hme
                  refine ⟨ρ, _, .tuple #[me.val, .int .i64 (me.born : Int)], ?_, ?_, Env.le_refl ρ, E.setBlk hlive hl ho (o' := .map (es'.modify i fun e => { e with key := kv }) clock) ⟨_, rfl, ?_⟩⟩
                  · simp [Instr.mapEntry, Sem.run_bind, run_underlying hd, MapKept.run_getObj_map ho, hck, hfk, hmi, Instr.keyThatStays, hsb, MapKept.run_setObj_map _ ho, goInt]
                  · simp [AV.real, AV.reals, hr.2.1, hr.2.2]
                  · rw [Array.toList_modify]
                    exact all2_modify ha i _ _ fun a b h1 h2 h3 => ⟨hk, h3.2.1, h3.2.2⟩
                · cases hv
              · cases hv
            · cases hv
          · rename_i hf
            obtain ⟨_, hfk⟩ := evFind_ok hkd w ha hf
            split at hv
            · rename_i ie hie
              split at hv
              · rename_i z hz
                obtain ⟨rfl, rfl⟩ := Prod.mk.inj (Option.some.inj hv)
                refine ⟨ρ, _, .tuple #[z, .int .i64 (clock : Int)], ?_, ?_, Env.le_refl ρ, E.setBlk hlive hl ho (o' := .map (es'.push { key := kv, val := z, born := clock }) (clock + 1)) ⟨_, rfl, ?_⟩⟩
                · simp [Instr.mapEntry, Sem.run_bind, run_underlying hd, MapKept.run_getObj_map ho, hck, hfk, hit, zeroValue, typeInfo, hie, hz, MapKept.run_setObj_map _ ho, goInt]
                · simp [AV.real, AV.reals]
                · rw [Array.toList_push]
                  exact all2_push ha ⟨hk, rfl, rfl⟩
              · cases hv
            · cases hv
          · cases hv
        · cases hv
      · cases hv
    · cases hv
  · cases hv
noncomputable def evEntryStore (h : Hp) (m s v : AV) : Option Hp := match m, natOf s with
  | .mp id, some b => match h.get id with
    | .map es clock => match es.findIdx? (fun e => Nat.beq e.2.2 b) with
      | some i => some (h.put id (.map (es.modify i fun e => (e.1, v, e.2.2)) clock))
      | none => none
    | _ => none
  | _, _ => none
theorem all2_idx {ρ : Env} {es : List (AV × AV × Nat)} {ms : List MapEntry} (h : All2 (entR ρ) es ms) (b : Nat) : ms.findIdx? (fun e => (e.born : Int) == (b : Int)) = es.findIdx? (fun e => Nat.beq e.2.2 b) := by
  induction h with
  | nil => rfl
  | @cons e m es ms hh _ ih =>
    rw [List.findIdx?_cons, List.findIdx?_cons, ih]
    have : ((m.born : Int) == (b : Int)) = Nat.beq e.2.2 b := by
      rw [hh.2.2]
      cases hb : Nat.beq m.born b with
      | true => obtain h1 := Nat.eq_of_beq_eq_true hb; simp [h1]
      | false =>
        have h1 : m.born ≠ b := fun e => by rw [e] at hb; simp at hb
        exact beq_false_of_ne fun e => h1 (by omega)
    rw [this]
theorem evEntryStore_ok {P : Program} {ρ : Env} {base : Kp} {w0 : World} {h h' : Hp} {w : World} (E : Emb ρ base w0 h w) {t : TypeId} {m s v : AV} {x y z : Value} (hm : m.real ρ = some x) (hs : s.real ρ = some y) (hz : v.real ρ = some z) (hv : evEntryStore h m s v = some h') :
    ∃ w', (Instr.entryStore t x y z).run P w = .ok () w' ∧ Emb ρ base w0 h' w' := by
  unfold evEntryStore at hv
  split at hv
  case h_2 => cases hv
  rename_i id b hb
  simp only [AV.real, Option.map_eq_some_iff] at hm
  obtain ⟨l, hl, rfl⟩ := hm
  obtain ⟨kk, rfl⟩ := natOf_real hb hs
  split at hv
  case h_2 => cases hv
  rename_i es clock hg
  have hlive : h.get id ≠ .gone := by rw [hg]; exact fun e => by cases e
  obtain ⟨l', es', hl', _, ho, ha⟩ := E.map hg
  obtain rfl := Option.some.inj (hl.symm.trans hl')
  split at hv
  case h_2 => cases hv
  rename_i i hi
  obtain rfl := Option.some.inj hv
  have hidx : es'.findIdx? (fun e => (e.born : Int) == (b : Int)) = some i := by
    have h1 := List.findIdx?_toArray (p := fun e : MapEntry => (e.born : Int) == (b : Int)) (l := es'.toList)
    rw [Array.toArray_toList] at h1
    rw [h1, all2_idx ha b]
    exact hi
  refine ⟨_, ?_, E.setBlk hlive hl ho (o' := .map (es'.modify i fun e => { e with val := z }) clock) ⟨_, rfl, ?_⟩⟩
  · simp [Instr.entryStore, Sem.run_bind, MapKept.run_getObj_map ho, asInt, asIntOf, hidx, MapKept.run_setObj_map _ ho]
  · rw [Array.toList_modify]
    exact all2_modify ha i _ _ fun a b h1 h2 h3 => ⟨h3.1, hz, h3.2.2⟩
end Go.Proofs.Ytcakdjnnfonijaa
namespace Go.Proofs.Ytcakdjnnfonijaa
open Go.RowKit

/-- A name is given up. -/
theorem Emb.kill {ρ : Env} {base : Kp} {w0 : World} {h : Hp} {w : World} (E : Emb ρ base w0 h w) (id : Nat) : Emb ρ base w0 (h.put id .gone) w := by
  have hgone : ∀ j, (h.put id .gone).get j ≠ .gone → j ≠ id ∧ h.get j ≠ .gone := fun j hj => by
    rw [Hp.get_put] at hj
    by_cases e : j = id
    · rw [if_pos e] at hj; exact absurd rfl hj
    · rw [if_neg e] at hj; exact ⟨e, hj⟩
  refine ⟨E.below, E.bw, E.kept, E.fresh, fun j hj => ?_, fun j j' l l' hj hj' => E.apart j j' l l' (hgone j hj).2 (hgone j' hj').2⟩
  rw [Hp.get_put, if_neg (hgone j hj).1]
  exact E.live j (hgone j hj).2
/-- A block goes by another name. -/
theorem Emb.reuse {ρ : Env} {base : Kp} {w0 : World} {h : Hp} {w w' : World} (E : Emb ρ base w0 h w) {id : Nat} (hlive : h.get id ≠ .gone) {l l' : Loc} (hl : ρ id = some l) (hll : l'.blk = l.blk) (hg : w.grownBy w' (some l.blk)) {b' : Blk}
    (hr : BlkR (ρ.add h.nx l') l' b' w'.heap[l'.blk]?) : Emb (ρ.add h.nx l') base w0 ((h.put id .gone).new b') w' := by
  have hn := E.fresh0
  obtain ⟨l0, hl0, hb0, _⟩ := E.live id hlive
  obtain rfl := Option.some.inj (hl.symm.trans hl0)
  have hlt := (E.fresh id l hl).2
  have hidn : id ≠ h.nx := fun e => by rw [e, hn] at hl; cases hl
  have hget : ∀ j, j ≠ h.nx → ((h.put id .gone).new b').get j = if j = id then .gone else h.get j := fun j e => by rw [Hp.get_new, if_neg (show ¬ j = (h.put id .gone).nx from e), Hp.get_put]
  have hold : ∀ j, j ≠ h.nx → ((h.put id .gone).new b').get j ≠ .gone → j ≠ id ∧ h.get j ≠ .gone := fun j e hj => by
    rw [hget j e] at hj
    by_cases e' : j = id
    · rw [if_pos e'] at hj; exact absurd rfl hj
    · rw [if_neg e'] at hj; exact ⟨e', hj⟩
  have hadd : ∀ j, j ≠ h.nx → ρ.add h.nx l' j = ρ j := fun j e => by unfold Env.add; rw [if_neg e]
  refine ⟨E.below.grown hg E.bw (fun k hk => by obtain rfl := Option.some.inj hk; exact hb0.1), Nat.le_trans E.bw hg.size, fun b hB => ⟨Nat.lt_of_lt_of_le (E.kept b hB).1 hg.size, by rw [hg.block b (E.kept b hB).1 (fun e => hb0.2 (Option.some.inj e ▸ hB))]; exact (E.kept b hB).2⟩, fun j l1 hj => ?_, fun j hj => ?_, fun j j' l1 l1' hj hj' h0 h0' e => ?_⟩
  · by_cases e : j = h.nx
    · subst e
      rw [add_self] at hj
      obtain rfl := Option.some.inj hj
      exact ⟨Nat.lt_succ_self _, by rw [hll]; exact Nat.lt_of_lt_of_le hlt hg.size⟩
    · rw [hadd j e] at hj
      have := E.fresh j l1 hj
      exact ⟨Nat.lt_succ_of_lt this.1, Nat.lt_of_lt_of_le this.2 hg.size⟩
  · by_cases e : j = h.nx
    · subst e
      refine ⟨l', add_self _ _ _, by rw [hll]; exact hb0, ?_⟩
      rw [Hp.get_new, if_pos (show h.nx = (h.put id .gone).nx from rfl)]
      exact hr
    · obtain ⟨e1, hj1⟩ := hold j e hj
      obtain ⟨l1, hl1, hb1, hr1⟩ := E.live j hj1
      have hne : l1.blk ≠ l.blk := fun e' => e1 (E.apart j id l1 l hj1 hlive hl1 hl e')
      refine ⟨l1, by rw [hadd j e]; exact hl1, hb1, ?_⟩
      rw [hget j e, if_neg e1, hg.block l1.blk (E.fresh j l1 hl1).2 (fun e' => hne (Option.some.inj e'))]
      exact hr1.mono (Env.le_add hn)
  · by_cases e1 : j = h.nx
    · by_cases e2 : j' = h.nx
      · rw [e1, e2]
      · rw [e1, add_self] at h0
        obtain rfl := Option.some.inj h0
        rw [hadd j' e2] at h0'
        obtain ⟨e3, hj3⟩ := hold j' e2 hj'
        exact absurd (E.apart j' id l1' l hj3 hlive h0' hl (by rw [← e, hll])) e3
    · by_cases e2 : j' = h.nx
      · rw [e2, add_self] at h0'
        obtain rfl := Option.some.inj h0'
        rw [hadd j e1] at h0
        obtain ⟨e3, hj3⟩ := hold j e1 hj
        exact absurd (E.apart j id l1 l hj3 hlive h0 hl (by rw [e, hll])) e3
      · rw [hadd j e1] at h0
        rw [hadd j' e2] at h0'
        exact E.apart j j' l1 l1' (hold j e1 hj).2 (hold j' e2 hj').2 h0 h0' e
noncomputable def allOne : List AV → Bool
  | [] => true
  | a :: r => match a.one with
    | true => allOne r
    | false => false
theorem allOne_spec : ∀ (cz : List AV), allOne cz = true → ∀ a ∈ cz, a.one = true
  | [], _, a, h => by cases h
  | b :: r, h, a, ha => by
    simp only [allOne] at h
    cases hb : b.one with
    | false => rw [hb] at h; cases h
    | true =>
      rw [hb] at h
      rcases List.mem_cons.1 ha with rfl | ha
      · exact hb
      · exact allOne_spec r h a ha
theorem allOne_real {ρ : Env} {cz : List AV} {xs : List Value} (h : allOne cz = true) (hr : AV.reals ρ cz = some xs) (u : Value) (hu : u ∈ xs) : u.oneCell' = true := by
  obtain ⟨a, ha, hx⟩ := reals_mem hr hu
  exact AV.one_real hx (allOne_spec cz h a ha)
/-- A chunk of single cells. -/
noncomputable def oneCk : Ck → Bool
  | .l cs => allOne cs
  | .p _ _ => true
theorem oneCk_real {ρ : Env} {ck : Ck} {xs : List Value} (h : oneCk ck = true) (hr : AV.reals ρ ck.list = some xs) (u : Value) (hu : u ∈ xs) : u.oneCell' = true := by
  cases ck with
  | l cs => exact allOne_real h hr u hu
  | p n N =>
    have := (reals_v ρ (unpackL n N)).symm.trans hr
    obtain rfl := Option.some.inj this
    exact unpackL_one _ _ u hu
noncomputable def evSrc0 (P : Program) (h : Hp) (size : Nat) (tx : TypeId) (x : AV) : Option (Nat × Ck) := match P.underlying tx with
  | some (.slice _) => match x with
    | .v (.slice none 0 _) => some (0, .l [])
    | .slc id off len _ _ => match Nat.beq len 0 with
      | true => some (0, .l [])
      | false => match h.get id with
        | .cells c n _ _ => match readC c n (len * size) off with
          | some ck => match oneCk ck with
            | true => some (len, ck)
            | false => none
          | none => none
        | _ => none
    | _ => none
  | some .string => match x with
    | .v (.string s) => match Nat.beq size 1 with
      | true => some (s.size, .l ((byteCells s).map .v))
      | false => none
    | _ => none
  | _ => none
theorem evSrc0_ok {P : Program} {ρ : Env} {base : Kp} {w0 : World} {h : Hp} {w : World} (E : Emb ρ base w0 h w) {size : Nat} {tx : TypeId} {x : AV} {xv : Value} {n : Nat} {cz : Ck} (hx : x.real ρ = some xv) (hs : evSrc0 P h size tx x = some (n, cz)) :
    ∃ xs, AV.reals ρ cz.list = some xs ∧ Src P size tx xv n xs w := by
  unfold evSrc0 at hs
  split at hs
  · rename_i e' hk
    split at hs
    · obtain ⟨rfl, rfl⟩ := Prod.mk.inj (Option.some.inj hs)
      simp only [AV.real, Option.some.injEq] at hx
      subst hx
      exact ⟨[], rfl, Src.ofNil w hk _⟩
    · rename_i id off len cap ex
      simp only [AV.real, Option.map_eq_some_iff] at hx
      obtain ⟨l, hl, rfl⟩ := hx
      split at hs
      · rename_i h0
        obtain rfl := Nat.eq_of_beq_eq_true h0
        obtain ⟨rfl, rfl⟩ := Prod.mk.inj (Option.some.inj hs)
        exact ⟨[], rfl, Src.ofSlice w hk _ 0 _ [] (by simp) (fun j u hj => by simp at hj) (fun u hu => by cases hu)⟩
      · split at hs
        · rename_i t m elem opn hg
          split at hs
          · rename_i cs hcs
            split at hs
            · rename_i ho
              obtain ⟨rfl, rfl⟩ := Prod.mk.inj (Option.some.inj hs)
              obtain ⟨xs, h1, h2, _, h4⟩ := E.loads hg hl _ _ _ (readC_ok hcs)
              exact ⟨xs, h1, Src.ofSlice w hk _ len _ xs h2 (fun j u hj => by rw [Addr.add_plain]; exact h4 j u hj) (oneCk_real ho h1)⟩
            · cases hs
          · cases hs
        · cases hs
    · cases hs
  · rename_i hk
    split at hs
    · rename_i s
      split at hs
      · rename_i h1
        obtain rfl := Nat.eq_of_beq_eq_true h1
        obtain ⟨rfl, rfl⟩ := Prod.mk.inj (Option.some.inj hs)
        simp only [AV.real, Option.some.injEq] at hx
        subst hx
        exact ⟨byteCells s, reals_v ρ _, Src.ofString w hk s⟩
      · cases hs
    · cases hs
  · cases hs
/-- What an append adds: elements that are there, or so many zeros. -/
structure SrcX (P : Program) (i : TypeInfo) (tx : TypeId) (x : Value) (n : Nat) (news : List Value) (w : World) : Prop where
  newsLen : news.length = n * i.size
  one : ∀ u ∈ news, u.oneCell' = true
  how : Src P i.size tx x n news w ∨ ∃ kd k z, P.underlying tx = some (.int kd) ∧ x = .int k (n : Int) ∧ n ≤ 9223372036854775807 ∧ n * i.bytes ≤ 281474976710656 ∧ i.zero = some z ∧ n * i.size ≠ 0 ∧ news = (Builtin.zeroCells z.cells n).toList
noncomputable def zeroList (z : List AV) : Nat → List AV
  | 0 => []
  | n + 1 => z ++ zeroList z n
theorem zeroCells_succ (z : Array Value) (n : Nat) : (Builtin.zeroCells z (n + 1)).toList = z.toList ++ (Builtin.zeroCells z n).toList := by
  unfold Builtin.zeroCells
  apply List.ext_getElem?
  intro i
  rcases Nat.eq_zero_or_pos z.size with h0 | hpos
  · have hz : z = #[] := Array.eq_empty_of_size_eq_zero h0
    subst hz
    simp
  · by_cases h1 : i < z.size
    · have : i < (n + 1) * z.size := by rw [Nat.add_mul, Nat.one_mul]; omega
      rw [List.getElem?_append_left (by simpa using h1)]
      simp [this, Nat.mod_eq_of_lt h1, h1]
    · rw [List.getElem?_append_right (by simpa using h1)]
      by_cases h2 : i < (n + 1) * z.size
      · have h3 : i - z.size < n * z.size := by rw [Nat.add_mul, Nat.one_mul] at h2; omega
        have e1 : i % z.size = (i - z.size) % z.size := by rw [Nat.mod_eq_sub_mod (by omega)]
        simp [h2, h3, e1]
      · have h3 : ¬ i - z.size < n * z.size := by rw [Nat.add_mul, Nat.one_mul] at h2; omega
        simp [h2, h3]
theorem zeroList_real (ρ : Env) (z : Array Value) : ∀ n, AV.reals ρ (zeroList (z.toList.map .v) n) = some (Builtin.zeroCells z n).toList
  | 0 => by simp [zeroList, AV.reals, Builtin.zeroCells]
  | n + 1 => by
    rw [zeroCells_succ]
    simp only [zeroList]
    exact reals_append (reals_v ρ _) (zeroList_real ρ z n)
noncomputable def allOneV : List Value → Bool
  | [] => true
  | a :: r => match a.oneCell' with
    | true => allOneV r
    | false => false
theorem allOneV_spec : ∀ (l : List Value), allOneV l = true → ∀ u ∈ l, u.oneCell' = true
  | [], _, u, hu => by cases hu
  | a :: r, h, u, hu => by
    simp only [allOneV] at h
    split at h
    · rename_i h1
      rcases List.mem_cons.1 hu with rfl | hu
      · exact h1
      · exact allOneV_spec r h u hu
    · cases h
theorem zeroCells_mem (z : Array Value) : ∀ (n : Nat) (u : Value), u ∈ (Builtin.zeroCells z n).toList → u ∈ z.toList
  | 0, u, h => by simp [Builtin.zeroCells] at h
  | n + 1, u, h => by
    rw [zeroCells_succ] at h
    rcases List.mem_append.1 h with h | h
    · exact h
    · exact zeroCells_mem z n u h
/-- So many zeros. -/
noncomputable def zeroCk (z : List Value) (n : Nat) : Ck := match z with
  | [z0] => match packV z0 with
    | some 0 => .p n 0
    | _ => .l (zeroList (z.map .v) n)
  | _ => .l (zeroList (z.map .v) n)
theorem zeroList_one (u : Value) : ∀ n, zeroList [AV.v u] n = (List.replicate n u).map .v
  | 0 => rfl
  | n + 1 => by
    rw [List.replicate_succ, List.map_cons, ← zeroList_one u n]
    rfl
theorem zeroCk_list (z : List Value) (n : Nat) : (zeroCk z n).list = zeroList (z.map .v) n := by
  unfold zeroCk
  split
  · rename_i z0
    split
    · rename_i hp
      show (unpackL n 0).map AV.v = _
      rw [unpackL_zero, (packV_ok hp).2, List.map_cons, List.map_nil, zeroList_one]
    · rfl
  · rfl
noncomputable def evZeros (P : Program) (i : TypeInfo) (tx : TypeId) (x : AV) : Option (Nat × Ck) := match P.underlying tx with
  | some (.int _) => match x with
    | .v (.int _ (.ofNat n)) => match Nat.ble n 9223372036854775807 with
      | true => match Nat.ble (n * i.bytes) 281474976710656 with
        | true => match i.zero with
          | some z => match Nat.beq (n * i.size) 0 with
            | true => none
            | false => match Nat.beq z.cells.size i.size with
              | true => match allOneV z.cells.toList with
                | true => some (n, zeroCk z.cells.toList n)
                | false => none
              | false => none
          | none => none
        | false => none
      | false => none
    | _ => none
  | _ => none
noncomputable def evSrc (P : Program) (h : Hp) (i : TypeInfo) (tx : TypeId) (x : AV) : Option (Nat × Ck) := match evSrc0 P h i.size tx x with
  | some r => some r
  | none => evZeros P i tx x
theorem evSrc_ok {P : Program} {ρ : Env} {base : Kp} {w0 : World} {h : Hp} {w : World} (E : Emb ρ base w0 h w) {i : TypeInfo} {tx : TypeId} {x : AV} {xv : Value} {n : Nat} {cz : Ck} (hx : x.real ρ = some xv) (hs : evSrc P h i tx x = some (n, cz)) :
    ∃ xs, AV.reals ρ cz.list = some xs ∧ SrcX P i tx xv n xs w := by
  unfold evSrc at hs
  split at hs
  · rename_i r hr
    obtain rfl := Option.some.inj hs
    obtain ⟨xs, h1, h2⟩ := evSrc0_ok E hx hr
    exact ⟨xs, h1, h2.newsLen, h2.one, .inl h2⟩
  · rename_i hno
    unfold evZeros at hs
    split at hs
    case h_2 => cases hs
    rename_i kd hk
    split at hs
    case h_2 => cases hs
    rename_i k l
    clear hno
    obtain rfl := Option.some.inj hx
    split at hs
    case h_2 => cases hs
    rename_i h63
    have h63 := Nat.le_of_ble_eq_true h63
    split at hs
    case h_2 => cases hs
    rename_i h48
    have h48 := Nat.le_of_ble_eq_true h48
    split at hs
    case h_2 => cases hs
    rename_i z hz
    split at hs
    · cases hs
    rename_i h0
    have h0 : l * i.size ≠ 0 := fun e => by rw [e] at h0; cases h0
    split at hs
    case h_2 => cases hs
    rename_i hzs
    have hzs := Nat.eq_of_beq_eq_true hzs
    split at hs
    case h_2 => cases hs
    rename_i ho
    obtain ⟨rfl, rfl⟩ := Prod.mk.inj (Option.some.inj hs)
    refine ⟨_, (by rw [zeroCk_list]; exact zeroList_real ρ _ _), by simp [Builtin.zeroCells, hzs], fun u hu => allOneV_spec _ ho u (zeroCells_mem _ _ u hu), .inr ⟨kd, k, z, hk, rfl, h63, h48, hz, h0, rfl⟩⟩
theorem cellsFrom_some (c : Cl) (n : Nat) : ∀ (k i : Nat), i + k ≤ n → ∃ cz, cellsFrom c n k i = some cz
  | 0, i, _ => ⟨[], rfl⟩
  | k + 1, i, h => by
    obtain ⟨cz, ha⟩ := cellsFrom_some c n k (i + 1) (by omega)
    exact ⟨_, by simp only [cellsFrom, cellAt_lt (show i < n by omega), ha, Option.map_some]; rfl⟩
/-- The cells of a row that grows. -/
noncomputable def tGrow (c : Cl) (m off k total : Nat) (ck : Ck) : Option Cl :=
  Cl.rec (fun t N => Tr.rec (writeC total ck ⟨.nil, chunkN N off k⟩ k)
    (fun l o r _ _ => Bool.rec (Option.rec none (fun os => writeC total (.l (os ++ ck.list)) ⟨.nil, 0⟩ 0) (cellsFrom ⟨.node l o r, N⟩ m k off)) (writeC total ck ⟨.node l o r, N⟩ k) (Nat.beq off 0)) t) c
theorem tGrow_spec {c : Cl} {m off k total : Nat} {ck : Ck} {os : List AV} {c' : Cl} (hos : cellsFrom c m k off = some os) (ht : total = k + ck.list.length) (hm : off + k ≤ m) (h : tGrow c m off k total ck = some c') :
    ∀ j a, cellAt c' total j = some a → (os ++ ck.list)[j]? = some a := by
  obtain ⟨hl, ho⟩ := cellsFrom_at c m k off os hos
  intro j a hj
  obtain ⟨hlt, rfl⟩ := cellAt_some hj
  have same : ∀ c0 : Cl, (∀ j, j < k → os[j]? = some (c0.at j)) → writeC total ck c0 k = some c' → (os ++ ck.list)[j]? = some (c'.at j) := fun c0 h0 hw => by
    obtain ⟨_, _, h3⟩ := writeC_spec total ck c0 k c' hw
    rw [h3 j]
    by_cases e : j < k
    · rw [if_neg (by omega), List.getElem?_append_left (by omega), h0 j e]
    · rw [if_pos (by omega), List.getElem?_append_right (by omega), hl]
  obtain ⟨t, N⟩ := c
  cases t with
  | nil =>
    refine same ⟨.nil, chunkN N off k⟩ (fun j hj => ?_) h
    rw [ho j hj, cellAt_lt (by omega), Cl.at_nil, Cl.at_nil]
    rw [cellN_chunk _ _ _ _ hj]
  | node l o r =>
    have h : (Bool.rec (Option.rec none (fun os => writeC total (.l (os ++ ck.list)) ⟨.nil, 0⟩ 0) (cellsFrom ⟨.node l o r, N⟩ m k off)) (writeC total ck ⟨.node l o r, N⟩ k) (Nat.beq off 0) : Option Cl) = some c' := h
    cases h0 : Nat.beq off 0 with
    | true =>
      rw [h0] at h
      obtain rfl := Nat.eq_of_beq_eq_true h0
      exact same _ (fun j hj => by rw [ho j hj, cellAt_lt (by omega), Nat.zero_add]) h
    | false =>
      rw [h0, hos] at h
      obtain ⟨_, _, h3⟩ := writeC_spec total (.l (os ++ ck.list)) ⟨.nil, 0⟩ 0 c' h
      have hL : (Ck.l (os ++ ck.list)).list = os ++ ck.list := rfl
      rw [h3 j, hL, if_pos ⟨Nat.zero_le _, by rw [List.length_append, hl]; omega⟩, Nat.sub_zero]
theorem run_append_room_st {P : Program} (w w' : World) (t tx ty e : TypeId) (i : TypeInfo) (ht : P.underlying t = some (.slice e)) (hi : P.info? e = some i) (b off sLen sCap : Nat) (x : Value) (n : Nat) (news : List Value) (hs : Src P i.size tx x n news w)
    (hroom : sLen + n ≤ sCap) (hst : (storeCells ⟨b, off + sLen * i.size, none⟩ news).run P w = .ok () w') :
    (Builtin.append_ #[t, tx] ty #[.slice (some ⟨b, off, none⟩) sLen sCap, x]).run P w = .ok (.slice (some ⟨b, off, none⟩) (sLen + n) sCap) w' := by
  rcases hs.kind with ⟨e', hk⟩ | hk <;> simp [Builtin.append_, run_underlying ht, run_underlying hk, sizeOf, typeInfo, hi, hs.len, hroom, hs.cells, Addr.add_plain, hst]
theorem run_append_room_x {P : Program} (w w' : World) (t tx ty e : TypeId) (i : TypeInfo) (ht : P.underlying t = some (.slice e)) (hi : P.info? e = some i) (b off sLen sCap : Nat) (x : Value) (n : Nat) (news : List Value) (hs : SrcX P i tx x n news w)
    (hroom : sLen + n ≤ sCap) (hst : (storeCells ⟨b, off + sLen * i.size, none⟩ news).run P w = .ok () w') :
    (Builtin.append_ #[t, tx] ty #[.slice (some ⟨b, off, none⟩) sLen sCap, x]).run P w = .ok (.slice (some ⟨b, off, none⟩) (sLen + n) sCap) w' := by
  rcases hs.how with hs | ⟨kd, k, z, hk, rfl, h63, h48, hz, h0, rfl⟩
  · exact run_append_room_st w w' t tx ty e i ht hi b off sLen sCap x n news hs hroom hst
  · have hw : IntKind.i64.wrap (n : Int) = n := by simp [IntKind.wrap, IntKind.bits, IntKind.signed]; omega
    have h48' : ¬ (281474976710656 < (n : Int) * (i.bytes : Int)) := by rw [← Int.natCast_mul]; omega
    have hneg : ¬ ((n : Int) < 0) := by omega
    simp [Builtin.append_, run_underlying ht, run_underlying hk, sizeOf, typeInfo, zeroValue, hi, hz, asInt, asIntOf, hw, h48', hroom, h0, hneg, Addr.add_plain, hst]
theorem run_append_grow_x {P : Program} (w : World) (t tx ty e : TypeId) (i : TypeInfo) (z : Value) (ht : P.underlying t = some (.slice e)) (hi : P.info? e = some i) (hz : i.zero = some z) (base : Option Addr) (sLen sCap : Nat) (olds : List Value)
    (hold : (Builtin.firstCells i.size sLen (.slice base sLen sCap)).run P w.drew = .ok olds.toArray w.drew) (x : Value) (n : Nat) (news : List Value) (hs : SrcX P i tx x n news w)
    (hg : sCap < sLen + n) (h63 : ((sLen + n : Nat) : Int) ≤ 9223372036854775807) (hfit : Builtin.nextslicecap (sLen + n) sCap * i.bytes ≤ 281474976710656) :
    (Builtin.append_ #[t, tx] ty #[.slice base sLen sCap, x]).run P w =
      .ok (.slice (some ⟨w.heap.size, 0, none⟩) (sLen + n) (grownCap w (sLen + n) sCap e))
        (w.drew.alloc (.cells ((olds ++ news).toArray ++ Builtin.zeroCells z.cells (grownCap w (sLen + n) sCap e - (sLen + n))) e)) := by
  rcases hs.how with hs | ⟨kd, k, z', hk, rfl, h63n, h48, hz', h0, rfl⟩
  · exact run_append_grow_src w t tx ty e i z ht hi hz base sLen sCap olds hold x n news hs hg h63 hfit
  · obtain rfl := Option.some.inj (hz.symm.trans hz')
    have hw : IntKind.i64.wrap (n : Int) = n := by simp [IntKind.wrap, IntKind.bits, IntKind.signed]; omega
    have h48' : ¬ (281474976710656 < (n : Int) * (i.bytes : Int)) := by rw [← Int.natCast_mul]; omega
    have hneg : ¬ ((n : Int) < 0) := by omega
    have hn : ¬ (sLen + n ≤ sCap) := by omega
    have h63' : ¬ (9223372036854775807 < ((sLen : Int) + (n : Int))) := by omega
    have h49' : ¬ (281474976710656 < Builtin.nextslicecap (sLen + n) sCap * i.bytes) := by omega
    simp [Builtin.append_, run_underlying ht, run_underlying hk, sizeOf, typeInfo, zeroValue, hi, hz, asInt, asIntOf, hw, h48', h0, hneg, hn, h63', h49', Question.forced, hold, newRow, grownCap]
    congr 2
    apply Array.ext'
    simp [List.append_assoc]
theorem run_append_nothing_x {P : Program} (w : World) (t tx ty e : TypeId) (i : TypeInfo) (ht : P.underlying t = some (.slice e)) (hi : P.info? e = some i) (base : Option Addr) (sLen sCap : Nat) (hle : sLen ≤ sCap) (x : Value) (hs : SrcX P i tx x 0 [] w) :
    (Builtin.append_ #[t, tx] ty #[.slice base sLen sCap, x]).run P w = .ok (.slice base sLen sCap) w := by
  rcases hs.how with hs | ⟨kd, k, z', hk, rfl, h63n, h48, hz', h0, _⟩
  · exact run_append_nothing w t tx ty e i ht hi base sLen sCap hle x hs
  · exact absurd (Nat.zero_mul _) h0
noncomputable def evAppend (P : Program) (h : Hp) (t tx : TypeId) (s x : AV) : Option (AV × Hp) := match P.underlying t with
  | some (.slice e) => match P.info? e with
    | some i => match evSrc P h i tx x with
      | some (n, cz) => match s with
        | .v (.slice none 0 0) => match Nat.beq n 0 with
          | true => some (.v (.slice none 0 0), h)
          | false => match i.zero with
            | some z => match Nat.ble (n * i.bytes) 140737488355328 with
              | true => match Nat.ble n 9223372036854775807 with
                | true => match Nat.beq z.cells.size i.size with
                  | true => (writeC (n * i.size) cz ⟨.nil, 0⟩ 0).map fun t' => (.slc h.nx 0 n n false, h.new (.cells t' (n * i.size) e (some i.size)))
                  | false => none
                | false => none
              | false => none
            | none => none
        | .slc id off len cap ex => match Nat.beq n 0 with
          | true => match Nat.ble len cap with
            | true => some (.slc id off len cap ex, h)
            | false => none
          | false => match h.get id with
            | .cells tr m elem opn => match Nat.ble (len + n) cap with
              | true => (writeC m cz tr (off + len * i.size)).map fun t' => (.slc id off (len + n) cap ex, h.put id (.cells t' m elem opn))
              | false => match i.zero with
                | some z => match Nat.ble ((len + n) * i.bytes) 140737488355328 with
                  | true => match Nat.ble (len + n) 9223372036854775807 with
                    | true => match Nat.beq z.cells.size i.size with
                      | true => match Nat.ble (off + len * i.size) m with
                        | true => match tGrow tr m off (len * i.size) ((len + n) * i.size) cz with
                          | some t' => match ex with
                            | true => some (.slc h.nx 0 (len + n) (len + n) false, h.new (.cells t' ((len + n) * i.size) e (some i.size)))
                            | false => match opn with
                              | some sz => match Nat.beq sz i.size with
                                | true => match Nat.beq (off + cap * i.size) m with
                                  | true => match Nat.beq elem e with
                                    | true => some (.slc h.nx 0 (len + n) (len + n) false, (h.put id .gone).new (.cells t' ((len + n) * i.size) e (some i.size)))
                                    | false => none
                                  | false => none
                                | false => none
                              | none => none
                          | none => none
                        | false => none
                      | false => none
                    | false => none
                  | false => none
                | none => none
            | _ => none
        | _ => none
      | none => none
    | none => none
  | _ => none
theorem zeroCells_size (z : Array Value) (n : Nat) : (Builtin.zeroCells z n).size = n * z.size := by simp [Builtin.zeroCells]
/-- The new row of an append that grows. -/
theorem grown_row {ρ : Env} {os : List AV} {olds : List Value} {cz : List AV} {news : List Value} (h1 : AV.reals ρ os = some olds) (h2 : AV.reals ρ cz = some news) {k need size total : Nat} (hk : olds.length = k) (ht : total = k + news.length) {t' : Cl}
    (hsp : ∀ j a, cellAt t' total j = some a → (os ++ cz)[j]? = some a) (e : TypeId) (b : Nat) {z : Value} (hz : z.cells.size = size) (cap : Nat) :
    BlkR ρ ⟨b, 0, cap - need⟩ (.cells t' total e (some size)) (some (.cells ((olds ++ news).toArray ++ Builtin.zeroCells z.cells (cap - need)) e)) := by
  have hsz : ((olds ++ news).toArray ++ Builtin.zeroCells z.cells (cap - need)).size = total + (cap - need) * size := by
    rw [Array.size_append, List.size_toArray, List.length_append, zeroCells_size, hz]; omega
  refine ⟨_, (0, 0), rfl, .inl rfl, ?_, (fun hh => by cases hh), fun sz hh => ?_, fun j a hj => ?_⟩
  · rw [hsz]; show 0 + total ≤ _; omega
  · obtain rfl := Option.some.inj hh
    rw [hsz]
    show 0 + total + (cap - need) * size ≤ _
    omega
  · obtain ⟨x, hx, hxj⟩ := reals_at (reals_append h1 h2) j a (hsp j a hj)
    refine ⟨x, hx, ?_⟩
    have hlt := (List.getElem?_eq_some_iff.1 hxj).1
    rw [show (⟨b, 0, cap - need⟩ : Loc).off + j = j from Nat.zero_add j, Array.getElem?_append_left (by simpa using hlt), List.getElem?_toArray]
    exact hxj
theorem evAppend_ok {P : Program} {ρ : Env} {base : Kp} {w0 : World} {h h' : Hp} {w : World} (E : Emb ρ base w0 h w) {t tx ty : TypeId} {s x v : AV} {sv xv : Value} (hs : s.real ρ = some sv) (hx : x.real ρ = some xv) (hv : evAppend P h t tx s x = some (v, h')) :
    Does P ρ base w0 (Builtin.append_ #[t, tx] ty #[sv, xv]) w v h' := by
  unfold evAppend at hv
  split at hv
  case h_2 => cases hv
  rename_i e ht
  split at hv
  case h_2 => cases hv
  rename_i i hi
  split at hv
  case h_2 => cases hv
  rename_i n cz hsrc
  obtain ⟨news, hnews, S⟩ := evSrc_ok E hx hsrc
  have hlen := reals_len hnews
  have hnl := S.newsLen
  split at hv
  · simp only [AV.real, Option.some.injEq] at hs
    subst hs
    split at hv
    · rename_i h0
      obtain rfl := Nat.eq_of_beq_eq_true h0
      obtain ⟨rfl, rfl⟩ := Prod.mk.inj (Option.some.inj hv)
      have hnil : news = [] := List.length_eq_zero_iff.1 (by rw [hnl, Nat.zero_mul])
      subst hnil
      exact does_pure E (run_append_nothing_x w t tx ty e i ht hi none 0 0 (Nat.le_refl _) xv S) rfl
    · rename_i h0
      have hn0 : n ≠ 0 := fun e' => by rw [e'] at h0; cases h0
      split at hv
      case h_2 => cases hv
      rename_i z hz
      split at hv
      case h_2 => cases hv
      rename_i hb
      have hb := Nat.le_of_ble_eq_true hb
      split at hv
      case h_2 => cases hv
      rename_i h63
      have h63 := Nat.le_of_ble_eq_true h63
      split at hv
      case h_2 => cases hv
      rename_i hzs
      have hzs := Nat.eq_of_beq_eq_true hzs
      obtain ⟨t', ht', h2⟩ := Option.map_eq_some_iff.1 hv
      obtain ⟨rfl, rfl⟩ := Prod.mk.inj h2
      have hrun := run_append_grow_x (P := P) w t tx ty e i z ht hi hz none 0 0 [] (run_firstCells_none w.drew i.size 0 0 0) xv n news S (by omega) (by omega) (by rw [Nat.zero_add]; exact growslice_fits (by omega) hb)
      rw [Nat.zero_add] at hrun
      have hge := grownCap_ge w n 0 e
      refine ⟨ρ.add h.nx ⟨w.heap.size, 0, grownCap w n 0 e - n⟩, _, _, hrun, ?_, Env.le_add E.fresh0, ?_⟩
      · simp only [AV.real, add_self, Option.map_some, Option.some.injEq, Value.slice.injEq, Bool.false_eq_true, if_false, true_and, Nat.zero_add]
        exact (Nat.add_sub_cancel' hge)
      · have hd := E.drew w.drew rfl rfl rfl rfl
        refine hd.alloc _ _ (grownCap w n 0 e - n) (grown_row (os := []) (olds := []) rfl (AV.reals_mono (Env.le_add E.fresh0) _ _ hnews) (k := 0) rfl (by rw [Nat.zero_add]; exact hnl.symm) ?_ e _ hzs (grownCap w n 0 e))
        intro j a hj
        obtain ⟨hlt, rfl⟩ := cellAt_some hj
        obtain ⟨_, _, h3⟩ := writeC_spec _ cz _ 0 t' ht'
        rw [h3 j, if_pos (by omega), Nat.sub_zero, List.nil_append]
  · rename_i id off len cap ex
    simp only [AV.real, Option.map_eq_some_iff] at hs
    obtain ⟨l, hl, rfl⟩ := hs
    have hcap : cap ≤ (if ex = true then cap else cap + l.extra) := by split <;> omega
    split at hv
    · rename_i h0
      obtain rfl := Nat.eq_of_beq_eq_true h0
      split at hv
      case h_2 => cases hv
      rename_i hle
      have hle := Nat.le_of_ble_eq_true hle
      obtain ⟨rfl, rfl⟩ := Prod.mk.inj (Option.some.inj hv)
      have hnil : news = [] := List.length_eq_zero_iff.1 (by rw [hnl, Nat.zero_mul])
      subst hnil
      exact does_pure E (run_append_nothing_x w t tx ty e i ht hi _ len _ (by omega) xv S) (by simp [AV.real, hl])
    · rename_i h0
      have hn0 : n ≠ 0 := fun e' => by rw [e'] at h0; cases h0
      split at hv
      case h_2 => cases hv
      rename_i tr m elem opn hg
      split at hv
      · rename_i hroom
        have hroom := Nat.le_of_ble_eq_true hroom
        obtain ⟨t', ht', h2⟩ := Option.map_eq_some_iff.1 hv
        obtain ⟨rfl, rfl⟩ := Prod.mk.inj h2
        obtain ⟨w', hst, E'⟩ := E.stores (P := P) hg hl hnews ht'
        rw [← Nat.add_assoc] at hst
        have hrun := run_append_room_x w w' t tx ty e i ht hi l.blk (l.off + off) len _ xv n news S (Nat.le_trans hroom hcap) hst
        exact ⟨ρ, w', _, hrun, by simp [AV.real, hl], Env.le_refl ρ, E'⟩
      · rename_i hroom
        have hroom : ¬ (len + n ≤ cap) := fun e' => by rw [Nat.ble_eq_true_of_le e'] at hroom; cases hroom
        split at hv
        case h_2 => cases hv
        rename_i z hz
        split at hv
        case h_2 => cases hv
        rename_i hb
        have hb := Nat.le_of_ble_eq_true hb
        split at hv
        case h_2 => cases hv
        rename_i h63
        have h63 := Nat.le_of_ble_eq_true h63
        split at hv
        case h_2 => cases hv
        rename_i hzs
        have hzs := Nat.eq_of_beq_eq_true hzs
        split at hv
        case h_2 => cases hv
        rename_i hmm
        have hmm := Nat.le_of_ble_eq_true hmm
        split at hv
        case h_2 => cases hv
        rename_i t' hgr
        obtain ⟨os, hos⟩ := cellsFrom_some tr m (len * i.size) off hmm
        obtain ⟨olds, ho1, ho2, _, ho4⟩ := E.loads hg hl _ _ _ hos
        have htot : (len + n) * i.size = len * i.size + cz.list.length := by rw [← hlen, hnl, Nat.add_mul]
        have hspec := tGrow_spec hos htot hmm hgr
        have hold : ∀ c, (Builtin.firstCells i.size len (.slice (some ⟨l.blk, l.off + off, none⟩) len c)).run P w.drew = .ok olds.toArray w.drew := fun c =>
          run_firstCells_some w.drew i.size len _ len c olds ho2 (fun j u hj => by rw [Addr.add_plain]; exact ho4 j u hj)
        have growing : ∀ (sCap : Nat) (h1 : Hp), sCap < len + n → Emb ρ base w0 h1 w → h1.nx = h.nx → v = .slc h.nx 0 (len + n) (len + n) false → h' = h1.new (.cells t' ((len + n) * i.size) e (some i.size)) →
            Does P ρ base w0 (Builtin.append_ #[t, tx] ty #[.slice (some ⟨l.blk, l.off + off, none⟩) len sCap, xv]) w v h' := fun sCap h1 hlt E1 hnx ev eh => by
          subst ev eh
          have hrun := run_append_grow_x (P := P) w t tx ty e i z ht hi hz (some ⟨l.blk, l.off + off, none⟩) len sCap olds (hold sCap) xv n news S hlt (by omega) (growslice_fits hlt hb)
          have hge := grownCap_ge w (len + n) sCap e
          have hfr : ρ h1.nx = none := E1.fresh0
          refine ⟨ρ.add h1.nx ⟨w.heap.size, 0, grownCap w (len + n) sCap e - (len + n)⟩, _, _, hrun, ?_, Env.le_add hfr, ?_⟩
          · rw [← hnx]
            simp only [AV.real, add_self, Option.map_some, Option.some.injEq, Value.slice.injEq, Bool.false_eq_true, if_false, true_and, Nat.zero_add]
            exact (Nat.add_sub_cancel' hge)
          · have hd := E1.drew w.drew rfl rfl rfl rfl
            exact hd.alloc _ _ (grownCap w (len + n) sCap e - (len + n)) (grown_row (AV.reals_mono (Env.le_add hfr) _ _ ho1) (AV.reals_mono (Env.le_add hfr) _ _ hnews) ho2 (by rw [htot, ← hlen]) hspec e _ hzs (grownCap w (len + n) sCap e))
        split at hv
        · obtain ⟨rfl, rfl⟩ := Prod.mk.inj (Option.some.inj hv)
          simp only [if_true]
          exact growing cap h (by omega) E rfl rfl rfl
        · split at hv
          case h_2 => cases hv
          rename_i sz
          split at hv
          case h_2 => cases hv
          rename_i hsz
          obtain rfl := Nat.eq_of_beq_eq_true hsz
          split at hv
          case h_2 => cases hv
          rename_i hcm
          have hcm := Nat.eq_of_beq_eq_true hcm
          split at hv
          case h_2 => cases hv
          rename_i hel
          obtain rfl := Nat.eq_of_beq_eq_true hel
          obtain ⟨ev, eh⟩ := Prod.mk.inj (Option.some.inj hv)
          simp only [Bool.false_eq_true, if_false]
          by_cases hin : len + n ≤ cap + l.extra
          · subst ev eh
            have hlive : h.get id ≠ .gone := by rw [hg]; exact fun e => by cases e
            obtain ⟨l', C, fz, hl', hbase, hC, hfz, hn, _, hroomy, hc⟩ := E.cells hg
            obtain rfl := Option.some.inj (hl.symm.trans hl')
            have hsp := hroomy i.size rfl
            have hK : len * i.size + news.length + (cap + l.extra - (len + n)) * i.size = cap * i.size + l.extra * i.size := by
              rw [hnl, ← Nat.add_mul, ← Nat.add_mul, ← Nat.add_mul, Nat.add_sub_cancel' hin]
            have hfit : l.off + off + len * i.size + news.length ≤ C.size := by omega
            have hst := run_storeCells_fz P l.blk (l.off + off + len * i.size) elem fz C.size (some i.size) hfz news 0 C w rfl hC (by rw [Nat.add_zero]; exact hfit) S.one
            rw [Nat.add_zero] at hst
            have hrun := run_append_room_x w _ t tx ty elem i ht hi l.blk (l.off + off) len _ xv n news S hin hst
            have hfr := E.fresh0
            refine ⟨ρ.add h.nx ⟨l.blk, l.off + off, cap + l.extra - (len + n)⟩, _, _, hrun, ?_, Env.le_add hfr, E.reuse (l' := ⟨l.blk, l.off + off, cap + l.extra - (len + n)⟩) hlive hl rfl (grown_setRow w l.blk _) ?_⟩
            · simp only [AV.real, add_self, Option.map_some, Option.some.injEq, Value.slice.injEq, Bool.false_eq_true, if_false, true_and, Nat.add_zero]
              exact (Nat.add_sub_cancel' hin)
            · have hC' : (C.toList.take (l.off + off + len * i.size) ++ news ++ C.toList.drop (l.off + off + len * i.size + news.length)).toArray.size = C.size := by
                simp; omega
              refine ⟨_, fz, setRow_heap w l.blk C _ elem fz hC, by rw [hC']; exact hfz, ?_, (fun hh => by cases hh), fun sz hh => ?_, fun j a hj => ?_⟩
              · rw [hC']; show l.off + off + (len + n) * i.size ≤ C.size; rw [htot, ← hlen]; omega
              · obtain rfl := Option.some.inj hh
                rw [hC']
                show l.off + off + (len + n) * i.size + (cap + l.extra - (len + n)) * i.size ≤ C.size
                rw [htot, ← hlen]; omega
              · have hlt := (cellAt_some hj).1
                obtain ⟨y, hy, hyj⟩ := reals_at (reals_append (AV.reals_mono (Env.le_add hfr) _ _ ho1) (AV.reals_mono (Env.le_add hfr) _ _ hnews)) j a (hspec j a hj)
                refine ⟨y, hy, ?_⟩
                rw [List.getElem?_toArray, splice_get _ _ _ _ (by rw [Array.length_toList]; exact hfit)]
                show (if _ then _ else _) = _
                by_cases e1 : j < len * i.size
                · rw [if_neg (by show ¬ (_ ≤ l.off + off + j ∧ _); omega)]
                  rw [List.getElem?_append_left (by rw [ho2]; exact e1)] at hyj
                  have := ho4 j y hyj
                  rw [cell_of_row w _ _ C elem fz hC] at this
                  rw [Array.getElem?_toList]
                  exact this
                · rw [if_pos (by show _ ≤ l.off + off + j ∧ l.off + off + j < _; omega)]
                  rw [List.getElem?_append_right (by rw [ho2]; omega), ho2] at hyj
                  rw [← hyj]
                  congr 1
                  show l.off + off + j - _ = _
                  omega
          · exact growing (cap + l.extra) (h.put id .gone) (by omega) (E.kill id) rfl ev.symm eh.symm
  · cases hv
end Go.Proofs.Ytcakdjnnfonijaa
