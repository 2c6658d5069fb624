/- What a log is on a disk, plainly; batches in the heap. -/
import Derived.Test.YtmbpacpkabbcgaaWlSec
namespace Go.Proofs.Ytmbpacpkabbcgaa
open Go.RowKit

/-- A head that is read. -/
def hdOk (s : List UInt8) (i cur : Nat) : Bool := decide (cur < leB (s.take 8)) && (decide (leB (s.take 8) < 4611686018427387904) && ((leB (s.take 8) % 2 == i) && ((leB (s.take 8) == leB (s.drop 504)) && decide (leB ((s.drop 8).take 8) ≤ leB (s.take 8)))))
def hdStep (s : List UInt8) (i : Nat) (c : Nat × Nat) : Nat × Nat := if hdOk s i c.1 then (leB (s.take 8), leB ((s.drop 8).take 8)) else c
def headsP (L : Int → List UInt8) (from_ : Int) : Nat → Nat × Nat
  | 0 => (0, 0)
  | k + 1 => hdStep (L (from_ + (k : Int))) k (headsP L from_ k)
/-- A log's row. -/
def LgRow (w : World) (lb d : Nat) (from_ : Int) (n run base : Nat) (allv : Value) (used : Nat) (dead : Bool) : Prop :=
  RowAt w lb 75 #[.pointer (some ⟨d, 0, none⟩), .int .i64 from_, .int .i64 (n : Int), .int .u64 (run : Int), .int .u64 (base : Int), allv, .int .i64 (used : Int), .bool dead]
theorem leB8_lt {l : List UInt8} (h : l.length ≤ 8) : leB l < 18446744073709551616 := Nat.lt_of_lt_of_le (leB_lt l) (Nat.le_trans (Nat.pow_le_pow_right (by omega) h) (by decide))
theorem headsP_lt {L : Int → List UInt8} (hL : ∀ k, (L k).length = 512) (from_ : Int) : ∀ k, (headsP L from_ k).1 < 18446744073709551616 ∧ (headsP L from_ k).2 < 18446744073709551616
  | 0 => by unfold headsP; exact ⟨by decide, by decide⟩
  | k + 1 => by
    unfold headsP hdStep
    split
    · exact ⟨leB8_lt (by rw [List.length_take]; omega), leB8_lt (by rw [List.length_take]; omega)⟩
    · exact headsP_lt hL from_ k
/-- The heads are read: what stands. -/
structure HInv (w wr : World) (g d : Nat) (from_ : Int) (n run base : Nat) (allv : Value) (used : Nat) : Prop where
  bel : Below g w wr
  box : RowAt wr g 3 #[.int .i64 (n : Int)]
  ptr : RowAt wr (g + 2) 33 #[.pointer (some ⟨g + 1, 0, none⟩)]
  row : LgRow wr (g + 1) d from_ n run base allv used false
theorem HInv.later {w wr w' : World} {g d : Nat} {from_ : Int} {n run base : Nat} {allv : Value} {used : Nat} (h : HInv w wr g d from_ n run base allv used) (hb : Below wr.heap.size wr w') : HInv w w' g d from_ n run base allv used :=
  ⟨h.bel.trans (hb.mono (Nat.le_of_lt h.box.lt)), RowAt.below h.box hb, RowAt.below h.ptr hb, RowAt.below h.row hb⟩
theorem HInv.put {w wr : World} {g d : Nat} {from_ : Int} {n run base : Nat} {allv : Value} {used : Nat} (h : HInv w wr g d from_ n run base allv used) (r bs : Nat) :
    HInv w ((wr.setCell ⟨g + 1, 3, none⟩ (.int .u64 (r : Int))).setCell ⟨g + 1, 4, none⟩ (.int .u64 (bs : Int))) g d from_ n r bs allv used := by
  have hs : g ≤ wr.heap.size := Nat.le_of_lt h.box.lt
  refine ⟨?_, (h.box.other _ (by simp)).other _ (by simp), (h.ptr.other _ (by simp)).other _ (by simp), ?_⟩
  · refine (h.bel.trans (below_of_grown (grown_setCell wr ⟨g + 1, 3, none⟩ _) hs (by intro x hx; cases hx; exact Nat.le_succ g))).trans (below_of_grown (grown_setCell _ ⟨g + 1, 4, none⟩ _) (by simpa using hs) (by intro x hx; cases hx; exact Nat.le_succ g))
  · have h1 := (RowAt.set h.row 3 (.int .u64 (r : Int))).set 4 (.int .u64 (bs : Int))
    exact h1
theorem flatS_one (L : Int → List UInt8) (at_ : Int) : flatS L at_ 1 = L at_ := by
  rw [show (1 : Nat) = 0 + 1 from rfl, flatS_succ]
  simp [flatS]
/-- A body that no log wrote: a run ahead of the head's. -/
def stale (BY : List UInt8) (run : Nat) : Nat → Bool
  | 0 => false
  | m + 1 => stale BY run m || decide (run < leB ((sec BY m).take 8))
theorem stale_mono {BY : List UInt8} {run m n : Nat} (h : stale BY run m = true) (hmn : m ≤ n) : stale BY run n = true := by
  obtain ⟨d, rfl⟩ := Nat.exists_eq_add_of_le hmn
  clear hmn
  induction d with
  | zero => exact h
  | succ d ih => rw [← Nat.add_assoc]; unfold stale; rw [ih]; rfl
/-- Does sector i count, of run r? -/
def secGood (BY : List UInt8) (n base run r i : Nat) : Bool := decide (i < n - 2) && (secOk (sec BY i) i base run && (leB ((sec BY i).take 8) == r))
def dataOf (BY : List UInt8) (i : Nat) : List UInt8 := ((sec BY i).drop 12).take 488
/-- The bytes of a batch, out of sectors of one run. -/
def coll (BY : List UInt8) (n base run r long : Nat) : Nat → Nat → List UInt8 → Option (List UInt8 × Nat)
  | 0, i, acc => if long ≤ acc.length then some (acc, i) else none
  | f + 1, i, acc => if long ≤ acc.length then some (acc, i) else if secGood BY n base run r i then coll BY n base run r long f (i + 1) (acc ++ dataOf BY i) else none
def longOf (BY : List UInt8) (i : Nat) : Nat := leB ((dataOf BY i).take 4) + 4
/-- A log's batches. -/
def parse (BY : List UInt8) (n base run : Nat) : Nat → Nat → Nat → List (List UInt8) → Nat × List (List UInt8)
  | 0, used, _, bs => (used, bs)
  | f + 1, used, least, bs =>
    if decide (used < n - 2) && (secOk (sec BY used) used base run && decide (least ≤ leB ((sec BY used).take 8))) then
      match coll BY n base run (leB ((sec BY used).take 8)) (longOf BY used) (n - used) used [] with
      | none => (used, bs)
      | some (acc, i) => parse BY n base run f i (leB ((sec BY used).take 8)) (bs ++ [(acc.take (longOf BY used)).drop 4])
    else (used, bs)
/-- What lies in the body. -/
def bodyP (L : Int → List UInt8) (from_ : Int) (n : Nat) : List UInt8 := flatS L (from_ + 2) (n - 2)
/-- What look answers. -/
def lookP (L : Int → List UInt8) (from_ : Int) (n : Nat) : Option (Nat × Nat × Nat × List (List UInt8)) :=
  if (headsP L from_ 2).1 = 0 then none
  else if stale (bodyP L from_ n) (headsP L from_ 2).1 (n - 2) then none
  else some ((headsP L from_ 2).1, (headsP L from_ 2).2, parse (bodyP L from_ n) n (headsP L from_ 2).2 (headsP L from_ 2).1 (n + 1) 0 (headsP L from_ 2).2 [])
/-- Batches in the heap. -/
def Bats (w : World) (base : Nat) (v : Value) (bs : List (List UInt8)) : Prop :=
  ∃ xs : List (Option Addr × Nat × List UInt8), xs.map (fun x => x.2.2) = bs ∧ w.ownsRow base 41 1 v xs.length (xs.map fun x => .slice x.1 x.2.2.length x.2.1) ∧
    ∀ x ∈ xs, RdB w x.1 x.2.2 ∧ ∀ ad, x.1 = some ad → base ≤ ad.block ∧ ad.block < w.heap.size ∧ v.ownBlock ≠ some ad.block
def LookPost (w : World) (b : Nat) (from_ : Int) (n : Nat) (o : Option (Nat × Nat × Nat × List (List UInt8))) (e : Ending) (w' : World) : Prop :=
  Below w.heap.size w w' ∧ match o with
  | none => e = .returned (.tuple #[.pointer none, .int .i64 9])
  | some (run, base, used, bs) => ∃ lb allv, e = .returned (.tuple #[.pointer (some ⟨lb, 0, none⟩), .int .i64 0]) ∧ w.heap.size ≤ lb ∧ LgRow w' lb b from_ n run base allv used false ∧ Bats w' (lb + 1) allv bs
theorem bodyP_len {L : Int → List UInt8} (hL : ∀ k, (L k).length = 512) (from_ : Int) (n : Nat) : (bodyP L from_ n).length = (n - 2) * 512 := flatS_len hL _ _
theorem lookP_zero {L : Int → List UInt8} {from_ : Int} {n run base : Nat} (h : headsP L from_ 2 = (run, base)) (h0 : run = 0) : lookP L from_ n = none := by unfold lookP; rw [h, if_pos h0]
theorem lookP_stale {L : Int → List UInt8} {from_ : Int} {n run base : Nat} {BY : List UInt8} (h : headsP L from_ 2 = (run, base)) (hB : bodyP L from_ n = BY) (hs : stale BY run (n - 2) = true) : lookP L from_ n = none := by
  unfold lookP
  rw [h, hB]
  split
  · rfl
  · rfl
theorem lookP_good {L : Int → List UInt8} {from_ : Int} {n run base : Nat} {BY : List UInt8} (h : headsP L from_ 2 = (run, base)) (hB : bodyP L from_ n = BY) (h0 : run ≠ 0) (hs : stale BY run (n - 2) = false) : lookP L from_ n = some (run, base, parse BY n base run (n + 1) 0 base []) := by
  unfold lookP
  rw [h, hB, if_neg h0, if_neg (by simp [hs])]
theorem Bats.nil (w : World) (base : Nat) : Bats w base (.slice none 0 0) [] := ⟨[], rfl, World.ownsRow_nil w base _ 1, fun x hx => by cases hx⟩
theorem Bats.lt {w : World} {base : Nat} {v : Value} {bs : List (List UInt8)} (h : Bats w base v bs) : ∀ g, v.ownBlock = some g → base ≤ g ∧ g < w.heap.size := by
  obtain ⟨xs, -, ho, -⟩ := h
  exact World.ownsRow.lt ho
theorem Bats.keep {w w' : World} {X : Nat → Prop} (hk : KeepA X w w') {base : Nat} {v : Value} {bs : List (List UInt8)} (h : Bats w base v bs) (hx : ∀ g, base ≤ g → g < w.heap.size → ¬ X g) : Bats w' base v bs := by
  obtain ⟨xs, h1, h2, h3⟩ := h
  refine ⟨xs, h1, own_keep hk h2 (fun g hg => hx g (World.ownsRow.lt h2 g hg).1 (World.ownsRow.lt h2 g hg).2), fun x hm => ?_⟩
  obtain ⟨r, q⟩ := h3 x hm
  refine ⟨Rd.keepA r hk (fun b off he hb => hx b (q _ he).1 hb), fun ad he => ?_⟩
  obtain ⟨q1, q2, q3⟩ := q ad he
  exact ⟨q1, Nat.lt_of_lt_of_le q2 hk.size, q3⟩
theorem Bats.later {w w' : World} (hb : Below w.heap.size w w') {base : Nat} {v : Value} {bs : List (List UInt8)} (h : Bats w base v bs) : Bats w' base v bs := h.keep (KeepA.of_below (X := fun _ => False) hb) fun _ _ _ h => h
theorem Bats.down {w : World} {base base' : Nat} {v : Value} {bs : List (List UInt8)} (h : Bats w base v bs) (hb : base' ≤ base) : Bats w base' v bs := by
  obtain ⟨xs, h1, h2, h3⟩ := h
  refine ⟨xs, h1, ⟨h2.1, ?_⟩, fun x hm => ⟨(h3 x hm).1, fun ad he => ⟨Nat.le_trans hb ((h3 x hm).2 ad he).1, ((h3 x hm).2 ad he).2⟩⟩⟩
  rcases h2.2 with h | ⟨g, cap, cur, hv, hg, r⟩
  · exact .inl h
  · exact .inr ⟨g, cap, cur, hv, Nat.le_trans hb hg, r⟩
theorem eltV : Elt Try.prog 36 41 1 24 (.slice none 0 0) := ⟨Try.underlying36, by kernel_rfl, rfl, by decide⟩
theorem wp_pushV {o : Oper} {act : Act} {K : Act → World → Prop} {Q : Exit → Act → World → Prop} {w : World} (s x : Operand)
    (ho : o.op = .call { callee := .builtin .append, args := #[s, x], argTypes := #[36, 36] }) (base : Nat)
    (v : Value) (bs : List (List UInt8)) (hv : act.eval s = v) (g : Nat) (a : Option Addr) (l : List UInt8) (c : Nat) (hx : act.eval x = .slice (some ⟨g, 0, none⟩) 1 1)
    (hB : Bats w base v bs) (hg : RowAt w g 41 #[.slice a l.length c]) (hr : RdB w a l) (ha : ∀ ad, a = some ad → base ≤ ad.block ∧ ad.block < w.heap.size ∧ v.ownBlock ≠ some ad.block) (hsz : bs.length ≤ 1000000) (hbase : base ≤ w.heap.size)
    (h : ∀ v' w', Bats w' base v' (bs ++ [l]) → w.grownBy w' v.ownBlock → NewRow w v v' → K (act.put o.dst v') w') : o.wp Try.prog act w K Q := by
  obtain ⟨xs, h1, h2, h3⟩ := hB
  have hxl : xs.length = bs.length := by rw [← h1, List.length_map]
  have hrd : Rd w (some ⟨g, 0, none⟩) [.slice a l.length c] := .inr ⟨g, 0, rfl, hg.lt, fun k hkl => by
    obtain rfl : k = 0 := by simpa using hkl
    exact hg.cell 0⟩
  obtain ⟨v', w', hrun, q2, q3, q4⟩ := run_append_any eltV w base o.type v xs.length _ h2 (some ⟨g, 0, none⟩) 1 1 [.slice a l.length c] rfl hrd (fun u hu => by rw [List.mem_singleton.1 hu]; rfl) (by omega) (by omega) hbase
  unfold Oper.wp execOp
  simp only [ho, resolve, invoke, builtin, Sem.run_bind, Sem.run_pure, Result.andThen_ok, List.map_toArray, List.map_cons, List.map_nil, hv, hx, hrun]
  refine h v' w' ⟨xs ++ [(a, c, l)], by simp [h1], ?_, fun y hy => ?_⟩ q3 q4
  · rw [List.map_append, List.length_append]
    exact q2
  · have hlt : ∀ gg, v.ownBlock = some gg → gg < w.heap.size := fun gg hgg => (World.ownsRow.lt h2 gg hgg).2
    have key : ∀ (z : Option Addr × Nat × List UInt8), RdB w z.1 z.2.2 → (∀ ad, z.1 = some ad → base ≤ ad.block ∧ ad.block < w.heap.size ∧ v.ownBlock ≠ some ad.block) → RdB w' z.1 z.2.2 ∧ ∀ ad, z.1 = some ad → base ≤ ad.block ∧ ad.block < w'.heap.size ∧ v'.ownBlock ≠ some ad.block := by
      intro z hz hzz
      refine ⟨Rd.keepA hz (keep_grownO q3) (fun b off he hb e => (hzz _ he).2.2 e), fun ad he => ⟨(hzz ad he).1, Nat.lt_of_lt_of_le (hzz ad he).2.1 q3.size, fun e => ?_⟩⟩
      rcases q4 _ e with e2 | e2
      · exact (hzz ad he).2.2 e2
      · exact absurd (hzz ad he).2.1 (by omega)
    rcases List.mem_append.1 hy with hy | hy
    · exact key y (h3 y hy).1 (h3 y hy).2
    · obtain rfl := List.mem_singleton.1 hy
      exact key _ hr ha
/-- A sector, counting or not: one contract of look$1. -/
theorem sector_any (w : World) (nb bb lp lb : Nat) (n i : Nat) (ba bo bc : Nat) (BY : List UInt8) (run base : Nat) (h1 : w.cell? ⟨nb, 0, none⟩ = some (.int .i64 (n : Int))) (h2 : w.cell? ⟨bb, 0, none⟩ = some (.slice (some ⟨ba, bo, none⟩) ((n - 2) * 512) bc))
    (h3 : w.cell? ⟨lp, 0, none⟩ = some (.pointer (some ⟨lb, 0, none⟩))) (h4 : w.cell? ⟨lb, 3, none⟩ = some (.int .u64 (run : Int))) (h5 : w.cell? ⟨lb, 4, none⟩ = some (.int .u64 (base : Int)))
    (hn : 4 ≤ n) (hn2 : n ≤ 65536) (hi : i ≤ 100000) (hl : BY.length = (n - 2) * 512) (hc : (n - 2) * 512 ≤ bc) (hr : RdB w (some ⟨ba, bo, none⟩) BY) :
    Calls Try.prog 53 #[.int .i64 (i : Int), .pointer (some ⟨nb, 0, none⟩), .pointer (some ⟨bb, 0, none⟩), .pointer (some ⟨lp, 0, none⟩)] w fun e w' =>
      (∃ a m c r ok, e = .returned (.tuple #[.slice a m c, .int .u64 ((r : Nat) : Int), .bool ok]) ∧ r < 18446744073709551616 ∧ ok = (decide (i < n - 2) && secOk (sec BY i) i base run) ∧
        (ok = true → r = leB ((sec BY i).take 8) ∧ m = 488 ∧ RdB w' a (dataOf BY i) ∧ 488 ≤ c)) ∧ Below w.heap.size w w' := by
  by_cases hin : i < n - 2
  · refine (sector_yes w nb bb lp lb n i ba bo bc BY run base h1 h2 h3 h4 h5 hn hn2 hin hl hc hr).mono ?_
    rintro _ w' ⟨⟨a, c, rfl, hrd, hcc⟩, hb⟩
    exact ⟨⟨a, 488, c, _, _, rfl, leB8_lt (by rw [List.length_take]; omega), by rw [decide_eq_true hin]; rfl, fun _ => ⟨rfl, rfl, hrd, hcc⟩⟩, hb⟩
  · refine (sector_no w nb bb lp n i h1 hn hn2 hi (by omega)).mono ?_
    rintro _ w' ⟨rfl, rfl⟩
    exact ⟨⟨none, 0, 0, 0, false, rfl, by omega, by rw [decide_eq_false hin]; rfl, fun h => by cases h⟩, Below.refl _ _⟩
theorem parse_stop {BY : List UInt8} {n base run f used least : Nat} {bs : List (List UInt8)} (h : (decide (used < n - 2) && secOk (sec BY used) used base run) = false ∨ leB ((sec BY used).take 8) < least) : parse BY n base run (f + 1) used least bs = (used, bs) := by
  unfold parse
  rw [if_neg]
  intro hc
  simp only [Bool.and_eq_true, decide_eq_true_eq] at hc
  rcases h with h | h
  · rw [decide_eq_true hc.1, hc.2.1] at h
    cases h
  · omega
theorem parse_cut {BY : List UInt8} {n base run f used least : Nat} {bs : List (List UInt8)} (h : coll BY n base run (leB ((sec BY used).take 8)) (longOf BY used) (n - used) used [] = none) : parse BY n base run (f + 1) used least bs = (used, bs) := by
  unfold parse
  split
  · rw [h]
  · rfl
theorem parse_more {BY : List UInt8} {n base run f used least : Nat} {bs : List (List UInt8)} {acc : List UInt8} {i : Nat} (h0 : (decide (used < n - 2) && secOk (sec BY used) used base run) = true) (h1 : least ≤ leB ((sec BY used).take 8))
    (h : coll BY n base run (leB ((sec BY used).take 8)) (longOf BY used) (n - used) used [] = some (acc, i)) : parse BY n base run (f + 1) used least bs = parse BY n base run f i (leB ((sec BY used).take 8)) (bs ++ [(acc.take (longOf BY used)).drop 4]) := by
  conv => lhs; unfold parse
  simp only [Bool.and_eq_true, decide_eq_true_eq] at h0
  rw [if_pos (by simp only [Bool.and_eq_true, decide_eq_true_eq]; exact ⟨h0.1, h0.2, h1⟩), h]
theorem coll_end {BY : List UInt8} {n base run r long f i : Nat} {acc : List UInt8} (h : long ≤ acc.length) : coll BY n base run r long f i acc = some (acc, i) := by
  cases f <;> (unfold coll; rw [if_pos h])
theorem coll_no {BY : List UInt8} {n base run r long f i : Nat} {acc : List UInt8} (h : ¬ long ≤ acc.length) (hs : (decide (i < n - 2) && secOk (sec BY i) i base run) = false ∨ leB ((sec BY i).take 8) ≠ r) : coll BY n base run r long f i acc = none := by
  cases f with
  | zero => unfold coll; rw [if_neg h]
  | succ f =>
    unfold coll
    rw [if_neg h, if_neg]
    intro hc
    unfold secGood at hc
    simp only [Bool.and_eq_true, decide_eq_true_eq, beq_iff_eq] at hc
    rcases hs with h | h
    · rw [decide_eq_true hc.1, hc.2.1] at h
      cases h
    · exact h hc.2.2
theorem coll_yes {BY : List UInt8} {n base run r long f i : Nat} {acc : List UInt8} (h : ¬ long ≤ acc.length) (hs : (decide (i < n - 2) && secOk (sec BY i) i base run) = true) (hr : leB ((sec BY i).take 8) = r) : coll BY n base run r long (f + 1) i acc = coll BY n base run r long f (i + 1) (acc ++ dataOf BY i) := by
  simp only [Bool.and_eq_true, decide_eq_true_eq] at hs
  conv => lhs; unfold coll
  rw [if_neg h, if_pos (by unfold secGood; simp only [Bool.and_eq_true, decide_eq_true_eq, beq_iff_eq]; exact ⟨hs.1, hs.2, hr⟩)]
end Go.Proofs.Ytmbpacpkabbcgaa
