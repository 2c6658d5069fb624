/- Plain facts on numbers and sums of bytes: words turned by exclusive or, a table's steps, the sums of the program and of the document. Nothing of the program is used here. / Plain facts on memory: what a slice of bytes reads as, and that it reads so later, where old blocks are as they were. Nothing of the program is used here. / Plain facts on values of several cells (structs): a row in a block of its own, loads and stores of it, structs as elements of a slice, results that lie in such rows. Nothing of the program is used here. / Plain facts on a range over a function: what a round keeps, one law for the caller, and how a function leaves that holds such loops. Nothing of the program is used here. / Rows of structs: how they lie. Nothing of the program is used here. / Maps whose keys are structs: what they hold, and what lookups, updates and entries run to. Nothing of the program is used here. / Heaps in a list, plainly: what a swap upwards and a swap downwards keep. Nothing of the program is used here. / Links in an order, plainly: the least one that is ready, again and again; how many targets are left. Nothing of the program is used here. / The order's inner loop, plainly: who is behind a version that is told gets a target less. Nothing of the program is used here. / What the document answers for links in an order, plainly. Nothing of the program is used here. / Versions and links: how they lie; keys of maps. / Maps whose keys are structs: entries, the steps of a walk, ranges over such maps. Nothing of the program is used here. / cmp.Compare of texts and of numbers, cmp.Or of numbers: what they hand back; the world stays. / cmp.Or of two numbers; refs.Compare and the document's Compare of versions. / The document's Compare of versions (lexiconref23): the same number. / RefsCompare answers true for any three versions. / Rows of versions of the call's own: loads, stores, appends; methods called through an interface. / refs.ready: Len, Less, Swap, Push, Pop. / container/heap over refs.ready: up, down, Push, Pop. / container/heap over refs.ready: Push, Pop; the closure push of refs.Order. / refs.right, cmp.Or of errors, refs.targets; the document's Right and in. / refs.Order's state, plainly: what is left of each, who is behind a version; blocks that the heap does not touch; cmp.Or of errors. / refs.Order's state behind its first loop. -/
import Derived.WalkKit
import Derived.Lib.Hide
import Derived.WalkLawsBesides
import Derived.WalkSpells
import Derived.BigQuiet
import Derived.Deep.DeepCutAuto
import Derived.Deep.CutBlock
import Derived.Lib.AppendStr
import Derived.Laws.CopyRow
import Derived.RangeFuncNested
import Derived.RangeFuncBound
import Derived.RangeFuncCalls
import Derived.RangeFuncLeaves
import Derived.Shelf.Abstract
import Derived.Shelf.RegionOpen
import Derived.OwnWalkIn
import Derived.TacticsInMore
import Derived.LoopNIn
import Derived.LoopIn
import Derived.MapKept
import Derived.WideKeyRuns
import Derived.Laws.StructEq
import Derived.Test.YtcakdjnnfonijaaProg
import Derived.ChangeKeysEq
import Derived.Laws.IdiomRangeMap
import Derived.OrdersHeld
import Derived.StillTailTactics
import Derived.Deep.RegionHeldLaw
import Derived.Great.BuildSlice
namespace Go.Proofs.Ytcakdjnnfonijaa
open Go.RowKit

/-- One step down, turned by P. -/
def stp (P r : Nat) : Nat := if r % 2 = 1 then (r / 2) ^^^ P else r / 2
/-- Bytes as a text. -/
def str (l : List UInt8) : ByteArray := ⟨l.toArray⟩
end Go.Proofs.Ytcakdjnnfonijaa
namespace Go.Proofs.Ytcakdjnnfonijaa
open Go.RowKit

/-- The cells from an address on hold these values. -/
def Rd (w : World) (a : Option Addr) (l : List Value) : Prop :=
  l = [] ∨ ∃ b off, a = some ⟨b, off, none⟩ ∧ b < w.heap.size ∧ ∀ k (h : k < l.length), w.cell? ⟨b, off + k, none⟩ = some l[k]
/-- A byte as a value. -/
def bv (x : UInt8) : Value := .int .u8 (x.toNat : Int)
def RdB (w : World) (a : Option Addr) (l : List UInt8) : Prop := Rd w a (l.map bv)
theorem Rd.mono {w w' : World} {a : Option Addr} {l : List Value} (h : Rd w a l) (hb : Below w.heap.size w w') : Rd w' a l := by
  rcases h with h | ⟨b, off, ha, hlt, hc⟩
  · exact .inl h
  · exact .inr ⟨b, off, ha, Nat.lt_of_lt_of_le hlt hb.size, fun k hk => (hb.cell (p := ⟨b, off + k, none⟩) hlt).trans (hc k hk)⟩
theorem RdB.mono {w w' : World} {a : Option Addr} {l : List UInt8} (h : RdB w a l) (hb : Below w.heap.size w w') : RdB w' a l := Rd.mono h hb
theorem RdB.at {w : World} {a : Option Addr} {l : List UInt8} (h : RdB w a l) (hl : 0 < l.length) :
    ∃ b off, a = some ⟨b, off, none⟩ ∧ b < w.heap.size ∧ ∀ k (h : k < l.length), w.cell? ⟨b, off + k, none⟩ = some (.int .u8 (l[k].toNat : Int)) := by
  rcases h with h | ⟨b, off, ha, hlt, hc⟩
  · exact absurd (List.map_eq_nil_iff.1 h) (by intro e; simp [e] at hl)
  · exact ⟨b, off, ha, hlt, fun k hk => by have := hc k (by simpa using hk); simpa [bv] using this⟩
theorem below_trans {w w1 w2 : World} (h : Below w.heap.size w w1) (k : Below w1.heap.size w1 w2) : Below w.heap.size w w2 := h.trans (k.mono h.size)
theorem below_alloc {w : World} (o : Obj) : Below w.heap.size w (w.alloc o) := (Below.refl _ _).alloc (Nat.le_refl _) o
/-- What the program's tables say of a slice's type: its element's type, how many cells and bytes an element has, its zero. -/
structure Elt (P : Program) (t e : TypeId) (size bytes : Nat) (z : Value) : Prop where
  und : P.underlying t = some (.slice e)
  info : (P.info? e).map (fun i => (i.zero, i.size, i.bytes)) = some (some z, size, bytes)
  cells : z.cells.size = size
  pos : 0 < size
/-- Where an appended row comes to lie: where it lay, or in a new block. -/
def NewRow (w : World) (v v' : Value) : Prop := ∀ g, v'.ownBlock = some g → v.ownBlock = some g ∨ w.heap.size ≤ g
theorem rd_add {w : World} {a : Addr} {l : List Value} (h : Rd w (some a) l) : ∀ j u, l[j]? = some u → w.cell? (a.add j) = some u := by
  intro j u hu
  rcases h with rfl | ⟨b, off, ha, _, hc⟩
  · simp at hu
  · obtain rfl := Option.some.inj ha
    obtain ⟨hj, rfl⟩ := List.getElem?_eq_some_iff.1 hu
    have hadd : (⟨b, off, none⟩ : Addr).add j = ⟨b, off + j, none⟩ := by unfold Addr.add; split <;> simp_all
    rw [hadd]; exact hc j hj
theorem run_append_any {P : Program} {t e : TypeId} {size bytes : Nat} {z : Value} (E : Elt P t e size bytes z) (w : World) (base : Nat) (ty : TypeId)
    (v : Value) (n : Nat) (xs : List Value) (hown : w.ownsRow base e size v n xs)
    (a : Option Addr) (m c : Nat) (news : List Value) (hl : news.length = m * size) (hnews : Rd w a news) (h1 : ∀ u ∈ news, u.oneCell' = true)
    (hbytes : (n + m) * bytes ≤ 140737488355328) (h63 : n + m ≤ 140737488355328) (hbase : base ≤ w.heap.size) :
    ∃ v' w', (Builtin.append_ #[t, t] ty #[v, .slice a m c]).run P w = .ok v' w' ∧ w'.ownsRow base e size v' (n + m) (xs ++ news) ∧ w.grownBy w' v.ownBlock ∧ NewRow w v v' := by
  obtain ⟨i, hi, hz, hs, hb⟩ := info_parts E.info
  have ht := E.und
  have hpos := E.pos
  have hlen : (xs ++ news).length = (n + m) * size := by rw [List.length_append, hown.1, hl, Nat.add_mul]
  cases a with
  | none =>
    have hm : news = [] := by
      rcases hnews with h | ⟨b, off, ha, _⟩
      · exact h
      · cases ha
    subst hm
    have hm0 : m = 0 := by
      rcases Nat.eq_zero_or_pos m with h | h
      · exact h
      · have := Nat.mul_pos h hpos; simp at hl; omega
    subst hm0
    refine ⟨v, w, ?_, by simpa using hown, World.grownBy.refl _ _, fun g hg => .inl hg⟩
    rcases hown.2 with ⟨rfl, rfl⟩ | ⟨g, cap, cur, rfl, _, _, hnc, _⟩
    · simp [Builtin.append_, run_underlying ht, sizeOf, typeInfo, hi, Builtin.lenOf, Builtin.firstCells]
    · simp [Builtin.append_, run_underlying ht, sizeOf, typeInfo, hi, Builtin.lenOf, Builtin.firstCells, hnc, storeCells]
  | some ad =>
    have hadd := rd_add hnews
    subst hs
    subst hb
    have made : ∀ (old : Nat), (w.drew.alloc (.cells (xs.toArray ++ news.toArray ++ Builtin.zeroCells z.cells (grownCap w (n + m) old e - (n + m))) e)).ownsRow base e i.size
        (.slice (some ⟨w.heap.size, 0, none⟩) (n + m) (grownCap w (n + m) old e)) (n + m) (xs ++ news) := by
      intro old
      have hge := grownCap_ge w (n + m) old e
      have hcm := grownCap_le_maxLen w (n + m) old e (by unfold maxLen; omega)
      refine ⟨hlen, .inr ⟨w.heap.size, _, _, rfl, hbase, heap_alloc_new w.drew _, hge, hcm, ?_, ?_⟩⟩
      · simp only [Array.size_append, List.size_toArray, size_zeroCells, E.cells, hown.1, hl, ← Nat.add_mul]
        congr 1
        omega
      · simp only [Array.toList_append, List.append_assoc]
        rw [← List.append_assoc, ← hlen]
        exact List.take_left
    have grew : ∀ (o : Obj) (row : Option Nat), w.grownBy (w.drew.alloc o) row := fun o row => ⟨rfl, rfl, rfl, by simp, fun k hk _ => Below.heap_alloc w.drew o k hk⟩
    rcases hown.2 with ⟨rfl, rfl⟩ | ⟨g, cap, cur, rfl, hbg, hg, hnc, hcm, hcs, htake⟩
    · have hx : xs = [] := List.eq_nil_of_length_eq_zero (by simpa using hown.1)
      subst hx
      rcases Nat.eq_zero_or_pos m with hm | hm
      · subst hm
        have hn : news = [] := List.eq_nil_of_length_eq_zero (by simpa using hl)
        subst hn
        refine ⟨.slice none 0 0, w, ?_, World.ownsRow_nil w base e i.size, World.grownBy.refl _ _, fun g hg => .inl hg⟩
        simp [Builtin.append_, run_underlying ht, sizeOf, typeInfo, hi, Builtin.lenOf, Builtin.firstCells, loadCells, loadCellsFrom]
      · have hr := run_append_nil (P := P) w t ty e i z ht hi hz ad m c news hl hadd hm (by omega) (by have hbb := hbytes; simp only [Nat.zero_add] at hbb; omega)
        have hM := made 0
        simp only [Nat.zero_add, List.nil_append, Array.empty_append] at hM ⊢
        exact ⟨_, _, hr, hM, grew _ _, fun g hg => .inr (by simp [Value.ownBlock] at hg; omega)⟩
    · by_cases hroom : n + m ≤ cap
      · have hfit : n * i.size + news.length ≤ cur.size := by rw [hl, hcs, ← Nat.add_mul]; exact Nat.mul_le_mul_right _ hroom
        have hr := run_append_room (P := P) w t ty e i ht hi g n cap cur hg ad m c news hl hadd h1 hroom hfit
        refine ⟨_, _, hr, ⟨hlen, .inr ⟨g, cap, _, rfl, hbg, setRow_heap w g cur _ e _ hg, hroom, hcm, ?_, ?_⟩⟩, ⟨rfl, rfl, rfl, by simp, fun k hk hne => setRow_other w g k _ (fun e => hne (by simp [Value.ownBlock, e]))⟩, fun g' hg' => .inl hg'⟩
        · simp only [List.size_toArray, List.length_append, List.length_take, List.length_drop, Array.length_toList]
          omega
        · rw [htake, ← hlen]
          exact List.take_left
      · have holds : ∀ j u, xs[j]? = some u → w.cell? ((⟨g, 0, none⟩ : Addr).add j) = some u := hown.cells (g := g) rfl
        have hr := run_append_grow (P := P) w t ty e i z ht hi hz ⟨g, 0, none⟩ n cap xs hown.1 holds ad m c news hl hadd (by omega) (by omega) (growslice_fits (by omega) (by omega))
        exact ⟨_, _, hr, made cap, grew _ _, fun g' hg' => .inr (by simp [Value.ownBlock] at hg'; omega)⟩
theorem Rd.of_own {w : World} {base : Nat} {e : TypeId} {size : Nat} {v : Value} {n : Nat} {xs : List Value} (h : w.ownsRow base e size v n xs) :
    ∃ a cap, v = .slice a n cap ∧ n ≤ cap ∧ Rd w a xs := by
  rcases h.2 with ⟨rfl, rfl⟩ | ⟨g, cap, cur, rfl, hb, hg, hnc, hcm, hcs, htake⟩
  · exact ⟨none, 0, rfl, Nat.le_refl _, .inl (List.eq_nil_of_length_eq_zero (by simpa using h.1))⟩
  · refine ⟨_, cap, rfl, hnc, .inr ⟨g, 0, rfl, (Array.getElem?_eq_some_iff.1 hg).1, fun k hk => ?_⟩⟩
    rw [Nat.zero_add, cell_of_row w g k cur e (0, 0) hg]
    have : (cur.toList.take (n * size))[k]? = some xs[k] := by rw [htake]; exact List.getElem?_eq_getElem hk
    rw [List.getElem?_take] at this
    split at this
    · simpa using this
    · cases this
theorem below_grown {B : Nat} {a w w' : World} {row : Option Nat} (h : Below B a w) (hg : w.grownBy w' row) (hB : B ≤ w.heap.size) (hr : ∀ k, row = some k → B ≤ k) : Below B a w' := h.grown hg hB hr
theorem RdB.take {w : World} {a : Option Addr} {l : List UInt8} (h : RdB w a l) (k : Nat) : RdB w a (l.take k) := by
  rcases h with h | ⟨b, off, ha, hlt, hc⟩
  · exact .inl (by rw [List.map_eq_nil_iff.1 h, List.take_nil]; rfl)
  · exact .inr ⟨b, off, ha, hlt, fun j hj => by simp only [List.map_take, List.getElem_take]; exact hc j (by simp at hj ⊢; omega)⟩
theorem drewN_below {B : Nat} {w w1 : World} (h : Below B w w1) (n : Nat) : Below B w (w1.drewN n) := ⟨h.os, h.tape, h.output, h.size, h.block⟩
/-- 'string(b)'. -/
theorem run_str {P : Program} (w : World) (src dst e : TypeId) (a : Option Addr) (n c : Nat) (l : List UInt8)
    (hs : P.underlying src = some (.slice e)) (he : P.underlying e = some (.int .u8)) (hd : P.underlying dst = some .string) (hn : n = l.length) (h : RdB w a l) :
    (convert src dst (.slice a n c)).run P w = .ok (.string (str l)) w := by
  rw [run_convert_bytes_string w src dst e a n c hs he hd]
  cases a with
  | none =>
    obtain rfl : l = [] := by
      rcases h with h | ⟨b, off, ha, _⟩
      · exact List.map_eq_nil_iff.1 h
      · cases ha
    rfl
  | some ad =>
    have hl : (loadCells ad n).run P w = .ok ((l.map fun x => (x.toNat : Int)).map (Value.int .u8)).toArray w := by
      have h2 := run_loadCells_list (P := P) w ad (l.map bv) (rd_add h)
      rw [List.length_map, ← hn] at h2
      rw [h2, List.map_map]
      rfl
    rw [run_bytesToString w ad n c _ hl]
    have key : ∀ (k : List UInt8) (s : ByteArray), (k.map fun x => (x.toNat : Int)).foldl (fun r m => r.push (UInt8.ofNat m.toNat)) s = ⟨s.data ++ k.toArray⟩ := by
      intro k
      induction k with
      | nil => intro s; simp
      | cons x k ih =>
        intro s
        simp only [List.map_cons, List.foldl_cons, ih]
        congr 1
        simp [ByteArray.push]
    rw [key]
    simp [str]

theorem RdB.drop {w : World} {a : Option Addr} {l : List UInt8} (h : RdB w a l) (k c : Nat) (hc : l.length ≤ c) : RdB w (if c = k then a else a.map (·.add (k * 1))) (l.drop k) := by
  by_cases hk : l.length ≤ k
  · rw [List.drop_eq_nil_of_le hk]; exact .inl rfl
  · rw [if_neg (by omega)]
    rcases h with h | ⟨b, off, ha, hlt, hcell⟩
    · exact absurd (List.map_eq_nil_iff.1 h) (by intro e; simp [e] at hk)
    · subst ha
      refine .inr ⟨b, off + k, ?_, hlt, fun j hj => ?_⟩
      · simp only [Option.map_some, Nat.mul_one, Option.some.injEq]
        unfold Addr.add; split <;> simp_all
      · rw [Nat.add_assoc]
        simp only [List.map_drop, List.getElem_drop]
        exact hcell (k + j) (by simp at hj ⊢; omega)
theorem RdB.skip {w : World} {b off : Nat} {l : List UInt8} (h : RdB w (some ⟨b, off, none⟩) l) (k : Nat) : RdB w (some ⟨b, off + k, none⟩) (l.drop k) := by
  rcases h with h | ⟨b', off', ha, hlt, hcell⟩
  · exact .inl (by rw [List.map_eq_nil_iff.1 h, List.drop_nil]; rfl)
  · simp only [Option.some.injEq, Addr.mk.injEq, and_true] at ha
    obtain ⟨rfl, rfl⟩ := ha
    refine .inr ⟨b, off + k, rfl, hlt, fun j hj => ?_⟩
    rw [Nat.add_assoc]
    simp only [List.map_drop, List.getElem_drop]
    exact hcell (k + j) (by simp at hj ⊢; omega)

theorem Rd.grown {w0 w w' : World} {a : Option Addr} {l : List Value} {row : Option Nat} (h : Rd w0 a l) (hb : Below w0.heap.size w0 w) (hg : w.grownBy w' row) (hr : ∀ g, row = some g → w0.heap.size ≤ g) : Rd w' a l := by
  rcases h with h | ⟨b, off, ha, hlt, hc⟩
  · exact .inl h
  · have hne : some b ≠ row := fun e => by have := hr b e.symm; omega
    refine .inr ⟨b, off, ha, Nat.lt_of_lt_of_le hlt (Nat.le_trans hb.size hg.size), fun k hk => ?_⟩
    exact (World.cell?_of_block (a := ⟨b, off + k, none⟩) (hg.block b (Nat.lt_of_lt_of_le hlt hb.size) hne)).trans ((hb.cell (p := ⟨b, off + k, none⟩) hlt).trans (hc k hk))
/-- A variable of one cell in a block of its own. -/
def Box (w : World) (b : Nat) (t : TypeId) (v : Value) : Prop := w.heap[b]? = some (.cells #[v] t (0, 0))
theorem Box.cell {w : World} {b : Nat} {t : TypeId} {v : Value} (h : Box w b t v) : w.cell? ⟨b, 0, none⟩ = some v := by rw [cell_of_row w b 0 _ t (0, 0) h]; rfl
theorem Box.frozen {w : World} {b : Nat} {t : TypeId} {v : Value} (h : Box w b t v) : w.frozen? ⟨b, 0, none⟩ = false := frozen_of_row w b 0 _ t h
theorem Box.lt {w : World} {b : Nat} {t : TypeId} {v : Value} (h : Box w b t v) : b < w.heap.size := (Array.getElem?_eq_some_iff.1 h).1
theorem Box.new (w : World) (t : TypeId) (v : Value) : Box (w.alloc (.cells #[v] t)) w.heap.size t v := heap_alloc_new w _
theorem Box.mono {w w' : World} {b B : Nat} {t : TypeId} {v : Value} (h : Box w b t v) (hb : Below B w w') (hB : b < B) : Box w' b t v := (hb.block b hB).trans h
theorem Box.below {w w' : World} {b : Nat} {t : TypeId} {v : Value} (h : Box w b t v) (hb : Below w.heap.size w w') : Box w' b t v := h.mono hb h.lt
theorem Box.set {w : World} {b : Nat} {t : TypeId} {v : Value} (h : Box w b t v) (u : Value) : Box (w.setCell ⟨b, 0, none⟩ u) b t u := by
  unfold Box
  rw [heap_setCell_same w b 0 _ t u h]
  rfl
theorem Box.other {w : World} {b : Nat} {t : TypeId} {v : Value} (h : Box w b t v) {a : Addr} (u : Value) (hne : b ≠ a.block) : Box (w.setCell a u) b t v := (heap_setCell_other w a b u hne).trans h
theorem results_box {P : Program} {fn : Func} {p : Tmp} {ty : TypeId} (h : fn.results = #[.cell p ty]) {tmps : Array Value} {w : World} {b : Nat} {t : TypeId} {v : Value} {d : TypeDesc}
    (hp : tmps.getD p undef = .pointer (some ⟨b, 0, none⟩)) (hb : Box w b t v) (hd : (match d with | .struct _ | .array _ _ => true | _ => false) = false) (hu : P.underlying ty = some d) : (results fn tmps).run P w = .ok v w := by
  have hp' : tmps[p]?.getD undef = .pointer (some ⟨b, 0, none⟩) := by simpa using hp
  have hagg : (isAgg ty).run P w = .ok false w := by
    unfold isAgg
    rw [Sem.run_bind, run_underlying hu w]
    cases d <;> simp_all
  simp [results, h, hp', asAddr, loadVar, Sem.run_bind, hagg, hb.cell]

end Go.Proofs.Ytcakdjnnfonijaa
namespace Go.Proofs.Ytcakdjnnfonijaa
open Go.RowKit

/-- A variable of some cells in a block of its own. -/
def RowAt (w : World) (b : Nat) (t : TypeId) (cs : Array Value) : Prop := w.heap[b]? = some (.cells cs t (0, 0))
theorem RowAt.cell {w : World} {b : Nat} {t : TypeId} {cs : Array Value} (h : RowAt w b t cs) (k : Nat) : w.cell? ⟨b, k, none⟩ = cs[k]? := cell_of_row w b k cs t (0, 0) h
theorem RowAt.frozen {w : World} {b : Nat} {t : TypeId} {cs : Array Value} (h : RowAt w b t cs) (k : Nat) : w.frozen? ⟨b, k, none⟩ = false := frozen_of_row w b k cs t h
theorem RowAt.lt {w : World} {b : Nat} {t : TypeId} {cs : Array Value} (h : RowAt w b t cs) : b < w.heap.size := (Array.getElem?_eq_some_iff.1 h).1
theorem RowAt.new (w : World) (t : TypeId) (cs : Array Value) : RowAt (w.alloc (.cells cs t)) w.heap.size t cs := heap_alloc_new w _
theorem RowAt.mono {w w' : World} {b B : Nat} {t : TypeId} {cs : Array Value} (h : RowAt w b t cs) (hb : Below B w w') (hB : b < B) : RowAt w' b t cs := (hb.block b hB).trans h
theorem RowAt.below {w w' : World} {b : Nat} {t : TypeId} {cs : Array Value} (h : RowAt w b t cs) (hb : Below w.heap.size w w') : RowAt w' b t cs := h.mono hb h.lt
theorem RowAt.grown {w w' : World} {b : Nat} {t : TypeId} {cs : Array Value} {row : Option Nat} (h : RowAt w b t cs) (hg : w.grownBy w' row) (hr : ∀ g, row = some g → b ≠ g) : RowAt w' b t cs :=
  (hg.block b h.lt (fun e => hr b e.symm rfl)).trans h
theorem RowAt.set {w : World} {b : Nat} {t : TypeId} {cs : Array Value} (h : RowAt w b t cs) (k : Nat) (u : Value) : RowAt (w.setCell ⟨b, k, none⟩ u) b t (cs.setIfInBounds k u) := heap_setCell_same w b k cs t u h
theorem RowAt.other {w : World} {b : Nat} {t : TypeId} {cs : Array Value} (h : RowAt w b t cs) {a : Addr} (u : Value) (hne : b ≠ a.block) : RowAt (w.setCell a u) b t cs := (heap_setCell_other w a b u hne).trans h
theorem RowAt.box {w : World} {b : Nat} {t : TypeId} {v : Value} (h : RowAt w b t #[v]) : Box w b t v := h
theorem grown_setCell (w : World) (a : Addr) (u : Value) : w.grownBy (w.setCell a u) (some a.block) := ⟨rfl, rfl, rfl, by simp [World.setCell], fun i _ hi => heap_setCell_other w a i u (by intro e; exact hi (by rw [e]))⟩
theorem grown_setRow (w : World) (b : Nat) (cs : Array Value) : w.grownBy (w.setRow b cs) (some b) := ⟨rfl, rfl, rfl, by simp, fun i _ hi => setRow_other w b i cs (by intro e; exact hi (by rw [e]))⟩
theorem below_of_grown {B : Nat} {w w' : World} {row : Option Nat} (hg : w.grownBy w' row) (hB : B ≤ w.heap.size) (hr : ∀ g, row = some g → B ≤ g) : Below B w w' := (Below.refl B w).grown hg hB hr

/-- A struct type of so many cells. -/
def Agg (P : Program) (ty : TypeId) (n : Nat) : Prop := (∃ fs, P.underlying ty = some (.struct fs)) ∧ (P.info? ty).map (·.size) = some n
theorem run_loadVar_cells {P : Program} (w : World) (a : Addr) (ty : TypeId) (cs : List Value) (hA : Agg P ty cs.length) (h : ∀ j v, cs[j]? = some v → w.cell? (a.add j) = some v) :
    (loadVar ty a).run P w = .ok (.agg cs.toArray) w := by
  have hl : (loadCells a cs.length).run P w = .ok cs.toArray w := run_loadCells_list (P := P) w a cs h
  obtain ⟨⟨fs, hu⟩, hi⟩ := hA
  cases hq : P.info? ty with
  | none => simp [hq] at hi
  | some i =>
    have hs : i.size = cs.length := by simpa [hq] using hi
    have hagg : (isAgg ty).run P w = .ok true w := by
      unfold isAgg
      rw [Sem.run_bind, run_underlying hu w]
      rfl
    simp [loadVar, Sem.run_bind, hagg, sizeOf, typeInfo, hq, hs, hl]
/-- A whole struct is loaded. -/
theorem step_loadCells {P : Program} {ops : Array Oper} {rest : List Oper} {o : Oper} {a : Act} {w : World} {Q : Exit → Act → World → Prop} (hgd : o.guard = none) (ty : TypeId) (x : Operand) (ho : o.op = .load ty x)
    (p : Addr) (hx : a.eval x = .pointer (some p)) (cs : List Value) (hA : Agg P ty cs.length) (hc : ∀ j v, cs[j]? = some v → w.cell? (p.add j) = some v)
    (h : wpList P ops Q rest (a.put o.dst (.agg cs.toArray)) w) : wpList P ops Q (o :: rest) a w :=
  wpList_plain hgd fun K hK => by
    unfold Oper.wp execOp
    simp only [ho, hx, Instr.loadAt, Instr.sureAddr, Sem.run_bind, Sem.run_pure, Result.andThen_ok, run_loadVar_cells w p ty cs hA hc]
    exact hK _ _ h
/-- One cell of a struct is stored. -/
theorem step_storeField {P : Program} {ops : Array Oper} {rest : List Oper} {o : Oper} {a : Act} {w : World} {Q : Exit → Act → World → Prop} (hgd : o.guard = none) (ty : TypeId) (x y : Operand) (ho : o.op = .store ty x y)
    (hd : o.dst = none) (b k : Nat) (v : Value) (hx : a.eval x = .pointer (some ⟨b, k, none⟩)) (hy : a.eval y = v)
    (t : TypeId) (old new : Array Value) (hg : RowAt w b t old) (hi : (P.info? ty).map (·.size) = some 1) (hk : k < old.size) (h1 : v.oneCell' = true) (hnew : new = old.setIfInBounds k v)
    (h : ∀ w', RowAt w' b t new → w.grownBy w' (some b) → wpList P ops Q rest a w') : wpList P ops Q (o :: rest) a w :=
  wpList_plain hgd fun K hK => by
    have hc : v.cells = #[v] := by cases v <;> first | rfl | cases h1
    have hst := run_storeCells_at P b k t [v] 0 old w hg (by simp; omega) (fun u hu => by rw [List.mem_singleton.1 hu]; exact h1)
    have hrow := setRow_heap w b old (old.toList.take (k + 0) ++ [v] ++ old.toList.drop (k + 0 + [v].length)).toArray t (0, 0) hg
    have he : (old.toList.take (k + 0) ++ [v] ++ old.toList.drop (k + 0 + [v].length)).toArray = new := by
      rw [hnew]
      apply Array.ext'
      rw [Array.toList_setIfInBounds, List.set_eq_take_append_cons_drop, if_pos (by simpa using hk)]
      simp
    rw [he] at hst hrow
    have hrun : (storeVar ty ⟨b, k, none⟩ v).run P w = .ok () (w.setRow b new) := by
      cases hq : P.info? ty with
      | none => simp [hq] at hi
      | some i =>
        have hs : i.size = 1 := by simpa [hq] using hi
        simp [storeVar, sizeOf, typeInfo, hq, hc, hs, hst]
    unfold Oper.wp execOp
    simp only [ho, hx, hy, Instr.storeAt, Instr.sureAddr, Sem.run_bind, Sem.run_pure, Result.andThen_ok, hrun]
    have := h _ hrow (grown_setRow w b new)
    exact hK _ _ (by rw [hd]; exact this)
end Go.Proofs.Ytcakdjnnfonijaa
namespace Go.Proofs.Ytcakdjnnfonijaa
open Go.RowKit

/-- Every row of cells but those of X lies as it lay: what an iterator asks of a round. -/
structure KeepC (X : Nat → Prop) (W W' : World) : Prop where
  size : W.heap.size ≤ W'.heap.size
  same : ∀ k c t fz, ¬ X k → W.heap[k]? = some (.cells c t fz) → W'.heap[k]? = some (.cells c t fz)
/-- Every block but those of X lies as it lay. -/
structure KeepA (X : Nat → Prop) (W W' : World) : Prop where
  os : W'.os = W.os
  tape : W'.tape = W.tape
  output : W'.output = W.output
  size : W.heap.size ≤ W'.heap.size
  same : ∀ k, k < W.heap.size → ¬ X k → W'.heap[k]? = W.heap[k]?
theorem KeepC.refl (X : Nat → Prop) (W : World) : KeepC X W W := ⟨Nat.le_refl _, fun _ _ _ _ _ h => h⟩
theorem KeepC.trans {X : Nat → Prop} {A B C : World} (h : KeepC X A B) (k : KeepC X B C) : KeepC X A C := ⟨Nat.le_trans h.size k.size, fun i c t fz hx hi => k.same i c t fz hx (h.same i c t fz hx hi)⟩
theorem KeepA.refl (X : Nat → Prop) (W : World) : KeepA X W W := ⟨rfl, rfl, rfl, Nat.le_refl _, fun _ _ _ => rfl⟩
theorem KeepA.trans {X : Nat → Prop} {A B C : World} (h : KeepA X A B) (k : KeepA X B C) : KeepA X A C :=
  ⟨k.os.trans h.os, k.tape.trans h.tape, k.output.trans h.output, Nat.le_trans h.size k.size, fun i hi hx => (k.same i (Nat.lt_of_lt_of_le hi h.size) hx).trans (h.same i hi hx)⟩
theorem KeepA.c {X : Nat → Prop} {W W' : World} (h : KeepA X W W') : KeepC X W W' := ⟨h.size, fun k _ _ _ hx hk => (h.same k (Array.getElem?_eq_some_iff.1 hk).1 hx).trans hk⟩
theorem KeepA.below {X : Nat → Prop} {W W' : World} {B : Nat} (h : KeepA X W W') (hB : B ≤ W.heap.size) (hX : ∀ k, X k → B ≤ k) : Below B W W' :=
  ⟨h.os, h.tape, h.output, h.size, fun k hk => h.same k (by omega) (fun hx => by have := hX k hx; omega)⟩
theorem KeepA.of_below {X : Nat → Prop} {W W' : World} (h : Below W.heap.size W W') : KeepA X W W' := ⟨h.os, h.tape, h.output, h.size, fun k hk _ => h.block k hk⟩
theorem KeepA.setCell {X : Nat → Prop} {W W' : World} {a : Addr} {v : Value} (h : KeepA X W W') (hx : X a.block) : KeepA X W (W'.setCell a v) :=
  h.trans ⟨rfl, rfl, rfl, by simp [World.setCell], fun k _ hk => Below.heap_setCell _ _ _ _ (fun e => hk (by rw [e]; exact hx))⟩
theorem KeepA.mono {X Y : Nat → Prop} {W W' : World} (h : KeepA X W W') (hx : ∀ k, X k → Y k) : KeepA Y W W' := ⟨h.os, h.tape, h.output, h.size, fun k hk hy => h.same k hk (fun e => hy (hx k e))⟩
theorem KeepA.cell {X : Nat → Prop} {W W' : World} (h : KeepA X W W') {p : Addr} {v : Value} (hc : W.cell? p = some v) (hx : ¬ X p.block) : W'.cell? p = some v :=
  (World.cell?_of_block (h.same p.block (World.block_lt_of_cell? W p hc) hx)).trans hc
theorem KeepC.cell {X : Nat → Prop} {W W' : World} (h : KeepC X W W') {p : Addr} {v : Value} (hc : W.cell? p = some v) (hx : ¬ X p.block) : W'.cell? p = some v := by
  unfold World.cell? at hc ⊢
  split at hc
  · rename_i c t fz hh
    rw [h.same _ _ _ _ hx hh]
    exact hc
  · cases hc
theorem Rd.keepA {X : Nat → Prop} {W W' : World} {a : Option Addr} {l : List Value} (h : Rd W a l) (hk : KeepA X W W') (hx : ∀ b off, a = some ⟨b, off, none⟩ → b < W.heap.size → ¬ X b) : Rd W' a l := by
  rcases h with h | ⟨b, off, ha, hlt, hc⟩
  · exact .inl h
  · exact .inr ⟨b, off, ha, Nat.lt_of_lt_of_le hlt hk.size, fun k hk' => hk.cell (hc k hk') (hx b off ha hlt)⟩
theorem keepC_put {X : Nat → Prop} (W : World) (l : Nat) (o o' : Obj) (h : W.heap[l]? = some o) (hc : o.isCells = false) : KeepC X W (W.putObj l o') := by
  refine ⟨by simp, fun k c t fz _ hk => ?_⟩
  rw [World.putObj_heap_other]
  · exact hk
  · intro e
    subst e
    rw [h] at hk
    cases hk
    simp [Obj.isCells] at hc
theorem Box.keepA {X : Nat → Prop} {W W' : World} {b : Nat} {t : TypeId} {v : Value} (h : Box W b t v) (hk : KeepA X W W') (hx : ¬ X b) : Box W' b t v := (hk.same b h.lt hx).trans h
/-- What holds of blocks that lay ahead of the loop, or of rows of cells. -/
def Stays (B : Nat) (W W' : World) : Prop := ∀ k o, W.heap[k]? = some o → (k < B ∨ o.isCells = true) → W'.heap[k]? = some o
theorem stays_grown {B : Nat} {W W' : World} {row : Option Nat} (hg : W.grownBy W' row) (hr : ∀ r, row = some r → B ≤ r ∧ ∃ o : Obj, W.heap[r]? = some o ∧ o.isCells = false) : Stays B W W' := by
  intro k o hk ho
  refine (hg.block k (Array.getElem?_eq_some_iff.1 hk).1 ?_).trans hk
  intro e
  obtain ⟨hB, o', ho', hc⟩ := hr k e.symm
  rw [hk] at ho'
  obtain rfl := Option.some.inj ho'
  rcases ho with ho | ho
  · omega
  · rw [ho] at hc; cases hc
theorem Box.stays {B : Nat} {W W' : World} {b : Nat} {t : TypeId} {v : Value} (h : Box W b t v) (hs : Stays B W W') : Box W' b t v := hs b _ h (.inr rfl)
/-- How a round may be left. -/
def rndPost (X : Nat → Prop) (G : Nat → World → Prop) (Gx : Code → Nat → World → Prop) (k : Nat) (W : World) : Exit → Act → World → Prop
  | .normal, _, W' => KeepA X W W' ∧ G k W'
  | .ret, _, W' => KeepA X W W' ∧ Gx .ret k W'
  | .exit id, _, W' => KeepA X W W' ∧ Gx (.exit id) k W'
  | .goto t, _, W' => KeepA X W W' ∧ Gx (.goto t) k W'
  | .panic _, _, _ => False
  | .outgrown, _, _ => False
/-- An iterator's contract: it goes round 'len' times, in round k with arguments of which N speaks, or till a round says no; it asks of a round that it leave alone all rows of cells but those of X. -/
def Stops (P : Program) (gf : Nat) (lb : Array Value) (X : Nat → Prop) (N : Nat → Array Value → World → Prop) (len : Nat) (w : World) : Prop :=
  ∀ (lp : Nat) (J Jx : Nat → World → Prop) (W : World), Below w.heap.size w W → AbidesFrom W.heap.size J → AbidesFrom W.heap.size Jx →
    (∀ k args W1, k < len → N k args W1 → KeepC X W W1 → J k W1 → YieldAt Fence.wide 2 P lp args W1 fun e W' =>
      (e = .returned (.bool true) ∧ J (k + 1) W' ∧ KeepC X W1 W') ∨ (e = .returned (.bool false) ∧ Jx (k + 1) W')) →
    J 0 W →
    CallsIn Fence.wide 3 P gf (#[.func (.yield lp) #[] #[]] ++ lb) W fun e W' => (∃ v, e = .returned v) ∧ (J len W' ∨ ∃ k, k < len ∧ Jx (k + 1) W')
/-- The statement 'for .. := range seq { body }' of a function that is called as ever. -/
theorem wp_range {P : Program} {g : Operand} {ps : Array Tmp} {assign body : Code} {Q : Exit → Act → World → Prop} {a : Act} {w : World}
    {gf : Nat} {lb : Array Value} (hg : a.eval g = .func (.func gf) #[] lb) (eg : ∀ args w, (callFunc gf args).run P w = .ok (.enter gf args) w)
    (X : Nat → Prop) {N : Nat → Array Value → World → Prop} {len : Nat} (hseq : Stops P gf lb X N len w) (hX : ∀ k, X k → k < w.heap.size) (hps : ∀ k args W, N k args W → args.size = ps.size)
    (G : Nat → World → Prop) (Gx : Code → Nat → World → Prop)
    (hG : ∀ s W W', G s W → Stays w.heap.size W W' → G s W') (hGx : ∀ c s W W', Gx c s W → Stays w.heap.size W W' → Gx c s W') (h0 : G 0 w)
    (hround : ∀ (l k : Nat) (args : Array Value) (W : World), k < len → N k args W → KeepA X w W → G k W →
      assign.wpIn (Fence.wide.inRound l) 2 P (Exit.then (fun a1 W1 => KeepA X W W1 ∧ ∀ W2, Stays w.heap.size W1 W2 → KeepA X w W2 → body.wpIn (Fence.wide.inRound l) 2 P (rndPost X G Gx (k + 1) W2) a1 W2) (fun _ _ _ => False))
        { tmps := (ps.zip args).foldl (fun t (p, v) => t.setIfInBounds p v) a.tmps, defers := [] } W)
    (hdone : ∀ (D : Nat) (W : World), w.heap.size ≤ D → KeepA X w W → G len W → W.heap[D]? = some (.deferred (some [])) → Q .normal { a with defers := { target := .collected D, args := #[] } :: a.defers } W)
    (hstop : ∀ (D : Nat) (c : Code) (k : Nat) (W : World), w.heap.size ≤ D → k < len → KeepA X w W → Gx c (k + 1) W → W.heap[D]? = some (.deferred (some [])) → c.wp P Q { a with defers := { target := .collected D, args := #[] } :: a.defers } W) :
    (Code.rangeFunc g ps assign body).wp P Q a w := by
  -- the book-keeping of the loop: block D the deferred calls of its rounds, block l its record
  have hturn : ∀ {W W' : World} {row : Option Nat}, KeepA X w W → W.grownBy W' row → (∀ r, row = some r → w.heap.size ≤ r) → KeepA X w W' := fun hs hgr hr =>
    ⟨hgr.os.trans hs.os, hgr.tape.trans hs.tape, hgr.output.trans hs.output, Nat.le_trans hs.size hgr.size, fun k hk hx => (hgr.block k (Nat.lt_of_lt_of_le hk hs.size) (fun e => by have := hr k e.symm; omega)).trans (hs.same k hk hx)⟩
  have hother : ∀ {W W' : World} {r : Nat} {o : Obj}, KeepA X W W' → w.heap.size ≤ r → W.heap[r]? = some o → W'.heap[r]? = some o := fun h hB ho =>
    (h.same _ (Array.getElem?_eq_some_iff.1 ho).1 (fun hx => by have := hX _ hx; omega)).trans ho
  refine (wpIn_wide (n := 4)).1 (wpIn_rangeFunc fun fn hfn => ?_)
  let rec_ : LoopState → Option Code → Obj := fun st pe => .loop { state := st, pending := pe, fn, tmps := a.tmps, params := ps, assign, body, defers := w.heap.size }
  obtain ⟨W1, hW1⟩ : ∃ W1, (w.alloc (.deferred (some []))).alloc (rec_ .ready none) = W1 := ⟨_, rfl⟩
  have hl1 : W1.heap[w.heap.size + 1]? = some (rec_ .ready none) := by
    rw [← hW1]; have := World.alloc_heap_new (w.alloc (.deferred (some []))) (rec_ .ready none); rwa [World.size_alloc] at this
  have hd1 : W1.heap[w.heap.size]? = some (.deferred (some [])) := by
    rw [← hW1]; exact (Below.heap_alloc _ _ _ (by simp)).trans (World.alloc_heap_new w _)
  have hb1 : Below w.heap.size w W1 := by
    rw [← hW1]; exact ((Below.refl _ w).alloc (Nat.le_refl _) _).alloc (by simp) _
  have hst1 : Stays w.heap.size w W1 := fun k o hk _ => (hb1.block k (Array.getElem?_eq_some_iff.1 hk).1).trans hk
  refine ⟨w.heap.size + 1, [{ target := .collected w.heap.size, args := #[] }], W1, { target := .fn (.func gf) lb, args := #[.func (.yield (w.heap.size + 1)) #[] #[]] }, W1, gf,
    #[.func (.yield (w.heap.size + 1)) #[] #[]] ++ lb, W1, ?_, ?_, ?_, ?_, fun _ => by omega, ?_⟩
  · rw [← hW1]; exact run_enterLoop_outer _ _ _ _ _
  · simp only [resolve, hg]
    simp [go_sem]
  · exact fun _ _ => trivial
  · simp [invoke, go_sem, eg]
  -- the iterator, at the caller's word on its own blocks beside the two blocks of the book-keeping
  have habide : ∀ (M : Nat → World → Prop) (o : Obj), (∀ s W W', M s W → Stays w.heap.size W W' → M s W') → o.isCells = false → o.isWalk = false →
      AbidesFrom W1.heap.size (fun k W => (KeepA X w W ∧ M k W) ∧ W.heap[w.heap.size + 1]? = some o ∧ W.heap[w.heap.size]? = some (.deferred (some []))) := by
    intro M o hM _ ho s U V row hs hgr hr
    have hrow : ∀ r, row = some r → w.heap.size ≤ r ∧ ∃ o : Obj, U.heap[r]? = some o ∧ o.isCells = false := fun r e => by
      obtain ⟨hB, o', ho', hw⟩ := hr r e
      exact ⟨by have := hb1.size; omega, o', ho', Obj.not_cells_of_walk hw⟩
    have keep : ∀ (r : Nat) (o' : Obj), U.heap[r]? = some o' → o'.isWalk = false → V.heap[r]? = some o' := fun r o' h hw =>
      (hgr.block r (Array.getElem?_eq_some_iff.1 h).1 (fun e => by obtain ⟨_, o2, h2, hw2⟩ := hr r e.symm; rw [h] at h2; cases h2; rw [hw] at hw2; cases hw2)).trans h
    exact ⟨⟨hturn hs.1.1 hgr fun r e => (hrow r e).1, hM s U V hs.1.2 (stays_grown hgr hrow)⟩, keep _ _ hs.2.1 ho, keep _ _ hs.2.2 rfl⟩
  have hcall := hseq (w.heap.size + 1) (fun k W => (KeepA X w W ∧ G k W) ∧ W.heap[w.heap.size + 1]? = some (rec_ .ready none) ∧ W.heap[w.heap.size]? = some (.deferred (some [])))
    (fun k W => ∃ c, (KeepA X w W ∧ Gx c k W) ∧ W.heap[w.heap.size + 1]? = some (rec_ .done (some c)) ∧ W.heap[w.heap.size]? = some (.deferred (some []))) W1 hb1
    (habide G _ hG rfl rfl) (fun s U V row hs hgr hr => by obtain ⟨c, hc⟩ := hs; exact ⟨c, habide (Gx c) _ (hGx c) rfl rfl s U V row hc hgr hr⟩) ?_ ⟨⟨KeepA.of_below hb1, hG 0 _ _ h0 hst1⟩, hl1, hd1⟩
  · refine hcall.mono ?_
    rintro e W2 ⟨⟨v, rfl⟩, (⟨⟨hk2, hg2⟩, hl2, hd2⟩ | ⟨k, hk, c, ⟨hk2, hg2⟩, hl2, hd2⟩)⟩
    · have he := run_endLoop (P := P) hl2 (by simp)
      refine ⟨none, _, he, hdone w.heap.size _ (Nat.le_refl _) (hturn hk2 (grownBy_putObj' W2 _ _) (fun r e => by cases e; omega)) (hG _ _ _ hg2 (stays_grown (grownBy_putObj' W2 _ _) (fun r e => by cases e; exact ⟨by omega, _, hl2, rfl⟩))) ?_⟩
      rw [World.putObj_heap_other (by omega)]; exact hd2
    · have he := run_endLoop (P := P) hl2 (by simp)
      refine ⟨some c, _, he, wpIn_wide.2 (hstop w.heap.size c k _ (Nat.le_refl _) hk (hturn hk2 (grownBy_putObj' W2 _ _) (fun r e => by cases e; omega)) (hGx _ _ _ _ hg2 (stays_grown (grownBy_putObj' W2 _ _) (fun r e => by cases e; exact ⟨by omega, _, hl2, rfl⟩))) ?_)⟩
      rw [World.putObj_heap_other (by omega)]; exact hd2
  -- a round
  rintro k args W hk hN _ ⟨⟨hkW, hgW⟩, hl, hd⟩
  refine ⟨fn, _, assign, body, run_yield (P := P) (args := args) hl (hps k args W hN), roundIn_of_wpIn hfn (wpIn_mono (hround _ k args W hk hN hkW hgW) ?_)⟩
  intro e a1 W2 h
  cases e with
  | normal =>
    obtain ⟨hk2, hA2⟩ := h
    have hl2 := hother hk2 (by omega) hl
    have hd2 := hother hk2 (Nat.le_refl _) hd
    refine ⟨_, run_beginRound hl2 rfl, ?_⟩
    have hlt : w.heap.size + 1 < W2.heap.size := (Array.getElem?_eq_some_iff.1 hl2).1
    have hl3 : (W2.putObj (w.heap.size + 1) (rec_ .busy none)).heap[w.heap.size + 1]? = some (rec_ .busy none) := World.putObj_heap_same hlt
    have hd3 : (W2.putObj (w.heap.size + 1) (rec_ .busy none)).heap[w.heap.size]? = some (.deferred (some [])) := (World.putObj_heap_other (by omega)).trans hd2
    have hk3 := hturn (hkW.trans hk2) (grownBy_putObj' W2 (w.heap.size + 1) (rec_ .busy none)) (fun r e => by cases e; omega)
    have hA3 := hA2 _ (stays_grown (grownBy_putObj' W2 (w.heap.size + 1) (rec_ .busy none)) (fun r e => by cases e; exact ⟨by omega, _, hl2, rfl⟩)) hk3
    have hc3 : KeepC X W (W2.putObj (w.heap.size + 1) (rec_ .busy none)) := hk2.c.trans (keepC_put _ _ _ _ hl2 rfl)
    refine wpIn_mono hA3 ?_
    have fin : ∀ (jump : Option Code) (W4 : World), KeepA X (W2.putObj (w.heap.size + 1) (rec_ .busy none)) W4 →
        (Instr.endRound (w.heap.size + 1) jump).run P W4 = .ok (.bool jump.isNone) (W4.putObj (w.heap.size + 1) (rec_ (if jump.isNone then .ready else .done) jump)) ∧
        KeepA X w (W4.putObj (w.heap.size + 1) (rec_ (if jump.isNone then .ready else .done) jump)) ∧
        KeepC X W (W4.putObj (w.heap.size + 1) (rec_ (if jump.isNone then .ready else .done) jump)) ∧
        Stays w.heap.size W4 (W4.putObj (w.heap.size + 1) (rec_ (if jump.isNone then .ready else .done) jump)) ∧
        (W4.putObj (w.heap.size + 1) (rec_ (if jump.isNone then .ready else .done) jump)).heap[w.heap.size + 1]? = some (rec_ (if jump.isNone then .ready else .done) jump) ∧
        (W4.putObj (w.heap.size + 1) (rec_ (if jump.isNone then .ready else .done) jump)).heap[w.heap.size]? = some (.deferred (some [])) := by
      intro jump W4 hk4
      have hl4 := hother hk4 (by omega) hl3
      have hd4 := hother hk4 (Nat.le_refl _) hd3
      exact ⟨run_endRound (P := P) jump hl4, hturn (hk3.trans hk4) (grownBy_putObj' _ _ _) (fun r e => by cases e; omega), (hc3.trans hk4.c).trans (keepC_put _ _ _ _ hl4 rfl),
        stays_grown (grownBy_putObj' _ _ _) (fun r e => by cases e; exact ⟨by omega, _, hl4, rfl⟩), World.putObj_heap_same (Array.getElem?_eq_some_iff.1 hl4).1, (World.putObj_heap_other (by omega)).trans hd4⟩
    intro e a3 W4 hp
    cases e with
    | normal =>
      obtain ⟨hr, h1, h2, h3, h4, h5⟩ := fin none W4 hp.1
      exact ⟨_, _, hr, .inl ⟨rfl, ⟨⟨h1, hG _ _ _ hp.2 h3⟩, h4, h5⟩, h2⟩⟩
    | ret =>
      obtain ⟨hr, h1, h2, h3, h4, h5⟩ := fin (some .ret) W4 hp.1
      exact ⟨_, _, hr, .inr ⟨rfl, .ret, ⟨h1, hGx _ _ _ _ hp.2 h3⟩, h4, h5⟩⟩
    | exit id =>
      obtain ⟨hr, h1, h2, h3, h4, h5⟩ := fin (some (.exit id)) W4 hp.1
      exact ⟨_, _, hr, .inr ⟨rfl, .exit id, ⟨h1, hGx _ _ _ _ hp.2 h3⟩, h4, h5⟩⟩
    | goto t =>
      obtain ⟨hr, h1, h2, h3, h4, h5⟩ := fin (some (.goto t)) W4 hp.1
      exact ⟨_, _, hr, .inr ⟨rfl, .goto t, ⟨h1, hGx _ _ _ _ hp.2 h3⟩, h4, h5⟩⟩
    | panic ch => exact hp.elim
    | outgrown => exact hp.elim
  | ret => exact h.elim
  | exit id => exact h.elim
  | goto t => exact h.elim
  | panic ch => exact h.elim
  | outgrown => exact h.elim
/-- A function that holds ranges over functions, entered. -/
theorem calls_of_wp_marks {P : Program} {f : FuncId} {fn : Func} {c : Code} {args : Array Value} {w : World} {R : Ending → World → Prop} (hf : P.funcs[f]? = some fn) (hb : fn.body = some c)
    (h : c.wp P (bodyPostM Fence.wide 0 P fn R) { tmps := args ++ Array.replicate (fn.ntmps - args.size) undef, defers := [] } w) : Calls P f args w R :=
  callsIn_wide.1 (callsIn_of_wp_marks (F := Fence.wide) (n := 0) hf hb trivial (wpIn_wide.2 h) rfl)
/-- The marks of its loops. -/
def marks (Ds : List Nat) : List Deferred := Ds.map fun D => { target := .collected D, args := #[] }
theorem leaves_marks {P : Program} {fn : Func} {tmps : Array Value} {R : Ending → World → Prop} (Ds : List Nat) : ∀ (w : World), Ds.Nodup → (∀ D ∈ Ds, w.heap[D]? = some (.deferred (some []))) →
    (∀ w', KeepA (fun k => k ∈ Ds) w w' → ∃ v, (results fn tmps).run P w' = .ok v w' ∧ R (.returned v) w') → LeavesInM Fence.wide 0 P fn tmps R (marks Ds) .returning w := by
  induction Ds with
  | nil => exact fun w _ _ h => h w (KeepA.refl _ _)
  | cons D Ds ih =>
    intro w hnd hD h
    have hnd' := List.nodup_cons.1 hnd
    have hDw := hD D (by simp)
    refine ⟨by simp, .inl ⟨D, _, rfl, run_takeDeferred hDw, ih _ hnd'.2 (fun D' hD' => ?_) (fun w' hk => h w' ?_)⟩⟩
    · rw [World.putObj_heap_other (fun e => hnd'.1 (by rw [← e]; exact hD'))]
      exact hD D' (by simp [hD'])
    · have hput : KeepA (fun k => k ∈ D :: Ds) w (w.putObj D (.deferred none)) := ⟨rfl, rfl, rfl, by simp, fun k _ hx => World.putObj_heap_other (fun e => hx (by simp [e]))⟩
      exact hput.trans (hk.mono fun k hx => List.mem_cons_of_mem _ hx)
theorem post_marks {P : Program} {fn : Func} {a : Act} {w : World} {R : Ending → World → Prop} (Ds : List Nat) (hd : a.defers = marks Ds) (hnd : Ds.Nodup) (hD : ∀ D ∈ Ds, w.heap[D]? = some (.deferred (some [])))
    (h : ∀ w', KeepA (fun k => k ∈ Ds) w w' → ∃ v, (results fn a.tmps).run P w' = .ok v w' ∧ R (.returned v) w') : bodyPostM Fence.wide 0 P fn R .ret a w := by
  show LeavesInM Fence.wide 0 P fn a.tmps R a.defers .returning w
  rw [hd]
  exact leaves_marks Ds w hnd hD h
end Go.Proofs.Ytcakdjnnfonijaa
namespace Go.Proofs.Ytcakdjnnfonijaa
open Go.RowKit

def RowsAt {α : Type} (w : World) (a : Option Addr) (k : Nat) (l : List α) (Q : Nat → Nat → α → Prop) : Prop :=
  l = [] ∨ ∃ b off, a = some ⟨b, off, none⟩ ∧ b < w.heap.size ∧ ∀ i (h : i < l.length), Q b (off + i * k) l[i]
theorem RowsAt.imp {α : Type} {w w' : World} {a : Option Addr} {k : Nat} {l : List α} {Q Q' : Nat → Nat → α → Prop} (h : RowsAt w a k l Q) (hs : w.heap.size ≤ w'.heap.size) (hq : ∀ b o x, b < w.heap.size → Q b o x → Q' b o x) : RowsAt w' a k l Q' := by
  rcases h with h | ⟨b, off, ha, hlt, hi⟩
  · exact .inl h
  · exact .inr ⟨b, off, ha, Nat.lt_of_lt_of_le hlt hs, fun i h => hq _ _ _ hlt (hi i h)⟩
theorem cell_later {w w' : World} {b o : Nat} {v : Value} (hb : Below w.heap.size w w') (hlt : b < w.heap.size) (h : w.cell? ⟨b, o, none⟩ = some v) : w'.cell? ⟨b, o, none⟩ = some v := (hb.cell (p := ⟨b, o, none⟩) hlt).trans h
section
variable {α : Type} {C : α → List Value} {k : Nat}
theorem flat_len (hC : ∀ x, (C x).length = k) (l : List α) : (l.flatMap C).length = l.length * k := by
  induction l with
  | nil => simp
  | cons x r ih => rw [List.flatMap_cons, List.length_append, hC, ih, List.length_cons, Nat.succ_mul]; omega
theorem flat_get (hC : ∀ x, (C x).length = k) : ∀ (l : List α) (i : Nat) (h : i < l.length) (j : Nat) (v : Value), (C l[i])[j]? = some v → (l.flatMap C)[i * k + j]? = some v
  | [], i, h, _, _, _ => by simp at h
  | x :: r, 0, h, j, v, hv => by
    rw [List.flatMap_cons, Nat.zero_mul, Nat.zero_add]
    have hj : j < (C x).length := (List.getElem?_eq_some_iff.1 hv).1
    rw [List.getElem?_append_left hj]
    exact hv
  | x :: r, i + 1, h, j, v, hv => by
    rw [List.flatMap_cons, List.getElem?_append_right (by rw [hC, Nat.succ_mul]; omega), hC, show (i + 1) * k + j - k = i * k + j by rw [Nat.succ_mul]; omega]
    exact flat_get hC r i (by simpa using h) j v (by simpa using hv)
def CellsAt (w : World) (C : α → List Value) (b o : Nat) (x : α) : Prop := ∀ j v, (C x)[j]? = some v → w.cell? ⟨b, o + j, none⟩ = some v
theorem rows_of_rd {w : World} {a : Option Addr} {l : List α} (hC : ∀ x, (C x).length = k) (hk : 0 < k) (h : Rd w a (l.flatMap C)) : RowsAt w a k l (CellsAt w C) := by
  rcases h with h | ⟨b, off, ha, hlt, hi⟩
  · refine .inl ?_
    have := flat_len hC l
    rw [h] at this
    simp only [List.length_nil] at this
    exact List.eq_nil_of_length_eq_zero (by rcases Nat.mul_eq_zero.1 this.symm with h | h <;> omega)
  · refine .inr ⟨b, off, ha, hlt, fun i h j v hv => ?_⟩
    obtain ⟨hj, he⟩ := List.getElem?_eq_some_iff.1 (flat_get hC l i h j v hv)
    rw [← he, Nat.add_assoc]
    exact hi _ hj
theorem rd_of_rows {w : World} {a : Option Addr} {l : List α} (hC : ∀ x, (C x).length = k) (hk : 0 < k) (h : RowsAt w a k l (CellsAt w C)) : Rd w a (l.flatMap C) := by
  rcases h with h | ⟨b, off, ha, hlt, hi⟩
  · exact .inl (by rw [h]; rfl)
  · refine .inr ⟨b, off, ha, hlt, fun i h => ?_⟩
    have hl := flat_len hC l
    have hdiv : i / k < l.length := by rw [hl] at h; exact Nat.div_lt_of_lt_mul (by rw [Nat.mul_comm]; exact h)
    have hmod : i % k < (C l[i / k]).length := by rw [hC]; exact Nat.mod_lt _ hk
    have h1 := hi (i / k) hdiv (i % k) _ (List.getElem?_eq_getElem hmod)
    have h2 := flat_get hC l (i / k) hdiv (i % k) _ (List.getElem?_eq_getElem hmod)
    have e : i / k * k + i % k = i := by rw [Nat.mul_comm]; exact Nat.div_add_mod i k
    rw [e] at h2
    rw [Nat.add_assoc, e] at h1
    rw [h1, ← h2]
    exact List.getElem?_eq_getElem h
end
theorem CellsAt.later {α : Type} {C : α → List Value} {w w' : World} (hb : Below w.heap.size w w') {b o : Nat} {x : α} (hlt : b < w.heap.size) (h : CellsAt w C b o x) : CellsAt w' C b o x := fun j v hv => cell_later hb hlt (h j v hv)
theorem keep_grown {w w' : World} {b : Nat} (h : w.grownBy w' (some b)) : KeepA (fun k => k = b) w w' := ⟨h.os, h.tape, h.output, h.size, fun k hk hx => h.block k hk fun e => hx (Option.some.inj e)⟩
theorem own_keep {w w' : World} {X : Nat → Prop} (hk : KeepA X w w') {base : Nat} {e : TypeId} {size : Nat} {v : Value} {n : Nat} {xs : List Value} (h : w.ownsRow base e size v n xs) (hx : ∀ g, v.ownBlock = some g → ¬ X g) : w'.ownsRow base e size v n xs := by
  refine ⟨h.1, ?_⟩
  rcases h.2 with h | ⟨g, cap, cur, hv, hg, hh, r⟩
  · exact .inl h
  · refine .inr ⟨g, cap, cur, hv, hg, ?_, r⟩
    have hgx := hx g (by rw [hv]; rfl)
    exact (hk.same g (Array.getElem?_eq_some_iff.1 hh).1 hgx).trans hh
theorem row_keep {w w' : World} {X : Nat → Prop} (hk : KeepA X w w') {b : Nat} {t : TypeId} {cells : Array Value} (h : RowAt w b t cells) (hx : ¬ X b) : RowAt w' b t cells := (hk.same b h.lt hx).trans h
theorem keep_grownO {w w' : World} {row : Option Nat} (h : w.grownBy w' row) : KeepA (fun k => row = some k) w w' := ⟨h.os, h.tape, h.output, h.size, fun k hk hx => h.block k hk fun e => hx e.symm⟩
end Go.Proofs.Ytcakdjnnfonijaa
namespace Go.Proofs.Ytcakdjnnfonijaa
open Go.RowKit

/-- How keys of a type are held against each other. -/
structure KeyT (P : Program) (kt : TypeId) {κ : Type} [DecidableEq κ] (kv : κ → Value) : Prop where
  wide : (match P.underlying kt with | some (.array _ _) | some (.struct _) => true | _ => false) = true
  inj : ∀ a b, kv a = kv b → a = b
  eq : ∀ (w : World) a b, (Op.equal kt (kv a) (kv b)).run P w = .ok (decide (a = b)) w
  chk : ∀ (w : World) b a, (Instr.checkKey b 10000 kt (kv a)).run P w = .ok () w
  stays : ∀ (w : World) a, (Instr.keyThatStays (kv a) (kv a)).run P w = .ok (kv a) w
/-- A map's entries say f. -/
structure MapF {κ : Type} [DecidableEq κ] (kv : κ → Value) (clock : Nat) (es : List MapEntry) (f : κ → Option Value) : Prop where
  key : ∀ e ∈ es, ∃ k, e.key = kv k ∧ f k = some e.val
  all : ∀ k v, f k = some v → ∃ e ∈ es, e.key = kv k
  dis : ∀ (i j : Nat) (a b : MapEntry), es[i]? = some a → es[j]? = some b → a.key = b.key → i = j
  lt : ∀ e ∈ es, e.born < clock
  born : ∀ (i j : Nat) (a b : MapEntry), es[i]? = some a → es[j]? = some b → a.born = b.born → i = j
section
variable {P : Program} {kt : TypeId} {κ : Type} [DecidableEq κ] {kv : κ → Value}
theorem MapF.nil (c : Nat) : MapF kv c [] (fun _ => none) := ⟨(fun e h => by cases h), (fun k v h => by cases h), (fun i j a b h => by simp at h), (fun e h => by cases h), (fun i j a b h => by simp at h)⟩
theorem MapF.find (K : KeyT P kt kv) {clock : Nat} {es : List MapEntry} {f : κ → Option Value} (h : MapF kv clock es f) (k : κ) (w : World) :
    (f k = none ∧ (∀ e ∈ es, e.key ≠ kv k) ∧ (Instr.findKey kt (kv k) es).run P w = .ok none w) ∨ ∃ n e, es[n]? = some e ∧ e.key = kv k ∧ f k = some e.val ∧ (Instr.findKey kt (kv k) es).run P w = .ok (some (n, e.val)) w := by
  have key : ∀ (l : List MapEntry) (i : Nat), (∀ e ∈ l, ∃ j, e.key = kv j) → ((∀ e ∈ l, e.key ≠ kv k) ∧ (Instr.findAsking kt (kv k) l i).run P w = .ok none w) ∨ ∃ n e, l[n]? = some e ∧ e.key = kv k ∧ (Instr.findAsking kt (kv k) l i).run P w = .ok (some (i + n, e.val)) w := by
    intro l
    induction l with
    | nil => exact fun i _ => .inl ⟨fun e h => (by cases h), rfl⟩
    | cons e l ih =>
      intro i hl
      obtain ⟨j, hj⟩ := hl e List.mem_cons_self
      have hstep : (Instr.findAsking kt (kv k) (e :: l) i).run P w = if k = j then .ok (some (i, e.val)) w else (Instr.findAsking kt (kv k) l (i + 1)).run P w := by
        conv => lhs; unfold Instr.findAsking
        rw [Sem.run_bind, hj, K.eq, Result.andThen_ok]
        by_cases hk : k = j
        · rw [if_pos hk]; simp [hk, Sem.run_pure]
        · rw [if_neg hk]; simp [hk]
      by_cases hk : k = j
      · refine .inr ⟨0, e, rfl, by rw [hj, hk], ?_⟩
        rw [hstep, if_pos hk, Nat.add_zero]
      · rcases ih (i + 1) (fun e he => hl e (List.mem_cons_of_mem _ he)) with ⟨q1, q2⟩ | ⟨n, e', q1, q2, q3⟩
        · refine .inl ⟨fun e' he' => ?_, by rw [hstep, if_neg hk]; exact q2⟩
          rcases List.mem_cons.1 he' with rfl | he'
          · rw [hj]; exact fun e => hk (K.inj _ _ e).symm
          · exact q1 e' he'
        · refine .inr ⟨n + 1, e', by simpa using q1, q2, ?_⟩
          rw [hstep, if_neg hk, q3, show i + 1 + n = i + (n + 1) by omega]
  rw [run_findKey_eq w K.wide]
  rcases key es 0 (fun e he => (h.key e he).imp fun _ h => h.1) with ⟨q1, q2⟩ | ⟨n, e, q1, q2, q3⟩
  · refine .inl ⟨?_, q1, q2⟩
    cases hf : f k with
    | none => rfl
    | some v =>
      obtain ⟨e, he, hk⟩ := h.all k v hf
      exact absurd hk (q1 e he)
  · obtain ⟨j, hj, hf⟩ := h.key e (List.mem_of_getElem? q1)
    rw [q2] at hj
    rw [← K.inj _ _ hj] at hf
    rw [Nat.zero_add] at q3
    exact .inr ⟨n, e, q1, q2, hf, q3⟩
theorem modify_get (es : List MapEntry) (n : Nat) (g : MapEntry → MapEntry) (i : Nat) (a : MapEntry) (h : (es.modify n g)[i]? = some a) : (i = n ∧ ∃ b, es[n]? = some b ∧ a = g b) ∨ (i ≠ n ∧ es[i]? = some a) := by
  rw [List.getElem?_modify] at h
  cases hg : es[i]? with
  | none => rw [hg] at h; cases h
  | some b =>
    rw [hg] at h
    have h : (if n = i then g b else b) = a := Option.some.inj h
    by_cases hin : n = i
    · subst hin
      rw [if_pos rfl] at h
      exact .inl ⟨rfl, b, hg, h.symm⟩
    · rw [if_neg hin] at h
      exact .inr ⟨fun e => hin e.symm, by rw [← h]⟩
/-- An entry gets another value. -/
theorem MapF.put {clock : Nat} {es : List MapEntry} {f : κ → Option Value} (h : MapF kv clock es f) {k : κ} {n : Nat} {e : MapEntry} (h1 : es[n]? = some e) (h2 : e.key = kv k) (v : Value) (g : MapEntry → MapEntry) (hg : g e = { e with key := kv k, val := v }) :
    MapF kv clock (es.modify n g) (fun j => if j = k then some v else f j) := by
  have hsame : ∀ (i : Nat) (a : MapEntry), (es.modify n g)[i]? = some a → ∃ b, es[i]? = some b ∧ a.key = b.key ∧ a.born = b.born := fun i a ha => by
    rcases modify_get es n g i a ha with ⟨rfl, b, hb, rfl⟩ | ⟨_, hb⟩
    · rw [h1] at hb
      cases hb
      exact ⟨e, h1, by rw [hg, h2], by rw [hg]⟩
    · exact ⟨a, hb, rfl, rfl⟩
  refine ⟨fun a ha => ?_, fun j u hj => ?_, fun i j a b ha hb hab => ?_, fun a ha => ?_, fun i j a b ha hb hab => ?_⟩
  · obtain ⟨i, hi⟩ := List.mem_iff_getElem?.1 ha
    rcases modify_get es n g i a hi with ⟨rfl, b, hb, rfl⟩ | ⟨hin, hb⟩
    · rw [h1] at hb
      cases hb
      exact ⟨k, by rw [hg], by rw [hg]; simp⟩
    · obtain ⟨j, h5, h6⟩ := h.key a (List.mem_of_getElem? hb)
      refine ⟨j, h5, ?_⟩
      have hjk : j ≠ k := fun e' => hin (h.dis i n a e hb h1 (by rw [h5, e', h2]))
      show (if j = k then some v else f j) = some a.val
      rw [if_neg hjk]; exact h6
  · have hin : ∃ e' ∈ es, e'.key = kv j := by
      by_cases hjk : j = k
      · subst hjk; exact ⟨e, List.mem_of_getElem? h1, h2⟩
      · have hj' : (if j = k then some v else f j) = some u := hj
        rw [if_neg hjk] at hj'
        exact h.all j u hj'
    obtain ⟨e', he', hk'⟩ := hin
    obtain ⟨i, hi⟩ := List.mem_iff_getElem?.1 he'
    by_cases hni : n = i
    · subst hni
      rw [h1] at hi
      cases hi
      refine ⟨g e, List.mem_of_getElem? (i := n) (by rw [List.getElem?_modify, h1]; simp), ?_⟩
      rw [hg, ← hk', h2]
    · refine ⟨e', List.mem_of_getElem? (i := i) (by rw [List.getElem?_modify, hi]; simp [hni]), hk'⟩
  · obtain ⟨a', ha', ka, -⟩ := hsame i a ha
    obtain ⟨b', hb', kb, -⟩ := hsame j b hb
    exact h.dis i j a' b' ha' hb' (by rw [← ka, ← kb, hab])
  · obtain ⟨i, hi⟩ := List.mem_iff_getElem?.1 ha
    obtain ⟨b, hb, -, hbn⟩ := hsame i a hi
    rw [hbn]
    exact h.lt b (List.mem_of_getElem? hb)
  · obtain ⟨a', ha', -, ka⟩ := hsame i a ha
    obtain ⟨b', hb', -, kb⟩ := hsame j b hb
    exact h.born i j a' b' ha' hb' (by rw [← ka, ← kb, hab])
/-- An entry comes in. -/
theorem MapF.push {clock : Nat} {es : List MapEntry} {f : κ → Option Value} (h : MapF kv clock es f) {k : κ} (h1 : ∀ e ∈ es, e.key ≠ kv k) (v : Value) :
    MapF kv (clock + 1) (es ++ [{ key := kv k, val := v, born := clock }]) (fun j => if j = k then some v else f j) := by
  have hat : ∀ (i : Nat) (a : MapEntry), (es ++ [{ key := kv k, val := v, born := clock }])[i]? = some a → (es[i]? = some a) ∨ (i = es.length ∧ a = { key := kv k, val := v, born := clock }) := fun i a ha => by
    by_cases hil : i < es.length
    · rw [List.getElem?_append_left hil] at ha; exact .inl ha
    · rw [List.getElem?_append_right (by omega)] at ha
      have h0 : i - es.length = 0 := by
        have := (List.getElem?_eq_some_iff.1 ha).1
        simpa using this
      rw [h0] at ha
      exact .inr ⟨by omega, (Option.some.inj ha).symm⟩
  refine ⟨fun a ha => ?_, fun j u hj => ?_, fun i j a b ha hb hab => ?_, fun a ha => ?_, fun i j a b ha hb hab => ?_⟩
  · rcases List.mem_append.1 ha with ha | ha
    · obtain ⟨j, h5, h6⟩ := h.key a ha
      refine ⟨j, h5, ?_⟩
      have hjk : j ≠ k := fun e => h1 a ha (by rw [h5, e])
      show (if j = k then some v else f j) = some a.val
      rw [if_neg hjk]; exact h6
    · rw [List.mem_singleton.1 ha]
      exact ⟨k, rfl, by simp⟩
  · by_cases hjk : j = k
    · subst hjk
      exact ⟨_, List.mem_append_right _ (List.mem_singleton.2 rfl), rfl⟩
    · have hj' : (if j = k then some v else f j) = some u := hj
      rw [if_neg hjk] at hj'
      obtain ⟨e, he, hk⟩ := h.all j u hj'
      exact ⟨e, List.mem_append_left _ he, hk⟩
  · rcases hat i a ha with ha | ⟨rfl, rfl⟩ <;> rcases hat j b hb with hb | ⟨rfl, rfl⟩
    · exact h.dis i j a b ha hb hab
    · exact absurd hab (h1 a (List.mem_of_getElem? ha))
    · exact absurd hab.symm (h1 b (List.mem_of_getElem? hb))
    · rfl
  · rcases List.mem_append.1 ha with ha | ha
    · exact Nat.lt_succ_of_lt (h.lt a ha)
    · rw [List.mem_singleton.1 ha]; exact Nat.lt_succ_self _
  · rcases hat i a ha with ha | ⟨rfl, rfl⟩ <;> rcases hat j b hb with hb | ⟨rfl, rfl⟩
    · exact h.born i j a b ha hb hab
    · have := h.lt a (List.mem_of_getElem? ha); rw [hab] at this; exact absurd this (Nat.lt_irrefl _)
    · have := h.lt b (List.mem_of_getElem? hb); rw [← hab] at this; exact absurd this (Nat.lt_irrefl _)
    · rfl
/-- A map lies at r. -/
def MapR (w : World) (r : Nat) (kv : κ → Value) (f : κ → Option Value) : Prop := ∃ (es : Array MapEntry) (clock : Nat), w.heap[r]? = some (.map es clock) ∧ MapF kv clock es.toList f
theorem MapR.lt {w : World} {r : Nat} {f : κ → Option Value} (h : MapR w r kv f) : r < w.heap.size := by
  obtain ⟨es, c, h1, -⟩ := h
  exact (Array.getElem?_eq_some_iff.1 h1).1
theorem MapR.new (w : World) : MapR (w.alloc (.map #[] 0)) w.heap.size kv (fun _ => none) := ⟨#[], 0, heap_alloc_new w _, MapF.nil _⟩
theorem run_lookup_map (K : KeyT P kt kv) {mt et : TypeId} (hm : P.underlying mt = some (.map kt et)) {w : World} {r : Nat} {f : κ → Option Value} (h : MapR w r kv f) (k : κ) (z : Value) (hz : (zeroValue et).run P w = .ok z w) (ok : Bool) :
    (Instr.lookup mt (.map (some r)) (kv k) ok).run P w = .ok (if ok then .tuple #[(f k).getD z, .bool (f k).isSome] else (f k).getD z) w := by
  obtain ⟨es, c, h1, h2⟩ := h
  unfold Instr.lookup
  rw [Sem.run_bind, run_underlying hm, Result.andThen_ok]
  dsimp only
  simp only [Sem.run_bind, Sem.run_pure, Result.andThen_ok, MapKept.run_getObj_map h1, K.chk]
  rcases h2.find K k w with ⟨q1, q2, q3⟩ | ⟨n, e, q1, q2, q3, q4⟩
  · rw [q3, q1]
    simp only [Result.andThen_ok, Sem.run_bind, hz, Sem.run_pure]
    cases ok <;> rfl
  · rw [q4, q3]
    simp only [Result.andThen_ok]
    cases ok <;> rfl
theorem run_update_map (K : KeyT P kt kv) {mt et : TypeId} (hm : P.underlying mt = some (.map kt et)) {w : World} {r : Nat} {f : κ → Option Value} (h : MapR w r kv f) (k : κ) (v : Value) :
    ∃ w', (Instr.mapUpdate mt (.map (some r)) (kv k) v).run P w = .ok () w' ∧ w.grownBy w' (some r) ∧ MapR w' r kv (fun j => if j = k then some v else f j) := by
  obtain ⟨es, c, h1, h2⟩ := h
  have hgrow : ∀ o, w.grownBy { w with heap := w.heap.setIfInBounds r o } (some r) := fun o => ⟨rfl, rfl, rfl, by simp, fun i hi hne => by
    show (w.heap.setIfInBounds r o)[i]? = w.heap[i]?
    rw [Array.getElem?_setIfInBounds_ne (fun e => hne (by rw [e]))]⟩
  have hat : ∀ o, ({ w with heap := w.heap.setIfInBounds r o } : World).heap[r]? = some o := fun o => by
    show (w.heap.setIfInBounds r o)[r]? = some o
    rw [Array.getElem?_setIfInBounds_self_of_lt (Array.getElem?_eq_some_iff.1 h1).1]
  unfold Instr.mapUpdate
  rcases h2.find K k w with ⟨q1, q2, q3⟩ | ⟨n, e, q1, q2, q3, q4⟩
  · refine ⟨_, ?_, hgrow (.map (es.push { key := kv k, val := v, born := c }) (c + 1)), _, _, hat _, ?_⟩
    · rw [Sem.run_bind, run_underlying hm, Result.andThen_ok]
      dsimp only
      simp only [Sem.run_bind, Result.andThen_ok, MapKept.run_getObj_map h1, K.chk, q3]
      exact MapKept.run_setObj_map _ h1
    · rw [Array.toList_push]
      exact h2.push q2 v
  · have he : es[n]? = some e := by simpa using q1
    refine ⟨_, ?_, hgrow (.map (es.modify n fun e => { e with key := kv k, val := v }) c), _, _, hat _, ?_⟩
    · rw [Sem.run_bind, run_underlying hm, Result.andThen_ok]
      dsimp only
      simp only [Sem.run_bind, Result.andThen_ok, MapKept.run_getObj_map h1, K.chk, q4]
      rw [he]
      simp only [Option.map_some, Option.getD_some, q2]
      rw [K.stays, Result.andThen_ok]
      exact MapKept.run_setObj_map _ h1
    · rw [Array.toList_modify]
      exact h2.put q1 q2 v _ rfl
end
end Go.Proofs.Ytcakdjnnfonijaa
namespace Go.Proofs.Ytcakdjnnfonijaa

/-- A total order. -/
structure TotLt {α : Type} (lt : α → α → Bool) : Prop where
  irr : ∀ a, lt a a = false
  trans : ∀ a b c, lt a b = true → lt b c = true → lt a c = true
  tot : ∀ a b, a ≠ b → lt a b = true ∨ lt b a = true
section
variable {α : Type} {lt : α → α → Bool} (T : TotLt lt)
include T
theorem TotLt.asym {a b : α} (h : lt a b = true) : lt b a = false := by
  cases hb : lt b a with
  | false => rfl
  | true =>
    have := T.trans a b a h hb
    rw [T.irr a] at this
    cases this
theorem TotLt.le_trans {a b c : α} (h1 : lt b a = false) (h2 : lt c b = false) : lt c a = false := by
  cases hc : lt c a with
  | false => rfl
  | true =>
    by_cases e : b = c
    · subst e; rw [hc] at h1; cases h1
    · rcases T.tot b c e with h | h
      · have := T.trans b c a h hc
        rw [h1] at this; cases this
      · rw [h2] at h; cases h
theorem TotLt.eq {a b : α} (h1 : lt a b = false) (h2 : lt b a = false) : a = b := by
  apply Classical.byContradiction
  intro e
  rcases T.tot a b e with h | h
  · rw [h1] at h; cases h
  · rw [h2] at h; cases h
end
/-- The element at a place. -/
def hp {α : Type} [Inhabited α] (H : List α) (k : Nat) : α := H.getD k default
end Go.Proofs.Ytcakdjnnfonijaa
namespace Go.Proofs.Ytcakdjnnfonijaa

section
variable {α : Type} [DecidableEq α] (lt : α → α → Bool)
/-- Is a version among others? -/
def memB (v : α) (l : List α) : Bool := decide (v ∈ l)
/-- May a version be told behind these? -/
def rdyB (out : List α) (x : α × List α) : Bool := decide (x.1 ∉ out) && x.2.all fun t => decide (t ∈ out)
def bett (b : Option α) (a : α) : Bool := match b with | none => true | some u => lt a u
/-- The least one that is ready, by the document's loop. -/
def bestF (out : List α) (b : Option α) (x : α × List α) : Option α := if rdyB out x && bett lt b x.1 then some x.1 else b
def pick (L : List (α × List α)) (out : List α) : Option α := L.foldl (bestF lt out) none
end
section
variable {α : Type} [DecidableEq α] {lt : α → α → Bool}
theorem memB_iff {v : α} {l : List α} : memB v l = true ↔ v ∈ l := by unfold memB; exact decide_eq_true_iff
theorem memB_not {v : α} {l : List α} : memB v l = false ↔ v ∉ l := by unfold memB; exact decide_eq_false_iff_not
theorem nodup_len : ∀ (l k : List α), l.Nodup → l ⊆ k → l.length ≤ k.length
  | [], k, _, _ => Nat.zero_le _
  | a :: l, k, hn, hs => by
    obtain ⟨h1, h2⟩ := List.nodup_cons.1 hn
    have ha : a ∈ k := hs List.mem_cons_self
    have := nodup_len l (k.erase a) h2 fun b hb => (List.mem_erase_of_ne (fun e => h1 (by rw [← e]; exact hb))).2 (hs (List.mem_cons_of_mem _ hb))
    rw [List.length_erase_of_mem ha] at this
    have hk := List.length_pos_of_mem ha
    rw [List.length_cons]
    omega
/-- How many targets have not been told. -/
def cnt (out : List α) (x : α × List α) : Nat := (x.2.filter fun t => decide (t ∉ out)).length
end
end Go.Proofs.Ytcakdjnnfonijaa
namespace Go.Proofs.Ytcakdjnnfonijaa

theorem nodup_inj {α : Type} : ∀ {L : List (α × List α)}, (L.map (·.1)).Nodup → ∀ x ∈ L, ∀ y ∈ L, x.1 = y.1 → x = y
  | [], _, x, hx, _, _, _ => by cases hx
  | z :: L, h, x, hx, y, hy, e => by
    rw [List.map_cons, List.nodup_cons] at h
    rcases List.mem_cons.1 hx with ex | hx' <;> rcases List.mem_cons.1 hy with ey | hy'
    · rw [ex, ey]
    · exact absurd (by rw [← ex, e]; exact List.mem_map_of_mem hy') h.1
    · exact absurd (by rw [← ey, ← e]; exact List.mem_map_of_mem hx') h.1
    · exact nodup_inj h.2 x hx' y hy' e
/-- Versions have one row each, and its targets are no two alike. -/
structure Lks {α : Type} (L : List (α × List α)) : Prop where
  one : (L.map (·.1)).Nodup
  two : ∀ x ∈ L, x.2.Nodup
theorem Lks.inj {α : Type} {L : List (α × List α)} (h : Lks L) {x y : α × List α} (hx : x ∈ L) (hy : y ∈ L) (e : x.1 = y.1) : x = y := nodup_inj h.one x hx y hy e
section
variable {α : Type} [DecidableEq α] {lt : α → α → Bool}
/-- Who refers to a version, in the order of the links. -/
def behd (L : List (α × List α)) (v : α) : List α := (L.filter fun x => decide (v ∈ x.2)).map (·.1)
theorem behd_in {L : List (α × List α)} {v u : α} (hu : u ∈ behd L v) : ∃ x ∈ L, x.1 = u ∧ v ∈ x.2 := by
  unfold behd at hu
  obtain ⟨x, hx, rfl⟩ := List.mem_map.1 hu
  rw [List.mem_filter] at hx
  exact ⟨x, hx.1, rfl, by simpa using hx.2⟩
end
end Go.Proofs.Ytcakdjnnfonijaa
namespace Go.Proofs.Ytcakdjnnfonijaa

abbrev Rf := ByteArray × Int
def rightR (v : Rf) : Bool := decide (1 ≤ v.1.size) && (decide (v.1.size ≤ 128) && (decide (1 ≤ v.2) && decide (v.2 ≤ 2147483647)))
/-- Targets are right so far. -/
def goodT (l : List Rf) (k : Nat) : Prop := (∀ t ∈ l.take k, rightR t = true) ∧ (l.take k).Nodup
open Classical in
noncomputable def tgt (l : List Rf) : Int := if goodT l l.length then (if 64 < l.length then 3 else 0) else 2
theorem goodT_zero (l : List Rf) : goodT l 0 := ⟨fun t h => by simp at h, by simp⟩
theorem goodT_succ {l : List Rf} {k : Nat} (hk : k < l.length) (h : goodT l k) (h1 : rightR l[k] = true) (h2 : l[k] ∉ l.take k) : goodT l (k + 1) := by
  have ht : l.take (k + 1) = l.take k ++ [l[k]] := (List.take_append_getElem hk).symm
  unfold goodT
  rw [ht]
  refine ⟨fun t htm => ?_, ?_⟩
  · rcases List.mem_append.1 htm with htm | htm
    · exact h.1 t htm
    · rw [List.mem_singleton.1 htm]; exact h1
  · rw [List.nodup_append]
    exact ⟨h.2, by simp, fun a ha b hb => by rw [List.mem_singleton.1 hb]; exact fun e => h2 (by rw [← e]; exact ha)⟩
theorem tgt_bad {l : List Rf} {k : Nat} (hk : k < l.length) (h : rightR l[k] = false ∨ l[k] ∈ l.take k) : tgt l = 2 := by
  unfold tgt
  rw [if_neg]
  intro hg
  unfold goodT at hg
  rw [List.take_length] at hg
  rcases h with h | h
  · have := hg.1 l[k] (List.getElem_mem hk)
    rw [h] at this; cases this
  · obtain ⟨i, hi, he⟩ := List.mem_iff_getElem.1 h
    rw [List.length_take] at hi
    rw [List.getElem_take] at he
    exact (List.pairwise_iff_getElem.1 hg.2) i k (by omega) hk (by omega) he
theorem tgt_good {l : List Rf} (h : goodT l l.length) : tgt l = if 64 < l.length then 3 else 0 := by unfold tgt; rw [if_pos h]
theorem tgt_nodup {l : List Rf} (h : tgt l ≠ 2) : l.Nodup := by
  unfold tgt at h
  by_cases hg : goodT l l.length
  · have := hg.2
    rwa [List.take_length] at this
  · rw [if_neg hg] at h
    exact absurd rfl h
end Go.Proofs.Ytcakdjnnfonijaa
namespace Go.Proofs.Ytcakdjnnfonijaa
open Go.RowKit

def rfC (v : Rf) : List Value := [.string v.1, .int .i64 v.2]
def rfV (v : Rf) : Value := .agg #[.string v.1, .int .i64 v.2]
theorem rfC_len (v : Rf) : (rfC v).length = 2 := rfl
def RdRf (w : World) (a : Option Addr) (l : List Rf) : Prop := RowsAt w a 2 l (CellsAt w rfC)
theorem RdRf.later {w w' : World} (hb : Below w.heap.size w w') {a : Option Addr} {l : List Rf} (h : RdRf w a l) : RdRf w' a l := RowsAt.imp h hb.size fun _ _ _ hlt h => h.later hb hlt
/-- A row of links. -/
structure Lk where
  fr : Rf
  ta : Option Addr
  ts : List Rf
  tc : Nat
def lkC (l : Lk) : List Value := [.string l.fr.1, .int .i64 l.fr.2, .slice l.ta l.ts.length l.tc]
def plainL (l : List Lk) : List (Rf × List Rf) := l.map fun x => (x.fr, x.ts)
theorem bytes_ext {a b : ByteArray} (h : a.toList = b.toList) : a = b := by
  have h2 := h
  rw [ByteArray.toList_eq, ByteArray.toList_eq] at h2
  obtain ⟨⟨x⟩⟩ := a
  obtain ⟨⟨y⟩⟩ := b
  exact congrArg (fun l => ByteArray.mk (Array.mk l)) h2
section
variable {P : Program} {t ts ti : TypeId} {fs : Array Field} (hu : P.underlying t = some (.struct fs)) (hs : P.underlying ts = some .string) (hi : P.underlying ti = some (.int .i64)) (f0 f1 : Field) (hf : fs.toList = [f0, f1])
  (n0 : f0.name ≠ "_") (n1 : f1.name ≠ "_") (t0 : f0.type = ts) (t1 : f1.type = ti) (o0 : f0.offset = 0) (o1 : f1.offset = 1)
include hu hs hi hf n0 n1 t0 t1 o0 o1
theorem run_eq_gen (hp : P.stoodInHeld t = false) (w : World) (a b : Rf) : (Op.equal t (rfV a) (rfV b)).run P w = .ok (decide (a = b)) w := by
  have hfo : P.fieldsOf t = fs := by unfold Program.fieldsOf; rw [hu]
  have e := run_equalIn_struct (P := P) w 9999 t #[.string a.1, .int .i64 a.2] #[.string b.1, .int .i64 b.2] (by rw [hfo, hu]) hp
  rw [hfo, hf] at e
  have p0 : ∀ s z, (part ts #[Value.string s, .int .i64 z] 0).run P w = .ok (.string s) w := fun s z => run_part_plain w (by simp [Program.plainKey, hs]) rfl
  have p1 : ∀ s z, (part ti #[Value.string s, .int .i64 z] 1).run P w = .ok (.int .i64 z) w := fun s z => run_part_plain w (by simp [Program.plainKey, hi]) rfl
  have q0 : (Op.equalIn 9999 ts (.string a.1) (.string b.1)).run P w = .ok (a.1.toList == b.1.toList) w := run_equalIn_string w 9998 _ _ _ hs
  have q1 : (Op.equalIn 9999 ti (.int .i64 a.2) (.int .i64 b.2)).run P w = .ok (a.2 == b.2) w := run_equalIn_int w 9998 _ _ _ _ _ hi
  show (Op.equalIn 10000 t (rfV a) (rfV b)).run P w = _
  unfold rfV
  rw [e]
  generalize (9999 : Nat) = d at q0 q1 ⊢
  have hab : (a = b) ↔ a.1.toList = b.1.toList ∧ a.2 = b.2 := ⟨fun e => by rw [e]; exact ⟨rfl, rfl⟩, fun e => Prod.ext (bytes_ext e.1) e.2⟩
  have hd : decide (a = b) = (decide (a.1.toList = b.1.toList) && decide (a.2 = b.2)) := by
    rw [← Bool.decide_and]
    exact decide_eq_decide.2 hab
  rw [hd]
  simp only [Op.eqFields, n0, n1, t0, t1, o0, o1, ne_eq, not_false_eq_true, if_true, Sem.run_bind, Sem.run_ite, p0, p1, q0, q1, Result.andThen_ok, Sem.run_pure]
  by_cases h1 : a.1.toList = b.1.toList <;> by_cases h2 : a.2 = b.2 <;> simp [h1, h2]
theorem run_chk_gen (w : World) (em : Bool) (a : Rf) : (Instr.checkKey em 10000 t (rfV a)).run P w = .ok () w := by
  have p0 : (part ts #[Value.string a.1, .int .i64 a.2] 0).run P w = .ok (.string a.1) w := run_part_plain w (by simp [Program.plainKey, hs]) rfl
  have p1 : (part ti #[Value.string a.1, .int .i64 a.2] 1).run P w = .ok (.int .i64 a.2) w := run_part_plain w (by simp [Program.plainKey, hi]) rfl
  have q0 : ∀ n, (Instr.checkKey em (n + 1) ts (.string a.1)).run P w = .ok () w := fun n => by simp [Instr.checkKey, run_underlying hs]
  have q1 : ∀ n, (Instr.checkKey em (n + 1) ti (.int .i64 a.2)).run P w = .ok () w := fun n => by simp [Instr.checkKey, run_underlying hi]
  have key : ∀ n, (Instr.checkKey em (n + 1 + 1) t (rfV a)).run P w = .ok () w := fun n => by
    unfold rfV
    rw [Instr.checkKey]
    simp only [Sem.run_bind, run_underlying hu, Result.andThen_ok]
    rw [← Array.forIn_toList, hf]
    simp only [List.forIn_cons, List.forIn_nil, n0, n1, t0, t1, o0, o1, ne_eq, not_false_eq_true, if_true, Sem.run_bind, p0, p1, q0, q1, Result.andThen_ok, Sem.run_pure]
  exact key 9998
end
set_option maxRecDepth 100000 in
theorem keyRf : KeyT Try.prog 25 rfV := by
  refine ⟨by kernel_rfl, fun a b h => ?_, fun w a b => ?_, fun w b a => ?_, fun w a => ?_⟩
  · unfold rfV at h
    simp only [Value.agg.injEq] at h
    have h2 : [Value.string a.1, .int .i64 a.2] = [Value.string b.1, .int .i64 b.2] := by simpa using congrArg Array.toList h
    simp only [List.cons.injEq, Value.string.injEq, Value.int.injEq, true_and, and_true] at h2
    exact Prod.ext h2.1 h2.2
  · exact run_eq_gen Try.underlying25 Try.underlying9 Try.underlying3 _ _ rfl (by decide) (by decide) rfl rfl rfl rfl (by kernel_rfl) w a b
  · exact run_chk_gen Try.underlying25 Try.underlying9 Try.underlying3 _ _ rfl (by decide) (by decide) rfl rfl rfl rfl w b a
  · have hs : Instr.sameBits 10000 (rfV a) (rfV a) = true := by
      show Instr.sameBits (9999 + 1) (rfV a) (rfV a) = true
      have h0 : ∀ n, Instr.sameBits (n + 1) (.string a.1) (.string a.1) = true := fun n => by simp [Instr.sameBits, beq_toListBytes]
      have h1 : ∀ n, Instr.sameBits (n + 1) (.int .i64 a.2) (.int .i64 a.2) = true := fun n => by simp [Instr.sameBits]
      unfold rfV
      have := h0 9998
      have := h1 9998
      simp only [Instr.sameBits]
      simp_all
    unfold Instr.keyThatStays
    rw [if_pos hs]
    rfl
end Go.Proofs.Ytcakdjnnfonijaa
namespace Go.Proofs.Ytcakdjnnfonijaa
open Go.RowKit

section
variable {P : Program} {kt : TypeId} {κ : Type} [DecidableEq κ] {kv : κ → Value}
/-- A map lies at r; the entry with this stamp has the key k. -/
def MapE (w : World) (r : Nat) (kv : κ → Value) (f : κ → Option Value) (k : κ) (st : Nat) : Prop :=
  ∃ (es : Array MapEntry) (clock : Nat), w.heap[r]? = some (.map es clock) ∧ MapF kv clock es.toList f ∧ ∃ (n : Nat) (e : MapEntry), es.toList[n]? = some e ∧ e.key = kv k ∧ e.born = st
theorem MapE.map {w : World} {r : Nat} {f : κ → Option Value} {k : κ} {st : Nat} (h : MapE w r kv f k st) : MapR w r kv f := by
  obtain ⟨es, c, h1, h2, -⟩ := h
  exact ⟨es, c, h1, h2⟩
theorem MapR.same {w w' : World} {r : Nat} {f : κ → Option Value} (h : MapR w r kv f) (e : w'.heap[r]? = w.heap[r]?) : MapR w' r kv f := by
  obtain ⟨es, c, h1, h2⟩ := h
  exact ⟨es, c, e.trans h1, h2⟩
theorem MapE.same {w w' : World} {r : Nat} {f : κ → Option Value} {k : κ} {st : Nat} (h : MapE w r kv f k st) (e : w'.heap[r]? = w.heap[r]?) : MapE w' r kv f k st := by
  obtain ⟨es, c, h1, h2⟩ := h
  exact ⟨es, c, e.trans h1, h2⟩
theorem MapR.eqf {w : World} {r : Nat} {f f' : κ → Option Value} (h : MapR w r kv f) (e : ∀ k, f k = f' k) : MapR w r kv f' := by
  have : f = f' := funext e
  rwa [← this]
theorem map_grow (w : World) (r : Nat) (o : Obj) : w.grownBy { w with heap := w.heap.setIfInBounds r o } (some r) := ⟨rfl, rfl, rfl, by simp, fun i hi hne => by
  show (w.heap.setIfInBounds r o)[i]? = w.heap[i]?
  rw [Array.getElem?_setIfInBounds_ne (fun e => hne (by rw [e]))]⟩
theorem map_at {w : World} {r : Nat} {o' : Obj} (h1 : w.heap[r]? = some o') (o : Obj) : ({ w with heap := w.heap.setIfInBounds r o } : World).heap[r]? = some o := by
  show (w.heap.setIfInBounds r o)[r]? = some o
  rw [Array.getElem?_setIfInBounds_self_of_lt (Array.getElem?_eq_some_iff.1 h1).1]
theorem run_entry_map (K : KeyT P kt kv) {mt et : TypeId} (hm : P.underlying mt = some (.map kt et)) {w : World} {r : Nat} {f : κ → Option Value} (h : MapR w r kv f) (k : κ) (z : Value) (hz : (zeroValue et).run P w = .ok z w) :
    ∃ (w' : World) (st : Nat), (Instr.mapEntry mt (.map (some r)) (kv k)).run P w = .ok (.tuple #[(f k).getD z, .int .i64 st]) w' ∧ w.grownBy w' (some r) ∧ MapE w' r kv (fun j => if j = k then some ((f k).getD z) else f j) k st := by
  obtain ⟨es, c, h1, h2⟩ := h
  unfold Instr.mapEntry
  rcases h2.find K k w with ⟨q1, q2, q3⟩ | ⟨n, e, q1, q2, q3, q4⟩
  · refine ⟨_, c, ?_, map_grow w r (.map (es.push { key := kv k, val := z, born := c }) (c + 1)), _, _, map_at h1 _, ?_, ?_⟩
    · rw [Sem.run_bind, run_underlying hm, Result.andThen_ok]
      dsimp only
      simp only [Sem.run_bind, Result.andThen_ok, MapKept.run_getObj_map h1, K.chk, q3, hz]
      rw [MapKept.run_setObj_map _ h1, q1]
      rfl
    · rw [Array.toList_push, q1]
      exact h2.push q2 z
    · refine ⟨es.size, { key := kv k, val := z, born := c }, ?_, rfl, rfl⟩
      simp
  · have he : es[n]? = some e := by simpa using q1
    refine ⟨_, e.born, ?_, map_grow w r (.map (es.modify n fun e => { e with key := kv k }) c), _, _, map_at h1 _, ?_, ?_⟩
    · rw [Sem.run_bind, run_underlying hm, Result.andThen_ok]
      dsimp only
      simp only [Sem.run_bind, Result.andThen_ok, MapKept.run_getObj_map h1, K.chk, q4]
      rw [he]
      simp only [Option.map_some, Option.getD_some, q2]
      rw [K.stays, Result.andThen_ok]
      rw [MapKept.run_setObj_map _ h1, q3]
      rfl
    · rw [Array.toList_modify, q3]
      exact h2.put q1 q2 e.val _ (by rw [← q2])
    · refine ⟨n, { e with key := kv k }, ?_, rfl, rfl⟩
      rw [Array.toList_modify, List.getElem?_modify, q1]
      simp
theorem run_estore_map {mt : TypeId} {w : World} {r : Nat} {f : κ → Option Value} {k : κ} {st : Nat} (h : MapE w r kv f k st) (v : Value) :
    ∃ w', (Instr.entryStore mt (.map (some r)) (.int .i64 st) v).run P w = .ok () w' ∧ w.grownBy w' (some r) ∧ MapR w' r kv (fun j => if j = k then some v else f j) := by
  obtain ⟨es, c, h1, h2, n, e, q1, q2, q3⟩ := h
  have he : es[n]? = some e := by simpa using q1
  have hfind : es.findIdx? (fun e => (e.born : Int) == (st : Int)) = some n := by
    obtain ⟨l⟩ := es
    rw [List.findIdx?_toArray, List.findIdx?_eq_some_iff_getElem]
    obtain ⟨hn, hen⟩ := List.getElem?_eq_some_iff.1 q1
    refine ⟨hn, ?_, fun j hj => ?_⟩
    · rw [hen, q3]; simp
    · have hjl : j < l.length := by have : n < l.length := hn; omega
      simp only [Bool.not_eq_true, beq_eq_false_iff_ne, ne_eq]
      intro hb
      have hb2 : l[j].born = e.born := by rw [q3]; exact Int.ofNat.inj hb
      have := h2.born j n _ _ (List.getElem?_eq_getElem hjl) q1 hb2
      omega
  refine ⟨_, ?_, map_grow w r (.map (es.modify n fun e => { e with val := v }) c), _, _, map_at h1 _, ?_⟩
  · unfold Instr.entryStore
    have ha : (asInt (.int .i64 (st : Int))).run P w = .ok (st : Int) w := rfl
    simp only [Sem.run_bind, Result.andThen_ok, MapKept.run_getObj_map h1, ha, hfind]
    exact MapKept.run_setObj_map _ h1
  · rw [Array.toList_modify]
    exact h2.put q1 q2 v _ (by rw [← q2])
theorem wp_lookup1 (K : KeyT P kt kv) {mt et : TypeId} (hm : P.underlying mt = some (.map kt et)) {o : Oper} {act : Act} {N : Act → World → Prop} {Q : Exit → Act → World → Prop} {w : World} (x y : Operand) (ho : o.op = .lookup mt x y false)
    {r : Nat} {f : κ → Option Value} (h : MapR w r kv f) (k : κ) (z : Value) (hz : (zeroValue et).run P w = .ok z w) (hx : act.eval x = .map (some r)) (hy : act.eval y = kv k) (v : Value) (hv : (f k).getD z = v)
    (hn : N (act.put o.dst v) w) : o.wp P act w N Q := by
  unfold Oper.wp execOp
  simp only [ho, hx, hy]
  rw [Sem.run_bind, run_lookup_map K hm h k z hz false]
  subst hv
  exact hn
theorem step_lookup1 (K : KeyT P kt kv) {mt et : TypeId} (hm : P.underlying mt = some (.map kt et)) {ops : Array Oper} {rest : List Oper} {o : Oper} {act : Act} {Q : Exit → Act → World → Prop} {w : World} (hw : Region.wanted o (yielded ops act.tmps) = true) (x y : Operand) (ho : o.op = .lookup mt x y false)
    {r : Nat} {f : κ → Option Value} (h : MapR w r kv f) (k : κ) (z : Value) (hz : (zeroValue et).run P w = .ok z w) (hx : act.eval x = .map (some r)) (hy : act.eval y = kv k) (v : Value) (hv : (f k).getD z = v)
    (hn : wpList P ops Q rest (act.put o.dst v) w) : wpList P ops Q (o :: rest) act w :=
  wpList_step fun _ hK => by
    rw [if_pos hw]
    exact wp_lookup1 K hm x y ho h k z hz hx hy v hv (hK _ _ hn)
theorem wp_updateM (K : KeyT P kt kv) {mt et : TypeId} (hm : P.underlying mt = some (.map kt et)) {o : Oper} {act : Act} {N : Act → World → Prop} {Q : Exit → Act → World → Prop} {w : World} (x y z : Operand) (ho : o.op = .mapUpdate mt x y z) (hd : o.dst = none)
    {r : Nat} {f : κ → Option Value} (h : MapR w r kv f) (k : κ) (v : Value) (hx : act.eval x = .map (some r)) (hy : act.eval y = kv k) (hv : act.eval z = v)
    (hn : ∀ w', w.grownBy w' (some r) → MapR w' r kv (fun j => if j = k then some v else f j) → N act w') : o.wp P act w N Q := by
  obtain ⟨w', h1, h2, h3⟩ := run_update_map K hm h k v
  unfold Oper.wp execOp
  simp only [ho, hx, hy, hv]
  rw [Sem.run_bind, h1]
  have := hn w' h2 h3
  show N (act.put o.dst _) w'
  rw [hd]
  exact this
theorem wp_entryM (K : KeyT P kt kv) {mt et : TypeId} (hm : P.underlying mt = some (.map kt et)) {o : Oper} {act : Act} {N : Act → World → Prop} {Q : Exit → Act → World → Prop} {w : World} (x y : Operand) (ho : o.op = .mapEntry mt x y)
    {r : Nat} {f : κ → Option Value} (h : MapR w r kv f) (k : κ) (z : Value) (hz : (zeroValue et).run P w = .ok z w) (hx : act.eval x = .map (some r)) (hy : act.eval y = kv k)
    (hn : ∀ w' (st : Nat), w.grownBy w' (some r) → MapE w' r kv (fun j => if j = k then some ((f k).getD z) else f j) k st → N (act.put o.dst (.tuple #[(f k).getD z, .int .i64 st])) w') : o.wp P act w N Q := by
  obtain ⟨w', st, h1, h2, h3⟩ := run_entry_map K hm h k z hz
  unfold Oper.wp execOp
  simp only [ho, hx, hy]
  rw [Sem.run_bind, h1]
  exact hn w' st h2 h3
theorem wp_estoreM {mt : TypeId} {o : Oper} {act : Act} {N : Act → World → Prop} {Q : Exit → Act → World → Prop} {w : World} (x y z : Operand) (ho : o.op = .entryStore mt x y z) (hd : o.dst = none)
    {r : Nat} {f : κ → Option Value} {k : κ} {st : Nat} (h : MapE w r kv f k st) (v : Value) (hx : act.eval x = .map (some r)) (hy : act.eval y = .int .i64 st) (hv : act.eval z = v)
    (hn : ∀ w', w.grownBy w' (some r) → MapR w' r kv (fun j => if j = k then some v else f j) → N act w') : o.wp P act w N Q := by
  obtain ⟨w', h1, h2, h3⟩ := run_estore_map (P := P) (mt := mt) h v
  unfold Oper.wp execOp
  simp only [ho, hx, hy, hv]
  rw [Sem.run_bind, h1]
  have := hn w' h2 h3
  show N (act.put o.dst _) w'
  rw [hd]
  exact this
end
theorem step_makeMapM {P : Program} {ops : Array Oper} {rest : List Oper} {o : Oper} {act : Act} {Q : Exit → Act → World → Prop} {w : World} (hgd : o.guard = none) (t : TypeId) (ho : o.op = .makeMap t none)
    (h : ∀ w', w.alloc (.map #[] 0) = w' → wpList P ops Q rest (act.put o.dst (.map (some w.heap.size))) w') : wpList P ops Q (o :: rest) act w :=
  wpList_plain hgd fun K hK => by
    unfold Oper.wp execOp
    simp only [ho]
    exact hK _ _ (h _ rfl)
theorem run_next_g {P : Program} {w : World} {r m since c0 clock : Nat} {seen : Array Nat} {es : Array MapEntry} (ty : TypeId) (hr : w.heap[r]? = some (.mapIter (some m) since seen c0)) (hb : w.heap[m]? = some (.map es clock)) (hold : ∀ x ∈ es.toList, x.born < since) (hsc : since ≤ c0) :
    ((leftOf es seen).size = 0 ∧ (Instr.next (.pointer (some ⟨r, 0, none⟩)) false ty).run P w = .ok (.tuple #[.bool false]) w) ∨
    ∃ e ∈ (leftOf es seen).toList, ∃ w1 : World, (w1 = w ∨ w1 = w.drew) ∧ (Instr.next (.pointer (some ⟨r, 0, none⟩)) false ty).run P w = .ok (.tuple #[.bool true, e.key, e.val]) { w1 with heap := w1.heap.setIfInBounds r (.mapIter (some m) since (seen.push e.born) clock) } := by
  simp only [Instr.next, getObj, Sem.run_bind, Sem.run, hr, hb, Result.andThen, next_test_false seen es since c0 hold hsc, Bool.false_eq_true, if_false]
  unfold leftOf
  have hmem : ∀ x ∈ (Array.filter (fun e => !seen.contains e.born) es).toList, x.born < since := fun x hx => hold x (by simp at hx ⊢; exact hx.1)
  generalize Array.filter (fun e => !seen.contains e.born) es = L at hmem ⊢
  have e1 : L.filter (fun x => decide (x.born < since)) = L := Array.filter_eq_self.2 (fun x hx => by simpa using hmem x (by simpa using hx))
  have e2 : L.filter (fun x => decide (x.born ≥ since)) = #[] := by
    rw [Array.filter_eq_empty_iff]
    intro x hx
    have := hmem x (by simpa using hx)
    simp
    omega
  simp only [e1, e2, Array.append_empty]
  by_cases h0 : L.size = 0
  · left
    have : L = #[] := Array.eq_empty_of_size_eq_zero h0
    subst this
    refine ⟨rfl, ?_⟩
    simp [choose, Sem.run, Question.forced]
  · right
    have hne : L.isEmpty = false := by simp [Array.isEmpty, h0]
    simp only [hne, Bool.false_eq_true, if_false, Array.empty_append, Array.size_map]
    have hch : ∃ (j : Nat) (w1 : World), j < L.size ∧ (w1 = w ∨ w1 = w.drew) ∧ (choose (Question.mapNext L.size)).run P w = .ok j w1 := by
      by_cases hf : L.size ≤ 1
      · exact ⟨0, w, by omega, .inl rfl, by simp [choose, Sem.run, Question.forced, hf]⟩
      · exact ⟨_, w.drew, Nat.mod_lt _ (by omega), .inr rfl, by
          simp only [choose, Sem.run, Question.forced, decide_eq_true_eq, hf, if_false, Question.cut]
          rfl⟩
    obtain ⟨j, w1, hj, hal, hrun⟩ := hch
    refine ⟨L[j], by simp, w1, hal, ?_⟩
    have hw1 : w1.heap[r]? = some (.mapIter (some m) since seen c0) := by rcases hal with rfl | rfl <;> exact hr
    simp only [hrun, Array.getElem?_map, Array.getElem?_eq_getElem hj, Option.map_some, Sem.run_bind, Result.andThen, setObj, Sem.run, hw1]
    rfl
theorem step_next {P : Program} {ops : Array Oper} {rest : List Oper} {o : Oper} {act : Act} {Q : Exit → Act → World → Prop} {w : World} (hgd : o.guard = none) (x : Operand) (ho : o.op = .next x false) (it : Value) (hx : act.eval x = it) (v : Value) (w1 : World) (hr : (Instr.next it false o.type).run P w = .ok v w1)
    (h : wpList P ops Q rest (act.put o.dst v) w1) : wpList P ops Q (o :: rest) act w :=
  wpList_plain hgd fun K hK => by
    unfold Oper.wp execOp
    simp only [ho, hx]
    rw [Sem.run_bind, hr]
    exact hK _ _ h
theorem step_entry {P : Program} {ops : Array Oper} {rest : List Oper} {o : Oper} {act : Act} {Q : Exit → Act → World → Prop} {w : World} (hgd : o.guard = none) (x : Operand) (ho : o.op = .entry x) (it : Value) (hx : act.eval x = it) (v : Value) (w1 : World) (hr : (Instr.entry it).run P w = .ok v w1)
    (h : wpList P ops Q rest (act.put o.dst v) w1) : wpList P ops Q (o :: rest) act w :=
  wpList_plain hgd fun K hK => by
    unfold Oper.wp execOp
    simp only [ho, hx]
    rw [Sem.run_bind, hr]
    exact hK _ _ h
theorem step_range {P : Program} {ops : Array Oper} {rest : List Oper} {o : Oper} {act : Act} {Q : Exit → Act → World → Prop} {w : World} (hgd : o.guard = none) (T : TypeId) (x : Operand) (ho : o.op = .range T x) (it : Value) (hx : act.eval x = it) (v : Value) (w1 : World) (hr : (Instr.range T it).run P w = .ok v w1)
    (h : wpList P ops Q rest (act.put o.dst v) w1) : wpList P ops Q (o :: rest) act w :=
  wpList_plain hgd fun K hK => by
    unfold Oper.wp execOp
    simp only [ho, hx]
    rw [Sem.run_bind, hr]
    exact hK _ _ h
end Go.Proofs.Ytcakdjnnfonijaa
namespace Go.Proofs.Ytcakdjnnfonijaa
open Go.RowKit

/-- Texts held against each other, and numbers. -/
def cmpS (s t : ByteArray) : Int := if Op.bytesLess s.toList t.toList then -1 else if s.toList == t.toList then 0 else 1
def cmpI (a b : Int) : Int := if a < b then -1 else if b < a then 1 else 0
set_option maxRecDepth 100000 in
theorem nanS_any (s : ByteArray) (w : World) : Calls Try.prog 61 #[.string s] w fun e w' => e = .returned (.bool false) ∧ w = w' := by
  have hb : (!(s.toList == s.toList)) = false := by simp
  go_enter Try.func61, Try.ntmps61
  go_wp2
  go_ret
  exact ⟨by simp, rfl⟩
set_option maxRecDepth 100000 in
theorem nanI_any (s : Int) (w : World) : Calls Try.prog 62 #[.int .i64 s] w fun e w' => e = .returned (.bool false) ∧ w = w' := by
  go_enter Try.func62, Try.ntmps62
  go_wp2
  go_ret
  exact ⟨by simp, rfl⟩
set_option maxRecDepth 100000 in
theorem cmpS_any (s t : ByteArray) (w : World) : Calls Try.prog 53 #[.string s, .string t] w fun e w' => e = .returned (.int .i64 (cmpS s t)) ∧ w = w' := by
  obtain ⟨b1, h1⟩ : ∃ b, Op.bytesLess s.toList t.toList = b := ⟨_, rfl⟩
  obtain ⟨b2, h2⟩ : ∃ b, (s.toList == t.toList) = b := ⟨_, rfl⟩
  have hc : cmpS s t = if b1 then -1 else if b2 then 0 else 1 := by unfold cmpS; rw [h1, h2]
  rw [hc]
  clear hc
  go_enter Try.func53, Try.ntmps53
  cases b1 with
  | true =>
    go_wp2_with (first | (go_at_call 61; refine (nanS_any _ _).mono ?_; rintro e _ ⟨rfl, rfl⟩))
    go_ret
    exact ⟨rfl, rfl⟩
  | false =>
    cases b2 with
    | true =>
      have h3 : (!(Op.bytesLess s.toList t.toList || s.toList == t.toList)) = false := by rw [h1, h2]; rfl
      go_wp2_with (first | (go_at_call 61; refine (nanS_any _ _).mono ?_; rintro e _ ⟨rfl, rfl⟩))
      go_ret
      exact ⟨rfl, rfl⟩
    | false =>
      have h3 : (!(Op.bytesLess s.toList t.toList || s.toList == t.toList)) = true := by rw [h1, h2]; rfl
      go_wp2_with (first | (go_at_call 61; refine (nanS_any _ _).mono ?_; rintro e _ ⟨rfl, rfl⟩))
      go_ret
      exact ⟨rfl, rfl⟩
set_option maxRecDepth 100000 in
theorem cmpI_any (s t : Int) (w : World) : Calls Try.prog 54 #[.int .i64 s, .int .i64 t] w fun e w' => e = .returned (.int .i64 (cmpI s t)) ∧ w = w' := by
  go_enter Try.func54, Try.ntmps54
  by_cases h1 : s < t
  · have hc : cmpI s t = -1 := by unfold cmpI; rw [if_pos h1]
    rw [hc]
    clear hc
    go_wp2_with (first | (go_at_call 62; refine (nanI_any _ _).mono ?_; rintro e _ ⟨rfl, rfl⟩))
    go_ret
    exact ⟨rfl, rfl⟩
  · by_cases h2 : t < s
    · have hc : cmpI s t = 1 := by unfold cmpI; rw [if_neg h1, if_pos h2]
      rw [hc]
      clear hc
      go_wp2_with (first | (go_at_call 62; refine (nanI_any _ _).mono ?_; rintro e _ ⟨rfl, rfl⟩))
      go_ret
      exact ⟨rfl, rfl⟩
    · have hc : cmpI s t = 0 := by unfold cmpI; rw [if_neg h1, if_neg h2]
      rw [hc]
      clear hc
      go_wp2_with (first | (go_at_call 62; refine (nanI_any _ _).mono ?_; rintro e _ ⟨rfl, rfl⟩))
      go_ret
      exact ⟨rfl, rfl⟩
end Go.Proofs.Ytcakdjnnfonijaa
namespace Go.Proofs.Ytcakdjnnfonijaa
open Go.RowKit

def cmpOr (x y : Int) : Int := if x = 0 then y else x
set_option maxRecDepth 100000 in
theorem or_any (b : Nat) (x y : Int) (w : World) (hr : RowAt w b 3 #[.int .i64 x, .int .i64 y]) :
    Calls Try.prog 52 #[.slice (some ⟨b, 0, none⟩) 2 2] w fun e w' => e = .returned (.int .i64 (cmpOr x y)) ∧ w = w' := by
  have h0 : w.cell? ⟨b, 0, none⟩ = some (.int .i64 x) := hr.cell 0
  have h1 : w.cell? ⟨b, 1, none⟩ = some (.int .i64 y) := hr.cell 1
  have H0 := Lib.hid h0
  have H1 := Lib.hid h1
  clear h0 h1 hr
  go_enter Try.func52, Try.ntmps52
  go_wp2
  go_loopw [8] (fun i wr => w = wr ∧ ∃ k : Nat, k ≤ 2 ∧ i = .int .i64 k ∧ (0 < k → x = 0) ∧ (1 < k → y = 0)) (fun i _ => 2 - (intOf i).toNat)
  case atStart => exact ⟨rfl, 0, by decide, rfl, fun h => by omega, fun h => by omega⟩
  case round =>
    obtain ⟨rfl, k, hk, rfl, hx, hy⟩ := hrel
    have h0 := H0.out
    have h1 := H1.out
    rcases (by omega : k = 0 ∨ k = 1 ∨ k = 2) with rfl | rfl | rfl
    · by_cases hx0 : x = 0
      · subst hx0
        go_wp2
        refine ⟨⟨trivial, 1, by decide, rfl, ?_, ?_⟩, by decide⟩ <;> first | trivial | exact fun _ => rfl | (intro h; omega)
      · have hb : (x != 0) = true := by simp [hx0]
        go_wp2
        go_ret
        exact ⟨by unfold cmpOr; rw [if_neg hx0]; rfl, rfl⟩
    · have hx0 := hx (by decide)
      subst hx0
      by_cases hy0 : y = 0
      · subst hy0
        go_wp2
        refine ⟨⟨trivial, 2, by decide, rfl, ?_, ?_⟩, by decide⟩ <;> first | trivial | exact fun _ => rfl | (intro h; omega)
      · have hb : (y != 0) = true := by simp [hy0]
        go_wp2
        go_ret
        exact ⟨by unfold cmpOr; rw [if_pos rfl]; rfl, rfl⟩
    · have hx0 := hx (by decide)
      have hy0 := hy (by decide)
      subst hx0 hy0
      go_wp2
      go_ret
      exact ⟨by unfold cmpOr; rw [if_pos rfl]; rfl, rfl⟩
def cmpR (s t : ByteArray) (m n : Int) : Int := cmpOr (cmpS s t) (cmpI m n)
end Go.Proofs.Ytcakdjnnfonijaa
namespace Go.Proofs.Ytcakdjnnfonijaa
open Go.RowKit

set_option maxRecDepth 100000 in
theorem doccmp_any (s t : ByteArray) (m n : Int) (w : World) : Calls Try.prog 35 #[.agg #[.string s, .int .i64 m], .agg #[.string t, .int .i64 n]] w fun e w' => e = .returned (.int .i64 (cmpR s t m n)) ∧ Below w.heap.size w w' := by
  obtain ⟨b1, h1⟩ : ∃ b, Op.bytesLess s.toList t.toList = b := ⟨_, rfl⟩
  obtain ⟨b2, h2⟩ : ∃ b, (s.toList == t.toList) = b := ⟨_, rfl⟩
  have hc : cmpR s t m n = if b1 then -1 else if b2 then cmpI m n else 1 := by
    unfold cmpR cmpS cmpOr
    rw [h1, h2]
    cases b1 <;> cases b2 <;> rfl
  rw [hc]
  clear hc
  go_enter Try.func35, Try.ntmps35
  cases b1 with
  | true =>
    go_wp2
    go_ret
    exact ⟨rfl, below_trans (below_alloc _) (below_alloc _)⟩
  | false =>
    cases b2 with
    | false =>
      go_wp2
      go_ret
      exact ⟨rfl, below_trans (below_alloc _) (below_alloc _)⟩
    | true =>
      by_cases hmn : m < n
      · have hv : cmpI m n = -1 := by unfold cmpI; rw [if_pos hmn]
        rw [hv]
        clear hv
        go_wp2
        go_ret
        exact ⟨rfl, below_trans (below_alloc _) (below_alloc _)⟩
      · by_cases hnm : n < m
        · have he : (m == n) = false := by simp; omega
          have hv : cmpI m n = 1 := by unfold cmpI; rw [if_neg hmn, if_pos hnm]
          rw [hv]
          clear hv
          go_wp2
          go_ret
          exact ⟨rfl, below_trans (below_alloc _) (below_alloc _)⟩
        · have he : m = n := by omega
          subst he
          have hv : cmpI m m = 0 := by unfold cmpI; rw [if_neg hmn, if_neg hnm]
          rw [hv]
          clear hv
          go_wp2
          go_ret
          exact ⟨rfl, below_trans (below_alloc _) (below_alloc _)⟩
end Go.Proofs.Ytcakdjnnfonijaa
namespace Go.Proofs.Ytcakdjnnfonijaa
open Go.RowKit

theorem less_asymm : ∀ a b : List UInt8, Op.bytesLess a b = true → Op.bytesLess b a = false
  | _, [], h => by cases ‹List UInt8› <;> simp [Op.bytesLess] at h
  | [], _ :: _, _ => rfl
  | a :: x, b :: y, h => by
    simp only [Op.bytesLess, Bool.or_eq_true, Bool.and_eq_true, decide_eq_true_eq, beq_iff_eq] at h
    simp only [Op.bytesLess, Bool.or_eq_false_iff, Bool.and_eq_false_iff, decide_eq_false_iff_not, beq_eq_false_iff_ne]
    rcases h with h | ⟨rfl, h⟩
    · exact ⟨fun h2 => by rw [UInt8.lt_iff_toNat_lt] at h h2; omega, .inl fun e => by subst e; rw [UInt8.lt_iff_toNat_lt] at h; omega⟩
    · exact ⟨fun h2 => by rw [UInt8.lt_iff_toNat_lt] at h2; omega, .inr (less_asymm x y h)⟩
theorem less_total : ∀ a b : List UInt8, Op.bytesLess a b = false → Op.bytesLess b a = false → a = b
  | [], [], _, _ => rfl
  | [], _ :: _, h, _ => by simp [Op.bytesLess] at h
  | _ :: _, [], _, h => by simp [Op.bytesLess] at h
  | a :: x, b :: y, h, h2 => by
    simp only [Op.bytesLess, Bool.or_eq_false_iff, Bool.and_eq_false_iff, decide_eq_false_iff_not, beq_eq_false_iff_ne, UInt8.lt_iff_toNat_lt] at h h2
    have e : a = b := UInt8.toNat_inj.1 (by omega)
    subst e
    rw [less_total x y (by simpa using h.2) (by simpa using h2.2)]
theorem less_irrefl (a : List UInt8) : Op.bytesLess a a = false := by
  cases h : Op.bytesLess a a with
  | false => rfl
  | true => have := less_asymm a a h; rw [h] at this; cases this
theorem less_trans : ∀ a b c : List UInt8, Op.bytesLess a b = true → Op.bytesLess b c = true → Op.bytesLess a c = true
  | _, _, [], _, h => by cases ‹List UInt8› <;> simp [Op.bytesLess] at h
  | [], _, _ :: _, _, _ => rfl
  | _ :: _, [], _ :: _, h, _ => by simp [Op.bytesLess] at h
  | a :: x, b :: y, c :: z, h, h2 => by
    simp only [Op.bytesLess, Bool.or_eq_true, Bool.and_eq_true, decide_eq_true_eq, beq_iff_eq, UInt8.lt_iff_toNat_lt] at h h2 ⊢
    rcases h with h | ⟨rfl, h⟩
    · rcases h2 with h2 | ⟨rfl, h2⟩
      · exact .inl (by omega)
      · exact .inl h
    · rcases h2 with h2 | ⟨rfl, h2⟩
      · exact .inl h2
      · exact .inr ⟨rfl, less_trans x y z h h2⟩
theorem cmpS_neg (s t : ByteArray) : cmpS t s = - cmpS s t := by
  unfold cmpS
  cases h : Op.bytesLess s.toList t.toList with
  | true =>
    have hne : (t.toList == s.toList) = false := by
      cases he : t.toList == s.toList with
      | false => rfl
      | true => rw [eq_of_beq he, less_irrefl] at h; cases h
    rw [less_asymm _ _ h, hne]
    rfl
  | false =>
    cases h2 : Op.bytesLess t.toList s.toList with
    | true =>
      have hne : (s.toList == t.toList) = false := by
        cases he : s.toList == t.toList with
        | false => rfl
        | true => rw [eq_of_beq he, less_irrefl] at h2; cases h2
      rw [hne]
      rfl
    | false =>
      rw [less_total _ _ h h2]
      simp
theorem cmpI_neg (m n : Int) : cmpI n m = - cmpI m n := by
  unfold cmpI
  split <;> split <;> first | rfl | omega
theorem cmpS_in (s t : ByteArray) : cmpS s t = -1 ∧ Op.bytesLess s.toList t.toList = true ∨ cmpS s t = 0 ∧ s.toList = t.toList ∨ cmpS s t = 1 ∧ Op.bytesLess t.toList s.toList = true := by
  unfold cmpS
  cases h : Op.bytesLess s.toList t.toList with
  | true => exact .inl ⟨rfl, rfl⟩
  | false =>
    cases he : s.toList == t.toList with
    | true => exact .inr (.inl ⟨rfl, eq_of_beq he⟩)
    | false =>
      refine .inr (.inr ⟨rfl, ?_⟩)
      cases h2 : Op.bytesLess t.toList s.toList with
      | true => rfl
      | false => rw [less_total _ _ h h2] at he; simp at he
theorem cmpI_in (m n : Int) : cmpI m n = -1 ∧ m < n ∨ cmpI m n = 0 ∧ m = n ∨ cmpI m n = 1 ∧ n < m := by
  unfold cmpI
  split
  · exact .inl ⟨rfl, by assumption⟩
  · split
    · exact .inr (.inr ⟨rfl, by assumption⟩)
    · exact .inr (.inl ⟨rfl, by omega⟩)
theorem cmpR_neg (s t : ByteArray) (m n : Int) : cmpR t s n m = - cmpR s t m n := by
  unfold cmpR cmpOr
  rw [cmpS_neg s t, cmpI_neg m n]
  rcases cmpS_in s t with ⟨h, _⟩ | ⟨h, _⟩ | ⟨h, _⟩ <;> rw [h] <;> rfl
theorem cmpR_in (s t : ByteArray) (m n : Int) : cmpR s t m n = -1 ∨ cmpR s t m n = 0 ∨ cmpR s t m n = 1 := by
  unfold cmpR cmpOr
  rcases cmpS_in s t with ⟨h, _⟩ | ⟨h, _⟩ | ⟨h, _⟩ <;> rw [h]
  · exact .inl rfl
  · rcases cmpI_in m n with ⟨h, _⟩ | ⟨h, _⟩ | ⟨h, _⟩ <;> rw [h] <;> simp
  · exact .inr (.inr rfl)
theorem cmpR_self (s : ByteArray) (m : Int) : cmpR s s m m = 0 := by
  have := cmpR_neg s s m m
  omega
/-- At most: by subject, then by number. -/
theorem cmpR_le (s t : ByteArray) (m n : Int) : cmpR s t m n ≤ 0 ↔ Op.bytesLess s.toList t.toList = true ∨ s.toList = t.toList ∧ m ≤ n := by
  unfold cmpR cmpOr
  rcases cmpS_in s t with ⟨h, h2⟩ | ⟨h, h2⟩ | ⟨h, h2⟩ <;> rw [h]
  · simp [h2]
  · rw [if_pos rfl, h2, less_irrefl]
    rcases cmpI_in m n with ⟨h3, h4⟩ | ⟨h3, h4⟩ | ⟨h3, h4⟩ <;> rw [h3] <;> simp <;> omega
  · rw [if_neg (by decide), less_asymm _ _ h2]
    simp
    intro e
    rw [e, less_irrefl] at h2
    cases h2
theorem cmpR_trans (s t u : ByteArray) (m n o : Int) (h : cmpR s t m n ≤ 0) (h2 : cmpR t u n o ≤ 0) : cmpR s u m o ≤ 0 := by
  rw [cmpR_le] at h h2 ⊢
  rcases h with h | ⟨h, hm⟩
  · rcases h2 with h2 | ⟨h2, _⟩
    · exact .inl (less_trans _ _ _ h h2)
    · rw [← h2]; exact .inl h
  · rcases h2 with h2 | ⟨h2, hn⟩
    · rw [h]; exact .inl h2
    · exact .inr ⟨h.trans h2, by omega⟩
end Go.Proofs.Ytcakdjnnfonijaa
namespace Go.Proofs.Ytcakdjnnfonijaa
open Go.RowKit

theorem aggRf {s : ByteArray} {z : Int} : Agg Try.prog 25 [Value.string s, .int .i64 z].length := ⟨⟨_, Try.underlying25⟩, by kernel_rfl⟩
theorem eltRf : Elt Try.prog 26 25 2 24 (.agg #[.string ⟨#[]⟩, .int .i64 0]) := ⟨Try.underlying26, by kernel_rfl, by kernel_rfl, by decide⟩
def OwnRf (w : World) (v : Value) (H : List Rf) : Prop := w.ownsRow 0 25 2 v H.length (H.flatMap rfC)
theorem OwnRf.nil (w : World) : OwnRf w (.slice none 0 0) [] := World.ownsRow_nil _ _ _ _
theorem OwnRf.lt {w : World} {v : Value} {H : List Rf} (h : OwnRf w v H) {g : Nat} (hg : v.ownBlock = some g) : g < w.heap.size := (World.ownsRow.lt h g hg).2
theorem OwnRf.keep {w w' : World} {X : Nat → Prop} (hk : KeepA X w w') {v : Value} {H : List Rf} (h : OwnRf w v H) (hx : ∀ g, v.ownBlock = some g → ¬ X g) : OwnRf w' v H := own_keep hk h hx
theorem OwnRf.later {w w' : World} (hb : Below w.heap.size w w') {v : Value} {H : List Rf} (h : OwnRf w v H) : OwnRf w' v H := h.keep (KeepA.of_below (X := fun _ => False) hb) fun _ _ h => h
theorem rfC_one (l : List Rf) : ∀ u ∈ l.flatMap rfC, u.oneCell' = true := fun u hu => by
  obtain ⟨x, -, hx⟩ := List.mem_flatMap.1 hu
  simp only [rfC, List.mem_cons, List.not_mem_nil, or_false] at hx
  rcases hx with rfl | rfl <;> rfl
theorem OwnRf.rd {w : World} {v : Value} {H : List Rf} (h : OwnRf w v H) : ∃ a cap, v = .slice a H.length cap ∧ H.length ≤ cap ∧ cap ≤ maxLen ∧ RdRf w a H := by
  have h2 := h
  obtain ⟨a, cap, h3, h4, h5⟩ := Rd.of_own h
  refine ⟨a, cap, h3, h4, ?_, rows_of_rd rfC_len (by decide) h5⟩
  rcases h2.2 with ⟨e, e2⟩ | ⟨g, cap', cur, e, -, -, -, hcm, -⟩
  · rw [h3] at e
    simp only [Value.slice.injEq] at e
    rw [e.2.2]; exact Nat.zero_le _
  · rw [h3] at e
    simp only [Value.slice.injEq] at e
    rw [e.2.2]; exact hcm
theorem OwnRf.at {w : World} {v : Value} {H : List Rf} (h : OwnRf w v H) (hp : 0 < H.length) : ∃ g cap cur, v = .slice (some ⟨g, 0, none⟩) H.length cap ∧ H.length ≤ cap ∧ cap ≤ maxLen ∧ w.heap[g]? = some (.cells cur 25 (0, 0)) ∧ cur.size = cap * 2 ∧ cur.toList.take (H.length * 2) = H.flatMap rfC ∧ ∀ i (hi : i < H.length), CellsAt w rfC g (i * 2) H[i] := by
  obtain ⟨a, cap0, h3, h4, h5, h6⟩ := h.rd
  rcases h.2 with ⟨e, e2⟩ | ⟨g, cap, cur, e, -, e2, e3, e4, e5, e6⟩
  · omega
  · refine ⟨g, cap, cur, e, e3, e4, e2, e5, e6, ?_⟩
    rw [h3] at e
    cases e
    rcases h6 with h6 | ⟨b, off, e7, -, h8⟩
    · rw [h6] at hp; exact absurd hp (by simp)
    · cases e7
      intro i hi
      have := h8 i hi
      rwa [Nat.zero_add] at this
theorem OwnRf.take {w : World} {a : Option Addr} {n cap : Nat} {H : List Rf} {x : Rf} (h : OwnRf w (.slice a n cap) (H ++ [x])) : OwnRf w (.slice a H.length cap) H := by
  refine ⟨flat_len rfC_len H, ?_⟩
  have hl : (H ++ [x]).length = H.length + 1 := by simp
  rcases h.2 with ⟨_, e2⟩ | ⟨g, cap', cur, e, e1, e2, e3, e4, e5, e6⟩
  · rw [hl] at e2; omega
  · cases e
    refine .inr ⟨g, cap, cur, rfl, e1, e2, by omega, e4, e5, ?_⟩
    have : cur.toList.take (H.length * 2) = (cur.toList.take ((H ++ [x]).length * 2)).take (H.length * 2) := by
      rw [List.take_take]; congr 1; rw [hl]; omega
    rw [this, e6, List.flatMap_append, List.take_left' (flat_len rfC_len H)]
/-- A version is loaded. -/
theorem wp_loadRf {o : Oper} {act : Act} {K : Act → World → Prop} {Q : Exit → Act → World → Prop} {w : World} (x : Operand) (ho : o.op = .load 25 x) {b k : Nat} {r : Rf} (h : CellsAt w rfC b k r) (hx : act.eval x = .pointer (some ⟨b, k, none⟩))
    (hn : K (act.put o.dst (.agg #[.string r.1, .int .i64 r.2])) w) : o.wp Try.prog act w K Q := by
  have hrun := run_loadVar_cells (P := Try.prog) w ⟨b, k, none⟩ 25 (rfC r) aggRf fun j v hv => by
    have hadd : (⟨b, k, none⟩ : Addr).add j = ⟨b, k + j, none⟩ := by unfold Addr.add; split <;> simp_all
    rw [hadd]
    exact h j v hv
  unfold Oper.wp execOp
  simp only [ho, hx, Instr.loadAt, Instr.sureAddr, Sem.run_bind, Sem.run_pure, Result.andThen_ok, hrun]
  exact hn
theorem step_loadRf {ops : Array Oper} {rest : List Oper} {o : Oper} {act : Act} {Q : Exit → Act → World → Prop} {w : World} (hgd : o.guard = none) (x : Operand) (ho : o.op = .load 25 x) {b k : Nat} {r : Rf} (h : CellsAt w rfC b k r) (hx : act.eval x = .pointer (some ⟨b, k, none⟩))
    (hn : wpList Try.prog ops Q rest (act.put o.dst (.agg #[.string r.1, .int .i64 r.2])) w) : wpList Try.prog ops Q (o :: rest) act w :=
  wpList_plain hgd fun _ hK => wp_loadRf x ho h hx (hK _ _ hn)
theorem RowAt.rf {w : World} {b : Nat} {t : TypeId} {r : Rf} (h : RowAt w b t #[.string r.1, .int .i64 r.2]) : CellsAt w rfC b 0 r := fun j v hv => by
  rw [Nat.zero_add, h.cell j]
  simpa [rfC] using hv
/-- A version is added. -/
theorem wp_pushRf {t : TypeId} {z : Value} (E : Elt Try.prog t 25 2 24 z) {o : Oper} {act : Act} {K : Act → World → Prop} {Q : Exit → Act → World → Prop} {w : World} (s x : Operand) (ho : o.op = .call { callee := .builtin .append, args := #[s, x], argTypes := #[t, t] })
    (v : Value) (H : List Rf) (hv : act.eval s = v) (g : Nat) (r : Rf) (hx : act.eval x = .slice (some ⟨g, 0, none⟩) 1 1) (hown : OwnRf w v H) (hg : CellsAt w rfC g 0 r) (hl : g < w.heap.size) (hsz : H.length ≤ 1000000)
    (h : ∀ v' w', OwnRf w' v' (H ++ [r]) → w.grownBy w' v.ownBlock → NewRow w v v' → K (act.put o.dst v') w') : o.wp Try.prog act w K Q := by
  have hrd : Rd w (some ⟨g, 0, none⟩) (rfC r) := .inr ⟨g, 0, rfl, hl, fun k hk => hg k _ (List.getElem?_eq_getElem hk)⟩
  obtain ⟨v', w', hrun, q2, q3, q4⟩ := run_append_any E w 0 o.type v H.length (H.flatMap rfC) hown (some ⟨g, 0, none⟩) 1 1 (rfC r) rfl hrd (fun u hu => rfC_one [r] u (by simpa using hu)) (by omega) (by omega) (Nat.zero_le _)
  unfold Oper.wp execOp
  simp only [ho, resolve, invoke, builtin, Sem.run_bind, Sem.run_pure, Result.andThen_ok, List.map_toArray, List.map_cons, List.map_nil, hv, hx, hrun]
  refine h v' w' ?_ q3 q4
  unfold OwnRf
  rw [List.length_append, List.flatMap_append]
  simpa using q2
theorem step_pushRf {t : TypeId} {z : Value} (E : Elt Try.prog t 25 2 24 z) {ops : Array Oper} {rest : List Oper} {o : Oper} {act : Act} {Q : Exit → Act → World → Prop} {w : World} (hgd : o.guard = none) (s x : Operand) (ho : o.op = .call { callee := .builtin .append, args := #[s, x], argTypes := #[t, t] })
    (v : Value) (H : List Rf) (hv : act.eval s = v) (g : Nat) (r : Rf) (hx : act.eval x = .slice (some ⟨g, 0, none⟩) 1 1) (hown : OwnRf w v H) (hg : CellsAt w rfC g 0 r) (hl : g < w.heap.size) (hsz : H.length ≤ 1000000)
    (h : ∀ v' w', OwnRf w' v' (H ++ [r]) → w.grownBy w' v.ownBlock → NewRow w v v' → wpList Try.prog ops Q rest (act.put o.dst v') w') : wpList Try.prog ops Q (o :: rest) act w :=
  wpList_plain hgd fun _ hK => wp_pushRf E s x ho v H hv g r hx hown hg hl hsz fun v' w' q1 q2 q3 => hK _ _ (h v' w' q1 q2 q3)
end Go.Proofs.Ytcakdjnnfonijaa
namespace Go.Proofs.Ytcakdjnnfonijaa
open Go.RowKit

def ltR (a b : Rf) : Bool := decide (cmpR a.1 b.1 a.2 b.2 < 0)
theorem cmpR_zero {a b : Rf} (h : cmpR a.1 b.1 a.2 b.2 = 0) : a = b := by
  unfold cmpR cmpOr at h
  rcases cmpS_in a.1 b.1 with ⟨h1, _⟩ | ⟨h1, h2⟩ | ⟨h1, _⟩ <;> rw [h1] at h
  · cases h
  · rw [if_pos rfl] at h
    rcases cmpI_in a.2 b.2 with ⟨h3, _⟩ | ⟨h3, h4⟩ | ⟨h3, _⟩
    · rw [h3] at h; cases h
    · exact Prod.ext (bytes_ext h2) h4
    · rw [h3] at h; cases h
  · cases h
theorem totR : TotLt ltR := by
  refine ⟨fun a => ?_, fun a b c h1 h2 => ?_, fun a b h => ?_⟩
  · unfold ltR; rw [cmpR_self]; rfl
  · unfold ltR at *
    simp only [decide_eq_true_eq] at *
    have h3 := cmpR_trans a.1 b.1 c.1 a.2 b.2 c.2 (by omega) (by omega)
    rcases Int.lt_or_eq_of_le h3 with h4 | h4
    · exact h4
    · have := cmpR_zero h4
      subst this
      have := cmpR_neg a.1 b.1 a.2 b.2
      omega
  · unfold ltR
    simp only [decide_eq_true_eq]
    have := cmpR_neg a.1 b.1 a.2 b.2
    rcases cmpR_in a.1 b.1 a.2 b.2 with h1 | h1 | h1
    · exact .inl (by omega)
    · exact absurd (cmpR_zero h1) h
    · exact .inr (by omega)
theorem rf_cells {w : World} {b k : Nat} {r : Rf} (h : CellsAt w rfC b k r) : w.cell? ⟨b, k, none⟩ = some (.string r.1) ∧ w.cell? ⟨b, k + 1, none⟩ = some (.int .i64 r.2) := ⟨h 0 _ rfl, h 1 _ rfl⟩
@[go_sem] theorem asRf (v : Value) (w : World) : (Instr.typeAssert (.iface 25 v) 20 25 false).run Try.prog w = .ok v w := by kernel_rfl
end Go.Proofs.Ytcakdjnnfonijaa
namespace Go.Proofs.Ytcakdjnnfonijaa
open Go.RowKit

end Go.Proofs.Ytcakdjnnfonijaa
namespace Go.Proofs.Ytcakdjnnfonijaa
open Go.RowKit

end Go.Proofs.Ytcakdjnnfonijaa
namespace Go.Proofs.Ytcakdjnnfonijaa
open Go.RowKit

set_option maxRecDepth 100000 in
set_option maxHeartbeats 1000000 in
theorem right_any (x : Rf) (w : World) : Calls Try.prog 26 #[.agg #[.string x.1, .int .i64 x.2]] w fun e w' => e = .returned (.bool (rightR x)) ∧ Below w.heap.size w w' := by
  obtain ⟨s, z⟩ := x
  obtain ⟨n, hn⟩ : ∃ n, s.size = n := ⟨_, rfl⟩
  have hr : rightR (s, z) = (decide (1 ≤ n) && (decide (n ≤ 128) && (decide (1 ≤ z) && decide (z ≤ 2147483647)))) := by unfold rightR; rw [hn]
  rw [hr]
  clear hr
  dsimp only
  have hb : Below w.heap.size w (w.alloc (.cells #[.string s, .int .i64 z] 25)) := below_alloc _
  have HB := Lib.hid hb
  clear hb
  go_enter Try.func26, Try.ntmps26
  by_cases h1 : 1 ≤ n
  · by_cases h2 : n ≤ 128
    · by_cases h3 : 1 ≤ z
      · by_cases h4 : z ≤ 2147483647
        · have e : (decide (1 ≤ n) && (decide (n ≤ 128) && (decide (1 ≤ z) && decide (z ≤ 2147483647)))) = true := by simp [h1, h2, h3, h4]
          rw [e]
          go_wp2
          go_ret
          exact ⟨rfl, HB.out⟩
        · have e : (decide (1 ≤ n) && (decide (n ≤ 128) && (decide (1 ≤ z) && decide (z ≤ 2147483647)))) = false := by simp [h4]
          rw [e]
          go_wp2
          go_ret
          exact ⟨rfl, HB.out⟩
      · have e : (decide (1 ≤ n) && (decide (n ≤ 128) && (decide (1 ≤ z) && decide (z ≤ 2147483647)))) = false := by simp [h3]
        rw [e]
        go_wp2
        go_ret
        exact ⟨rfl, HB.out⟩
    · have e : (decide (1 ≤ n) && (decide (n ≤ 128) && (decide (1 ≤ z) && decide (z ≤ 2147483647)))) = false := by simp [h2]
      rw [e]
      go_wp2
      go_ret
      exact ⟨rfl, HB.out⟩
  · have e : (decide (1 ≤ n) && (decide (n ≤ 128) && (decide (1 ≤ z) && decide (z ≤ 2147483647)))) = false := by simp [h1]
    rw [e]
    go_wp2
    go_ret
    exact ⟨rfl, HB.out⟩
theorem zint (w : World) : (zeroValue 3).run Try.prog w = .ok (.int .i64 0) w := by kernel_rfl
theorem cells_grown {w w' : World} {b r : Nat} (hbr : ¬ b = r) (hb : b < w.heap.size) (g : w.grownBy w' (some r)) {u v : Value} (h : w.cell? ⟨b, 0, none⟩ = some u ∧ w.cell? ⟨b, 1, none⟩ = some v) : w'.cell? ⟨b, 0, none⟩ = some u ∧ w'.cell? ⟨b, 1, none⟩ = some v := by
  have k : ∀ o, w'.cell? ⟨b, o, none⟩ = w.cell? ⟨b, o, none⟩ := fun o => by
    have := g.block b hb (fun e => hbr (by first | exact Option.some.inj e | exact (Option.some.inj e).symm))
    simp only [World.cell?, this]
  rw [k, k]
  exact h
theorem bump_eqf {w : World} {r : Nat} {f : Rf → Option Value} {t : Rf} {u v : Value} (h : MapR w r rfV (fun j => if j = t then some v else if j = t then some u else f j)) : MapR w r rfV (fun j => if j = t then some v else f j) :=
  h.eqf fun k => by by_cases e : k = t <;> simp [e]
theorem bump_keep {w w2 w3 : World} {r : Nat} (g2 : w.grownBy w2 (some r)) (g3 : w2.grownBy w3 (some r)) : KeepA (fun k => k = r) w w3 := (keep_grown g2).trans (keep_grown g3)
open Classical in
/-- How often targets were seen. -/
noncomputable def seenF (l : List Rf) (k : Nat) (t : Rf) : Option Value := if t ∈ l.take k then some (.int .i64 1) else none
theorem seenF_zero (l : List Rf) : seenF l 0 = fun _ => none := funext fun t => by unfold seenF; simp
open Classical in
theorem seenF_get (l : List Rf) (k : Nat) (t : Rf) : (seenF l k t).getD (.int .i64 0) = .int .i64 (if t ∈ l.take k then 1 else 0) := by unfold seenF; split <;> rfl
theorem seenF_succ {l : List Rf} {k : Nat} (hk : k < l.length) (j : Rf) : (if j = l[k] then some (Value.int .i64 1) else seenF l k j) = seenF l (k + 1) j := by
  have hm : j ∈ l.take (k + 1) ↔ j ∈ l.take k ∨ j = l[k] := by
    rw [← List.take_append_getElem hk, List.mem_append, List.mem_singleton]
  unfold seenF
  by_cases e : j = l[k]
  · rw [if_pos e, if_pos (hm.2 (.inr e))]
  · rw [if_neg e]
    by_cases h : j ∈ l.take k
    · rw [if_pos h, if_pos (hm.2 (.inl h))]
    · rw [if_neg h, if_neg (fun h2 => (hm.1 h2).elim h e)]
set_option maxRecDepth 100000 in
set_option maxHeartbeats 2000000 in
theorem targets_any (a : Option Addr) (n c : Nat) (l : List Rf) (w : World) (hl : l.length = n) (hb : n ≤ 1000000) (hr : RdRf w a l) :
    Calls Try.prog 25 #[.slice a n c] w fun e w' => e = .returned (.int .i64 (tgt l)) ∧ Below w.heap.size w w' := by
  obtain ⟨g, hg⟩ : ∃ x, w.heap.size = x := ⟨_, rfl⟩
  have HL := Lib.hid hl
  have HR : Hid (∀ k (h : k < l.length), ∃ b off, a = some ⟨b, off, none⟩ ∧ ∀ W, Below g w W → CellsAt W rfC b (off + k * 2) l[k]) := fun k h => by
    rcases hr with e | ⟨b, off, ha, hlt, hi⟩
    · rw [e] at h; exact absurd h (by simp)
    · exact ⟨b, off, ha, fun W hW => (hi k h).later (by rw [hg]; exact hW) hlt⟩
  clear hl hr
  go_enter Try.func25, Try.ntmps25
  rw [hg]
  go_wp2_with (refine step_makeMapM rfl 53 rfl ?_; intro w1 hw1; rw [hg])
  have hb1 : Below g w w1 := by rw [← hw1, ← hg]; exact below_alloc _
  have hm1 : MapR w1 g rfV (seenF l 0) := by rw [seenF_zero, ← hw1, ← hg]; exact MapR.new w
  clear hw1
  go_loopw [9] (fun i wr => ∃ k : Nat, i = .int .i64 (k : Int) ∧ k ≤ n ∧ goodT l k ∧ Below g w wr ∧ MapR wr g rfV (seenF l k)) (fun i _ => n - (intOf i).toNat)
  case atStart => exact ⟨0, rfl, Nat.zero_le _, goodT_zero l, hb1, hm1⟩
  case round =>
    obtain ⟨k, rfl, hk, hgt, hbr, hmr⟩ := hrel
    clear hb1 hm1
    by_cases hkn : k < n
    · obtain ⟨b, off, ha, hcell⟩ := HR.out k (by rw [HL.out]; exact hkn)
      subst ha
      obtain ⟨t, ht⟩ : ∃ t, l[k]'(by rw [HL.out]; exact hkn) = t := ⟨_, rfl⟩
      rw [ht] at hcell
      have HCELL := Lib.hid (hcell wr hbr)
      have HT : Hid (∃ h : k < l.length, l[k] = t) := ⟨_, ht⟩
      obtain ⟨bt, hbt⟩ : ∃ x, wr.heap.size = x := ⟨_, rfl⟩
      obtain ⟨w5, hw5⟩ : ∃ x, wr.alloc (.cells #[.string t.1, .int .i64 t.2] 25) = x := ⟨_, rfl⟩
      have hb5 : Below wr.heap.size wr w5 := by rw [← hw5]; exact below_alloc _
      have HB5 : Hid (Below g w w5) := hbr.trans (hb5.mono (Nat.le_of_lt hmr.lt))
      have HRT : Hid (RowAt w5 bt 25 #[.string t.1, .int .i64 t.2]) := by rw [← hw5, ← hbt]; exact RowAt.new _ _ _
      have HM : Hid (MapR w5.drew g rfV (seenF l k)) := hmr.same (hb5.block g hmr.lt)
      have hrb : g < bt := by rw [← hbt]; exact hmr.lt
      have hbs5 : bt < w5.heap.size := HRT.out.lt
      have HGT := Lib.hid hgt
      have HBT : Hid (CellsAt w5.drew rfC bt 0 t) := RowAt.rf (w := w5.drew) HRT.out
      obtain ⟨c, hc⟩ : ∃ c : Int, (open Classical in if t ∈ l.take k then (1 : Int) else 0) = c := ⟨_, rfl⟩
      have hc0 : 0 ≤ c := by rw [← hc]; split <;> omega
      have hc1 : c ≤ 1 := by rw [← hc]; split <;> omega
      have HC := Lib.hid hc
      have HCC : Hid ((seenF l k t).getD (.int .i64 0) = .int .i64 c) := Lib.hid (by rw [seenF_get, hc])
      have hbr' : ¬ bt = g := by omega
      have hwr : IntKind.i64.wrap (c + 1) = c + 1 := by
        rcases (by omega : c = 0 ∨ c = 1) with rfl | rfl <;> rfl
      have hbs : bt < w5.drew.heap.size := hbs5
      clear hbr hmr hcell ht hb5 hgt HR hc
      go_upto_region 5 with (refine step_loadRf rfl (.tmp 11) rfl HCELL.out rfl ?_)
      go_cut [] (fun wx => MapR wx g rfV (fun j => if j = t then some (.int .i64 (c + 1)) else seenF l k j) ∧ KeepA (fun x => x = g) w5.drew wx)
      case first =>
        as_aux_lemma =>
        refine wp_region_held_drew (S := fun w' => w'.cell? ⟨bt, 0, none⟩ = some (.string t.1) ∧ w'.cell? ⟨bt, 1, none⟩ = some (.int .i64 t.2)) (by kernel_rfl) (rf_cells HBT.out) (fun hHeld => ?_)
        refine wpAnyH_take (i := 0) (v := ?_) rfl (by kernel_rfl) (by kernel_rfl) (by kernel_rfl) (fun _ _ _ h => h) (Or.inl ⟨by rfl, ?_⟩) hHeld ?_
        rotate_left
        · intro w' hS'
          (try dsimp only at hS')
          go_simp
          try with_reducible rfl
        try simp only [List.getElem_toArray, List.getElem_cons_zero, Act.put, List.setIfInBounds_toArray, List.set_cons_zero, List.set_cons_succ]
        refine wpAnyH_take (i := 1) (v := ?_) rfl (by kernel_rfl) (by kernel_rfl) (by kernel_rfl) (fun _ _ _ h => h) (Or.inl ⟨by rfl, ?_⟩) hHeld ?_
        rotate_left
        · intro w' hS'
          (try dsimp only at hS')
          go_simp
          try with_reducible rfl
        try simp only [List.getElem_toArray, List.getElem_cons_succ, List.getElem_cons_zero, Act.put, List.setIfInBounds_toArray, List.set_cons_zero, List.set_cons_succ]
        refine wpAnyH_ready (rs := [2, 4]) (by kernel_rfl) (by simp) (AllReadyH.cons rfl (fun K hK => ?_) (AllReadyH.cons rfl (fun K hK => ?_) AllReadyH.nil))
        · rw [if_pos (by rfl)]
          refine wp_lookup1 keyRf Try.underlying53 (.tmp 13) (.tmp 14) rfl HM.out t (.int .i64 0) (zint _) rfl rfl (.int .i64 c) HCC.out ?_
          refine hK.out _ _ hHeld (fun hHeld => ?_)
          clear hK K
          try simp only [List.getElem_toArray, List.getElem_cons_succ, List.getElem_cons_zero, Act.put, List.setIfInBounds_toArray, List.set_cons_zero, List.set_cons_succ]
          refine wpAnyH_take (i := 3) (v := ?_) rfl (by kernel_rfl) (by kernel_rfl) (by kernel_rfl) (fun _ _ _ h => h) (Or.inl ⟨by rfl, ?_⟩) hHeld ?_
          rotate_left
          · intro w' hS'
            (try dsimp only at hS')
            go_simp
            try with_reducible rfl
          try simp only [List.getElem_toArray, List.getElem_cons_succ, List.getElem_cons_zero, Act.put, List.setIfInBounds_toArray, List.set_cons_zero, List.set_cons_succ]
          refine wpAnyH_ready (rs := [4]) (by kernel_rfl) (by simp) (AllReadyH.cons rfl (fun K hK => ?_) AllReadyH.nil)
          rw [if_pos (by rfl)]
          refine wp_entryM keyRf Try.underlying53 (.tmp 13) (.tmp 14) rfl HM.out t (.int .i64 0) (zint _) rfl rfl ?_
          intro w2 st g2 me2
          refine hK.out _ _ (cells_grown hbr' hbs g2 hHeld) (fun hHeld => ?_)
          clear hK K
          try simp only [List.getElem_toArray, List.getElem_cons_succ, List.getElem_cons_zero, Act.put, List.setIfInBounds_toArray, List.set_cons_zero, List.set_cons_succ]
          refine wpAnyH_take (i := 5) (v := ?_) rfl (by kernel_rfl) (by kernel_rfl) (by kernel_rfl) (fun _ _ _ h => h) (Or.inl ⟨by rfl, ?_⟩) hHeld ?_
          rotate_left
          · intro w' hS'
            (try dsimp only at hS')
            go_simp
            try with_reducible rfl
          try simp only [List.getElem_toArray, List.getElem_cons_succ, List.getElem_cons_zero, Act.put, List.setIfInBounds_toArray, List.set_cons_zero, List.set_cons_succ]
          refine wpAnyH_ready (rs := [6]) (by kernel_rfl) (by simp) (AllReadyH.cons rfl (fun K hK => ?_) AllReadyH.nil)
          rw [if_pos (by rfl)]
          refine wp_estoreM (.tmp 13) (.tmp 18) (.tmp 16) rfl rfl me2 (.int .i64 (c + 1)) rfl rfl rfl ?_
          intro w3 g3 mr3
          refine hK.out _ _ (cells_grown hbr' (Nat.lt_of_lt_of_le hbs g2.size) g3 hHeld) (fun _ => ?_)
          clear hK K
          try simp only [List.getElem_toArray, List.getElem_cons_succ, List.getElem_cons_zero, Act.put, List.setIfInBounds_toArray, List.set_cons_zero, List.set_cons_succ]
          refine wpAnyH_done (by kernel_rfl) ?_ _
          have HMR := Lib.hid (bump_eqf mr3)
          have HKP := Lib.hid (bump_keep g2 g3)
          clear mr3 g2 g3 me2
          go_wp2
          go_meet
          exact ⟨HMR.out, HKP.out⟩
        · rw [if_pos (by rfl)]
          refine wp_entryM keyRf Try.underlying53 (.tmp 13) (.tmp 14) rfl HM.out t (.int .i64 0) (zint _) rfl rfl ?_
          intro w2 st g2 me2
          refine hK.out _ _ (cells_grown hbr' hbs g2 hHeld) (fun hHeld => ?_)
          clear hK K
          try simp only [List.getElem_toArray, List.getElem_cons_succ, List.getElem_cons_zero, Act.put, List.setIfInBounds_toArray, List.set_cons_zero, List.set_cons_succ]
          refine wpAnyH_take (i := 5) (v := ?_) rfl (by kernel_rfl) (by kernel_rfl) (by kernel_rfl) (fun _ _ _ h => h) (Or.inl ⟨by rfl, ?_⟩) hHeld ?_
          rotate_left
          · intro w' hS'
            (try dsimp only at hS')
            go_simp
            try with_reducible rfl
          try simp only [List.getElem_toArray, List.getElem_cons_succ, List.getElem_cons_zero, Act.put, List.setIfInBounds_toArray, List.set_cons_zero, List.set_cons_succ]
          refine wpAnyH_ready (rs := [2]) (by kernel_rfl) (by simp) (AllReadyH.cons rfl (fun K hK => ?_) AllReadyH.nil)
          rw [if_pos (by rfl)]
          refine wp_lookup1 keyRf Try.underlying53 (.tmp 13) (.tmp 14) rfl me2.map t (.int .i64 0) (zint _) rfl rfl (.int .i64 c) (by rw [if_pos rfl]; exact HCC.out) ?_
          refine hK.out _ _ hHeld (fun hHeld => ?_)
          clear hK K
          try simp only [List.getElem_toArray, List.getElem_cons_succ, List.getElem_cons_zero, Act.put, List.setIfInBounds_toArray, List.set_cons_zero, List.set_cons_succ]
          refine wpAnyH_take (i := 3) (v := ?_) rfl (by kernel_rfl) (by kernel_rfl) (by kernel_rfl) (fun _ _ _ h => h) (Or.inl ⟨by rfl, ?_⟩) hHeld ?_
          rotate_left
          · intro w' hS'
            (try dsimp only at hS')
            go_simp
            try with_reducible rfl
          try simp only [List.getElem_toArray, List.getElem_cons_succ, List.getElem_cons_zero, Act.put, List.setIfInBounds_toArray, List.set_cons_zero, List.set_cons_succ]
          refine wpAnyH_ready (rs := [6]) (by kernel_rfl) (by simp) (AllReadyH.cons rfl (fun K hK => ?_) AllReadyH.nil)
          rw [if_pos (by rfl)]
          refine wp_estoreM (.tmp 13) (.tmp 18) (.tmp 16) rfl rfl me2 (.int .i64 (c + 1)) rfl rfl rfl ?_
          intro w3 g3 mr3
          refine hK.out _ _ (cells_grown hbr' (Nat.lt_of_lt_of_le hbs g2.size) g3 hHeld) (fun _ => ?_)
          clear hK K
          try simp only [List.getElem_toArray, List.getElem_cons_succ, List.getElem_cons_zero, Act.put, List.setIfInBounds_toArray, List.set_cons_zero, List.set_cons_succ]
          refine wpAnyH_done (by kernel_rfl) ?_ _
          have HMR := Lib.hid (bump_eqf mr3)
          have HKP := Lib.hid (bump_keep g2 g3)
          clear mr3 g2 g3 me2
          go_wp2
          go_meet
          exact ⟨HMR.out, HKP.out⟩
      case rest =>
        obtain ⟨hm9, hk9⟩ := hcut
        have HM9 := Lib.hid hm9
        have hr9 : RowAt wc bt 25 #[.string t.1, .int .i64 t.2] := row_keep (w := w5.drew) hk9 HRT.out (by show ¬ bt = g; omega)
        have k1 := hr9.cell 0
        have k2 := hr9.cell 1
        have HB9 : Hid (Below g w wc) := (drewN_below HB5.out 1).trans (hk9.below (by show g ≤ w5.heap.size; omega) (by rintro x rfl; exact Nat.le_refl _))
        have HM9L : Hid (∀ W, Below wc.heap.size wc W → MapR W g rfV (fun j => if j = t then some (.int .i64 (c + 1)) else seenF l k j)) := fun W hW => hm9.same (hW.block g hm9.lt)
        have HRG : Hid (Calls Try.prog 26 #[.agg #[.string t.1, .int .i64 t.2]] wc fun e w' => e = .returned (.bool (rightR t)) ∧ Below wc.heap.size wc w') := right_any t wc
        have HBL : Hid (∀ W, Below wc.heap.size wc W → Below g w W ∧ W.cell? ⟨bt, 0, none⟩ = some (.string t.1) ∧ W.cell? ⟨bt, 1, none⟩ = some (.int .i64 t.2)) := fun W hW => ⟨HB9.out.trans (hW.mono (Nat.le_of_lt hm9.lt)), (RowAt.below hr9 hW).cell 0, (RowAt.below hr9 hW).cell 1⟩
        clear hm9 hk9 hr9 HM HBT HCC HM9
        obtain ⟨rr, hrr⟩ : ∃ b, rightR t = b := ⟨_, rfl⟩
        have HRR := Lib.hid hrr
        rw [hrr] at HRG
        clear hrr
        cases rr with
        | false =>
          have HE : Hid (tgt l = 2) := by
            obtain ⟨h, e⟩ := HT.out
            exact tgt_bad h (.inl (by rw [e]; exact HRR.out))
          go_wp2_with (go_at_call 26; refine HRG.out.mono ?_; rintro e w10 ⟨rfl, hb10⟩; obtain ⟨x1, x2, x3⟩ := HBL.out w10 hb10)
          go_ret
          exact ⟨by rw [HE.out]; rfl, x1⟩
        | true =>
          by_cases hc1 : c = 1
          · have HE : Hid (tgt l = 2) := by
              obtain ⟨h, e⟩ := HT.out
              refine tgt_bad h (.inr ?_)
              rw [e]
              by_cases hin : t ∈ l.take k
              · exact hin
              · have := HC.out
                rw [if_neg hin] at this
                omega
            subst hc1
            go_wp2_with (first
              | (go_at_call 26; refine HRG.out.mono ?_; rintro e w10 ⟨rfl, hb10⟩; obtain ⟨x1, x2, x3⟩ := HBL.out w10 hb10)
              | (refine step_lookup1 keyRf Try.underlying53 (by rfl) (.tmp 23) (.tmp 24) rfl (HM9L.out _ hb10) t (.int .i64 0) (zint _) rfl rfl (.int .i64 2) (by rw [if_pos rfl]; rfl) ?_))
            go_ret
            exact ⟨by rw [HE.out]; rfl, x1⟩
          · have hc00 : c = 0 := by omega
            subst hc00
            have HNI : Hid (¬ t ∈ l.take k) := fun hin => by
              have := HC.out
              rw [if_pos hin] at this
              omega
            go_wp2_with (first
              | (go_at_call 26; refine HRG.out.mono ?_; rintro e w10 ⟨rfl, hb10⟩; obtain ⟨x1, x2, x3⟩ := HBL.out w10 hb10)
              | (refine step_lookup1 keyRf Try.underlying53 (by rfl) (.tmp 23) (.tmp 24) rfl (HM9L.out _ hb10) t (.int .i64 0) (zint _) rfl rfl (.int .i64 1) (by rw [if_pos rfl]; rfl) ?_))
            refine ⟨⟨k + 1, by go_num, hkn, ?_, x1, ?_⟩, ?_⟩
            · obtain ⟨h, e⟩ := HT.out
              exact goodT_succ h HGT.out (by rw [e]; exact HRR.out) (by rw [e]; exact HNI.out)
            · obtain ⟨h, e⟩ := HT.out
              refine (HM9L.out _ hb10).eqf fun j => ?_
              rw [← seenF_succ h j, e]
              rfl
            · show n - ((k : Int) + 1).toNat < n - (k : Int).toNat
              omega
    · have hkn' : k = n := by omega
      subst hkn'
      have HE : Hid (tgt l = if 64 < l.length then 3 else 0) := tgt_good (by rw [HL.out]; exact hgt)
      have HB := Lib.hid hbr
      clear hbr hgt hmr HR
      by_cases h64 : 64 < k
      · have e : tgt l = 3 := by rw [HE.out, HL.out, if_pos h64]
        have HE2 := Lib.hid e
        clear e
        go_wp2
        go_ret
        exact ⟨by rw [HE2.out]; rfl, HB.out⟩
      · have e : tgt l = 0 := by rw [HE.out, HL.out, if_neg h64]
        have HE2 := Lib.hid e
        clear e
        go_wp2
        go_ret
        exact ⟨by rw [HE2.out]; rfl, HB.out⟩
end Go.Proofs.Ytcakdjnnfonijaa
namespace Go.Proofs.Ytcakdjnnfonijaa
open Go.RowKit

end Go.Proofs.Ytcakdjnnfonijaa
namespace Go.Proofs.Ytcakdjnnfonijaa
open Go.RowKit

theorem run_entry_b {P : Program} {w : World} {r m since clock b : Nat} {seen : Array Nat} {es : Array MapEntry} (hr : w.heap[r]? = some (.mapIter (some m) since (seen.push b) clock)) (hb : w.heap[m]? = some (.map es clock)) (he : ∃ e ∈ es.toList, e.born = b) :
    ∃ e ∈ es.toList, e.born = b ∧ (Instr.entry (.pointer (some ⟨r, 0, none⟩))).run P w = .ok (.tuple #[e.key, e.val]) w := by
  obtain ⟨e0, he0, hb0⟩ := he
  have hs : (es.find? (·.born == b)).isSome = true := by
    rw [← Array.find?_toList, List.find?_isSome]
    exact ⟨e0, he0, by simp [hb0]⟩
  cases hf : es.find? (·.born == b) with
  | none => rw [hf] at hs; cases hs
  | some e =>
    refine ⟨e, by simpa using Array.mem_of_find?_eq_some hf, by simpa using Array.find?_some hf, ?_⟩
    simp only [Instr.entry, getObj, Sem.run_bind, Sem.run, hr, hb, Result.andThen, Array.back?_push, bne_self_eq_false, Bool.false_eq_true, if_false, hf]
    rfl
section
variable {κ : Type} [DecidableEq κ] {kv : κ → Value} {clock : Nat} {es : List MapEntry} {f : κ → Option Value}
theorem MapF.born_inj (h : MapF kv clock es f) {a b : MapEntry} (ha : a ∈ es) (hb : b ∈ es) (e : a.born = b.born) : a = b := by
  obtain ⟨i, hi⟩ := List.mem_iff_getElem?.1 ha
  obtain ⟨j, hj⟩ := List.mem_iff_getElem?.1 hb
  have := h.born i j a b hi hj e
  subst this
  rw [hi] at hj
  exact Option.some.inj hj
theorem MapF.key_inj (h : MapF kv clock es f) {a b : MapEntry} (ha : a ∈ es) (hb : b ∈ es) (e : a.key = b.key) : a = b := by
  obtain ⟨i, hi⟩ := List.mem_iff_getElem?.1 ha
  obtain ⟨j, hj⟩ := List.mem_iff_getElem?.1 hb
  have := h.dis i j a b hi hj e
  subst this
  rw [hi] at hj
  exact Option.some.inj hj
end
end Go.Proofs.Ytcakdjnnfonijaa
