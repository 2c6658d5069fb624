/- Plain facts on memory: what a slice of bytes reads as, and that it reads so later, where old blocks are as they were. Nothing of the program is used here. -/
import Derived.Test.YtagipfkgnobjlaaPlain
import Derived.Lib.Hide
import Derived.WalkLawsBesides
import Derived.WalkSpells
import Derived.BigQuiet
import Derived.Deep.DeepCutAuto
import Derived.Deep.CutBlock
namespace Go.Proofs.Ytagipfkgnobjlaa
open Go.RowKit

/-- The cells from an address on hold these values. -/
def Rd (w : World) (a : Option Addr) (l : List Value) : Prop :=
  l = [] ∨ ∃ b off, a = some ⟨b, off, none⟩ ∧ b < w.heap.size ∧ ∀ k (h : k < l.length), w.cell? ⟨b, off + k, none⟩ = some l[k]
/-- A byte as a value. -/
def bv (x : UInt8) : Value := .int .u8 (x.toNat : Int)
def RdB (w : World) (a : Option Addr) (l : List UInt8) : Prop := Rd w a (l.map bv)
theorem Rd.mono {w w' : World} {a : Option Addr} {l : List Value} (h : Rd w a l) (hb : Below w.heap.size w w') : Rd w' a l := by
  rcases h with h | ⟨b, off, ha, hlt, hc⟩
  · exact .inl h
  · exact .inr ⟨b, off, ha, Nat.lt_of_lt_of_le hlt hb.size, fun k hk => (hb.cell (p := ⟨b, off + k, none⟩) hlt).trans (hc k hk)⟩
theorem RdB.mono {w w' : World} {a : Option Addr} {l : List UInt8} (h : RdB w a l) (hb : Below w.heap.size w w') : RdB w' a l := Rd.mono h hb
theorem RdB.at {w : World} {a : Option Addr} {l : List UInt8} (h : RdB w a l) (hl : 0 < l.length) :
    ∃ b off, a = some ⟨b, off, none⟩ ∧ b < w.heap.size ∧ ∀ k (h : k < l.length), w.cell? ⟨b, off + k, none⟩ = some (.int .u8 (l[k].toNat : Int)) := by
  rcases h with h | ⟨b, off, ha, hlt, hc⟩
  · exact absurd (List.map_eq_nil_iff.1 h) (by intro e; simp [e] at hl)
  · exact ⟨b, off, ha, hlt, fun k hk => by have := hc k (by simpa using hk); simpa [bv] using this⟩
theorem below_trans {w w1 w2 : World} (h : Below w.heap.size w w1) (k : Below w1.heap.size w1 w2) : Below w.heap.size w w2 := h.trans (k.mono h.size)
theorem below_alloc {w : World} (o : Obj) : Below w.heap.size w (w.alloc o) := (Below.refl _ _).alloc (Nat.le_refl _) o
/-- What the program's tables say of a slice's type: its element's type, how many cells and bytes an element has, its zero. -/
structure Elt (P : Program) (t e : TypeId) (size bytes : Nat) (z : Value) : Prop where
  und : P.underlying t = some (.slice e)
  info : (P.info? e).map (fun i => (i.zero, i.size, i.bytes)) = some (some z, size, bytes)
  cells : z.cells.size = size
  pos : 0 < size
/-- Where an appended row comes to lie: where it lay, or in a new block. -/
def NewRow (w : World) (v v' : Value) : Prop := ∀ g, v'.ownBlock = some g → v.ownBlock = some g ∨ w.heap.size ≤ g
theorem rd_add {w : World} {a : Addr} {l : List Value} (h : Rd w (some a) l) : ∀ j u, l[j]? = some u → w.cell? (a.add j) = some u := by
  intro j u hu
  rcases h with rfl | ⟨b, off, ha, _, hc⟩
  · simp at hu
  · obtain rfl := Option.some.inj ha
    obtain ⟨hj, rfl⟩ := List.getElem?_eq_some_iff.1 hu
    have hadd : (⟨b, off, none⟩ : Addr).add j = ⟨b, off + j, none⟩ := by unfold Addr.add; split <;> simp_all
    rw [hadd]; exact hc j hj
theorem run_append_any {P : Program} {t e : TypeId} {size bytes : Nat} {z : Value} (E : Elt P t e size bytes z) (w : World) (base : Nat) (ty : TypeId)
    (v : Value) (n : Nat) (xs : List Value) (hown : w.ownsRow base e size v n xs)
    (a : Option Addr) (m c : Nat) (news : List Value) (hl : news.length = m * size) (hnews : Rd w a news) (h1 : ∀ u ∈ news, u.oneCell' = true)
    (hbytes : (n + m) * bytes ≤ 140737488355328) (h63 : n + m ≤ 140737488355328) (hbase : base ≤ w.heap.size) :
    ∃ v' w', (Builtin.append_ #[t, t] ty #[v, .slice a m c]).run P w = .ok v' w' ∧ w'.ownsRow base e size v' (n + m) (xs ++ news) ∧ w.grownBy w' v.ownBlock ∧ NewRow w v v' := by
  obtain ⟨i, hi, hz, hs, hb⟩ := info_parts E.info
  have ht := E.und
  have hpos := E.pos
  have hlen : (xs ++ news).length = (n + m) * size := by rw [List.length_append, hown.1, hl, Nat.add_mul]
  cases a with
  | none =>
    have hm : news = [] := by
      rcases hnews with h | ⟨b, off, ha, _⟩
      · exact h
      · cases ha
    subst hm
    have hm0 : m = 0 := by
      rcases Nat.eq_zero_or_pos m with h | h
      · exact h
      · have := Nat.mul_pos h hpos; simp at hl; omega
    subst hm0
    refine ⟨v, w, ?_, by simpa using hown, World.grownBy.refl _ _, fun g hg => .inl hg⟩
    rcases hown.2 with ⟨rfl, rfl⟩ | ⟨g, cap, cur, rfl, _, _, hnc, _⟩
    · simp [Builtin.append_, run_underlying ht, sizeOf, typeInfo, hi, Builtin.lenOf, Builtin.firstCells]
    · simp [Builtin.append_, run_underlying ht, sizeOf, typeInfo, hi, Builtin.lenOf, Builtin.firstCells, hnc, storeCells]
  | some ad =>
    have hadd := rd_add hnews
    subst hs
    subst hb
    have made : ∀ (old : Nat), (w.drew.alloc (.cells (xs.toArray ++ news.toArray ++ Builtin.zeroCells z.cells (grownCap w (n + m) old e - (n + m))) e)).ownsRow base e i.size
        (.slice (some ⟨w.heap.size, 0, none⟩) (n + m) (grownCap w (n + m) old e)) (n + m) (xs ++ news) := by
      intro old
      have hge := grownCap_ge w (n + m) old e
      have hcm := grownCap_le_maxLen w (n + m) old e (by unfold maxLen; omega)
      refine ⟨hlen, .inr ⟨w.heap.size, _, _, rfl, hbase, heap_alloc_new w.drew _, hge, hcm, ?_, ?_⟩⟩
      · simp only [Array.size_append, List.size_toArray, size_zeroCells, E.cells, hown.1, hl, ← Nat.add_mul]
        congr 1
        omega
      · simp only [Array.toList_append, List.append_assoc]
        rw [← List.append_assoc, ← hlen]
        exact List.take_left
    have grew : ∀ (o : Obj) (row : Option Nat), w.grownBy (w.drew.alloc o) row := fun o row => ⟨rfl, rfl, rfl, by simp, fun k hk _ => Below.heap_alloc w.drew o k hk⟩
    rcases hown.2 with ⟨rfl, rfl⟩ | ⟨g, cap, cur, rfl, hbg, hg, hnc, hcm, hcs, htake⟩
    · have hx : xs = [] := List.eq_nil_of_length_eq_zero (by simpa using hown.1)
      subst hx
      rcases Nat.eq_zero_or_pos m with hm | hm
      · subst hm
        have hn : news = [] := List.eq_nil_of_length_eq_zero (by simpa using hl)
        subst hn
        refine ⟨.slice none 0 0, w, ?_, World.ownsRow_nil w base e i.size, World.grownBy.refl _ _, fun g hg => .inl hg⟩
        simp [Builtin.append_, run_underlying ht, sizeOf, typeInfo, hi, Builtin.lenOf, Builtin.firstCells, loadCells, loadCellsFrom]
      · have hr := run_append_nil (P := P) w t ty e i z ht hi hz ad m c news hl hadd hm (by omega) (by have hbb := hbytes; simp only [Nat.zero_add] at hbb; omega)
        have hM := made 0
        simp only [Nat.zero_add, List.nil_append, Array.empty_append] at hM ⊢
        exact ⟨_, _, hr, hM, grew _ _, fun g hg => .inr (by simp [Value.ownBlock] at hg; omega)⟩
    · by_cases hroom : n + m ≤ cap
      · have hfit : n * i.size + news.length ≤ cur.size := by rw [hl, hcs, ← Nat.add_mul]; exact Nat.mul_le_mul_right _ hroom
        have hr := run_append_room (P := P) w t ty e i ht hi g n cap cur hg ad m c news hl hadd h1 hroom hfit
        refine ⟨_, _, hr, ⟨hlen, .inr ⟨g, cap, _, rfl, hbg, setRow_heap w g cur _ e _ hg, hroom, hcm, ?_, ?_⟩⟩, ⟨rfl, rfl, rfl, by simp, fun k hk hne => setRow_other w g k _ (fun e => hne (by simp [Value.ownBlock, e]))⟩, fun g' hg' => .inl hg'⟩
        · simp only [List.size_toArray, List.length_append, List.length_take, List.length_drop, Array.length_toList]
          omega
        · rw [htake, ← hlen]
          exact List.take_left
      · have holds : ∀ j u, xs[j]? = some u → w.cell? ((⟨g, 0, none⟩ : Addr).add j) = some u := hown.cells (g := g) rfl
        have hr := run_append_grow (P := P) w t ty e i z ht hi hz ⟨g, 0, none⟩ n cap xs hown.1 holds ad m c news hl hadd (by omega) (by omega) (growslice_fits (by omega) (by omega))
        exact ⟨_, _, hr, made cap, grew _ _, fun g' hg' => .inr (by simp [Value.ownBlock] at hg'; omega)⟩
theorem step_append {P : Program} {ops : Array Oper} {rest : List Oper} {o : Oper} {act : Act} {Q : Exit → Act → World → Prop} {w : World} (hgd : o.guard = none) (s x : Operand) {t : TypeId}
    (ho : o.op = .call { callee := .builtin .append, args := #[s, x], argTypes := #[t, t] }) {e : TypeId} {size bytes : Nat} {z : Value} (E : Elt P t e size bytes z) (base : Nat)
    (v : Value) (n : Nat) (xs : List Value) (hv : act.eval s = v) (a : Option Addr) (m c : Nat) (news : List Value) (hx : act.eval x = .slice a m c)
    (hown : w.ownsRow base e size v n xs) (hl : news.length = m * size) (hnews : Rd w a news) (h1 : ∀ u ∈ news, u.oneCell' = true)
    (hbytes : (n + m) * bytes ≤ 140737488355328) (h63 : n + m ≤ 140737488355328) (hbase : base ≤ w.heap.size)
    (h : ∀ v' w', w'.ownsRow base e size v' (n + m) (xs ++ news) → w.grownBy w' v.ownBlock → NewRow w v v' → wpList P ops Q rest (act.put o.dst v') w') : wpList P ops Q (o :: rest) act w := by
  refine wpList_plain hgd fun K hK => ?_
  obtain ⟨v', w', hr, h2, h3, h4⟩ := run_append_any E w base o.type v n xs hown a m c news hl hnews h1 hbytes h63 hbase
  unfold Oper.wp execOp
  simp only [ho, resolve, invoke, builtin, Sem.run_bind, Sem.run_pure, Result.andThen_ok, List.map_toArray, List.map_cons, List.map_nil, hv, hx, hr]
  exact hK _ _ (h v' w' h2 h3 h4)

theorem Rd.of_own {w : World} {base : Nat} {e : TypeId} {size : Nat} {v : Value} {n : Nat} {xs : List Value} (h : w.ownsRow base e size v n xs) :
    ∃ a cap, v = .slice a n cap ∧ n ≤ cap ∧ Rd w a xs := by
  rcases h.2 with ⟨rfl, rfl⟩ | ⟨g, cap, cur, rfl, hb, hg, hnc, hcm, hcs, htake⟩
  · exact ⟨none, 0, rfl, Nat.le_refl _, .inl (List.eq_nil_of_length_eq_zero (by simpa using h.1))⟩
  · refine ⟨_, cap, rfl, hnc, .inr ⟨g, 0, rfl, (Array.getElem?_eq_some_iff.1 hg).1, fun k hk => ?_⟩⟩
    rw [Nat.zero_add, cell_of_row w g k cur e (0, 0) hg]
    have : (cur.toList.take (n * size))[k]? = some xs[k] := by rw [htake]; exact List.getElem?_eq_getElem hk
    rw [List.getElem?_take] at this
    split at this
    · simpa using this
    · cases this
theorem below_grown {B : Nat} {a w w' : World} {row : Option Nat} (h : Below B a w) (hg : w.grownBy w' row) (hB : B ≤ w.heap.size) (hr : ∀ k, row = some k → B ≤ k) : Below B a w' := h.grown hg hB hr
/-- A row of bytes of the call's own. -/
def OwnB (w : World) (base : Nat) (e : TypeId) (v : Value) (l : List UInt8) : Prop := w.ownsRow base e 1 v l.length (l.map bv)
theorem OwnB.rd {w : World} {base : Nat} {e : TypeId} {v : Value} {l : List UInt8} (h : OwnB w base e v l) : ∃ a cap, v = .slice a l.length cap ∧ l.length ≤ cap ∧ RdB w a l := Rd.of_own h
theorem OwnB.mono {w : World} {base base' : Nat} {e : TypeId} {v : Value} {l : List UInt8} (h : OwnB w base e v l) (hb : base' ≤ base) : OwnB w base' e v l := by
  refine ⟨h.1, ?_⟩
  rcases h.2 with h | ⟨g, cap, cur, hv, hg, r⟩
  · exact .inl h
  · exact .inr ⟨g, cap, cur, hv, Nat.le_trans hb hg, r⟩
theorem OwnB.kept {w w' : World} {B base : Nat} {e : TypeId} {v : Value} {l : List UInt8} (h : OwnB w base e v l) (hb : Below B w w') (hB : w.heap.size ≤ B) : OwnB w' base e v l := by
  refine ⟨h.1, ?_⟩
  rcases h.2 with h | ⟨g, cap, cur, hv, hg, hh, r⟩
  · exact .inl h
  · exact .inr ⟨g, cap, cur, hv, hg, by rw [hb.block g (Nat.lt_of_lt_of_le (Array.getElem?_eq_some_iff.1 hh).1 hB)]; exact hh, r⟩
theorem OwnB.nil (w : World) (base : Nat) (e : TypeId) : OwnB w base e (.slice none 0 0) [] := World.ownsRow_nil w base e 1
theorem bv_one (l : List UInt8) : ∀ u ∈ l.map bv, u.oneCell' = true := by
  intro u hu
  obtain ⟨x, _, rfl⟩ := List.mem_map.1 hu
  rfl
/-- 'append(s, bytes..)' onto a row of bytes of the call's own. -/
theorem step_appendB {P : Program} {ops : Array Oper} {rest : List Oper} {o : Oper} {act : Act} {Q : Exit → Act → World → Prop} {w : World} (hgd : o.guard = none) (s x : Operand) {t : TypeId}
    (ho : o.op = .call { callee := .builtin .append, args := #[s, x], argTypes := #[t, t] }) {e : TypeId} {z : Value} (E : Elt P t e 1 1 z) (base : Nat)
    (v : Value) (l : List UInt8) (hv : act.eval s = v) (a : Option Addr) (m c : Nat) (k : List UInt8) (hx : act.eval x = .slice a m c)
    (hown : OwnB w base e v l) (hm : m = k.length) (hk : RdB w a k) (hsz : l.length + k.length ≤ 140737488355328) (hbase : base ≤ w.heap.size)
    (h : ∀ v' w', OwnB w' base e v' (l ++ k) → Below base w w' → wpList P ops Q rest (act.put o.dst v') w') : wpList P ops Q (o :: rest) act w := by
  refine step_append hgd s x ho E base v l.length (l.map bv) hv a m c (k.map bv) hx hown (by simp [hm]) hk (bv_one k) (by omega) (by omega) hbase fun v' w' h1 h2 _ => ?_
  refine h v' w' ?_ ((Below.refl base w).grown h2 hbase fun g hg => (hown.lt g hg).1)
  unfold OwnB
  rw [List.map_append, List.length_append, ← hm]
  exact h1
/-- A call that hands back new bytes. -/
def RetB (e : TypeId) (w : World) (l : List UInt8) (end_ : Ending) (w' : World) : Prop := ∃ v, end_ = .returned v ∧ OwnB w' w.heap.size e v l ∧ Below w.heap.size w w'
theorem rd_cell {w : World} (g : Nat) (v : Value) (h : w.cell? ⟨g, 0, none⟩ = some v) : Rd w (some ⟨g, 0, none⟩) [v] := by
  refine .inr ⟨g, 0, rfl, World.block_lt_of_cell? w _ h, fun k hk => ?_⟩
  obtain rfl : k = 0 := by simpa using hk
  simpa using h
theorem bv_ofNat (n : Nat) (h : n < 256) : bv (UInt8.ofNat n) = .int .u8 (n : Int) := by
  unfold bv
  rw [UInt8.toNat_ofNat', Nat.mod_eq_of_lt h]
theorem bv_mod (n : Nat) : bv (UInt8.ofNat n) = .int .u8 ((n : Int) % 256) := by
  unfold bv
  rw [UInt8.toNat_ofNat']
  rfl
theorem rd_byte {w : World} (n : Nat) (o : Int) (t : TypeId) (hn : o = ((n % 256 : Nat) : Int)) : RdB (w.alloc (.cells #[.int .u8 o] t)) (some ⟨w.heap.size, 0, none⟩) [UInt8.ofNat n] := by
  refine rd_cell _ _ ?_
  rw [World.cell?_alloc_new]
  simp [bv_mod, hn]

theorem RdB.take {w : World} {a : Option Addr} {l : List UInt8} (h : RdB w a l) (k : Nat) : RdB w a (l.take k) := by
  rcases h with h | ⟨b, off, ha, hlt, hc⟩
  · exact .inl (by rw [List.map_eq_nil_iff.1 h, List.take_nil]; rfl)
  · exact .inr ⟨b, off, ha, hlt, fun j hj => by simp only [List.map_take, List.getElem_take]; exact hc j (by simp at hj ⊢; omega)⟩
theorem drewN_below {B : Nat} {w w1 : World} (h : Below B w w1) (n : Nat) : Below B w (w1.drewN n) := ⟨h.os, h.tape, h.output, h.size, h.block⟩
/-- 'string(b)'. -/
theorem run_str {P : Program} (w : World) (src dst e : TypeId) (a : Option Addr) (n c : Nat) (l : List UInt8)
    (hs : P.underlying src = some (.slice e)) (he : P.underlying e = some (.int .u8)) (hd : P.underlying dst = some .string) (hn : n = l.length) (h : RdB w a l) :
    (convert src dst (.slice a n c)).run P w = .ok (.string (str l)) w := by
  rw [run_convert_bytes_string w src dst e a n c hs he hd]
  cases a with
  | none =>
    obtain rfl : l = [] := by
      rcases h with h | ⟨b, off, ha, _⟩
      · exact List.map_eq_nil_iff.1 h
      · cases ha
    rfl
  | some ad =>
    have hl : (loadCells ad n).run P w = .ok ((l.map fun x => (x.toNat : Int)).map (Value.int .u8)).toArray w := by
      have h2 := run_loadCells_list (P := P) w ad (l.map bv) (rd_add h)
      rw [List.length_map, ← hn] at h2
      rw [h2, List.map_map]
      rfl
    rw [run_bytesToString w ad n c _ hl]
    have key : ∀ (k : List UInt8) (s : ByteArray), (k.map fun x => (x.toNat : Int)).foldl (fun r m => r.push (UInt8.ofNat m.toNat)) s = ⟨s.data ++ k.toArray⟩ := by
      intro k
      induction k with
      | nil => intro s; simp
      | cons x k ih =>
        intro s
        simp only [List.map_cons, List.foldl_cons, ih]
        congr 1
        simp [ByteArray.push]
    rw [key]
    simp [str]

/-- The worlds that are as W was below B. -/
def Bel (B : Nat) (W : World) : Type := { w : World // Below B W w }
theorem Bel.below {B : Nat} {W : World} (x : Bel B W) : Below B W x.1 := x.2
theorem Bel.here (B : Nat) (W : World) : Nonempty (Bel B W) := ⟨⟨W, Below.refl B W⟩⟩
theorem Calls.bel {P : Program} {f : FuncId} {args : Array Value} {B : Nat} {W : World} {x : Bel B W} {v : Value}
    (hB : W.heap.size = B) (h : Calls P f args x.1 fun e w' => e = .returned v ∧ Below x.1.heap.size x.1 w') : Calls P f args x.1 fun e w'' => e = .returned v ∧ ∃ y : Bel B W, w'' = y.1 :=
  h.mono fun _ w' ⟨he, hb⟩ => ⟨he, ⟨w', x.2.trans (hb.mono (hB ▸ x.2.size))⟩, rfl⟩
theorem RdB.drop {w : World} {a : Option Addr} {l : List UInt8} (h : RdB w a l) (k c : Nat) (hc : l.length ≤ c) : RdB w (if c = k then a else a.map (·.add (k * 1))) (l.drop k) := by
  by_cases hk : l.length ≤ k
  · rw [List.drop_eq_nil_of_le hk]; exact .inl rfl
  · rw [if_neg (by omega)]
    rcases h with h | ⟨b, off, ha, hlt, hcell⟩
    · exact absurd (List.map_eq_nil_iff.1 h) (by intro e; simp [e] at hk)
    · subst ha
      refine .inr ⟨b, off + k, ?_, hlt, fun j hj => ?_⟩
      · simp only [Option.map_some, Nat.mul_one, Option.some.injEq]
        unfold Addr.add; split <;> simp_all
      · rw [Nat.add_assoc]
        simp only [List.map_drop, List.getElem_drop]
        exact hcell (k + j) (by simp at hj ⊢; omega)
theorem RdB.skip {w : World} {b off : Nat} {l : List UInt8} (h : RdB w (some ⟨b, off, none⟩) l) (k : Nat) : RdB w (some ⟨b, off + k, none⟩) (l.drop k) := by
  rcases h with h | ⟨b', off', ha, hlt, hcell⟩
  · exact .inl (by rw [List.map_eq_nil_iff.1 h, List.drop_nil]; rfl)
  · simp only [Option.some.injEq, Addr.mk.injEq, and_true] at ha
    obtain ⟨rfl, rfl⟩ := ha
    refine .inr ⟨b, off + k, rfl, hlt, fun j hj => ?_⟩
    rw [Nat.add_assoc]
    simp only [List.map_drop, List.getElem_drop]
    exact hcell (k + j) (by simp at hj ⊢; omega)

theorem grown_trans {w w1 w2 : World} {row : Option Nat} (h : w.grownBy w1 row) (k : w1.grownBy w2 row) : w.grownBy w2 row :=
  ⟨k.os.trans h.os, k.tape.trans h.tape, k.output.trans h.output, Nat.le_trans h.size k.size, fun i hi hr => (k.block i (Nat.lt_of_lt_of_le hi h.size) hr).trans (h.block i hi hr)⟩
theorem grown_below {w w' : World} {B : Nat} (row : Option Nat) (h : Below B w w') (hB : w.heap.size ≤ B) : w.grownBy w' row := ⟨h.os, h.tape, h.output, h.size, fun k hk _ => h.block k (by omega)⟩
theorem Rd.grown {w0 w w' : World} {a : Option Addr} {l : List Value} {row : Option Nat} (h : Rd w0 a l) (hb : Below w0.heap.size w0 w) (hg : w.grownBy w' row) (hr : ∀ g, row = some g → w0.heap.size ≤ g) : Rd w' a l := by
  rcases h with h | ⟨b, off, ha, hlt, hc⟩
  · exact .inl h
  · have hne : some b ≠ row := fun e => by have := hr b e.symm; omega
    refine .inr ⟨b, off, ha, Nat.lt_of_lt_of_le hlt (Nat.le_trans hb.size hg.size), fun k hk => ?_⟩
    exact (World.cell?_of_block (a := ⟨b, off + k, none⟩) (hg.block b (Nat.lt_of_lt_of_le hlt hb.size) hne)).trans ((hb.cell (p := ⟨b, off + k, none⟩) hlt).trans (hc k hk))
/-- A variable of one cell in a block of its own. -/
def Box (w : World) (b : Nat) (t : TypeId) (v : Value) : Prop := w.heap[b]? = some (.cells #[v] t (0, 0))
theorem Box.cell {w : World} {b : Nat} {t : TypeId} {v : Value} (h : Box w b t v) : w.cell? ⟨b, 0, none⟩ = some v := by rw [cell_of_row w b 0 _ t (0, 0) h]; rfl
theorem Box.frozen {w : World} {b : Nat} {t : TypeId} {v : Value} (h : Box w b t v) : w.frozen? ⟨b, 0, none⟩ = false := frozen_of_row w b 0 _ t h
theorem Box.lt {w : World} {b : Nat} {t : TypeId} {v : Value} (h : Box w b t v) : b < w.heap.size := (Array.getElem?_eq_some_iff.1 h).1
theorem Box.new (w : World) (t : TypeId) (v : Value) : Box (w.alloc (.cells #[v] t)) w.heap.size t v := heap_alloc_new w _
theorem Box.mono {w w' : World} {b B : Nat} {t : TypeId} {v : Value} (h : Box w b t v) (hb : Below B w w') (hB : b < B) : Box w' b t v := (hb.block b hB).trans h
theorem Box.below {w w' : World} {b : Nat} {t : TypeId} {v : Value} (h : Box w b t v) (hb : Below w.heap.size w w') : Box w' b t v := h.mono hb h.lt
theorem Box.set {w : World} {b : Nat} {t : TypeId} {v : Value} (h : Box w b t v) (u : Value) : Box (w.setCell ⟨b, 0, none⟩ u) b t u := by
  unfold Box
  rw [heap_setCell_same w b 0 _ t u h]
  rfl
theorem Box.other {w : World} {b : Nat} {t : TypeId} {v : Value} (h : Box w b t v) {a : Addr} (u : Value) (hne : b ≠ a.block) : Box (w.setCell a u) b t v := (heap_setCell_other w a b u hne).trans h
/-- A slice of integers that came in, as the shell of a law's proof tells it, is a list of values that can be read. -/
theorem rows_ints {k : IntKind} {w : World} {a : Option Addr} {len cap : Nat} {zs : List Int}
    (h : (a = none ∧ len = 0 ∧ cap = 0 ∧ zs = []) ∨ ∃ x, a = some x ∧ len ≤ cap ∧ cap ≤ maxLen ∧ zs.length = cap ∧ (∀ i, i < zs.length → w.cell? (x.add i) = some (.int k (zs.getD i 0))) ∧ ∀ n ∈ zs, (Lit.int k n).wf = true) :
    len = (zs.take len).length ∧ len ≤ cap ∧ cap ≤ maxLen ∧ Rd w a ((zs.take len).map (Value.int k)) ∧ ∀ n ∈ zs.take len, (Lit.int k n).wf = true := by
  rcases h with ⟨rfl, rfl, rfl, rfl⟩ | ⟨x, rfl, hl, hm, hz, hc, hwf⟩
  · exact ⟨rfl, Nat.le_refl _, by decide, .inl rfl, by simp⟩
  · have hlen : (zs.take len).length = len := by rw [List.length_take]; omega
    refine ⟨hlen.symm, hl, hm, ?_, fun n hn => hwf n (List.mem_of_mem_take hn)⟩
    by_cases h0 : len = 0
    · exact .inl (by rw [h0]; rfl)
    · have c0 := hc 0 (by omega)
      obtain ⟨b, off, spot⟩ := x
      have hs : spot = none := by
        cases spot with
        | none => rfl
        | some s => simp only [Addr.add, World.cell?] at c0; split at c0 <;> simp at c0
      subst hs
      refine .inr ⟨b, off, rfl, World.block_lt_of_cell? w _ c0, fun j hj => ?_⟩
      have hj' : j < len := by rw [List.length_map, hlen] at hj; exact hj
      have := hc j (by omega)
      have hadd : (⟨b, off, none⟩ : Addr).add j = ⟨b, off + j, none⟩ := by unfold Addr.add; split <;> simp_all
      rw [hadd] at this
      rw [this, List.getD_eq_getElem?_getD, List.getElem?_eq_getElem (by omega), Option.getD_some]
      simp
theorem rows_bytes {w : World} {a : Option Addr} {len cap : Nat} {zs : List Int}
    (h : (a = none ∧ len = 0 ∧ cap = 0 ∧ zs = []) ∨ ∃ x, a = some x ∧ len ≤ cap ∧ cap ≤ maxLen ∧ zs.length = cap ∧ (∀ i, i < zs.length → w.cell? (x.add i) = some (.int .u8 (zs.getD i 0))) ∧ ∀ n ∈ zs, (Lit.int .u8 n).wf = true) :
    ∃ l : List UInt8, len = l.length ∧ len ≤ cap ∧ cap ≤ maxLen ∧ RdB w a l := by
  obtain ⟨h1, h2, h3, h4, h5⟩ := rows_ints h
  refine ⟨(zs.take len).map fun z => UInt8.ofNat z.toNat, by rw [List.length_map]; exact h1, h2, h3, ?_⟩
  unfold RdB
  rw [List.map_map]
  have e : (zs.take len).map (bv ∘ fun z => UInt8.ofNat z.toNat) = (zs.take len).map (Value.int .u8) := by
    apply List.map_congr_left
    intro z hz
    have hw := h5 z hz
    have hb : 0 ≤ z ∧ z ≤ 255 := by simpa [Lit.wf, IntKind.min, IntKind.max, IntKind.bits, IntKind.signed] using hw
    show bv (UInt8.ofNat z.toNat) = _
    rw [bv_ofNat _ (by omega), Int.toNat_of_nonneg hb.1]
  rw [e]
  exact h4
end Go.Proofs.Ytagipfkgnobjlaa
