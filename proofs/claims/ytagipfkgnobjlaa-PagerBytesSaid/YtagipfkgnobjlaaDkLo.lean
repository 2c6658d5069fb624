/- Rows of structs, and fates: how they lie. / A disk's small calls: none, asked, step. / Rows of structs as rows of cells; slices.Clone of fates. / Maps of sectors under numbers: what is looked up, what an entry's writing leaves. / disk.New. / Picks: is one below nought? The next one of a crash. / Long rows: a variable of many cells is made, its cells hidden; pieces are cloned. / A disk under a change of its own row; a step of any disk. -/
import Derived.Test.YtagipfkgnobjlaaHeap
import Derived.Test.YtagipfkgnobjlaaRow
import Derived.Test.YtagipfkgnobjlaaProg
import Derived.Test.YtagipfkgnobjlaaRange
import Derived.MapKept
namespace Go.Proofs.Ytagipfkgnobjlaa
open Go.RowKit

/-- Rows of so many cells each lie from an address on. -/
def RowsAt {α : Type} (w : World) (a : Option Addr) (k : Nat) (l : List α) (Q : Nat → Nat → α → Prop) : Prop :=
  l = [] ∨ ∃ b off, a = some ⟨b, off, none⟩ ∧ b < w.heap.size ∧ ∀ i (h : i < l.length), Q b (off + i * k) l[i]
theorem RowsAt.imp {α : Type} {w w' : World} {a : Option Addr} {k : Nat} {l : List α} {Q Q' : Nat → Nat → α → Prop} (h : RowsAt w a k l Q) (hs : w.heap.size ≤ w'.heap.size) (hq : ∀ b o x, b < w.heap.size → Q b o x → Q' b o x) : RowsAt w' a k l Q' := by
  rcases h with h | ⟨b, off, ha, hlt, hi⟩
  · exact .inl h
  · exact .inr ⟨b, off, ha, Nat.lt_of_lt_of_le hlt hs, fun i h => hq _ _ _ hlt (hi i h)⟩
theorem cell_later {w w' : World} {b o : Nat} {v : Value} (hb : Below w.heap.size w w') (hlt : b < w.heap.size) (h : w.cell? ⟨b, o, none⟩ = some v) : w'.cell? ⟨b, o, none⟩ = some v := (hb.cell (p := ⟨b, o, none⟩) hlt).trans h
/-- A step's fate. -/
structure Ft where
  kind : Int
  keep : Int
def FtAt (w : World) (b o : Nat) (f : Ft) : Prop := w.cell? ⟨b, o, none⟩ = some (.int .i64 f.kind) ∧ w.cell? ⟨b, o + 1, none⟩ = some (.int .i64 f.keep)
def RdFt (w : World) (a : Option Addr) (l : List Ft) : Prop := RowsAt w a 2 l (FtAt w)
theorem FtAt.later {w w' : World} (hb : Below w.heap.size w w') {b o : Nat} {f : Ft} (hlt : b < w.heap.size) (h : FtAt w b o f) : FtAt w' b o f := ⟨cell_later hb hlt h.1, cell_later hb hlt h.2⟩
theorem RdFt.later {w w' : World} (hb : Below w.heap.size w w') {a : Option Addr} {l : List Ft} (h : RdFt w a l) : RdFt w' a l := RowsAt.imp h hb.size fun _ _ _ hlt h => h.later hb hlt
/-- May it be? -/
def Ft.ok (f : Ft) : Bool := (f.kind == 0) || (f.kind == 1)
theorem all_take {α : Type} {p : α → Bool} {l : List α} {k : Nat} (h : k < l.length) : (l.take (k + 1)).all p = ((l.take k).all p && p l[k]) := by
  rw [List.take_succ_eq_append_getElem h, List.all_append]
  simp
theorem all_drop {α : Type} {p : α → Bool} {l : List α} {k : Nat} (h : k < l.length) (hp : p l[k] = false) : l.all p = false := by
  cases hh : l.all p with
  | false => rfl
  | true => rw [List.all_eq_true.1 hh _ (List.getElem_mem h)] at hp; cases hp
theorem notok_any (x y : Int) (w : World) : Calls Try.prog 52 #[.agg #[.int .i64 x, .int .i64 y]] w fun e w' => e = .returned (.bool (!(x == 0 || x == 1))) ∧ Below w.heap.size w w' := by
  by_cases h0 : x = 0
  · subst h0
    go_enter Try.func52, Try.ntmps52
    go_wp2
    go_ret
    exact ⟨rfl, below_alloc _⟩
  · by_cases h1 : x = 1
    · subst h1
      go_enter Try.func52, Try.ntmps52
      go_wp2
      go_ret
      exact ⟨rfl, below_alloc _⟩
    · have e0 : (x == 0) = false := by simpa using h0
      have e1 : (x == 1) = false := by simpa using h1
      rw [e0, e1]
      go_enter Try.func52, Try.ntmps52
      go_wp2
      all_goals go_ret
      all_goals (refine ⟨?_, below_alloc _⟩; first | rfl | simp [h0, h1])
set_option maxRecDepth 100000 in
theorem ftindex_any (a : Option Addr) (fs : List Ft) (n cap : Nat) (w : World) (hn : Hid (n = fs.length)) (hn2 : n ≤ 9223372036854775807) (hl : RdFt w a fs) :
    Calls Try.prog 71 #[.slice a n cap, .func (.func 52) #[] #[]] w fun e w' =>
      (∃ i : Int, e = .returned (.int .i64 i) ∧ ((0 ≤ i) ↔ fs.all Ft.ok = false)) ∧ Below w.heap.size w w' := by
  have HL := Lib.hid hl
  clear hl
  go_enter Try.func71, Try.ntmps71
  go_wp2
  go_loopw [8] (fun i wr => Below w.heap.size w wr ∧ ∃ k : Nat, k ≤ n ∧ i = .int .i64 k ∧ (fs.take k).all Ft.ok = true) (fun i _ => n - (intOf i).toNat)
  case atStart => exact ⟨Below.refl _ _, 0, Nat.zero_le _, rfl, rfl⟩
  case round =>
    obtain ⟨hb, k, hk, rfl, hall⟩ := hrel
    have HB := Lib.hid hb
    have HA := Lib.hid hall
    clear hb hall
    by_cases hkn : k < n
    · have hkl : k < fs.length := by rw [← hn.out]; omega
      obtain ⟨b2, off, rfl, hlt, hcell⟩ := HL.out.resolve_left (by intro e; rw [e] at hkl; simp at hkl)
      obtain ⟨c0, c1⟩ := (hcell k hkl).later HB.out hlt
      have hs1 : b2 < wr.heap.size := Nat.lt_of_lt_of_le hlt HB.out.size
      have HTK := Lib.hid (all_take (p := Ft.ok) hkl)
      have HDR := Lib.hid (all_drop (p := Ft.ok) hkl)
      obtain ⟨⟨x, y⟩, hf⟩ : ∃ f, fs[k] = f := ⟨_, rfl⟩
      have HTK : Hid ((fs.take (k + 1)).all Ft.ok = ((fs.take k).all Ft.ok && (x == 0 || x == 1))) := by
        have h := HTK.out
        rw [hf] at h
        exact h
      have HDR : Hid ((x == 0 || x == 1) = false → fs.all Ft.ok = false) := fun h => HDR.out (by rw [hf]; exact h)
      rw [hf] at c0 c1
      dsimp only at c0 c1
      clear hcell hf
      have hb1 : (k : Int) < (n : Int) := by omega
      obtain ⟨r, hr⟩ : ∃ r : Bool, (x == 0 || x == 1) = r := ⟨_, rfl⟩
      rw [hr] at HTK HDR
      have HNB := Lib.hid (notok_any x y)
      rw [hr] at HNB
      clear hr
      go_wp2_with fail
      refine (HNB.out _).mono ?_
      rintro _ w1 ⟨rfl, hbw⟩
      have HB1 := Lib.hid (below_trans HB.out hbw)
      clear hbw c0 c1
      cases r with
      | true =>
        have HK : Hid ((fs.take (k + 1)).all Ft.ok = true) := by
          have h := HTK.out
          rw [HA.out] at h
          exact h
        go_wp2
        exact ⟨⟨HB1.out, k + 1, by omega, by go_num, HK.out⟩, by simp [intOf]; omega⟩
      | false =>
        have HK : Hid (fs.all Ft.ok = false) := by first | exact HDR.out rfl | exact HDR.out trivial
        go_wp2
        go_ret
        exact ⟨⟨_, rfl, ⟨fun _ => HK.out, fun _ => by omega⟩⟩, HB1.out⟩
    · obtain rfl : k = n := by omega
      have HE : Hid (fs.all Ft.ok = true) := by
        have h := HA.out
        rw [hn.out, List.take_length] at h
        exact h
      go_wp2
      go_ret
      exact ⟨⟨-1, rfl, ⟨fun h => by omega, fun h => by rw [HE.out] at h; cases h⟩⟩, HB.out⟩
set_option maxRecDepth 100000 in
theorem ftcontains_any (a : Option Addr) (fs : List Ft) (n cap : Nat) (w : World) (hn : Hid (n = fs.length)) (hn2 : n ≤ 9223372036854775807) (hl : RdFt w a fs) :
    Calls Try.prog 51 #[.slice a n cap, .func (.func 52) #[] #[]] w fun e w' => e = .returned (.bool (!fs.all Ft.ok)) ∧ Below w.heap.size w w' := by
  go_enter Try.func51, Try.ntmps51
  go_wp2_with fail
  refine (ftindex_any a fs n cap w hn hn2 hl).mono ?_
  rintro e w1 ⟨⟨i, rfl, hi⟩, hb⟩
  have HI := Lib.hid hi
  clear hi
  go_wp2
  go_ret
  refine ⟨congrArg (fun b => Ending.returned (Value.bool b)) ?_, hb⟩
  cases hall : fs.all Ft.ok with
  | true => exact decide_eq_false fun h => by have := HI.out.1 h; rw [hall] at this; cases this
  | false => exact decide_eq_true (HI.out.2 hall)
/-- disk.right -/
theorem right_any (a : Option Addr) (fs : List Ft) (n cap : Nat) (w : World) (hn : Hid (n = fs.length)) (hn2 : n ≤ 9223372036854775807) (hl : RdFt w a fs) :
    Calls Try.prog 19 #[.slice a n cap] w fun e w' => e = .returned (.bool (fs.all Ft.ok)) ∧ Below w.heap.size w w' := by
  obtain ⟨r, hr⟩ : ∃ r, fs.all Ft.ok = r := ⟨_, rfl⟩
  have H := Lib.hid (fun w hl => ftcontains_any a fs n cap w hn hn2 hl)
  rw [hr] at H ⊢
  clear hr
  go_enter Try.func19, Try.ntmps19
  go_wp2_with fail
  refine (H.out _ hl).mono ?_
  rintro e w1 ⟨rfl, hb⟩
  have HB := Lib.hid hb
  clear hb
  cases r <;> (go_wp2; go_ret; exact ⟨rfl, HB.out⟩)
end Go.Proofs.Ytagipfkgnobjlaa
namespace Go.Proofs.Ytagipfkgnobjlaa
open Go.RowKit

/-- A disk's own row. -/
def DkHd (w : World) (b size : Nat) (mv pv fv : Value) (st : Int) : Prop := RowAt w b 53 #[.int .i64 (size : Int), mv, pv, fv, .int .i64 st]
theorem DkHd.cells {w : World} {b size : Nat} {mv pv fv : Value} {st : Int} (h : DkHd w b size mv pv fv st) : w.cell? ⟨b, 0, none⟩ = some (.int .i64 (size : Int)) ∧ w.cell? ⟨b, 1, none⟩ = some mv ∧ w.cell? ⟨b, 2, none⟩ = some pv ∧ w.cell? ⟨b, 3, none⟩ = some fv ∧ w.cell? ⟨b, 4, none⟩ = some (.int .i64 st) :=
  ⟨h.cell 0, h.cell 1, h.cell 2, h.cell 3, h.cell 4⟩
theorem none_any (w : World) (b size : Nat) (mv pv fv : Value) (st : Int) (h : DkHd w b size mv pv fv st) (hs : 0 < size) :
    Calls Try.prog 21 #[.pointer (some ⟨b, 0, none⟩)] w fun e w' => e = .returned (.bool false) ∧ w' = w := by
  obtain ⟨c0, _⟩ := h.cells
  go_enter Try.func21, Try.ntmps21
  go_wp2
  go_ret
  refine ⟨?_, rfl⟩
  first | rfl | (congr 2; simp; omega)
/-- Are so many sectors there? -/
def askB (size : Nat) (at_ n : Int) : Bool := decide (0 ≤ at_) && (decide (at_ ≤ (size : Int)) && decide (n ≤ (size : Int) - at_))
theorem asked_any (w : World) (b size : Nat) (mv pv fv : Value) (st at_ n : Int) (h : DkHd w b size mv pv fv st) (hs : size ≤ 65536) :
    Calls Try.prog 22 #[.pointer (some ⟨b, 0, none⟩), .int .i64 at_, .int .i64 n] w fun e w' => e = .returned (.int .i64 (if askB size at_ n then 0 else 4)) ∧ w' = w := by
  obtain ⟨c0, _⟩ := h.cells
  by_cases h0 : 0 ≤ at_
  · by_cases h1 : at_ ≤ (size : Int)
    · by_cases h2 : n ≤ (size : Int) - at_
      · rw [show askB size at_ n = true by simp [askB, h0, h1, h2]]
        go_enter Try.func22, Try.ntmps22
        go_wp2
        go_ret
        exact ⟨rfl, rfl⟩
      · rw [show askB size at_ n = false by simp [askB, h2]]
        go_enter Try.func22, Try.ntmps22
        go_wp2
        go_ret
        exact ⟨rfl, rfl⟩
    · rw [show askB size at_ n = false by simp [askB, h1]]
      go_enter Try.func22, Try.ntmps22
      go_wp2
      go_ret
      exact ⟨rfl, rfl⟩
  · rw [show askB size at_ n = false by simp [askB, h0]]
    go_enter Try.func22, Try.ntmps22
    go_wp2
    go_ret
    exact ⟨rfl, rfl⟩
/-- A disk's fates: a slice of a row of its own. -/
def FtSl (w : World) (base : Nat) (v : Value) (fl : List Ft) : Prop :=
  ∃ a n c, v = .slice a n c ∧ n = fl.length ∧ (n ≤ c ∧ (a = none → c = 0)) ∧ RdFt w a fl ∧ (∀ ad, a = some ad → base ≤ ad.block ∧ ad.spot = none ∧ ∃ cur, w.heap[ad.block]? = some (.cells cur 50 (0, 0)) ∧ ad.off + c * 2 ≤ cur.size)
theorem RowsAt.tail {α : Type} {w : World} {b off k : Nat} {x : α} {l : List α} {Q : Nat → Nat → α → Prop} (h : RowsAt w (some ⟨b, off, none⟩) k (x :: l) Q) : Q b off x ∧ RowsAt w (some ⟨b, off + k, none⟩) k l Q := by
  rcases h with h | ⟨b', off', ha, hlt, hi⟩
  · cases h
  · cases ha
    refine ⟨by have := hi 0 (by simp); rw [Nat.zero_mul, Nat.add_zero] at this; exact this, .inr ⟨b, off + k, rfl, hlt, fun i hil => ?_⟩⟩
    have := hi (i + 1) (by simp; omega)
    rw [Nat.succ_mul] at this
    rw [show off + k + i * k = off + (i * k + k) by omega]
    exact this
/-- All went well, or the disk failed. -/
def Fine (er : Int) (k n : Nat) : Prop := (er = 0 ∧ k = n) ∨ er = 5
theorem Fine.all (n : Nat) : Fine 0 n n := .inl ⟨rfl, rfl⟩
theorem Fine.bad (k n : Nat) : Fine 5 k n := .inr rfl
theorem keep_grown {w w' : World} {b : Nat} (h : w.grownBy w' (some b)) : KeepA (fun k => k = b) w w' := ⟨h.os, h.tape, h.output, h.size, fun k hk hx => h.block k hk fun e => hx (Option.some.inj e)⟩
set_option maxRecDepth 100000 in
theorem step_none (w : World) (b size n : Nat) (mv pv : Value) (st : Int) (a : Option Addr) (c : Nat) (h : DkHd w b size mv pv (.slice a 0 c) st) :
    Calls Try.prog 23 #[.pointer (some ⟨b, 0, none⟩), .int .i64 (n : Int)] w fun e w' => e = .returned (.tuple #[.int .i64 (n : Int), .int .i64 0]) ∧ (∃ st', DkHd w' b size mv pv (.slice a 0 c) st') ∧ KeepA (fun k => k = b) w w' := by
  obtain ⟨c0, c1, c2, c3, c4⟩ := h.cells
  have hf := h.frozen 4
  go_enter Try.func23, Try.ntmps23
  go_wp2
  go_ret2
  exact ⟨rfl, ⟨_, h.set 4 _⟩, keep_grown (grown_setCell _ _ _)⟩
/-- A fate's box is made, the row is written twice. -/
theorem step_world {w : World} {b size : Nat} {mv pv fv fv2 : Value} {st st2 : Int} (h : DkHd w b size mv pv fv st) (o : Obj) :
    DkHd (((w.setCell ⟨b, 4, none⟩ (.int .i64 st2)).setCell ⟨b, 3, none⟩ fv2).alloc o) b size mv pv fv2 st2 ∧ KeepA (fun k => k = b) w (((w.setCell ⟨b, 4, none⟩ (.int .i64 st2)).setCell ⟨b, 3, none⟩ fv2).alloc o) := by
  have h1 := ((h.set 4 (.int .i64 st2)).set 3 fv2)
  refine ⟨h1.below (below_alloc o), ?_⟩
  have k1 := keep_grown (grown_setCell w ⟨b, 4, none⟩ (.int .i64 st2))
  have k2 := keep_grown (grown_setCell (w.setCell ⟨b, 4, none⟩ (.int .i64 st2)) ⟨b, 3, none⟩ fv2)
  have k3 : KeepA (fun k => k = b) ((w.setCell ⟨b, 4, none⟩ (.int .i64 st2)).setCell ⟨b, 3, none⟩ fv2) (((w.setCell ⟨b, 4, none⟩ (.int .i64 st2)).setCell ⟨b, 3, none⟩ fv2).alloc o) := ⟨rfl, rfl, rfl, by simp, fun k hk _ => Below.heap_alloc _ o k hk⟩
  exact (k1.trans k2).trans k3
set_option maxRecDepth 100000 in
theorem step_some (w : World) (b size n g o m c : Nat) (mv pv : Value) (st : Int) (f : Ft) (h : DkHd w b size mv pv (.slice (some ⟨g, o, none⟩) (m + 1) c) st) (hf : FtAt w g o f) (hg : g ≠ b) (_hc : m + 1 ≤ c) :
    Calls Try.prog 23 #[.pointer (some ⟨b, 0, none⟩), .int .i64 (n : Int)] w fun e w' => (∃ k : Nat, k ≤ n ∧ ∃ er : Int, Fine er k n ∧ e = .returned (.tuple #[.int .i64 (k : Int), .int .i64 er])) ∧ (∃ st', DkHd w' b size mv pv (.slice (if c = 1 then some ⟨g, o, none⟩ else some ⟨g, o + 2, none⟩) m (c - 1)) st') ∧ KeepA (fun k => k = b) w w' := by
  obtain ⟨x, y⟩ := f
  obtain ⟨c0, c1, c2, c3, c4⟩ := h.cells
  obtain ⟨f0, f1⟩ := hf
  dsimp only at f0 f1
  have hf4 := h.frozen 4
  have hf3 := h.frozen 3
  have hlt := h.lt
  have HH := Lib.hid h
  clear h
  by_cases h0 : x = 0
  · subst h0
    go_enter Try.func23, Try.ntmps23
    go_wp2
    all_goals go_ret2
    all_goals (obtain ⟨q1, q2⟩ := step_world HH.out _; exact ⟨⟨n, Nat.le_refl _, _, Fine.all n, rfl⟩, ⟨_, q1⟩, q2⟩)
  · go_enter Try.func23, Try.ntmps23
    go_wp2
    all_goals go_ret2
    all_goals
      obtain ⟨q1, q2⟩ := step_world HH.out _
      refine ⟨?_, ⟨_, q1⟩, q2⟩
      first
        | exact ⟨n, Nat.le_refl _, _, Fine.bad _ _, rfl⟩
        | exact ⟨0, Nat.zero_le _, _, Fine.bad _ _, rfl⟩
        | exact ⟨y.toNat, by omega, _, Fine.bad _ _, by rw [Int.toNat_of_nonneg (by omega)]; rfl⟩
end Go.Proofs.Ytagipfkgnobjlaa
namespace Go.Proofs.Ytagipfkgnobjlaa
open Go.RowKit

section
variable {α : Type} {C : α → List Value} {k : Nat}
theorem flat_len (hC : ∀ x, (C x).length = k) (l : List α) : (l.flatMap C).length = l.length * k := by
  induction l with
  | nil => simp
  | cons x r ih => rw [List.flatMap_cons, List.length_append, hC, ih, List.length_cons, Nat.succ_mul]; omega
theorem flat_get (hC : ∀ x, (C x).length = k) : ∀ (l : List α) (i : Nat) (h : i < l.length) (j : Nat) (v : Value), (C l[i])[j]? = some v → (l.flatMap C)[i * k + j]? = some v
  | [], i, h, _, _, _ => by simp at h
  | x :: r, 0, h, j, v, hv => by
    rw [List.flatMap_cons, Nat.zero_mul, Nat.zero_add]
    have hj : j < (C x).length := (List.getElem?_eq_some_iff.1 hv).1
    rw [List.getElem?_append_left hj]
    exact hv
  | x :: r, i + 1, h, j, v, hv => by
    rw [List.flatMap_cons, List.getElem?_append_right (by rw [hC, Nat.succ_mul]; omega), hC, show (i + 1) * k + j - k = i * k + j by rw [Nat.succ_mul]; omega]
    exact flat_get hC r i (by simpa using h) j v (by simpa using hv)
/-- A row of structs, cell by cell. -/
def CellsAt (w : World) (C : α → List Value) (b o : Nat) (x : α) : Prop := ∀ j v, (C x)[j]? = some v → w.cell? ⟨b, o + j, none⟩ = some v
theorem rows_of_rd {w : World} {a : Option Addr} {l : List α} (hC : ∀ x, (C x).length = k) (hk : 0 < k) (h : Rd w a (l.flatMap C)) : RowsAt w a k l (CellsAt w C) := by
  rcases h with h | ⟨b, off, ha, hlt, hi⟩
  · refine .inl ?_
    have := flat_len hC l
    rw [h] at this
    simp only [List.length_nil] at this
    exact List.eq_nil_of_length_eq_zero (by rcases Nat.mul_eq_zero.1 this.symm with h | h <;> omega)
  · refine .inr ⟨b, off, ha, hlt, fun i h j v hv => ?_⟩
    obtain ⟨hj, he⟩ := List.getElem?_eq_some_iff.1 (flat_get hC l i h j v hv)
    rw [← he, Nat.add_assoc]
    exact hi _ hj
theorem rd_of_rows {w : World} {a : Option Addr} {l : List α} (hC : ∀ x, (C x).length = k) (hk : 0 < k) (h : RowsAt w a k l (CellsAt w C)) : Rd w a (l.flatMap C) := by
  rcases h with h | ⟨b, off, ha, hlt, hi⟩
  · exact .inl (by rw [h]; rfl)
  · refine .inr ⟨b, off, ha, hlt, fun i h => ?_⟩
    have hl := flat_len hC l
    have hdiv : i / k < l.length := by rw [hl] at h; exact Nat.div_lt_of_lt_mul (by rw [Nat.mul_comm]; exact h)
    have hmod : i % k < (C l[i / k]).length := by rw [hC]; exact Nat.mod_lt _ hk
    have h1 := hi (i / k) hdiv (i % k) _ (List.getElem?_eq_getElem hmod)
    have h2 := flat_get hC l (i / k) hdiv (i % k) _ (List.getElem?_eq_getElem hmod)
    have e : i / k * k + i % k = i := by rw [Nat.mul_comm]; exact Nat.div_add_mod i k
    rw [e] at h2
    rw [Nat.add_assoc, e] at h1
    rw [h1, ← h2]
    exact List.getElem?_eq_getElem h
end
def ftC (f : Ft) : List Value := [.int .i64 f.kind, .int .i64 f.keep]
theorem ftC_len (f : Ft) : (ftC f).length = 2 := rfl
theorem ft_rd {w : World} {a : Option Addr} {l : List Ft} (h : RdFt w a l) : Rd w a (l.flatMap ftC) := by
  refine rd_of_rows ftC_len (by omega) (RowsAt.imp h (Nat.le_refl _) fun b o f _ hf j v hv => ?_)
  match j, hv with
  | 0, hv => cases hv; exact hf.1
  | 1, hv => cases hv; exact hf.2
  | j + 2, hv => simp [ftC] at hv
theorem rd_ft {w : World} {a : Option Addr} {l : List Ft} (h : Rd w a (l.flatMap ftC)) : RdFt w a l :=
  RowsAt.imp (rows_of_rd ftC_len (by omega) h) (Nat.le_refl _) fun _ _ _ _ hf => ⟨hf 0 _ rfl, hf 1 _ rfl⟩
theorem eltFt : Elt Try.prog 44 50 2 16 (.agg #[.int .i64 0, .int .i64 0]) := ⟨Try.underlying44, by kernel_rfl, by kernel_rfl, by decide⟩
theorem ft_of_own {w : World} {base : Nat} {v : Value} {n : Nat} {l : List Ft} (h : w.ownsRow base 50 2 v n (l.flatMap ftC)) (hn : n = l.length) : FtSl w base v l := by
  obtain ⟨a, cap, hv, hc, hr⟩ := Rd.of_own h
  refine ⟨a, n, cap, hv, hn, ⟨hc, fun ha => ?_⟩, rd_ft hr, fun ad ha => ?_⟩
  · rcases h.2 with ⟨h0, _⟩ | ⟨g, cap2, cur, h1, _⟩
    · rw [hv] at h0; cases h0; rfl
    · rw [hv, ha] at h1; cases h1
  rcases h.2 with ⟨h0, _⟩ | ⟨g, cap2, cur, h1, hbg, hg, _, _, hcs, _⟩
  · rw [hv, ha] at h0; cases h0
  · rw [hv] at h1
    cases h1
    cases ha
    exact ⟨hbg, rfl, cur, hg, by dsimp only; omega⟩
theorem FtSl.nil (w : World) (base : Nat) : FtSl w base (.slice none 0 0) [] := ⟨none, 0, 0, rfl, rfl, ⟨Nat.le_refl _, fun _ => rfl⟩, .inl rfl, fun _ h => by cases h⟩
set_option maxHeartbeats 400000 in
theorem ftclone_any (a : Option Addr) (l : List Ft) (n cap : Nat) (w : World) (hn : n = l.length) (hb : n ≤ 1000000) (hl : RdFt w a l) :
    Calls Try.prog 20 #[.slice a n cap] w fun e w' => (∃ v, e = .returned v ∧ v.oneCell' = true ∧ FtSl w' w.heap.size v l) ∧ Below w.heap.size w w' := by
  have hnil := fun w a l c => Lib.run_eql_slice_nil (P := Try.prog) w 44 50 a l c 0 0 Try.underlying44
  cases a with
  | none =>
    obtain rfl : l = [] := by
      rcases hl with h | ⟨b, off, ha, _⟩
      · exact h
      · cases ha
    clear hl
    go_enter Try.func20, Try.ntmps20
    go_wp2
    go_ret
    exact ⟨⟨_, rfl, rfl, FtSl.nil _ _⟩, Below.refl _ _⟩
  | some ad =>
    have hk : Rd (w.alloc (.cells #[] 50)) (some ad) (l.flatMap ftC) := (ft_rd hl).mono (below_alloc _)
    have ho : (w.alloc (.cells #[] 50)).ownsRow w.heap.size 50 2 (.slice (some ⟨w.heap.size, 0, none⟩) 0 0) 0 [] := World.ownsRow_lit w #[] 0 (Nat.le_refl _) (by decide) rfl
    have HK := Lib.hid hk
    have HO := Lib.hid ho
    have HN := Lib.hid hn
    have HL := Lib.hid (flat_len ftC_len l)
    have H1 : Hid (∀ u ∈ l.flatMap ftC, u.oneCell' = true) := fun u hu => by
      obtain ⟨f, _, hf⟩ := List.mem_flatMap.1 hu
      simp only [ftC, List.mem_cons, List.not_mem_nil, or_false] at hf
      rcases hf with rfl | rfl <;> rfl
    clear hk ho hn hl
    go_enter Try.func20, Try.ntmps20
    go_wp2_with (at_builtin; refine step_append rfl (.tmp 5) (.tmp 6) rfl eltFt w.heap.size _ 0 [] rfl _ _ _ (l.flatMap ftC) rfl HO.out (by rw [HL.out, HN.out]) HK.out H1.out (by omega) (by omega) (by simp) ?_; intro v' w' h1 h2 h3)
    go_ret
    refine ⟨⟨_, rfl, ?_, ft_of_own (by simpa using h1) HN.out⟩, below_grown (below_alloc _) h2 (by simp) (by intro k hk; have := Option.some.inj (show some w.heap.size = some k from hk); omega)⟩
    obtain ⟨_, _, hv, _⟩ := Rd.of_own h1
    rw [hv]; rfl
end Go.Proofs.Ytagipfkgnobjlaa
namespace Go.Proofs.Ytagipfkgnobjlaa
open Go.RowKit

/-- A sector's cells; a sector of noughts. -/
def secV (s : List UInt8) : Value := .agg (s.map bv).toArray
def nought : List UInt8 := List.replicate 512 0
/-- A map of sectors tells what lasts: what it does not have is noughts. -/
def MapIs (clock : Nat) (es : List MapEntry) (last : Int → List UInt8) : Prop :=
  (∀ e ∈ es, ∃ k, e.key = .int .i64 k ∧ e.val = secV (last k)) ∧ (∀ k, (∀ e ∈ es, e.key ≠ .int .i64 k) → last k = nought) ∧ (∀ (i j : Nat) (a b : MapEntry), es[i]? = some a → es[j]? = some b → a.key = b.key → i = j) ∧ ∀ e ∈ es, e.born < clock
theorem MapIs.nil (c : Nat) : MapIs c [] (fun _ => nought) := ⟨(fun e h => by cases h), (fun _ _ => rfl), (fun i j a b h => by simp at h), (fun e h => by cases h)⟩
theorem findNow_int {k : Int} : ∀ (es : List MapEntry) (i : Nat), (∀ e ∈ es, ∃ j, e.key = .int .i64 j) →
    (∃ n v, Instr.findNow (.int .i64) (.int .i64 k) es i = some (some (i + n, v)) ∧ ∃ e, es[n]? = some e ∧ e.key = .int .i64 k ∧ e.val = v) ∨ (Instr.findNow (.int .i64) (.int .i64 k) es i = some none ∧ ∀ e ∈ es, e.key ≠ .int .i64 k)
  | [], i, _ => .inr ⟨rfl, fun e h => by cases h⟩
  | e :: r, i, h => by
    obtain ⟨j, hj⟩ := h e List.mem_cons_self
    by_cases hk : k = j
    · subst hk
      refine .inl ⟨0, e.val, ?_, e, rfl, hj, rfl⟩
      simp [Instr.findNow, Instr.sameNow, hj]
    · have hs : Instr.sameNow (.int .i64) (.int .i64 k) e.key = some false := by
        rw [hj]
        simp [Instr.sameNow, hk]
      rcases findNow_int r (i + 1) fun e he => h e (List.mem_cons_of_mem _ he) with ⟨n, v, h1, e', h2, h3, h4⟩ | ⟨h1, h2⟩
      · refine .inl ⟨n + 1, v, ?_, e', by simpa using h2, h3, h4⟩
        simp only [Instr.findNow, hs]
        rw [h1, show i + 1 + n = i + (n + 1) by omega]
      · refine .inr ⟨?_, fun e' he' => ?_⟩
        · simp only [Instr.findNow, hs]
          exact h1
        · rcases List.mem_cons.1 he' with rfl | he'
          · rw [hj]; intro e; exact hk (by cases e; rfl)
          · exact h2 e' he'
theorem zero_sector : (Try.prog.info? 56).map (·.zero) = some (some (secV nought)) := by kernel_rfl
theorem run_zero (w : World) : (zeroValue 56).run Try.prog w = .ok (secV nought) w := by
  have hz := zero_sector
  cases hq : Try.prog.info? 56 with
  | none => rw [hq] at hz; cases hz
  | some i =>
    rw [hq] at hz
    have hz : i.zero = some (secV nought) := Option.some.inj hz
    simp [zeroValue, typeInfo, Sem.run_bind, hq, hz]
theorem key_int (b : Bool) (k : Int) (w : World) : (Instr.checkKey b 10000 3 (.int .i64 k)).run Try.prog w = .ok () w := by
  show (Instr.checkKey b (9999 + 1) 3 (.int .i64 k)).run Try.prog w = _
  unfold Instr.checkKey
  rw [Sem.run_bind, run_underlying Try.underlying3]
  rfl
theorem drun_getMap {w : World} {r : Nat} {es : Array MapEntry} {clock : Nat} (h : w.heap[r]? = some (.map es clock)) : (getObj r).run Try.prog w = .ok (.map es clock) w := by
  simp [getObj, Sem.run, h]
theorem lookup_run {w : World} {m : Nat} {es : Array MapEntry} {clock : Nat} {last : Int → List UInt8} (h : w.heap[m]? = some (.map es clock)) (hm : MapIs clock es.toList last) (k : Int) :
    (Instr.lookup 46 (.map (some m)) (.int .i64 k) false).run Try.prog w = .ok (secV (last k)) w := by
  have hi : ∀ e ∈ es.toList, ∃ j, e.key = .int .i64 j := fun e he => let ⟨j, h1, _⟩ := hm.1 e he; ⟨j, h1⟩
  unfold Instr.lookup
  rw [Sem.run_bind, run_underlying Try.underlying46, Result.andThen_ok]
  dsimp only
  simp only [Sem.run_bind, Sem.run_pure, Result.andThen_ok, drun_getMap h, key_int]
  rcases findNow_int (k := k) es.toList 0 hi with ⟨n, v, h1, e, h2, h3, h4⟩ | ⟨h1, h2⟩
  · rw [MapKept.run_findKey Try.underlying3 h1]
    obtain ⟨j, h5, h6⟩ := hm.1 e (List.mem_of_getElem? h2)
    rw [h3] at h5
    cases h5
    rw [← h4, h6]
    rfl
  · rw [MapKept.run_findKey Try.underlying3 h1]
    rw [hm.2.1 k h2]
    simp only [Result.andThen_ok, Sem.run_bind, run_zero, Sem.run_pure, Bool.false_eq_true, if_false]
/-- An entry is written. -/
theorem update_run {w : World} {m : Nat} {es : Array MapEntry} {clock : Nat} {last : Int → List UInt8} (h : w.heap[m]? = some (.map es clock)) (hm : MapIs clock es.toList last) (k : Int) (s : List UInt8) :
    ∃ (es' : Array MapEntry) (clock' : Nat), (Instr.mapUpdate 46 (.map (some m)) (.int .i64 k) (secV s)).run Try.prog w = .ok () { w with heap := w.heap.setIfInBounds m (.map es' clock') } ∧ MapIs clock' es'.toList (fun j => if j = k then s else last j) := by
  have hi : ∀ e ∈ es.toList, ∃ j, e.key = .int .i64 j := fun e he => let ⟨j, h1, _⟩ := hm.1 e he; ⟨j, h1⟩
  rcases findNow_int (k := k) es.toList 0 hi with ⟨n, v, h1, e, h2, h3, h4⟩ | ⟨h1, h2⟩
  · have hn : n < es.size := by have := (List.getElem?_eq_some_iff.1 h2).1; simpa using this
    refine ⟨es.modify n fun e => { e with key := .int .i64 k, val := secV s }, clock, ?_, ?_⟩
    · unfold Instr.mapUpdate
      rw [Sem.run_bind, run_underlying Try.underlying46, Result.andThen_ok]
      dsimp only
      simp only [Sem.run_bind, Result.andThen_ok, drun_getMap h, key_int, MapKept.run_findKey Try.underlying3 h1]
      rw [Nat.zero_add]
      have he : es[n]? = some e := by simpa using h2
      have hk : (Instr.keyThatStays (((es[n]?).map (·.key)).getD (.int .i64 k)) (.int .i64 k)).run Try.prog w = .ok (.int .i64 k) w := by
        rw [he]
        simp only [Option.map_some, Option.getD_some, h3]
        unfold Instr.keyThatStays
        rw [if_pos (by simp [Instr.sameBits])]
        rfl
      rw [hk, Result.andThen_ok]
      exact MapKept.run_setObj_map _ h
    · rw [Array.toList_modify]
      have hat : ∀ (i : Nat) (a : MapEntry), (es.toList.modify n fun e => { e with key := .int .i64 k, val := secV s })[i]? = some a → (i = n ∧ a = { e with key := .int .i64 k, val := secV s }) ∨ (i ≠ n ∧ es.toList[i]? = some a) := fun i a ha => by
        rw [List.getElem?_modify] at ha
        by_cases hin : n = i
        · subst hin
          rw [h2] at ha
          have ha : some (if n = n then { e with key := .int .i64 k, val := secV s } else e) = some a := ha
          rw [if_pos rfl] at ha
          exact .inl ⟨rfl, (Option.some.inj ha).symm⟩
        · simp only [if_neg hin] at ha
          refine .inr ⟨fun e => hin e.symm, ?_⟩
          cases hg : es.toList[i]? with
          | none => rw [hg] at ha; cases ha
          | some b => rw [hg] at ha; exact ha
      have hkey : ∀ (i : Nat) (a : MapEntry), i ≠ n → es.toList[i]? = some a → a.key ≠ .int .i64 k := fun i a hin ha hh => hin (hm.2.2.1 i n a e ha h2 (by rw [hh, h3]))
      refine ⟨fun a ha => ?_, fun j hj => ?_, fun i j a b ha hb hab => ?_, fun a ha => ?_⟩
      rotate_left 3
      · obtain ⟨i, hi2⟩ := List.mem_iff_getElem?.1 ha
        rcases hat i a hi2 with ⟨_, rfl⟩ | ⟨hin, ha2⟩
        · exact hm.2.2.2 e (List.mem_of_getElem? h2)
        · exact hm.2.2.2 a (List.mem_of_getElem? ha2)
      · obtain ⟨i, hi2⟩ := List.mem_iff_getElem?.1 ha
        rcases hat i a hi2 with ⟨_, rfl⟩ | ⟨hin, ha2⟩
        · exact ⟨k, rfl, by show secV s = secV (if k = k then s else last k); rw [if_pos rfl]⟩
        · obtain ⟨j, h5, h6⟩ := hm.1 a (List.mem_of_getElem? ha2)
          refine ⟨j, h5, ?_⟩
          have hjk : j ≠ k := fun hh => hkey i a hin ha2 (by rw [h5, hh])
          show a.val = secV (if j = k then s else last j)
          rw [if_neg hjk]; exact h6
      · have hne := hj { e with key := .int .i64 k, val := secV s } (by
          refine List.mem_of_getElem? (i := n) ?_
          rw [List.getElem?_modify, h2]
          simp)
        have hjk : j ≠ k := fun hh => hne (by rw [hh])
        show (if j = k then s else last j) = nought
        rw [if_neg hjk]
        refine hm.2.1 j fun a ha => ?_
        obtain ⟨i, hi2⟩ := List.mem_iff_getElem?.1 ha
        by_cases hin : i = n
        · subst hin
          rw [h2] at hi2
          cases hi2
          rw [h3]
          intro hh
          cases hh
          exact hjk rfl
        · refine hj a (List.mem_of_getElem? (i := i) ?_)
          rw [List.getElem?_modify, hi2]
          simp [Ne.symm hin]
      · rcases hat i a ha with ⟨rfl, rfl⟩ | ⟨hin, ha2⟩ <;> rcases hat j b hb with ⟨rfl, rfl⟩ | ⟨hjn, hb2⟩
        · rfl
        · exact absurd hab.symm (hkey j b hjn hb2)
        · exact absurd hab (hkey i a hin ha2)
        · exact hm.2.2.1 i j a b ha2 hb2 hab
  · refine ⟨es.push { key := .int .i64 k, val := secV s, born := clock }, clock + 1, ?_, ?_⟩
    · unfold Instr.mapUpdate
      rw [Sem.run_bind, run_underlying Try.underlying46, Result.andThen_ok]
      dsimp only
      simp only [Sem.run_bind, Result.andThen_ok, drun_getMap h, key_int, MapKept.run_findKey Try.underlying3 h1]
      exact MapKept.run_setObj_map _ h
    · rw [Array.toList_push]
      refine ⟨fun e he => ?_, fun j hj => ?_, fun i j a b ha hb hab => ?_, fun e he => ?_⟩
      rotate_left 3
      · rcases List.mem_append.1 he with he | he
        · exact Nat.lt_succ_of_lt (hm.2.2.2 e he)
        · obtain rfl := List.mem_singleton.1 he
          exact Nat.lt_succ_self _
      · rcases List.mem_append.1 he with he | he
        · obtain ⟨j, h5, h6⟩ := hm.1 e he
          refine ⟨j, h5, ?_⟩
          have hjk : j ≠ k := fun hh => h2 e he (by rw [h5, hh])
          show e.val = secV (if j = k then s else last j)
          rw [if_neg hjk]; exact h6
        · obtain rfl := List.mem_singleton.1 he
          exact ⟨k, rfl, by show secV s = secV (if k = k then s else last k); rw [if_pos rfl]⟩
      · have hne := hj _ (List.mem_append_right _ (List.mem_singleton.2 rfl))
        have hjk : j ≠ k := fun hh => hne (by rw [hh])
        show (if j = k then s else last j) = nought
        rw [if_neg hjk]
        exact hm.2.1 j fun e he => hj e (List.mem_append_left _ he)
      · have hlast : ∀ (i : Nat) (a : MapEntry), (es.toList ++ [{ key := .int .i64 k, val := secV s, born := clock }])[i]? = some a → es.toList[i]? = some a ∨ (i = es.toList.length ∧ a.key = .int .i64 k) := fun i a ha => by
          by_cases hil : i < es.toList.length
          · rw [List.getElem?_append_left hil] at ha; exact .inl ha
          · rw [List.getElem?_append_right (by omega)] at ha
            have h0 : i - es.toList.length = 0 := by
              have := (List.getElem?_eq_some_iff.1 ha).1
              simp at this
              simp
              omega
            rw [h0] at ha
            cases ha
            exact .inr ⟨by omega, rfl⟩
        rcases hlast i a ha with ha2 | ⟨rfl, ha2⟩ <;> rcases hlast j b hb with hb2 | ⟨rfl, hb2⟩
        · exact hm.2.2.1 i j a b ha2 hb2 hab
        · exact absurd (hab.trans hb2) (h2 a (List.mem_of_getElem? ha2))
        · exact absurd (hab.symm.trans ha2) (h2 b (List.mem_of_getElem? hb2))
        · rfl
end Go.Proofs.Ytagipfkgnobjlaa
namespace Go.Proofs.Ytagipfkgnobjlaa
open Go.RowKit

/-- A disk. Which steps fail is no matter here: the fates are some. -/
structure DK where
  size : Nat
  last : Int → List UInt8
  pcs : List (Int × List UInt8)
def pcC (p : Int × List UInt8) : List Value := .int .i64 p.1 :: p.2.map bv
/-- A slice's block. -/
def slB : Value → Option Nat
  | .slice (some ad) _ _ => some ad.block
  | _ => none
theorem FtSl.low {w : World} {base base' : Nat} {v : Value} {l : List Ft} (h : FtSl w base v l) (hb : base' ≤ base) : FtSl w base' v l := by
  obtain ⟨a, n, c, h1, h2, h3, h4, h5⟩ := h
  exact ⟨a, n, c, h1, h2, h3, h4, fun ad ha => ⟨Nat.le_trans hb (h5 ad ha).1, (h5 ad ha).2⟩⟩
theorem FtSl.blk {w : World} {base : Nat} {v : Value} {l : List Ft} (h : FtSl w base v l) {g : Nat} (hg : slB v = some g) : base ≤ g ∧ g < w.heap.size := by
  obtain ⟨a, n, c, rfl, h2, h3, h4, h5⟩ := h
  cases a with
  | none => cases hg
  | some ad =>
    cases hg
    obtain ⟨q1, _, cur, q2, _⟩ := h5 ad rfl
    exact ⟨q1, (Array.getElem?_eq_some_iff.1 q2).1⟩
theorem FtSl.later {w w' : World} (hb : Below w.heap.size w w') {base : Nat} {v : Value} {l : List Ft} (h : FtSl w base v l) : FtSl w' base v l := by
  obtain ⟨a, n, c, h1, h2, h3, h4, h5⟩ := h
  refine ⟨a, n, c, h1, h2, h3, h4.later hb, fun ad ha => ?_⟩
  obtain ⟨q1, q2, cur, q3, q4⟩ := h5 ad ha
  exact ⟨q1, q2, cur, (hb.block _ (Array.getElem?_eq_some_iff.1 q3).1).trans q3, q4⟩
structure DkAt (w : World) (base b : Nat) (D : DK) (m : Nat) (pv fv : Value) (fl : List Ft) (st : Int) : Prop where
  hd : DkHd w b D.size (.map (some m)) pv fv st
  hb : base ≤ b
  hm : base ≤ m
  mb : m ≠ b
  map : ∃ es clock, w.heap[m]? = some (.map es clock) ∧ MapIs clock es.toList D.last
  pcs : w.ownsRow base 58 513 pv D.pcs.length (D.pcs.flatMap pcC)
  pb : pv.ownBlock ≠ some b ∧ pv.ownBlock ≠ some m
  fts : FtSl w base fv fl
  fb : ∀ g, slB fv = some g → g ≠ b ∧ g ≠ m ∧ pv.ownBlock ≠ some g
  size : 0 < D.size ∧ D.size ≤ 65536
  sec : ∀ k, (D.last k).length = 512
  psec : ∀ p ∈ D.pcs, 0 ≤ p.1 ∧ p.1 < D.size ∧ p.2.length = 512
/-- A disk lies there, all its own from a block on. -/
def IsDk (w : World) (base b : Nat) (D : DK) (F : Nat) : Prop := ∃ m pv fv fl st, DkAt w base b D m pv fv fl st ∧ fl.length ≤ F
theorem step_makeMap {P : Program} {ops : Array Oper} {rest : List Oper} {o : Oper} {act : Act} {Q : Exit → Act → World → Prop} {w : World} (hgd : o.guard = none) (t : TypeId) (ho : o.op = .makeMap t none)
    (h : wpList P ops Q rest (act.put o.dst (.map (some w.heap.size))) (w.alloc (.map #[] 0))) : wpList P ops Q (o :: rest) act w :=
  wpList_plain hgd fun K hK => by
    unfold Oper.wp execOp
    simp only [ho]
    exact hK _ _ h
set_option maxRecDepth 100000 in
theorem new_any (a : Option Addr) (l : List Ft) (n cap : Nat) (size : Nat) (w : World) (hn : n = l.length) (hb : n ≤ 1000000) (hl : RdFt w a l) (hs : 0 < size) (hs2 : size ≤ 65536) (hok : l.all Ft.ok = true) :
    Calls Try.prog 5 #[.int .i64 (size : Int), .slice a n cap] w fun e w' => (∃ b, e = .returned (.tuple #[.pointer (some ⟨b, 0, none⟩), .int .i64 0]) ∧ IsDk w' w.heap.size b ⟨size, fun _ => nought, []⟩ l.length) ∧ Below w.heap.size w w' := by
  have H1 := Lib.hid (fun w hl => right_any a l n cap w (Lib.hid hn) (by omega) hl)
  rw [hok] at H1
  have H2 := Lib.hid (fun w hl => ftclone_any a l n cap w hn hb hl)
  have HL := Lib.hid hl
  clear hl hn hok
  go_enter Try.func5, Try.ntmps5
  go_wp2_with fail
  refine (H1.out _ HL.out).mono ?_
  rintro _ w1 ⟨rfl, hbw⟩
  have HB1 := Lib.hid hbw
  have HL1 := Lib.hid ((HL.out.later hbw).later (below_alloc (.map #[] 0)))
  clear hbw
  go_wp2_with (refine step_makeMap rfl 46 rfl ?_)
  refine (H2.out _ HL1.out).mono ?_
  rintro _ w2 ⟨⟨v, rfl, q0, hft⟩, hbw⟩
  have HB2 := Lib.hid hbw
  have HFT := Lib.hid hft
  obtain ⟨fa, fn, fc, rfl, q1, q2, q3, q4⟩ := hft
  clear q0 q1 q2 q3 q4
  have hs3 := hbw.size
  rw [World.size_alloc] at hs3
  have hs4 := HB1.out.size
  clear hbw
  go_wp2_with fail
  go_ret2
  obtain ⟨W, hW⟩ : ∃ W, w2.alloc (.cells #[.int .i64 (size : Int), .map (some w1.heap.size), .slice none 0 0, .slice fa fn fc, .int .i64 0] 53) = W := ⟨_, rfl⟩
  have hWB : Below w2.heap.size w2 W := by rw [← hW]; exact below_alloc _
  refine ⟨⟨w2.heap.size, rfl, w1.heap.size, .slice none 0 0, .slice fa fn fc, l, 0, ?_, Nat.le_refl _⟩, ?_⟩
  · rw [hW]
    have hm : (w1.alloc (.map #[] 0)).heap[w1.heap.size]? = some (.map #[] 0) := heap_alloc_new w1 _
    have hft : ∀ g, slB (.slice fa fn fc) = some g → w1.heap.size + 1 ≤ g ∧ g < w2.heap.size := fun g hg => by have := HFT.out.blk hg; rw [World.size_alloc] at this; exact this
    refine ⟨by rw [← hW]; exact RowAt.new _ _ _, by omega, by omega, by omega, ⟨#[], 0, ?_, MapIs.nil _⟩, World.ownsRow_nil _ _ _ _, ⟨by simp [Value.ownBlock], by simp [Value.ownBlock]⟩, (HFT.out.later hWB).low (by rw [World.size_alloc]; omega), fun g hg => ?_, ⟨hs, hs2⟩, fun k => by simp [nought], fun p hp => by cases hp⟩
    · rw [hWB.block _ (by omega), HB2.out.block _ (by rw [World.size_alloc]; omega)]
      exact hm
    · have := hft g hg
      exact ⟨by omega, by omega, by simp [Value.ownBlock]⟩
  · rw [hW]
    exact ((HB1.out.trans ((below_alloc _).mono (by omega))).trans (HB2.out.mono (by rw [World.size_alloc]; omega))).trans (hWB.mono (by omega))
end Go.Proofs.Ytagipfkgnobjlaa
namespace Go.Proofs.Ytagipfkgnobjlaa
open Go.RowKit

def RdI (w : World) (a : Option Addr) (l : List Int) : Prop := Rd w a (l.map (Value.int .i64))
theorem RdI.later {w w' : World} (hb : Below w.heap.size w w') {a : Option Addr} {l : List Int} (h : RdI w a l) : RdI w' a l := Rd.mono h hb
theorem RdI.at {w : World} {a : Option Addr} {l : List Int} (h : RdI w a l) (hl : 0 < l.length) : ∃ b off, a = some ⟨b, off, none⟩ ∧ b < w.heap.size ∧ ∀ k (h : k < l.length), w.cell? ⟨b, off + k, none⟩ = some (.int .i64 l[k]) := by
  rcases h with h | ⟨b, off, ha, hlt, hc⟩
  · have := congrArg List.length h
    simp at this
    subst this
    simp at hl
  · exact ⟨b, off, ha, hlt, fun k hk => by have := hc k (by simpa using hk); simpa using this⟩
end Go.Proofs.Ytagipfkgnobjlaa
namespace Go.Proofs.Ytagipfkgnobjlaa
open Go.RowKit

set_option maxRecDepth 100000 in
/-- A variable is made: its zero hidden. -/
theorem step_allocZ {P : Program} {ops : Array Oper} {rest : List Oper} {o : Oper} {act : Act} {Q : Exit → Act → World → Prop} {w : World} (hgd : o.guard = none) (ty : TypeId) (ho : o.op = .alloc ty) (Z : Array Value) (hz : (P.info? ty).map (·.zero) = some (some (.agg Z)))
    (h : ∀ w', RowAt w' w.heap.size ty Z → Below w.heap.size w w' → w'.heap.size = w.heap.size + 1 → wpList P ops Q rest (act.put o.dst (.pointer (some ⟨w.heap.size, 0, none⟩))) w') : wpList P ops Q (o :: rest) act w :=
  wpList_plain hgd fun K hK => by
    unfold Oper.wp execOp
    simp only [ho]
    have hr : (Instr.alloc ty true (.tuple #[])).run P w = .ok (.pointer (some ⟨w.heap.size, 0, none⟩)) (w.alloc (.cells Z ty)) := by
      cases hq : P.info? ty with
      | none => rw [hq] at hz; cases hz
      | some i =>
        rw [hq] at hz
        have hz : i.zero = some (.agg Z) := Option.some.inj hz
        simp [Instr.alloc, zeroValue, typeInfo, hq, hz, Sem.run_bind, newVar]
        rfl
    rw [Sem.run_bind, hr]
    exact hK _ _ (h _ (RowAt.new _ _ _) (below_alloc _) (by simp))
def zeroP : Array Value := (pcC (0, nought)).toArray
def zeroS : Array Value := (nought.map bv).toArray
theorem zero_piece : (Try.prog.info? 58).map (·.zero) = some (some (.agg zeroP)) := by kernel_rfl
theorem zero_sec : (Try.prog.info? 56).map (·.zero) = some (some (.agg zeroS)) := by kernel_rfl
theorem aggP : Agg Try.prog 58 513 := ⟨⟨_, Try.underlying58⟩, by kernel_rfl⟩
theorem pcC_len {p : Int × List UInt8} (h : p.2.length = 512) : (pcC p).length = 513 := by simp [pcC, h]
theorem pcC_one (p : Int × List UInt8) : ∀ u ∈ pcC p, u.oneCell' = true := fun u hu => by
  simp only [pcC, List.mem_cons, List.mem_map] at hu
  rcases hu with rfl | ⟨x, _, rfl⟩ <;> rfl
/-- A piece, or what may be none: of 513 cells in any case. -/
def pcD (p : Int × List UInt8) : List Value := (pcC p ++ List.replicate 513 (Value.int .u8 0)).take 513
theorem pcD_len (p : Int × List UInt8) : (pcD p).length = 513 := by unfold pcD; rw [List.length_take, List.length_append, List.length_replicate]; omega
theorem pcD_eq {p : Int × List UInt8} (h : p.2.length = 512) : pcD p = pcC p := by
  unfold pcD
  rw [List.take_append_of_le_length (by rw [pcC_len h]; omega), List.take_of_length_le (by rw [pcC_len h]; omega)]
theorem flat_pcD {l : List (Int × List UInt8)} (h : ∀ p ∈ l, p.2.length = 512) : l.flatMap pcD = l.flatMap pcC := by
  induction l with
  | nil => rfl
  | cons p r ih => rw [List.flatMap_cons, List.flatMap_cons, pcD_eq (h p List.mem_cons_self), ih fun q hq => h q (List.mem_cons_of_mem _ hq)]
theorem eltP : Elt Try.prog 51 58 513 520 (.agg zeroP) := ⟨Try.underlying51, by kernel_rfl, by kernel_rfl, by decide⟩
/-- Pieces can be read at an address. -/
def RdPc (w : World) (a : Option Addr) (l : List (Int × List UInt8)) : Prop := Rd w a (l.flatMap pcC)
theorem RdPc.rows {w : World} {a : Option Addr} {l : List (Int × List UInt8)} (h : RdPc w a l) (hl : ∀ p ∈ l, p.2.length = 512) : RowsAt w a 513 l (CellsAt w pcD) := rows_of_rd pcD_len (by omega) (by rw [flat_pcD hl]; exact h)
theorem RdPc.of_rows {w : World} {a : Option Addr} {l : List (Int × List UInt8)} (h : RowsAt w a 513 l (CellsAt w pcD)) (hl : ∀ p ∈ l, p.2.length = 512) : RdPc w a l := by
  have := rd_of_rows pcD_len (by omega) h
  rw [flat_pcD hl] at this
  exact this
set_option maxHeartbeats 400000 in
theorem pcclone_any (a : Option Addr) (l : List (Int × List UInt8)) (n cap : Nat) (w : World) (hn : n = l.length) (hb : n ≤ 1000000) (hl : RdPc w a l) (h5 : ∀ p ∈ l, p.2.length = 512) :
    Calls Try.prog 24 #[.slice a n cap] w fun e w' => (∃ v, e = .returned v ∧ v.oneCell' = true ∧ w'.ownsRow w.heap.size 58 513 v l.length (l.flatMap pcC)) ∧ Below w.heap.size w w' := by
  have hnil := fun w a l c => Lib.run_eql_slice_nil (P := Try.prog) w 51 58 a l c 0 0 Try.underlying51
  cases a with
  | none =>
    obtain rfl : l = [] := by
      have h9 := flat_len pcD_len l
      rw [flat_pcD h5] at h9
      rcases hl with h | ⟨b, off, ha, _⟩
      · rw [h] at h9
        exact List.eq_nil_of_length_eq_zero (by simp at h9; omega)
      · cases ha
    clear hl
    go_enter Try.func24, Try.ntmps24
    go_wp2
    go_ret
    exact ⟨⟨_, rfl, rfl, World.ownsRow_nil _ _ _ _⟩, Below.refl _ _⟩
  | some ad =>
    have hk : Rd (w.alloc (.cells #[] 58)) (some ad) (l.flatMap pcC) := Rd.mono hl (below_alloc _)
    have ho : (w.alloc (.cells #[] 58)).ownsRow w.heap.size 58 513 (.slice (some ⟨w.heap.size, 0, none⟩) 0 0) 0 [] := World.ownsRow_lit w #[] 0 (Nat.le_refl _) (by decide) rfl
    have hlen : (l.flatMap pcC).length = n * 513 := by rw [← flat_pcD h5, flat_len pcD_len, hn]
    have HK := Lib.hid hk
    have HO := Lib.hid ho
    have HN := Lib.hid hn
    have HL := Lib.hid hlen
    have H1 : Hid (∀ u ∈ l.flatMap pcC, u.oneCell' = true) := fun u hu => by
      obtain ⟨f, _, hf⟩ := List.mem_flatMap.1 hu
      exact pcC_one f u hf
    clear hk ho hn hl hlen
    go_enter Try.func24, Try.ntmps24
    go_wp2_with (at_builtin; refine step_append rfl (.tmp 5) (.tmp 6) rfl eltP w.heap.size _ 0 [] rfl _ _ _ (l.flatMap pcC) rfl HO.out HL.out HK.out H1.out (by omega) (by omega) (by simp) ?_; intro v' w' h1 h2 h3)
    go_ret
    refine ⟨⟨_, rfl, ?_, by have := h1; rw [Nat.zero_add, List.nil_append, HN.out] at this; exact this⟩, below_grown (below_alloc _) h2 (by simp) (by intro k hk; have := Option.some.inj (show some w.heap.size = some k from hk); omega)⟩
    obtain ⟨_, _, hv, _⟩ := Rd.of_own h1
    rw [hv]; rfl
end Go.Proofs.Ytagipfkgnobjlaa
namespace Go.Proofs.Ytagipfkgnobjlaa
open Go.RowKit

theorem own_keep {w w' : World} {X : Nat → Prop} (hk : KeepA X w w') {base : Nat} {e : TypeId} {size : Nat} {v : Value} {n : Nat} {xs : List Value} (h : w.ownsRow base e size v n xs) (hx : ∀ g, v.ownBlock = some g → ¬ X g) : w'.ownsRow base e size v n xs := by
  refine ⟨h.1, ?_⟩
  rcases h.2 with h | ⟨g, cap, cur, hv, hg, hh, r⟩
  · exact .inl h
  · refine .inr ⟨g, cap, cur, hv, hg, ?_, r⟩
    have hgx := hx g (by rw [hv]; rfl)
    exact (hk.same g (Array.getElem?_eq_some_iff.1 hh).1 hgx).trans hh
theorem rows_keep {α : Type} {w w' : World} {a : Option Addr} {k : Nat} {l : List α} {Q Q' : Nat → Nat → α → Prop} (h : RowsAt w a k l Q) (hs : w.heap.size ≤ w'.heap.size) (X : Nat → Prop) (hx : ∀ ad, a = some ad → ¬ X ad.block) (hq : ∀ b o x, ¬ X b → Q b o x → Q' b o x) : RowsAt w' a k l Q' := by
  rcases h with h | ⟨b, off, ha, hlt, hi⟩
  · exact .inl h
  · exact .inr ⟨b, off, ha, Nat.lt_of_lt_of_le hlt hs, fun i h => hq _ _ _ (hx _ ha) (hi i h)⟩
theorem KeepA.trans2 {X Y : Nat → Prop} {w w1 w2 : World} (h : KeepA X w w1) (k : KeepA Y w1 w2) (hy : ∀ x, x < w.heap.size → Y x → X x) : KeepA X w w2 :=
  ⟨k.os.trans h.os, k.tape.trans h.tape, k.output.trans h.output, Nat.le_trans h.size k.size, fun x hx hn => (k.same x (Nat.lt_of_lt_of_le hx h.size) fun e => hn (hy x hx e)).trans (h.same x hx hn)⟩
theorem FtSl.keep {w w' : World} {X : Nat → Prop} (hk : KeepA X w w') {base : Nat} {v : Value} {l : List Ft} (h : FtSl w base v l) (hx : ∀ g, slB v = some g → ¬ X g) : FtSl w' base v l := by
  obtain ⟨a, n, c, rfl, h2, h3, h4, h5⟩ := h
  refine ⟨a, n, c, rfl, h2, h3, rows_keep h4 hk.size X (fun ad ha => hx _ (by subst ha; rfl)) fun b o x hb q => ⟨hk.cell q.1 hb, hk.cell q.2 hb⟩, fun ad ha => ?_⟩
  obtain ⟨q1, q2, cur, q3, q4⟩ := h5 ad ha
  exact ⟨q1, q2, cur, (hk.same _ (Array.getElem?_eq_some_iff.1 q3).1 (hx _ (by subst ha; rfl))).trans q3, q4⟩
/-- The next step of a disk: so many pieces go well. -/
theorem step_any (w : World) (base b : Nat) (D : DK) (m : Nat) (pv fv : Value) (fl : List Ft) (st : Int) (n : Nat) (h : DkAt w base b D m pv fv fl st) :
    Calls Try.prog 23 #[.pointer (some ⟨b, 0, none⟩), .int .i64 (n : Int)] w fun e w' => (∃ k : Nat, k ≤ n ∧ ∃ er : Int, (fl.length = 0 → k = n ∧ er = 0) ∧ Fine er k n ∧ e = .returned (.tuple #[.int .i64 (k : Int), .int .i64 er])) ∧ (∃ fv' fl' st', DkAt w' base b D m pv fv' fl' st' ∧ fl'.length ≤ fl.length ∧ ∀ g, slB fv' = some g → slB fv = some g) ∧ KeepA (fun k => k = b) w w' := by
  obtain ⟨a, fn, fc, hfv, f1, f2, f3, f4⟩ := h.fts
  subst hfv
  -- what the row's writing leaves of the rest
  have rest : ∀ w', KeepA (fun k => k = b) w w' → ∀ (fv' : Value) (fl' : List Ft) (st' : Int), DkHd w' b D.size (.map (some m)) pv fv' st' → FtSl w' base fv' fl' → (∀ g, slB fv' = some g → slB (.slice a fn fc) = some g) → DkAt w' base b D m pv fv' fl' st' := fun w' hk fv' fl' st' hd hf hs => by
    obtain ⟨es, clock, q1, q2⟩ := h.map
    refine ⟨hd, h.hb, h.hm, h.mb, ⟨es, clock, (hk.same m (Array.getElem?_eq_some_iff.1 q1).1 h.mb).trans q1, q2⟩, own_keep hk h.pcs fun g hg e => h.pb.1 (by rw [hg, e]), h.pb, hf, fun g hg => h.fb g (hs g hg), h.size, h.sec, h.psec⟩
  cases fl with
  | nil =>
    subst f1
    refine (step_none w b D.size n (.map (some m)) pv st a fc h.hd).mono ?_
    rintro _ w' ⟨rfl, ⟨st', hd⟩, hk⟩
    exact ⟨⟨n, Nat.le_refl _, 0, fun _ => ⟨rfl, rfl⟩, Fine.all n, rfl⟩, ⟨_, [], st', rest w' hk _ _ _ hd (FtSl.keep hk h.fts fun g hg => (h.fb g hg).1) (fun g hg => hg), Nat.le_refl _, fun g hg => hg⟩, hk⟩
  | cons f r =>
    subst f1
    obtain ⟨g, o, ha, hlt, hi⟩ := f3.resolve_left (by simp)
    subst ha
    obtain ⟨t1, t2⟩ := RowsAt.tail (Q := FtAt w) f3
    have hgb := (h.fb g rfl).1
    refine (step_some w b D.size n g o r.length fc (.map (some m)) pv st f h.hd t1 hgb f2.1).mono ?_
    rintro _ w' ⟨⟨k, hk1, er, her, rfl⟩, ⟨st', hd⟩, hk⟩
    have f2' : r.length + 1 ≤ fc := f2.1
    obtain ⟨q1, q2, cur, q3, q4⟩ := f4 _ rfl
    dsimp only at q1 q3 q4
    have q3' : w'.heap[g]? = some (.cells cur 50 (0, 0)) := (hk.same g (Array.getElem?_eq_some_iff.1 q3).1 hgb).trans q3
    have hslb : ∀ g', slB (Value.slice (if fc = 1 then some ⟨g, o, none⟩ else some ⟨g, o + 2, none⟩) r.length (fc - 1)) = some g' → slB (.slice (some ⟨g, o, none⟩) (r.length + 1) fc) = some g' := fun g' hg' => by
      by_cases hc : fc = 1
      · rw [if_pos hc] at hg'; exact hg'
      · rw [if_neg hc] at hg'; exact hg'
    refine ⟨⟨k, hk1, er, fun h => (by simp at h), her, rfl⟩, ⟨_, r, st', rest w' hk _ _ _ hd ?_ hslb, by simp, hslb⟩, hk⟩
    · by_cases hc : fc = 1
      · rw [if_pos hc]
        have hr : r = [] := List.eq_nil_of_length_eq_zero (by omega)
        subst hr
        exact ⟨_, _, _, rfl, rfl, ⟨by omega, fun h => by cases h⟩, .inl rfl, fun ad had => by cases had; exact ⟨q1, rfl, cur, q3', by dsimp only; omega⟩⟩
      · rw [if_neg hc]
        exact ⟨_, _, _, rfl, rfl, ⟨by omega, fun h => by cases h⟩, rows_keep t2 hk.size (fun k => k = b) (fun ad had => by cases had; exact hgb) (fun b o x hb q => ⟨hk.cell q.1 hb, hk.cell q.2 hb⟩), fun ad had => by cases had; exact ⟨q1, rfl, cur, q3', by dsimp only; omega⟩⟩
end Go.Proofs.Ytagipfkgnobjlaa
