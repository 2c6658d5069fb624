/- A disk's small calls: none, asked, step. / Rows of structs as rows of cells; slices.Clone of fates. / Maps of sectors under numbers: what is looked up, what an entry's writing leaves. / disk.New. / Picks: is one below nought? The next one of a crash. / Long rows: a variable of many cells is made, its cells hidden; pieces are cloned. / A disk under a change of its own row; a step of any disk. / (*disk.Disk).Sync. / A piece is built, and a row of one piece is made, its cells hidden. -/
import Derived.Test.YtmbpacpkabbcgaaDkRow
import Derived.Test.YtmbpacpkabbcgaaRange
import Derived.MapKept
import Derived.Deep.RegionHeldLaw
import Derived.Deep.MidRow
import Derived.Laws.CopyOwn
import Derived.Great.BuildSlice
namespace Go.Proofs.Ytmbpacpkabbcgaa
open Go.RowKit

/-- A disk's own row. -/
def DkHd (w : World) (b size : Nat) (mv pv fv : Value) (st : Int) : Prop := RowAt w b 71 #[.int .i64 (size : Int), mv, pv, fv, .int .i64 st]
theorem DkHd.cells {w : World} {b size : Nat} {mv pv fv : Value} {st : Int} (h : DkHd w b size mv pv fv st) : w.cell? ⟨b, 0, none⟩ = some (.int .i64 (size : Int)) ∧ w.cell? ⟨b, 1, none⟩ = some mv ∧ w.cell? ⟨b, 2, none⟩ = some pv ∧ w.cell? ⟨b, 3, none⟩ = some fv ∧ w.cell? ⟨b, 4, none⟩ = some (.int .i64 st) :=
  ⟨h.cell 0, h.cell 1, h.cell 2, h.cell 3, h.cell 4⟩
theorem none_any (w : World) (b size : Nat) (mv pv fv : Value) (st : Int) (h : DkHd w b size mv pv fv st) (hs : 0 < size) :
    Calls Try.prog 37 #[.pointer (some ⟨b, 0, none⟩)] w fun e w' => e = .returned (.bool false) ∧ w' = w := by
  obtain ⟨c0, _⟩ := h.cells
  go_enter Try.func37, Try.ntmps37
  go_wp2
  go_ret
  refine ⟨?_, rfl⟩
  first | rfl | (congr 2; simp; omega)
/-- Are so many sectors there? -/
def askB (size : Nat) (at_ n : Int) : Bool := decide (0 ≤ at_) && (decide (at_ ≤ (size : Int)) && decide (n ≤ (size : Int) - at_))
theorem asked_any (w : World) (b size : Nat) (mv pv fv : Value) (st at_ n : Int) (h : DkHd w b size mv pv fv st) (hs : size ≤ 65536) :
    Calls Try.prog 49 #[.pointer (some ⟨b, 0, none⟩), .int .i64 at_, .int .i64 n] w fun e w' => e = .returned (.int .i64 (if askB size at_ n then 0 else 4)) ∧ w' = w := by
  obtain ⟨c0, _⟩ := h.cells
  by_cases h0 : 0 ≤ at_
  · by_cases h1 : at_ ≤ (size : Int)
    · by_cases h2 : n ≤ (size : Int) - at_
      · rw [show askB size at_ n = true by simp [askB, h0, h1, h2]]
        go_enter Try.func49, Try.ntmps49
        go_wp2
        go_ret
        exact ⟨rfl, rfl⟩
      · rw [show askB size at_ n = false by simp [askB, h2]]
        go_enter Try.func49, Try.ntmps49
        go_wp2
        go_ret
        exact ⟨rfl, rfl⟩
    · rw [show askB size at_ n = false by simp [askB, h1]]
      go_enter Try.func49, Try.ntmps49
      go_wp2
      go_ret
      exact ⟨rfl, rfl⟩
  · rw [show askB size at_ n = false by simp [askB, h0]]
    go_enter Try.func49, Try.ntmps49
    go_wp2
    go_ret
    exact ⟨rfl, rfl⟩
/-- A disk's fates: a slice of a row of its own. -/
def FtSl (w : World) (base : Nat) (v : Value) (fl : List Ft) : Prop :=
  ∃ a n c, v = .slice a n c ∧ n = fl.length ∧ (n ≤ c ∧ (a = none → c = 0)) ∧ RdFt w a fl ∧ (∀ ad, a = some ad → base ≤ ad.block ∧ ad.spot = none ∧ ∃ cur, w.heap[ad.block]? = some (.cells cur 68 (0, 0)) ∧ ad.off + c * 2 ≤ cur.size)
theorem RowsAt.tail {α : Type} {w : World} {b off k : Nat} {x : α} {l : List α} {Q : Nat → Nat → α → Prop} (h : RowsAt w (some ⟨b, off, none⟩) k (x :: l) Q) : Q b off x ∧ RowsAt w (some ⟨b, off + k, none⟩) k l Q := by
  rcases h with h | ⟨b', off', ha, hlt, hi⟩
  · cases h
  · cases ha
    refine ⟨by have := hi 0 (by simp); rw [Nat.zero_mul, Nat.add_zero] at this; exact this, .inr ⟨b, off + k, rfl, hlt, fun i hil => ?_⟩⟩
    have := hi (i + 1) (by simp; omega)
    rw [Nat.succ_mul] at this
    rw [show off + k + i * k = off + (i * k + k) by omega]
    exact this
/-- All went well, or the disk failed. -/
def Fine (er : Int) (k n : Nat) : Prop := (er = 0 ∧ k = n) ∨ er = 5
theorem Fine.all (n : Nat) : Fine 0 n n := .inl ⟨rfl, rfl⟩
theorem Fine.bad (k n : Nat) : Fine 5 k n := .inr rfl
theorem keep_grown {w w' : World} {b : Nat} (h : w.grownBy w' (some b)) : KeepA (fun k => k = b) w w' := ⟨h.os, h.tape, h.output, h.size, fun k hk hx => h.block k hk fun e => hx (Option.some.inj e)⟩
set_option maxRecDepth 100000 in
theorem step_none (w : World) (b size n : Nat) (mv pv : Value) (st : Int) (a : Option Addr) (c : Nat) (h : DkHd w b size mv pv (.slice a 0 c) st) :
    Calls Try.prog 50 #[.pointer (some ⟨b, 0, none⟩), .int .i64 (n : Int)] w fun e w' => e = .returned (.tuple #[.int .i64 (n : Int), .int .i64 0]) ∧ (∃ st', DkHd w' b size mv pv (.slice a 0 c) st') ∧ KeepA (fun k => k = b) w w' := by
  obtain ⟨c0, c1, c2, c3, c4⟩ := h.cells
  have hf := h.frozen 4
  go_enter Try.func50, Try.ntmps50
  go_wp2
  go_ret2
  exact ⟨rfl, ⟨_, h.set 4 _⟩, keep_grown (grown_setCell _ _ _)⟩
/-- A fate's box is made, the row is written twice. -/
theorem step_world {w : World} {b size : Nat} {mv pv fv fv2 : Value} {st st2 : Int} (h : DkHd w b size mv pv fv st) (o : Obj) :
    DkHd (((w.setCell ⟨b, 4, none⟩ (.int .i64 st2)).setCell ⟨b, 3, none⟩ fv2).alloc o) b size mv pv fv2 st2 ∧ KeepA (fun k => k = b) w (((w.setCell ⟨b, 4, none⟩ (.int .i64 st2)).setCell ⟨b, 3, none⟩ fv2).alloc o) := by
  have h1 := ((h.set 4 (.int .i64 st2)).set 3 fv2)
  refine ⟨h1.below (below_alloc o), ?_⟩
  have k1 := keep_grown (grown_setCell w ⟨b, 4, none⟩ (.int .i64 st2))
  have k2 := keep_grown (grown_setCell (w.setCell ⟨b, 4, none⟩ (.int .i64 st2)) ⟨b, 3, none⟩ fv2)
  have k3 : KeepA (fun k => k = b) ((w.setCell ⟨b, 4, none⟩ (.int .i64 st2)).setCell ⟨b, 3, none⟩ fv2) (((w.setCell ⟨b, 4, none⟩ (.int .i64 st2)).setCell ⟨b, 3, none⟩ fv2).alloc o) := ⟨rfl, rfl, rfl, by simp, fun k hk _ => Below.heap_alloc _ o k hk⟩
  exact (k1.trans k2).trans k3
set_option maxRecDepth 100000 in
theorem step_some (w : World) (b size n g o m c : Nat) (mv pv : Value) (st : Int) (f : Ft) (h : DkHd w b size mv pv (.slice (some ⟨g, o, none⟩) (m + 1) c) st) (hf : FtAt w g o f) (hg : g ≠ b) (_hc : m + 1 ≤ c) :
    Calls Try.prog 50 #[.pointer (some ⟨b, 0, none⟩), .int .i64 (n : Int)] w fun e w' => (∃ k : Nat, k ≤ n ∧ ∃ er : Int, Fine er k n ∧ e = .returned (.tuple #[.int .i64 (k : Int), .int .i64 er])) ∧ (∃ st', DkHd w' b size mv pv (.slice (if c = 1 then some ⟨g, o, none⟩ else some ⟨g, o + 2, none⟩) m (c - 1)) st') ∧ KeepA (fun k => k = b) w w' := by
  obtain ⟨x, y⟩ := f
  obtain ⟨c0, c1, c2, c3, c4⟩ := h.cells
  obtain ⟨f0, f1⟩ := hf
  dsimp only at f0 f1
  have hf4 := h.frozen 4
  have hf3 := h.frozen 3
  have hlt := h.lt
  have HH := Lib.hid h
  clear h
  by_cases h0 : x = 0
  · subst h0
    go_enter Try.func50, Try.ntmps50
    go_wp2
    all_goals go_ret2
    all_goals (obtain ⟨q1, q2⟩ := step_world HH.out _; exact ⟨⟨n, Nat.le_refl _, _, Fine.all n, rfl⟩, ⟨_, q1⟩, q2⟩)
  · go_enter Try.func50, Try.ntmps50
    go_wp2
    all_goals go_ret2
    all_goals
      obtain ⟨q1, q2⟩ := step_world HH.out _
      refine ⟨?_, ⟨_, q1⟩, q2⟩
      first
        | exact ⟨n, Nat.le_refl _, _, Fine.bad _ _, rfl⟩
        | exact ⟨0, Nat.zero_le _, _, Fine.bad _ _, rfl⟩
        | exact ⟨y.toNat, by omega, _, Fine.bad _ _, by rw [Int.toNat_of_nonneg (by omega)]; rfl⟩
end Go.Proofs.Ytmbpacpkabbcgaa
namespace Go.Proofs.Ytmbpacpkabbcgaa
open Go.RowKit

section
variable {α : Type} {C : α → List Value} {k : Nat}
theorem flat_len (hC : ∀ x, (C x).length = k) (l : List α) : (l.flatMap C).length = l.length * k := by
  induction l with
  | nil => simp
  | cons x r ih => rw [List.flatMap_cons, List.length_append, hC, ih, List.length_cons, Nat.succ_mul]; omega
theorem flat_get (hC : ∀ x, (C x).length = k) : ∀ (l : List α) (i : Nat) (h : i < l.length) (j : Nat) (v : Value), (C l[i])[j]? = some v → (l.flatMap C)[i * k + j]? = some v
  | [], i, h, _, _, _ => by simp at h
  | x :: r, 0, h, j, v, hv => by
    rw [List.flatMap_cons, Nat.zero_mul, Nat.zero_add]
    have hj : j < (C x).length := (List.getElem?_eq_some_iff.1 hv).1
    rw [List.getElem?_append_left hj]
    exact hv
  | x :: r, i + 1, h, j, v, hv => by
    rw [List.flatMap_cons, List.getElem?_append_right (by rw [hC, Nat.succ_mul]; omega), hC, show (i + 1) * k + j - k = i * k + j by rw [Nat.succ_mul]; omega]
    exact flat_get hC r i (by simpa using h) j v (by simpa using hv)
/-- A row of structs, cell by cell. -/
def CellsAt (w : World) (C : α → List Value) (b o : Nat) (x : α) : Prop := ∀ j v, (C x)[j]? = some v → w.cell? ⟨b, o + j, none⟩ = some v
theorem rows_of_rd {w : World} {a : Option Addr} {l : List α} (hC : ∀ x, (C x).length = k) (hk : 0 < k) (h : Rd w a (l.flatMap C)) : RowsAt w a k l (CellsAt w C) := by
  rcases h with h | ⟨b, off, ha, hlt, hi⟩
  · refine .inl ?_
    have := flat_len hC l
    rw [h] at this
    simp only [List.length_nil] at this
    exact List.eq_nil_of_length_eq_zero (by rcases Nat.mul_eq_zero.1 this.symm with h | h <;> omega)
  · refine .inr ⟨b, off, ha, hlt, fun i h j v hv => ?_⟩
    obtain ⟨hj, he⟩ := List.getElem?_eq_some_iff.1 (flat_get hC l i h j v hv)
    rw [← he, Nat.add_assoc]
    exact hi _ hj
theorem rd_of_rows {w : World} {a : Option Addr} {l : List α} (hC : ∀ x, (C x).length = k) (hk : 0 < k) (h : RowsAt w a k l (CellsAt w C)) : Rd w a (l.flatMap C) := by
  rcases h with h | ⟨b, off, ha, hlt, hi⟩
  · exact .inl (by rw [h]; rfl)
  · refine .inr ⟨b, off, ha, hlt, fun i h => ?_⟩
    have hl := flat_len hC l
    have hdiv : i / k < l.length := by rw [hl] at h; exact Nat.div_lt_of_lt_mul (by rw [Nat.mul_comm]; exact h)
    have hmod : i % k < (C l[i / k]).length := by rw [hC]; exact Nat.mod_lt _ hk
    have h1 := hi (i / k) hdiv (i % k) _ (List.getElem?_eq_getElem hmod)
    have h2 := flat_get hC l (i / k) hdiv (i % k) _ (List.getElem?_eq_getElem hmod)
    have e : i / k * k + i % k = i := by rw [Nat.mul_comm]; exact Nat.div_add_mod i k
    rw [e] at h2
    rw [Nat.add_assoc, e] at h1
    rw [h1, ← h2]
    exact List.getElem?_eq_getElem h
end
def ftC (f : Ft) : List Value := [.int .i64 f.kind, .int .i64 f.keep]
theorem ftC_len (f : Ft) : (ftC f).length = 2 := rfl
theorem ft_rd {w : World} {a : Option Addr} {l : List Ft} (h : RdFt w a l) : Rd w a (l.flatMap ftC) := by
  refine rd_of_rows ftC_len (by omega) (RowsAt.imp h (Nat.le_refl _) fun b o f _ hf j v hv => ?_)
  match j, hv with
  | 0, hv => cases hv; exact hf.1
  | 1, hv => cases hv; exact hf.2
  | j + 2, hv => simp [ftC] at hv
theorem rd_ft {w : World} {a : Option Addr} {l : List Ft} (h : Rd w a (l.flatMap ftC)) : RdFt w a l :=
  RowsAt.imp (rows_of_rd ftC_len (by omega) h) (Nat.le_refl _) fun _ _ _ _ hf => ⟨hf 0 _ rfl, hf 1 _ rfl⟩
theorem eltFt : Elt Try.prog 42 68 2 16 (.agg #[.int .i64 0, .int .i64 0]) := ⟨Try.underlying42, by kernel_rfl, by kernel_rfl, by decide⟩
theorem ft_of_own {w : World} {base : Nat} {v : Value} {n : Nat} {l : List Ft} (h : w.ownsRow base 68 2 v n (l.flatMap ftC)) (hn : n = l.length) : FtSl w base v l := by
  obtain ⟨a, cap, hv, hc, hr⟩ := Rd.of_own h
  refine ⟨a, n, cap, hv, hn, ⟨hc, fun ha => ?_⟩, rd_ft hr, fun ad ha => ?_⟩
  · rcases h.2 with ⟨h0, _⟩ | ⟨g, cap2, cur, h1, _⟩
    · rw [hv] at h0; cases h0; rfl
    · rw [hv, ha] at h1; cases h1
  rcases h.2 with ⟨h0, _⟩ | ⟨g, cap2, cur, h1, hbg, hg, _, _, hcs, _⟩
  · rw [hv, ha] at h0; cases h0
  · rw [hv] at h1
    cases h1
    cases ha
    exact ⟨hbg, rfl, cur, hg, by dsimp only; omega⟩
theorem FtSl.nil (w : World) (base : Nat) : FtSl w base (.slice none 0 0) [] := ⟨none, 0, 0, rfl, rfl, ⟨Nat.le_refl _, fun _ => rfl⟩, .inl rfl, fun _ h => by cases h⟩
set_option maxHeartbeats 400000 in
theorem ftclone_any (a : Option Addr) (l : List Ft) (n cap : Nat) (w : World) (hn : n = l.length) (hb : n ≤ 1000000) (hl : RdFt w a l) :
    Calls Try.prog 24 #[.slice a n cap] w fun e w' => (∃ v, e = .returned v ∧ v.oneCell' = true ∧ FtSl w' w.heap.size v l) ∧ Below w.heap.size w w' := by
  have hnil := fun w a l c => Lib.run_eql_slice_nil (P := Try.prog) w 42 68 a l c 0 0 Try.underlying42
  cases a with
  | none =>
    obtain rfl : l = [] := by
      rcases hl with h | ⟨b, off, ha, _⟩
      · exact h
      · cases ha
    clear hl
    go_enter Try.func24, Try.ntmps24
    go_wp2
    go_ret
    exact ⟨⟨_, rfl, rfl, FtSl.nil _ _⟩, Below.refl _ _⟩
  | some ad =>
    have hk : Rd (w.alloc (.cells #[] 68)) (some ad) (l.flatMap ftC) := (ft_rd hl).mono (below_alloc _)
    have ho : (w.alloc (.cells #[] 68)).ownsRow w.heap.size 68 2 (.slice (some ⟨w.heap.size, 0, none⟩) 0 0) 0 [] := World.ownsRow_lit w #[] 0 (Nat.le_refl _) (by decide) rfl
    have HK := Lib.hid hk
    have HO := Lib.hid ho
    have HN := Lib.hid hn
    have HL := Lib.hid (flat_len ftC_len l)
    have H1 : Hid (∀ u ∈ l.flatMap ftC, u.oneCell' = true) := fun u hu => by
      obtain ⟨f, _, hf⟩ := List.mem_flatMap.1 hu
      simp only [ftC, List.mem_cons, List.not_mem_nil, or_false] at hf
      rcases hf with rfl | rfl <;> rfl
    clear hk ho hn hl
    go_enter Try.func24, Try.ntmps24
    go_wp2_with (at_builtin; refine step_append rfl (.tmp 5) (.tmp 6) rfl eltFt w.heap.size _ 0 [] rfl _ _ _ (l.flatMap ftC) rfl HO.out (by rw [HL.out, HN.out]) HK.out H1.out (by omega) (by omega) (by simp) ?_; intro v' w' h1 h2 h3)
    go_ret
    refine ⟨⟨_, rfl, ?_, ft_of_own (by simpa using h1) HN.out⟩, below_grown (below_alloc _) h2 (by simp) (by intro k hk; have := Option.some.inj (show some w.heap.size = some k from hk); omega)⟩
    obtain ⟨_, _, hv, _⟩ := Rd.of_own h1
    rw [hv]; rfl
end Go.Proofs.Ytmbpacpkabbcgaa
namespace Go.Proofs.Ytmbpacpkabbcgaa
open Go.RowKit

/-- A sector's cells; a sector of noughts. -/
def secV (s : List UInt8) : Value := .agg (s.map bv).toArray
def nought : List UInt8 := List.replicate 512 0
/-- A map of sectors tells what lasts: what it does not have is noughts. -/
def MapIs (clock : Nat) (es : List MapEntry) (last : Int → List UInt8) : Prop :=
  (∀ e ∈ es, ∃ k, e.key = .int .i64 k ∧ e.val = secV (last k)) ∧ (∀ k, (∀ e ∈ es, e.key ≠ .int .i64 k) → last k = nought) ∧ (∀ (i j : Nat) (a b : MapEntry), es[i]? = some a → es[j]? = some b → a.key = b.key → i = j) ∧ ∀ e ∈ es, e.born < clock
theorem MapIs.nil (c : Nat) : MapIs c [] (fun _ => nought) := ⟨(fun e h => by cases h), (fun _ _ => rfl), (fun i j a b h => by simp at h), (fun e h => by cases h)⟩
theorem findNow_int {k : Int} : ∀ (es : List MapEntry) (i : Nat), (∀ e ∈ es, ∃ j, e.key = .int .i64 j) →
    (∃ n v, Instr.findNow (.int .i64) (.int .i64 k) es i = some (some (i + n, v)) ∧ ∃ e, es[n]? = some e ∧ e.key = .int .i64 k ∧ e.val = v) ∨ (Instr.findNow (.int .i64) (.int .i64 k) es i = some none ∧ ∀ e ∈ es, e.key ≠ .int .i64 k)
  | [], i, _ => .inr ⟨rfl, fun e h => by cases h⟩
  | e :: r, i, h => by
    obtain ⟨j, hj⟩ := h e List.mem_cons_self
    by_cases hk : k = j
    · subst hk
      refine .inl ⟨0, e.val, ?_, e, rfl, hj, rfl⟩
      simp [Instr.findNow, Instr.sameNow, hj]
    · have hs : Instr.sameNow (.int .i64) (.int .i64 k) e.key = some false := by
        rw [hj]
        simp [Instr.sameNow, hk]
      rcases findNow_int r (i + 1) fun e he => h e (List.mem_cons_of_mem _ he) with ⟨n, v, h1, e', h2, h3, h4⟩ | ⟨h1, h2⟩
      · refine .inl ⟨n + 1, v, ?_, e', by simpa using h2, h3, h4⟩
        simp only [Instr.findNow, hs]
        rw [h1, show i + 1 + n = i + (n + 1) by omega]
      · refine .inr ⟨?_, fun e' he' => ?_⟩
        · simp only [Instr.findNow, hs]
          exact h1
        · rcases List.mem_cons.1 he' with rfl | he'
          · rw [hj]; intro e; exact hk (by cases e; rfl)
          · exact h2 e' he'
theorem zero_sector : (Try.prog.info? 84).map (·.zero) = some (some (secV nought)) := by kernel_rfl
theorem run_zero (w : World) : (zeroValue 84).run Try.prog w = .ok (secV nought) w := by
  have hz := zero_sector
  cases hq : Try.prog.info? 84 with
  | none => rw [hq] at hz; cases hz
  | some i =>
    rw [hq] at hz
    have hz : i.zero = some (secV nought) := Option.some.inj hz
    simp [zeroValue, typeInfo, Sem.run_bind, hq, hz]
theorem key_int (b : Bool) (k : Int) (w : World) : (Instr.checkKey b 10000 3 (.int .i64 k)).run Try.prog w = .ok () w := by
  show (Instr.checkKey b (9999 + 1) 3 (.int .i64 k)).run Try.prog w = _
  unfold Instr.checkKey
  rw [Sem.run_bind, run_underlying Try.underlying3]
  rfl
theorem drun_getMap {w : World} {r : Nat} {es : Array MapEntry} {clock : Nat} (h : w.heap[r]? = some (.map es clock)) : (getObj r).run Try.prog w = .ok (.map es clock) w := by
  simp [getObj, Sem.run, h]
theorem lookup_run {w : World} {m : Nat} {es : Array MapEntry} {clock : Nat} {last : Int → List UInt8} (h : w.heap[m]? = some (.map es clock)) (hm : MapIs clock es.toList last) (k : Int) :
    (Instr.lookup 64 (.map (some m)) (.int .i64 k) false).run Try.prog w = .ok (secV (last k)) w := by
  have hi : ∀ e ∈ es.toList, ∃ j, e.key = .int .i64 j := fun e he => let ⟨j, h1, _⟩ := hm.1 e he; ⟨j, h1⟩
  unfold Instr.lookup
  rw [Sem.run_bind, run_underlying Try.underlying64, Result.andThen_ok]
  dsimp only
  simp only [Sem.run_bind, Sem.run_pure, Result.andThen_ok, drun_getMap h, key_int]
  rcases findNow_int (k := k) es.toList 0 hi with ⟨n, v, h1, e, h2, h3, h4⟩ | ⟨h1, h2⟩
  · rw [MapKept.run_findKey Try.underlying3 h1]
    obtain ⟨j, h5, h6⟩ := hm.1 e (List.mem_of_getElem? h2)
    rw [h3] at h5
    cases h5
    rw [← h4, h6]
    rfl
  · rw [MapKept.run_findKey Try.underlying3 h1]
    rw [hm.2.1 k h2]
    simp only [Result.andThen_ok, Sem.run_bind, run_zero, Sem.run_pure, Bool.false_eq_true, if_false]
/-- An entry is written. -/
theorem update_run {w : World} {m : Nat} {es : Array MapEntry} {clock : Nat} {last : Int → List UInt8} (h : w.heap[m]? = some (.map es clock)) (hm : MapIs clock es.toList last) (k : Int) (s : List UInt8) :
    ∃ (es' : Array MapEntry) (clock' : Nat), (Instr.mapUpdate 64 (.map (some m)) (.int .i64 k) (secV s)).run Try.prog w = .ok () { w with heap := w.heap.setIfInBounds m (.map es' clock') } ∧ MapIs clock' es'.toList (fun j => if j = k then s else last j) := by
  have hi : ∀ e ∈ es.toList, ∃ j, e.key = .int .i64 j := fun e he => let ⟨j, h1, _⟩ := hm.1 e he; ⟨j, h1⟩
  rcases findNow_int (k := k) es.toList 0 hi with ⟨n, v, h1, e, h2, h3, h4⟩ | ⟨h1, h2⟩
  · have hn : n < es.size := by have := (List.getElem?_eq_some_iff.1 h2).1; simpa using this
    refine ⟨es.modify n fun e => { e with key := .int .i64 k, val := secV s }, clock, ?_, ?_⟩
    · unfold Instr.mapUpdate
      rw [Sem.run_bind, run_underlying Try.underlying64, Result.andThen_ok]
      dsimp only
      simp only [Sem.run_bind, Result.andThen_ok, drun_getMap h, key_int, MapKept.run_findKey Try.underlying3 h1]
      rw [Nat.zero_add]
      have he : es[n]? = some e := by simpa using h2
      have hk : (Instr.keyThatStays (((es[n]?).map (·.key)).getD (.int .i64 k)) (.int .i64 k)).run Try.prog w = .ok (.int .i64 k) w := by
        rw [he]
        simp only [Option.map_some, Option.getD_some, h3]
        unfold Instr.keyThatStays
        rw [if_pos (by simp [Instr.sameBits])]
        rfl
      rw [hk, Result.andThen_ok]
      exact MapKept.run_setObj_map _ h
    · rw [Array.toList_modify]
      have hat : ∀ (i : Nat) (a : MapEntry), (es.toList.modify n fun e => { e with key := .int .i64 k, val := secV s })[i]? = some a → (i = n ∧ a = { e with key := .int .i64 k, val := secV s }) ∨ (i ≠ n ∧ es.toList[i]? = some a) := fun i a ha => by
        rw [List.getElem?_modify] at ha
        by_cases hin : n = i
        · subst hin
          rw [h2] at ha
          have ha : some (if n = n then { e with key := .int .i64 k, val := secV s } else e) = some a := ha
          rw [if_pos rfl] at ha
          exact .inl ⟨rfl, (Option.some.inj ha).symm⟩
        · simp only [if_neg hin] at ha
          refine .inr ⟨fun e => hin e.symm, ?_⟩
          cases hg : es.toList[i]? with
          | none => rw [hg] at ha; cases ha
          | some b => rw [hg] at ha; exact ha
      have hkey : ∀ (i : Nat) (a : MapEntry), i ≠ n → es.toList[i]? = some a → a.key ≠ .int .i64 k := fun i a hin ha hh => hin (hm.2.2.1 i n a e ha h2 (by rw [hh, h3]))
      refine ⟨fun a ha => ?_, fun j hj => ?_, fun i j a b ha hb hab => ?_, fun a ha => ?_⟩
      rotate_left 3
      · obtain ⟨i, hi2⟩ := List.mem_iff_getElem?.1 ha
        rcases hat i a hi2 with ⟨_, rfl⟩ | ⟨hin, ha2⟩
        · exact hm.2.2.2 e (List.mem_of_getElem? h2)
        · exact hm.2.2.2 a (List.mem_of_getElem? ha2)
      · obtain ⟨i, hi2⟩ := List.mem_iff_getElem?.1 ha
        rcases hat i a hi2 with ⟨_, rfl⟩ | ⟨hin, ha2⟩
        · exact ⟨k, rfl, by show secV s = secV (if k = k then s else last k); rw [if_pos rfl]⟩
        · obtain ⟨j, h5, h6⟩ := hm.1 a (List.mem_of_getElem? ha2)
          refine ⟨j, h5, ?_⟩
          have hjk : j ≠ k := fun hh => hkey i a hin ha2 (by rw [h5, hh])
          show a.val = secV (if j = k then s else last j)
          rw [if_neg hjk]; exact h6
      · have hne := hj { e with key := .int .i64 k, val := secV s } (by
          refine List.mem_of_getElem? (i := n) ?_
          rw [List.getElem?_modify, h2]
          simp)
        have hjk : j ≠ k := fun hh => hne (by rw [hh])
        show (if j = k then s else last j) = nought
        rw [if_neg hjk]
        refine hm.2.1 j fun a ha => ?_
        obtain ⟨i, hi2⟩ := List.mem_iff_getElem?.1 ha
        by_cases hin : i = n
        · subst hin
          rw [h2] at hi2
          cases hi2
          rw [h3]
          intro hh
          cases hh
          exact hjk rfl
        · refine hj a (List.mem_of_getElem? (i := i) ?_)
          rw [List.getElem?_modify, hi2]
          simp [Ne.symm hin]
      · rcases hat i a ha with ⟨rfl, rfl⟩ | ⟨hin, ha2⟩ <;> rcases hat j b hb with ⟨rfl, rfl⟩ | ⟨hjn, hb2⟩
        · rfl
        · exact absurd hab.symm (hkey j b hjn hb2)
        · exact absurd hab (hkey i a hin ha2)
        · exact hm.2.2.1 i j a b ha2 hb2 hab
  · refine ⟨es.push { key := .int .i64 k, val := secV s, born := clock }, clock + 1, ?_, ?_⟩
    · unfold Instr.mapUpdate
      rw [Sem.run_bind, run_underlying Try.underlying64, Result.andThen_ok]
      dsimp only
      simp only [Sem.run_bind, Result.andThen_ok, drun_getMap h, key_int, MapKept.run_findKey Try.underlying3 h1]
      exact MapKept.run_setObj_map _ h
    · rw [Array.toList_push]
      refine ⟨fun e he => ?_, fun j hj => ?_, fun i j a b ha hb hab => ?_, fun e he => ?_⟩
      rotate_left 3
      · rcases List.mem_append.1 he with he | he
        · exact Nat.lt_succ_of_lt (hm.2.2.2 e he)
        · obtain rfl := List.mem_singleton.1 he
          exact Nat.lt_succ_self _
      · rcases List.mem_append.1 he with he | he
        · obtain ⟨j, h5, h6⟩ := hm.1 e he
          refine ⟨j, h5, ?_⟩
          have hjk : j ≠ k := fun hh => h2 e he (by rw [h5, hh])
          show e.val = secV (if j = k then s else last j)
          rw [if_neg hjk]; exact h6
        · obtain rfl := List.mem_singleton.1 he
          exact ⟨k, rfl, by show secV s = secV (if k = k then s else last k); rw [if_pos rfl]⟩
      · have hne := hj _ (List.mem_append_right _ (List.mem_singleton.2 rfl))
        have hjk : j ≠ k := fun hh => hne (by rw [hh])
        show (if j = k then s else last j) = nought
        rw [if_neg hjk]
        exact hm.2.1 j fun e he => hj e (List.mem_append_left _ he)
      · have hlast : ∀ (i : Nat) (a : MapEntry), (es.toList ++ [{ key := .int .i64 k, val := secV s, born := clock }])[i]? = some a → es.toList[i]? = some a ∨ (i = es.toList.length ∧ a.key = .int .i64 k) := fun i a ha => by
          by_cases hil : i < es.toList.length
          · rw [List.getElem?_append_left hil] at ha; exact .inl ha
          · rw [List.getElem?_append_right (by omega)] at ha
            have h0 : i - es.toList.length = 0 := by
              have := (List.getElem?_eq_some_iff.1 ha).1
              simp at this
              simp
              omega
            rw [h0] at ha
            cases ha
            exact .inr ⟨by omega, rfl⟩
        rcases hlast i a ha with ha2 | ⟨rfl, ha2⟩ <;> rcases hlast j b hb with hb2 | ⟨rfl, hb2⟩
        · exact hm.2.2.1 i j a b ha2 hb2 hab
        · exact absurd (hab.trans hb2) (h2 a (List.mem_of_getElem? ha2))
        · exact absurd (hab.symm.trans ha2) (h2 b (List.mem_of_getElem? hb2))
        · rfl
end Go.Proofs.Ytmbpacpkabbcgaa
namespace Go.Proofs.Ytmbpacpkabbcgaa
open Go.RowKit

/-- A disk. Which steps fail is no matter here: the fates are some. -/
structure DK where
  size : Nat
  last : Int → List UInt8
  pcs : List (Int × List UInt8)
def pcC (p : Int × List UInt8) : List Value := .int .i64 p.1 :: p.2.map bv
/-- A slice's block. -/
def slB : Value → Option Nat
  | .slice (some ad) _ _ => some ad.block
  | _ => none
theorem FtSl.low {w : World} {base base' : Nat} {v : Value} {l : List Ft} (h : FtSl w base v l) (hb : base' ≤ base) : FtSl w base' v l := by
  obtain ⟨a, n, c, h1, h2, h3, h4, h5⟩ := h
  exact ⟨a, n, c, h1, h2, h3, h4, fun ad ha => ⟨Nat.le_trans hb (h5 ad ha).1, (h5 ad ha).2⟩⟩
theorem FtSl.blk {w : World} {base : Nat} {v : Value} {l : List Ft} (h : FtSl w base v l) {g : Nat} (hg : slB v = some g) : base ≤ g ∧ g < w.heap.size := by
  obtain ⟨a, n, c, rfl, h2, h3, h4, h5⟩ := h
  cases a with
  | none => cases hg
  | some ad =>
    cases hg
    obtain ⟨q1, _, cur, q2, _⟩ := h5 ad rfl
    exact ⟨q1, (Array.getElem?_eq_some_iff.1 q2).1⟩
theorem FtSl.later {w w' : World} (hb : Below w.heap.size w w') {base : Nat} {v : Value} {l : List Ft} (h : FtSl w base v l) : FtSl w' base v l := by
  obtain ⟨a, n, c, h1, h2, h3, h4, h5⟩ := h
  refine ⟨a, n, c, h1, h2, h3, h4.later hb, fun ad ha => ?_⟩
  obtain ⟨q1, q2, cur, q3, q4⟩ := h5 ad ha
  exact ⟨q1, q2, cur, (hb.block _ (Array.getElem?_eq_some_iff.1 q3).1).trans q3, q4⟩
structure DkAt (w : World) (base b : Nat) (D : DK) (m : Nat) (pv fv : Value) (fl : List Ft) (st : Int) : Prop where
  hd : DkHd w b D.size (.map (some m)) pv fv st
  hb : base ≤ b
  hm : base ≤ m
  mb : m ≠ b
  map : ∃ es clock, w.heap[m]? = some (.map es clock) ∧ MapIs clock es.toList D.last
  pcs : w.ownsRow base 87 513 pv D.pcs.length (D.pcs.flatMap pcC)
  pb : pv.ownBlock ≠ some b ∧ pv.ownBlock ≠ some m
  fts : FtSl w base fv fl
  fb : ∀ g, slB fv = some g → g ≠ b ∧ g ≠ m ∧ pv.ownBlock ≠ some g
  size : 0 < D.size ∧ D.size ≤ 65536
  sec : ∀ k, (D.last k).length = 512
  psec : ∀ p ∈ D.pcs, 0 ≤ p.1 ∧ p.1 < D.size ∧ p.2.length = 512
/-- A disk lies there, all its own from a block on. -/
def IsDk (w : World) (base b : Nat) (D : DK) (F : Nat) : Prop := ∃ m pv fv fl st, DkAt w base b D m pv fv fl st ∧ fl.length ≤ F
theorem step_makeMap {P : Program} {ops : Array Oper} {rest : List Oper} {o : Oper} {act : Act} {Q : Exit → Act → World → Prop} {w : World} (hgd : o.guard = none) (t : TypeId) (ho : o.op = .makeMap t none)
    (h : wpList P ops Q rest (act.put o.dst (.map (some w.heap.size))) (w.alloc (.map #[] 0))) : wpList P ops Q (o :: rest) act w :=
  wpList_plain hgd fun K hK => by
    unfold Oper.wp execOp
    simp only [ho]
    exact hK _ _ h
set_option maxRecDepth 100000 in
theorem new_any (a : Option Addr) (l : List Ft) (n cap : Nat) (size : Nat) (w : World) (hn : n = l.length) (hb : n ≤ 1000000) (hl : RdFt w a l) (hs : 0 < size) (hs2 : size ≤ 65536) (hok : l.all Ft.ok = true) :
    Calls Try.prog 5 #[.int .i64 (size : Int), .slice a n cap] w fun e w' => (∃ b, e = .returned (.tuple #[.pointer (some ⟨b, 0, none⟩), .int .i64 0]) ∧ IsDk w' w.heap.size b ⟨size, fun _ => nought, []⟩ l.length) ∧ Below w.heap.size w w' := by
  have H1 := Lib.hid (fun w hl => right_any a l n cap w (Lib.hid hn) (by omega) hl)
  rw [hok] at H1
  have H2 := Lib.hid (fun w hl => ftclone_any a l n cap w hn hb hl)
  have HL := Lib.hid hl
  clear hl hn hok
  go_enter Try.func5, Try.ntmps5
  go_wp2_with fail
  refine (H1.out _ HL.out).mono ?_
  rintro _ w1 ⟨rfl, hbw⟩
  have HB1 := Lib.hid hbw
  have HL1 := Lib.hid ((HL.out.later hbw).later (below_alloc (.map #[] 0)))
  clear hbw
  go_wp2_with (refine step_makeMap rfl 64 rfl ?_)
  refine (H2.out _ HL1.out).mono ?_
  rintro _ w2 ⟨⟨v, rfl, q0, hft⟩, hbw⟩
  have HB2 := Lib.hid hbw
  have HFT := Lib.hid hft
  obtain ⟨fa, fn, fc, rfl, q1, q2, q3, q4⟩ := hft
  clear q0 q1 q2 q3 q4
  have hs3 := hbw.size
  rw [World.size_alloc] at hs3
  have hs4 := HB1.out.size
  clear hbw
  go_wp2_with fail
  go_ret2
  obtain ⟨W, hW⟩ : ∃ W, w2.alloc (.cells #[.int .i64 (size : Int), .map (some w1.heap.size), .slice none 0 0, .slice fa fn fc, .int .i64 0] 71) = W := ⟨_, rfl⟩
  have hWB : Below w2.heap.size w2 W := by rw [← hW]; exact below_alloc _
  refine ⟨⟨w2.heap.size, rfl, w1.heap.size, .slice none 0 0, .slice fa fn fc, l, 0, ?_, Nat.le_refl _⟩, ?_⟩
  · rw [hW]
    have hm : (w1.alloc (.map #[] 0)).heap[w1.heap.size]? = some (.map #[] 0) := heap_alloc_new w1 _
    have hft : ∀ g, slB (.slice fa fn fc) = some g → w1.heap.size + 1 ≤ g ∧ g < w2.heap.size := fun g hg => by have := HFT.out.blk hg; rw [World.size_alloc] at this; exact this
    refine ⟨by rw [← hW]; exact RowAt.new _ _ _, by omega, by omega, by omega, ⟨#[], 0, ?_, MapIs.nil _⟩, World.ownsRow_nil _ _ _ _, ⟨by simp [Value.ownBlock], by simp [Value.ownBlock]⟩, (HFT.out.later hWB).low (by rw [World.size_alloc]; omega), fun g hg => ?_, ⟨hs, hs2⟩, fun k => by simp [nought], fun p hp => by cases hp⟩
    · rw [hWB.block _ (by omega), HB2.out.block _ (by rw [World.size_alloc]; omega)]
      exact hm
    · have := hft g hg
      exact ⟨by omega, by omega, by simp [Value.ownBlock]⟩
  · rw [hW]
    exact ((HB1.out.trans ((below_alloc _).mono (by omega))).trans (HB2.out.mono (by rw [World.size_alloc]; omega))).trans (hWB.mono (by omega))
end Go.Proofs.Ytmbpacpkabbcgaa
namespace Go.Proofs.Ytmbpacpkabbcgaa
open Go.RowKit

def RdI (w : World) (a : Option Addr) (l : List Int) : Prop := Rd w a (l.map (Value.int .i64))
theorem RdI.later {w w' : World} (hb : Below w.heap.size w w') {a : Option Addr} {l : List Int} (h : RdI w a l) : RdI w' a l := Rd.mono h hb
theorem RdI.at {w : World} {a : Option Addr} {l : List Int} (h : RdI w a l) (hl : 0 < l.length) : ∃ b off, a = some ⟨b, off, none⟩ ∧ b < w.heap.size ∧ ∀ k (h : k < l.length), w.cell? ⟨b, off + k, none⟩ = some (.int .i64 l[k]) := by
  rcases h with h | ⟨b, off, ha, hlt, hc⟩
  · have := congrArg List.length h
    simp at this
    subst this
    simp at hl
  · exact ⟨b, off, ha, hlt, fun k hk => by have := hc k (by simpa using hk); simpa using this⟩
theorem below_any (x : Int) (w : World) : Calls Try.prog 44 #[.int .i64 x] w fun e w' => e = .returned (.bool (decide (x < 0))) ∧ w' = w := by
  go_enter Try.func44, Try.ntmps44
  go_wp2
  go_ret
  exact ⟨rfl, rfl⟩
set_option maxRecDepth 100000 in
theorem pickindex_any (a : Option Addr) (l : List Int) (n cap : Nat) (w : World) (hn : Hid (n = l.length)) (hn2 : n ≤ 9223372036854775807) (hl : RdI w a l) :
    Calls Try.prog 58 #[.slice a n cap, .func (.func 44) #[] #[]] w fun e w' =>
      (∃ i : Int, e = .returned (.int .i64 i) ∧ ((0 ≤ i) ↔ l.all (fun x => decide (0 ≤ x)) = false)) ∧ w' = w := by
  have HL := Lib.hid hl
  clear hl
  go_enter Try.func58, Try.ntmps58
  go_wp2
  go_loopw [8] (fun i wr => wr = w ∧ ∃ k : Nat, k ≤ n ∧ i = .int .i64 k ∧ (l.take k).all (fun x => decide (0 ≤ x)) = true) (fun i _ => n - (intOf i).toNat)
  case atStart => exact ⟨rfl, 0, Nat.zero_le _, rfl, rfl⟩
  case round =>
    obtain ⟨rfl, k, hk, rfl, hall⟩ := hrel
    have HA := Lib.hid hall
    clear hall
    by_cases hkn : k < n
    · have hkl : k < l.length := by rw [← hn.out]; omega
      obtain ⟨b2, off, rfl, hlt, hcell⟩ := HL.out.at (by omega)
      have c0 := hcell k hkl
      have HTK := Lib.hid (all_take (p := fun x : Int => decide (0 ≤ x)) hkl)
      have HDR := Lib.hid (all_drop (p := fun x : Int => decide (0 ≤ x)) hkl)
      obtain ⟨x, hf⟩ : ∃ f, l[k] = f := ⟨_, rfl⟩
      have HTK : Hid (0 ≤ x → (l.take (k + 1)).all (fun x => decide (0 ≤ x)) = true) := fun hx => by
        have h := HTK.out
        rw [h, HA.out, hf]
        simpa using hx
      have HDR : Hid (x < 0 → l.all (fun x => decide (0 ≤ x)) = false) := fun hx => HDR.out (by rw [hf]; simp; omega)
      rw [hf] at c0
      clear hcell hf
      have hb1 : (k : Int) < (n : Int) := by omega
      by_cases hx : x < 0
      · have HK : Hid (l.all (fun x => decide (0 ≤ x)) = false) := HDR.out hx
        go_wp2_with fail
        refine (below_any x _).mono ?_
        rintro _ w1 ⟨rfl, rfl⟩
        go_wp2
        go_ret
        exact ⟨⟨_, rfl, ⟨fun _ => HK.out, fun _ => by omega⟩⟩, rfl⟩
      · have HK : Hid ((l.take (k + 1)).all (fun x => decide (0 ≤ x)) = true) := HTK.out (by omega)
        go_wp2_with fail
        refine (below_any x _).mono ?_
        rintro _ w1 ⟨rfl, rfl⟩
        go_wp2
        exact ⟨⟨by first | rfl | trivial, k + 1, by omega, by go_num, HK.out⟩, by simp [intOf]; omega⟩
    · obtain rfl : k = n := by omega
      have HE : Hid (l.all (fun x => decide (0 ≤ x)) = true) := by
        have h := HA.out
        rw [hn.out, List.take_length] at h
        exact h
      go_wp2
      go_ret
      exact ⟨⟨-1, rfl, ⟨fun h => by omega, fun h => by rw [HE.out] at h; cases h⟩⟩, rfl⟩
set_option maxRecDepth 100000 in
theorem pickcontains_any (a : Option Addr) (l : List Int) (n cap : Nat) (w : World) (hn : Hid (n = l.length)) (hn2 : n ≤ 9223372036854775807) (hl : RdI w a l) :
    Calls Try.prog 43 #[.slice a n cap, .func (.func 44) #[] #[]] w fun e w' => e = .returned (.bool (!l.all (fun x => decide (0 ≤ x)))) ∧ w' = w := by
  go_enter Try.func43, Try.ntmps43
  go_wp2_with fail
  refine (pickindex_any a l n cap w hn hn2 hl).mono ?_
  rintro e w1 ⟨⟨i, rfl, hi⟩, rfl⟩
  have HI := Lib.hid hi
  clear hi
  go_wp2
  go_ret
  refine ⟨congrArg (fun b => Ending.returned (Value.bool b)) ?_, rfl⟩
  cases hall : l.all (fun x => decide (0 ≤ x)) with
  | true => exact decide_eq_false fun h => by have := HI.out.1 h; rw [hall] at this; cases this
  | false => exact decide_eq_true (HI.out.2 hall)
/-- The next pick: the box of the picks holds one less. -/
def nextP : List Int → Int
  | [] => 0
  | x :: _ => x
set_option maxRecDepth 100000 in
theorem next_any (p : Nat) (a : Option Addr) (l : List Int) (n cap : Nat) (w : World) (hn : n = l.length) (hc : n ≤ cap) (hl : RdI w a l) (hp : RowAt w p 57 #[.slice a n cap]) (hpb : ∀ ad, a = some ad → l ≠ [] → ad.block < p) :
    Calls Try.prog 45 #[.pointer (some ⟨p, 0, none⟩)] w fun e w' => e = .returned (.int .i64 (nextP l)) ∧ (∃ a' n' cap', RowAt w' p 57 #[.slice a' n' cap'] ∧ n' = l.tail.length ∧ n' ≤ cap' ∧ RdI w' a' l.tail ∧ ∀ ad, a' = some ad → l.tail ≠ [] → ad.block < p) ∧ KeepA (fun k => k = p) w w' := by
  have c0 : w.cell? ⟨p, 0, none⟩ = some (.slice a n cap) := hp.cell 0
  have hf := hp.frozen 0
  have hlt := hp.lt
  cases l with
  | nil =>
    subst hn
    go_enter Try.func45, Try.ntmps45
    go_wp2
    go_ret
    exact ⟨rfl, ⟨a, 0, cap, hp, rfl, hc, hl, fun _ _ h => absurd rfl h⟩, KeepA.refl _ _⟩
  | cons x r =>
    obtain ⟨b2, off, rfl, hlt2, hcell⟩ := hl.at (by simp)
    have c1 := hcell 0 (by simp)
    simp only [List.getElem_cons_zero, Nat.add_zero] at c1
    subst hn
    simp only [List.length_cons] at *
    have HP := Lib.hid hp
    have HPB := Lib.hid (hpb _ rfl (by simp))
    have HC := Lib.hid hcell
    have hne0 := hpb _ rfl (by simp)
    dsimp only at hne0
    have hne : b2 ≠ p := by omega
    clear hp hpb hl
    go_enter Try.func45, Try.ntmps45
    go_wp2
    all_goals go_ret
    · refine ⟨rfl, ⟨_, _, _, HP.out.set 0 _, rfl, by omega, ?_, fun ad h _ => by cases h; exact hne0⟩, keep_grown (grown_setCell _ _ _)⟩
      have hr : r = [] := List.eq_nil_of_length_eq_zero (by omega)
      subst hr
      exact .inl rfl
    · refine ⟨rfl, ⟨_, _, _, HP.out.set 0 _, rfl, by omega, ?_, fun ad h _ => by cases h; exact hne0⟩, keep_grown (grown_setCell _ _ _)⟩
      refine .inr ⟨b2, off + 1, rfl, by simpa [World.setCell] using hlt2, fun k hk => ?_⟩
      have hk2 : k < r.length := by simpa using hk
      have h1 := HC.out (k + 1) (by omega)
      have h2 := (keep_grown (grown_setCell w ⟨p, 0, none⟩ (.slice (some ⟨b2, off + 1, none⟩) r.length (cap - 1)))).cell h1 (by exact hne)
      rw [show off + 1 + k = off + (k + 1) by omega, h2]
      simp
end Go.Proofs.Ytmbpacpkabbcgaa
namespace Go.Proofs.Ytmbpacpkabbcgaa
open Go.RowKit

set_option maxRecDepth 100000 in
/-- A variable is made: its zero hidden. -/
theorem step_allocZ {P : Program} {ops : Array Oper} {rest : List Oper} {o : Oper} {act : Act} {Q : Exit → Act → World → Prop} {w : World} (hgd : o.guard = none) (ty : TypeId) (ho : o.op = .alloc ty) (Z : Array Value) (hz : (P.info? ty).map (·.zero) = some (some (.agg Z)))
    (h : ∀ w', RowAt w' w.heap.size ty Z → Below w.heap.size w w' → w'.heap.size = w.heap.size + 1 → wpList P ops Q rest (act.put o.dst (.pointer (some ⟨w.heap.size, 0, none⟩))) w') : wpList P ops Q (o :: rest) act w :=
  wpList_plain hgd fun K hK => by
    unfold Oper.wp execOp
    simp only [ho]
    have hr : (Instr.alloc ty true (.tuple #[])).run P w = .ok (.pointer (some ⟨w.heap.size, 0, none⟩)) (w.alloc (.cells Z ty)) := by
      cases hq : P.info? ty with
      | none => rw [hq] at hz; cases hz
      | some i =>
        rw [hq] at hz
        have hz : i.zero = some (.agg Z) := Option.some.inj hz
        simp [Instr.alloc, zeroValue, typeInfo, hq, hz, Sem.run_bind, newVar]
        rfl
    rw [Sem.run_bind, hr]
    exact hK _ _ (h _ (RowAt.new _ _ _) (below_alloc _) (by simp))
def zeroP : Array Value := (pcC (0, nought)).toArray
def zeroS : Array Value := (nought.map bv).toArray
theorem zero_piece : (Try.prog.info? 87).map (·.zero) = some (some (.agg zeroP)) := by kernel_rfl
theorem zero_sec : (Try.prog.info? 84).map (·.zero) = some (some (.agg zeroS)) := by kernel_rfl
theorem aggP : Agg Try.prog 87 513 := ⟨⟨_, Try.underlying87⟩, by kernel_rfl⟩
theorem pcC_len {p : Int × List UInt8} (h : p.2.length = 512) : (pcC p).length = 513 := by simp [pcC, h]
theorem pcC_one (p : Int × List UInt8) : ∀ u ∈ pcC p, u.oneCell' = true := fun u hu => by
  simp only [pcC, List.mem_cons, List.mem_map] at hu
  rcases hu with rfl | ⟨x, _, rfl⟩ <;> rfl
/-- A piece, or what may be none: of 513 cells in any case. -/
def pcD (p : Int × List UInt8) : List Value := (pcC p ++ List.replicate 513 (Value.int .u8 0)).take 513
theorem pcD_len (p : Int × List UInt8) : (pcD p).length = 513 := by unfold pcD; rw [List.length_take, List.length_append, List.length_replicate]; omega
theorem pcD_eq {p : Int × List UInt8} (h : p.2.length = 512) : pcD p = pcC p := by
  unfold pcD
  rw [List.take_append_of_le_length (by rw [pcC_len h]; omega), List.take_of_length_le (by rw [pcC_len h]; omega)]
theorem flat_pcD {l : List (Int × List UInt8)} (h : ∀ p ∈ l, p.2.length = 512) : l.flatMap pcD = l.flatMap pcC := by
  induction l with
  | nil => rfl
  | cons p r ih => rw [List.flatMap_cons, List.flatMap_cons, pcD_eq (h p List.mem_cons_self), ih fun q hq => h q (List.mem_cons_of_mem _ hq)]
theorem eltP : Elt Try.prog 69 87 513 520 (.agg zeroP) := ⟨Try.underlying69, by kernel_rfl, by kernel_rfl, by decide⟩
/-- Pieces can be read at an address. -/
def RdPc (w : World) (a : Option Addr) (l : List (Int × List UInt8)) : Prop := Rd w a (l.flatMap pcC)
theorem RdPc.rows {w : World} {a : Option Addr} {l : List (Int × List UInt8)} (h : RdPc w a l) (hl : ∀ p ∈ l, p.2.length = 512) : RowsAt w a 513 l (CellsAt w pcD) := rows_of_rd pcD_len (by omega) (by rw [flat_pcD hl]; exact h)
theorem RdPc.of_rows {w : World} {a : Option Addr} {l : List (Int × List UInt8)} (h : RowsAt w a 513 l (CellsAt w pcD)) (hl : ∀ p ∈ l, p.2.length = 512) : RdPc w a l := by
  have := rd_of_rows pcD_len (by omega) h
  rw [flat_pcD hl] at this
  exact this
set_option maxHeartbeats 400000 in
theorem pcclone_any (a : Option Addr) (l : List (Int × List UInt8)) (n cap : Nat) (w : World) (hn : n = l.length) (hb : n ≤ 1000000) (hl : RdPc w a l) (h5 : ∀ p ∈ l, p.2.length = 512) :
    Calls Try.prog 39 #[.slice a n cap] w fun e w' => (∃ v, e = .returned v ∧ v.oneCell' = true ∧ w'.ownsRow w.heap.size 87 513 v l.length (l.flatMap pcC)) ∧ Below w.heap.size w w' := by
  have hnil := fun w a l c => Lib.run_eql_slice_nil (P := Try.prog) w 69 87 a l c 0 0 Try.underlying69
  cases a with
  | none =>
    obtain rfl : l = [] := by
      have h9 := flat_len pcD_len l
      rw [flat_pcD h5] at h9
      rcases hl with h | ⟨b, off, ha, _⟩
      · rw [h] at h9
        exact List.eq_nil_of_length_eq_zero (by simp at h9; omega)
      · cases ha
    clear hl
    go_enter Try.func39, Try.ntmps39
    go_wp2
    go_ret
    exact ⟨⟨_, rfl, rfl, World.ownsRow_nil _ _ _ _⟩, Below.refl _ _⟩
  | some ad =>
    have hk : Rd (w.alloc (.cells #[] 87)) (some ad) (l.flatMap pcC) := Rd.mono hl (below_alloc _)
    have ho : (w.alloc (.cells #[] 87)).ownsRow w.heap.size 87 513 (.slice (some ⟨w.heap.size, 0, none⟩) 0 0) 0 [] := World.ownsRow_lit w #[] 0 (Nat.le_refl _) (by decide) rfl
    have hlen : (l.flatMap pcC).length = n * 513 := by rw [← flat_pcD h5, flat_len pcD_len, hn]
    have HK := Lib.hid hk
    have HO := Lib.hid ho
    have HN := Lib.hid hn
    have HL := Lib.hid hlen
    have H1 : Hid (∀ u ∈ l.flatMap pcC, u.oneCell' = true) := fun u hu => by
      obtain ⟨f, _, hf⟩ := List.mem_flatMap.1 hu
      exact pcC_one f u hf
    clear hk ho hn hl hlen
    go_enter Try.func39, Try.ntmps39
    go_wp2_with (at_builtin; refine step_append rfl (.tmp 5) (.tmp 6) rfl eltP w.heap.size _ 0 [] rfl _ _ _ (l.flatMap pcC) rfl HO.out HL.out HK.out H1.out (by omega) (by omega) (by simp) ?_; intro v' w' h1 h2 h3)
    go_ret
    refine ⟨⟨_, rfl, ?_, by have := h1; rw [Nat.zero_add, List.nil_append, HN.out] at this; exact this⟩, below_grown (below_alloc _) h2 (by simp) (by intro k hk; have := Option.some.inj (show some w.heap.size = some k from hk); omega)⟩
    obtain ⟨_, _, hv, _⟩ := Rd.of_own h1
    rw [hv]; rfl
end Go.Proofs.Ytmbpacpkabbcgaa
namespace Go.Proofs.Ytmbpacpkabbcgaa
open Go.RowKit

theorem own_keep {w w' : World} {X : Nat → Prop} (hk : KeepA X w w') {base : Nat} {e : TypeId} {size : Nat} {v : Value} {n : Nat} {xs : List Value} (h : w.ownsRow base e size v n xs) (hx : ∀ g, v.ownBlock = some g → ¬ X g) : w'.ownsRow base e size v n xs := by
  refine ⟨h.1, ?_⟩
  rcases h.2 with h | ⟨g, cap, cur, hv, hg, hh, r⟩
  · exact .inl h
  · refine .inr ⟨g, cap, cur, hv, hg, ?_, r⟩
    have hgx := hx g (by rw [hv]; rfl)
    exact (hk.same g (Array.getElem?_eq_some_iff.1 hh).1 hgx).trans hh
theorem rows_keep {α : Type} {w w' : World} {a : Option Addr} {k : Nat} {l : List α} {Q Q' : Nat → Nat → α → Prop} (h : RowsAt w a k l Q) (hs : w.heap.size ≤ w'.heap.size) (X : Nat → Prop) (hx : ∀ ad, a = some ad → ¬ X ad.block) (hq : ∀ b o x, ¬ X b → Q b o x → Q' b o x) : RowsAt w' a k l Q' := by
  rcases h with h | ⟨b, off, ha, hlt, hi⟩
  · exact .inl h
  · exact .inr ⟨b, off, ha, Nat.lt_of_lt_of_le hlt hs, fun i h => hq _ _ _ (hx _ ha) (hi i h)⟩
theorem KeepA.trans2 {X Y : Nat → Prop} {w w1 w2 : World} (h : KeepA X w w1) (k : KeepA Y w1 w2) (hy : ∀ x, x < w.heap.size → Y x → X x) : KeepA X w w2 :=
  ⟨k.os.trans h.os, k.tape.trans h.tape, k.output.trans h.output, Nat.le_trans h.size k.size, fun x hx hn => (k.same x (Nat.lt_of_lt_of_le hx h.size) fun e => hn (hy x hx e)).trans (h.same x hx hn)⟩
theorem FtSl.keep {w w' : World} {X : Nat → Prop} (hk : KeepA X w w') {base : Nat} {v : Value} {l : List Ft} (h : FtSl w base v l) (hx : ∀ g, slB v = some g → ¬ X g) : FtSl w' base v l := by
  obtain ⟨a, n, c, rfl, h2, h3, h4, h5⟩ := h
  refine ⟨a, n, c, rfl, h2, h3, rows_keep h4 hk.size X (fun ad ha => hx _ (by subst ha; rfl)) fun b o x hb q => ⟨hk.cell q.1 hb, hk.cell q.2 hb⟩, fun ad ha => ?_⟩
  obtain ⟨q1, q2, cur, q3, q4⟩ := h5 ad ha
  exact ⟨q1, q2, cur, (hk.same _ (Array.getElem?_eq_some_iff.1 q3).1 (hx _ (by subst ha; rfl))).trans q3, q4⟩
/-- The next step of a disk: so many pieces go well. -/
theorem step_any (w : World) (base b : Nat) (D : DK) (m : Nat) (pv fv : Value) (fl : List Ft) (st : Int) (n : Nat) (h : DkAt w base b D m pv fv fl st) :
    Calls Try.prog 50 #[.pointer (some ⟨b, 0, none⟩), .int .i64 (n : Int)] w fun e w' => (∃ k : Nat, k ≤ n ∧ ∃ er : Int, (fl.length = 0 → k = n ∧ er = 0) ∧ Fine er k n ∧ e = .returned (.tuple #[.int .i64 (k : Int), .int .i64 er])) ∧ (∃ fv' fl' st', DkAt w' base b D m pv fv' fl' st' ∧ fl'.length ≤ fl.length ∧ ∀ g, slB fv' = some g → slB fv = some g) ∧ KeepA (fun k => k = b) w w' := by
  obtain ⟨a, fn, fc, hfv, f1, f2, f3, f4⟩ := h.fts
  subst hfv
  -- what the row's writing leaves of the rest
  have rest : ∀ w', KeepA (fun k => k = b) w w' → ∀ (fv' : Value) (fl' : List Ft) (st' : Int), DkHd w' b D.size (.map (some m)) pv fv' st' → FtSl w' base fv' fl' → (∀ g, slB fv' = some g → slB (.slice a fn fc) = some g) → DkAt w' base b D m pv fv' fl' st' := fun w' hk fv' fl' st' hd hf hs => by
    obtain ⟨es, clock, q1, q2⟩ := h.map
    refine ⟨hd, h.hb, h.hm, h.mb, ⟨es, clock, (hk.same m (Array.getElem?_eq_some_iff.1 q1).1 h.mb).trans q1, q2⟩, own_keep hk h.pcs fun g hg e => h.pb.1 (by rw [hg, e]), h.pb, hf, fun g hg => h.fb g (hs g hg), h.size, h.sec, h.psec⟩
  cases fl with
  | nil =>
    subst f1
    refine (step_none w b D.size n (.map (some m)) pv st a fc h.hd).mono ?_
    rintro _ w' ⟨rfl, ⟨st', hd⟩, hk⟩
    exact ⟨⟨n, Nat.le_refl _, 0, fun _ => ⟨rfl, rfl⟩, Fine.all n, rfl⟩, ⟨_, [], st', rest w' hk _ _ _ hd (FtSl.keep hk h.fts fun g hg => (h.fb g hg).1) (fun g hg => hg), Nat.le_refl _, fun g hg => hg⟩, hk⟩
  | cons f r =>
    subst f1
    obtain ⟨g, o, ha, hlt, hi⟩ := f3.resolve_left (by simp)
    subst ha
    obtain ⟨t1, t2⟩ := RowsAt.tail (Q := FtAt w) f3
    have hgb := (h.fb g rfl).1
    refine (step_some w b D.size n g o r.length fc (.map (some m)) pv st f h.hd t1 hgb f2.1).mono ?_
    rintro _ w' ⟨⟨k, hk1, er, her, rfl⟩, ⟨st', hd⟩, hk⟩
    have f2' : r.length + 1 ≤ fc := f2.1
    obtain ⟨q1, q2, cur, q3, q4⟩ := f4 _ rfl
    dsimp only at q1 q3 q4
    have q3' : w'.heap[g]? = some (.cells cur 68 (0, 0)) := (hk.same g (Array.getElem?_eq_some_iff.1 q3).1 hgb).trans q3
    have hslb : ∀ g', slB (Value.slice (if fc = 1 then some ⟨g, o, none⟩ else some ⟨g, o + 2, none⟩) r.length (fc - 1)) = some g' → slB (.slice (some ⟨g, o, none⟩) (r.length + 1) fc) = some g' := fun g' hg' => by
      by_cases hc : fc = 1
      · rw [if_pos hc] at hg'; exact hg'
      · rw [if_neg hc] at hg'; exact hg'
    refine ⟨⟨k, hk1, er, fun h => (by simp at h), her, rfl⟩, ⟨_, r, st', rest w' hk _ _ _ hd ?_ hslb, by simp, hslb⟩, hk⟩
    · by_cases hc : fc = 1
      · rw [if_pos hc]
        have hr : r = [] := List.eq_nil_of_length_eq_zero (by omega)
        subst hr
        exact ⟨_, _, _, rfl, rfl, ⟨by omega, fun h => by cases h⟩, .inl rfl, fun ad had => by cases had; exact ⟨q1, rfl, cur, q3', by dsimp only; omega⟩⟩
      · rw [if_neg hc]
        exact ⟨_, _, _, rfl, rfl, ⟨by omega, fun h => by cases h⟩, rows_keep t2 hk.size (fun k => k = b) (fun ad had => by cases had; exact hgb) (fun b o x hb q => ⟨hk.cell q.1 hb, hk.cell q.2 hb⟩), fun ad had => by cases had; exact ⟨q1, rfl, cur, q3', by dsimp only; omega⟩⟩
end Go.Proofs.Ytmbpacpkabbcgaa
namespace Go.Proofs.Ytmbpacpkabbcgaa
open Go.RowKit

theorem own_low {w : World} {base base' : Nat} {e : TypeId} {size : Nat} {v : Value} {n : Nat} {xs : List Value} (h : w.ownsRow base e size v n xs) (hb : base' ≤ base) : w.ownsRow base' e size v n xs := ⟨h.1, h.2.imp id fun ⟨g, cap, cur, h1, h2, h3⟩ => ⟨g, cap, cur, h1, Nat.le_trans hb h2, h3⟩⟩
/-- What lasts behind some pieces. -/
def updS (L : Int → List UInt8) (p : Int × List UInt8) : Int → List UInt8 := fun j => if j = p.1 then p.2 else L j
def laid (L : Int → List UInt8) (l : List (Int × List UInt8)) : Int → List UInt8 := l.foldl updS L
theorem laid_succ (L : Int → List UInt8) {l : List (Int × List UInt8)} {k : Nat} (h : k < l.length) : laid L (l.take (k + 1)) = updS (laid L (l.take k)) l[k] := by
  unfold laid
  rw [List.take_succ_eq_append_getElem h, List.foldl_append]
  rfl
set_option maxRecDepth 100000 in
theorem wp_update {o : Oper} {act : Act} {K : Act → World → Prop} {Q : Exit → Act → World → Prop} {w : World} (x y z : Operand) (ho : o.op = .mapUpdate 64 x y z) (hd : o.dst = none) {m : Nat} {es : Array MapEntry} {clock : Nat} {last : Int → List UInt8}
    (h : w.heap[m]? = some (.map es clock)) (hm : MapIs clock es.toList last) (k : Int) (s : List UInt8) (hx : act.eval x = .map (some m)) (hy : act.eval y = .int .i64 k) (hz : act.eval z = secV s)
    (hK : ∀ w' es' clock', w'.heap[m]? = some (.map es' clock') → MapIs clock' es'.toList (updS last (k, s)) → KeepA (fun j => j = m) w w' → w'.heap.size = w.heap.size → K act w') : o.wp Try.prog act w K Q := by
  obtain ⟨es', clock', hr, hm'⟩ := update_run h hm k s
  have hlt : m < w.heap.size := (Array.getElem?_eq_some_iff.1 h).1
  unfold Oper.wp execOp
  simp only [ho, hx, hy, hz, Sem.run_bind, hr, Result.andThen_ok]
  have := hK { w with heap := w.heap.setIfInBounds m (.map es' clock') } es' clock' (by simp [hlt]) hm' ⟨rfl, rfl, rfl, by simp, fun j hj hne => by simp [Ne.symm hne]⟩ (by simp)
  show K (act.put o.dst undef) _
  rw [hd]
  exact this
set_option maxRecDepth 100000 in
theorem upon_update {o : Oper} {act : Act} {K : Act → World → Prop} {Q : Exit → Act → World → Prop} {w : World} {m : Nat} {es : Array MapEntry} {clock : Nat} {last : Int → List UInt8}
    (h : w.heap[m]? = some (.map es clock)) (hm : MapIs clock es.toList last) (k : Int) (s : List UInt8)
    (hK : ∀ w' es' clock', w'.heap[m]? = some (.map es' clock') → MapIs clock' es'.toList (updS last (k, s)) → KeepA (fun j => j = m) w w' → w'.heap.size = w.heap.size → K (act.put o.dst undef) w') :
    Oper.upon Try.prog o act K Q ((Sem.run Try.prog (Instr.mapUpdate 64 (.map (some m)) (.int .i64 k) (.agg (s.map bv).toArray)) w).andThen fun _ w' => .ok .skip w') := by
  obtain ⟨es', clock', hr, hm'⟩ := update_run h hm k s
  have hlt : m < w.heap.size := (Array.getElem?_eq_some_iff.1 h).1
  have hr' : Sem.run Try.prog (Instr.mapUpdate 64 (.map (some m)) (.int .i64 k) (.agg (s.map bv).toArray)) w = .ok () { w with heap := w.heap.setIfInBounds m (.map es' clock') } := hr
  rw [hr', Result.andThen_ok]
  exact hK { w with heap := w.heap.setIfInBounds m (.map es' clock') } es' clock' (by simp [hlt]) hm' ⟨rfl, rfl, rfl, by simp, fun j hj hne => by simp [Ne.symm hne]⟩ (by simp)
theorem und_sec : ∃ e, Try.prog.underlying 84 = some (.array 512 e) := ⟨_, Try.underlying84⟩
theorem zeroP_size : zeroP.size = 513 := by kernel_rfl
theorem piece_store {p : Int × List UInt8} (hp : p.2.length = 512) : Hid ((Try.prog.info? 87).map (·.size) = some (pcC p).toArray.size) ∧ Hid (zeroP.size = (pcC p).toArray.size) ∧ Hid ((pcC p).toArray.all (·.oneCell') = true) := by
  refine ⟨?_, ?_, ?_⟩
  · show _ = _
    rw [List.size_toArray, pcC_len hp]
    exact aggP.2
  · show _ = _
    rw [zeroP_size, List.size_toArray, pcC_len hp]
  · show _ = _
    simp only [List.all_toArray, List.all_eq_true]
    exact pcC_one p
theorem RowAt.range {w : World} {b : Nat} {t : TypeId} {p : Int × List UInt8} (h : RowAt w b t (pcC p).toArray) : w.cell? ⟨b, 0, none⟩ = some (.int .i64 p.1) ∧ w.rangeAt b 1 (p.2.map bv) := by
  refine ⟨h.cell 0, fun j v hv => ?_⟩
  rw [h.cell (1 + j)]
  simp only [pcC, List.getElem?_toArray]
  rw [Nat.add_comm]
  exact hv
theorem laid_len {L : Int → List UInt8} (hL : ∀ k, (L k).length = 512) : ∀ (l : List (Int × List UInt8)), (∀ p ∈ l, p.2.length = 512) → ∀ k, (laid L l k).length = 512 := by
  intro l
  induction l generalizing L with
  | nil => intro _ k; exact hL k
  | cons p r ih =>
    intro h k
    refine ih (L := updS L p) (fun k => ?_) (fun q hq => h q (List.mem_cons_of_mem _ hq)) k
    unfold updS
    split
    · exact h p List.mem_cons_self
    · exact hL k
theorem RdPc.drop {w : World} {a : Option Addr} {l : List (Int × List UInt8)} (h : RdPc w a l) (h5 : ∀ p ∈ l, p.2.length = 512) (k c : Nat) (hc : l.length ≤ c) : RdPc w (if c = k then a else Option.map (fun x => x.add (k * 513)) a) (l.drop k) := by
  by_cases hk : l.length ≤ k
  · rw [List.drop_eq_nil_of_le hk]; exact .inl rfl
  · rw [if_neg (by omega)]
    have hr := RdPc.rows h h5
    rcases hr with h | ⟨b, off, rfl, hlt, hi⟩
    · exact absurd h (by intro e; simp [e] at hk)
    · refine RdPc.of_rows (.inr ⟨b, off + k * 513, ?_, hlt, fun j hj => ?_⟩) fun p hp => h5 p (List.mem_of_mem_drop hp)
      · rw [Option.map_some, Addr.add_mid]
      · have := hi (k + j) (by rw [List.length_drop] at hj; omega)
        rw [List.getElem_drop, Nat.add_assoc, ← Nat.add_mul]
        exact this
set_option maxRecDepth 100000 in
set_option maxHeartbeats 1000000 in
theorem sync_at (w : World) (base b : Nat) (D : DK) (F m : Nat) (pv fv : Value) (fl : List Ft) (st : Int) (h : DkAt w base b D m pv fv fl st) (hF : fl.length ≤ F) (hbase : base ≤ w.heap.size) (hp : D.pcs.length ≤ 1000000) :
    Calls Try.prog 28 #[.pointer (some ⟨b, 0, none⟩)] w fun e w' => (∃ k, k ≤ D.pcs.length ∧ ∃ er : Int, (F = 0 → k = D.pcs.length ∧ er = 0) ∧ Fine er k D.pcs.length ∧ e = .returned (.int .i64 er) ∧ ∃ pv' fv' fl' st', DkAt w' base b ⟨D.size, laid D.last (D.pcs.take k), D.pcs.drop k⟩ m pv' fv' fl' st' ∧ fl'.length ≤ F ∧ (∀ g, pv'.ownBlock = some g → w.heap.size ≤ g) ∧ ∀ g, slB fv' = some g → slB fv = some g) ∧ KeepA (fun x => x = m ∨ x = b) w w' := by
  obtain ⟨n, hn⟩ : ∃ n, D.pcs.length = n := ⟨_, rfl⟩
  obtain ⟨pa, pc, hpv, hpc, hrd⟩ := Rd.of_own h.pcs
  rw [hn] at hpv hpc hp
  subst hpv
  have HN := Lib.hid hn
  have HRD := Lib.hid hrd
  clear hrd hn
  obtain ⟨c0, c1, c2, c3, c4⟩ := h.hd.cells
  have HNO := Lib.hid (fun w hh => none_any w b D.size (.map (some m)) (.slice pa n pc) fv st hh h.size.1)
  have HST := Lib.hid (fun k => step_any w base b D m (.slice pa n pc) fv fl st k h)
  have HD := Lib.hid h
  clear h
  go_enter Try.func28, Try.ntmps28
  go_wp2_with fail
  refine (HNO.out _ HD.out.hd).mono ?_
  rintro _ w0 ⟨rfl, rfl⟩
  go_wp2_with fail
  refine (HST.out n).mono ?_
  rintro _ w1 ⟨⟨k, hk, er, hke, her, rfl⟩, ⟨fv', fl', st', hD1, hF1, hsl⟩, hK1⟩
  have HER : Hid (Fine er k D.pcs.length) := by show Fine _ _ _; rw [HN.out]; exact her
  have HKE : Hid (F = 0 → k = D.pcs.length ∧ er = 0) := fun h0 => by rw [HN.out]; exact hke (by omega)
  have HSLB := Lib.hid hsl
  clear hke her hsl
  have HD1 := Lib.hid hD1
  have HK1 := Lib.hid hK1
  obtain ⟨d0, d1, d2, d3, d4⟩ := hD1.hd.cells
  obtain ⟨es1, cl1, hm1, hmi1⟩ := hD1.map
  have HM1 := Lib.hid hm1
  have HMI1 := Lib.hid hmi1
  clear hD1 hK1 hm1 hmi1 c0 c1 c2 c3 c4
  go_wp2
  go_loopw [26] (fun i wr => KeepA (fun x => x = m) w1 wr ∧ (∃ es cl, wr.heap[m]? = some (.map es cl) ∧ MapIs cl es.toList (laid D.last (D.pcs.take (intOf i).toNat))) ∧ ∃ j : Nat, j ≤ k ∧ i = .int .i64 j) (fun i _ => k - (intOf i).toNat)
  case atStart => exact ⟨KeepA.refl _ _, ⟨es1, cl1, HM1.out, HMI1.out⟩, 0, Nat.zero_le _, rfl⟩
  case round =>
    obtain ⟨hkp, ⟨es, cl, hm, hmi⟩, j, hj, rfl⟩ := hrel
    have HKP := Lib.hid hkp
    have HM := Lib.hid hm
    have HMI := Lib.hid hmi
    clear hkp hm hmi
    by_cases hjk : j < k
    · have hjn : j < D.pcs.length := by rw [HN.out]; omega
      have hrd1 : Rd w1 pa (D.pcs.flatMap pcC) := by
        obtain ⟨a', c', q1, _, q2⟩ := Rd.of_own HD1.out.pcs
        rw [HN.out] at q1
        cases q1
        exact q2
      have h5 := HD1.out.psec
      obtain ⟨g, o, rfl, hg, hrow⟩ := (RdPc.rows hrd1 fun p hp => (h5 p hp).2.2).resolve_left (by intro e; rw [e] at hjn; simp at hjn)
      have hgm : g ≠ m := fun e => HD1.out.pb.2 (by rw [← e]; rfl)
      have hbm := HD1.out.mb
      have hcell := hrow j hjn
      have hls := laid_succ D.last hjn
      obtain ⟨p, hp'⟩ : ∃ p, D.pcs[j] = p := ⟨_, rfl⟩
      have hp5 := (h5 p (by rw [← hp']; exact List.getElem_mem hjn)).2.2
      rw [hp'] at hcell hls
      have HC : Hid (∀ i v, (pcC p)[i]? = some v → wr.cell? ((⟨g, o + j * 513, none⟩ : Addr).add i) = some v) := fun i v hv => by
        rw [Addr.add_mid]
        refine HKP.out.cell (hcell i v ?_) hgm
        rw [pcD_eq hp5]; exact hv
      have HLS := Lib.hid hls
      have hAg : Agg Try.prog 87 (pcC p).length := by rw [pcC_len hp5]; exact aggP
      obtain ⟨hS1, hS2, hS3⟩ := piece_store hp5
      have e1 : wr.cell? ⟨b, 1, none⟩ = some (.map (some m)) := HKP.out.cell d1 (fun e => hbm e.symm)
      have hms : m < wr.heap.size := (Array.getElem?_eq_some_iff.1 HM.out).1
      have hbs : b < wr.heap.size := World.block_lt_of_cell? wr _ e1
      clear hrow hcell hls h5 hrd1 hp'
      have hb1 : (j : Int) < (k : Int) := by omega
      go_wp2_with (first
        | (refine step_loadCells rfl 87 (.tmp 28) rfl ⟨g, o + j * 513, none⟩ rfl (pcC p) hAg HC.out ?_)
        | (refine step_allocZ rfl 87 rfl zeroP zero_piece ?_; intro w2 q1 q2 q3)
        | (refine step_storeRow rfl 87 (.tmp 6) (.tmp 29) rfl rfl wr.heap.size (pcC p).toArray rfl rfl 87 zeroP q1 hS1.out hS2.out hS3.out ?_; intro w3 q4 q5))
      simp only [Act.put, List.setIfInBounds_toArray, List.set_cons_zero, List.set_cons_succ]
      have HB3 := Lib.hid (below_grown q2 q5 (by omega) (by intro x hx; have := Option.some.inj hx; omega))
      have e3 : w3.cell? ⟨b, 1, none⟩ = some (.map (some m)) := cell_later HB3.out hbs e1
      have HM3 : Hid (w3.drew.heap[m]? = some (.map es cl)) := (HB3.out.block m hms).trans HM.out
      obtain ⟨r0, r1⟩ := q4.range
      obtain ⟨bx, hbx⟩ : ∃ x, wr.heap.size = x := ⟨_, rfl⟩
      rw [hbx] at r0 r1 ⊢
      have hbxm : bx ≠ m := by omega
      have HMI2 : Hid (MapIs cl es.toList (laid D.last (D.pcs.take j))) := by
        have h := HMI.out
        rw [show (intOf (.int .i64 (j : Int))).toNat = j by simp [intOf]] at h
        exact h
      obtain ⟨e8, hu8⟩ := und_sec
      have hi8 : (Try.prog.info? 84).map (·.size) = some (p.2.map bv).length := by rw [List.length_map, hp5]; kernel_rfl
      have hk1 : w3.drew.cell? ⟨b, 1, none⟩ = some (.map (some m)) ∧ w3.drew.cell? ⟨bx, 0, none⟩ = some (.int .i64 p.1) ∧ w3.drew.rangeAt bx 1 (p.2.map bv) := ⟨e3, r0, r1⟩
      clear e1 e3 r0 r1 q1 q2 q3 q4 q5 hS1 hS2 hS3 hAg hms hbs hbx
      go_region_held_law (fun w' => w'.cell? ⟨b, 1, none⟩ = some (.map (some m)) ∧ w'.cell? ⟨bx, 0, none⟩ = some (.int .i64 p.1) ∧ w'.rangeAt bx 1 (p.2.map bv)) (first | assumption) (first
        | (refine upon_update HM3.out HMI2.out p.1 p.2 ?_; intro w4 es4 cl4 m1 m2 m3 m4; have hk2 : w4.cell? ⟨b, 1, none⟩ = some (.map (some m)) ∧ w4.cell? ⟨bx, 0, none⟩ = some (.int .i64 p.1) ∧ w4.rangeAt bx 1 (p.2.map bv) := ⟨m3.cell hk1.1 (fun e => hbm e.symm), m3.cell hk1.2.1 hbxm, fun i v hv => m3.cell (hk1.2.2 i v hv) hbxm⟩))
      go_wp2
      refine ⟨⟨(HKP.out.trans (KeepA.of_below (drewN_below HB3.out 1))).trans m3, ⟨es4, cl4, m1, ?_⟩, j + 1, by omega, by go_num⟩, by simp [intOf]; omega⟩
      rw [show (intOf (.int .i64 ((j : Int) + 1))).toNat = j + 1 by simp [intOf], HLS.out]
      exact m2
    · have hjk2 : j = k := by omega
      subst hjk2
      have e2 : wr.cell? ⟨b, 2, none⟩ = some (.slice pa n pc) := HKP.out.cell d2 (fun e => HD1.out.mb e.symm)
      have h5 : ∀ p ∈ D.pcs.drop j, p.2.length = 512 := fun p hp => (HD1.out.psec p (List.mem_of_mem_drop hp)).2.2
      have hrd1 : RdPc wr (if pc = j then pa else Option.map (fun x => x.add (j * 513)) pa) (D.pcs.drop j) := by
        refine RdPc.drop ?_ (fun p hp => (HD1.out.psec p hp).2.2) j pc (by rw [HN.out]; exact hpc)
        obtain ⟨a', c', q1, _, q2⟩ := Rd.of_own HD1.out.pcs
        rw [HN.out] at q1
        cases q1
        refine Rd.keepA q2 HKP.out fun g o ha _ e => HD1.out.pb.2 ?_
        rw [ha]; exact congrArg some e
      have hdl : n - j = (D.pcs.drop j).length := by rw [List.length_drop, HN.out]
      have hC := fun w hw => pcclone_any (if pc = j then pa else Option.map (fun x => x.add (j * 513)) pa) (D.pcs.drop j) (n - j) (pc - j) w hdl (by omega) hw h5
      have hms : m < wr.heap.size := (Array.getElem?_eq_some_iff.1 HM.out).1
      have hbs : b < wr.heap.size := World.block_lt_of_cell? wr _ e2
      have HX : Hid (∀ w5 v, Below wr.heap.size wr w5 → v.oneCell' = true → w5.ownsRow wr.heap.size 87 513 v (D.pcs.drop j).length ((D.pcs.drop j).flatMap pcC) → w5.frozen? ⟨b, 2, none⟩ = false ∧ (∃ pv' fv' fl' st', DkAt (w5.setCell ⟨b, 2, none⟩ v) base b ⟨D.size, laid D.last (D.pcs.take j), D.pcs.drop j⟩ m pv' fv' fl' st' ∧ fl'.length ≤ F ∧ (∀ g, pv'.ownBlock = some g → w0.heap.size ≤ g) ∧ ∀ g, slB fv' = some g → slB fv = some g) ∧ KeepA (fun x => x = m ∨ x = b) w0 (w5.setCell ⟨b, 2, none⟩ v)) := fun w5 v h1 h2 h3 => by
        have hd5 := RowAt.below (w := wr) (show RowAt wr _ _ _ from (HKP.out.same b (RowAt.lt HD1.out.hd) (fun e => HD1.out.mb e.symm)).trans HD1.out.hd) h1
        refine ⟨hd5.frozen 2, ⟨v, fv', fl', st', ?_, Nat.le_trans hF1 hF, fun g hg => Nat.le_trans (Nat.le_trans HK1.out.size HKP.out.size) (h3.lt g hg).1, HSLB.out⟩, ?_⟩
        · have hfar := HKP.out.size
          have hset : KeepA (fun x => x = b) w5 (w5.setCell ⟨b, 2, none⟩ v) := keep_grown (grown_setCell _ _ _)
          have hall : KeepA (fun x => x = m ∨ x = b) w1 (w5.setCell ⟨b, 2, none⟩ v) := ((HKP.out.mono fun _ e => .inl e).trans (KeepA.of_below h1)).trans (hset.mono fun _ e => .inr e)
          have hown : ∀ g, v.ownBlock = some g → wr.heap.size ≤ g ∧ g < w5.heap.size := fun g hg => h3.lt g hg
          refine ⟨hd5.set 2 v, HD1.out.hb, HD1.out.hm, HD1.out.mb, ⟨es, cl, ?_, ?_⟩, own_keep hset (own_low h3 ?_) ?_, ⟨fun e => ?_, fun e => ?_⟩, HD1.out.fts.keep hall ?_, fun g hg => ⟨(HD1.out.fb g hg).1, (HD1.out.fb g hg).2.1, fun e => ?_⟩, HD1.out.size, ?_, ?_⟩
          · exact (hset.same m (Nat.lt_of_lt_of_le hms h1.size) HD1.out.mb).trans ((h1.block m hms).trans HM.out)
          · have := HMI.out
            rw [show (intOf (.int .i64 (j : Int))).toNat = j by simp [intOf]] at this
            exact this
          · exact Nat.le_trans hbase (Nat.le_trans HK1.out.size hfar)
          · rintro g hg rfl
            exact absurd hbs (by have := (hown _ hg).1; omega)
          · exact absurd hbs (by have := (hown _ e).1; omega)
          · exact absurd hms (by have := (hown _ e).1; omega)
          · rintro g hg (rfl | rfl)
            · exact (HD1.out.fb _ hg).2.1 rfl
            · exact (HD1.out.fb _ hg).1 rfl
          · have := (HD1.out.fts.blk hg).2
            have := (hown _ e).1
            omega
          · exact laid_len HD1.out.sec _ fun p hp => (HD1.out.psec p (List.mem_of_mem_take hp)).2.2
          · exact fun p hp => HD1.out.psec p (List.mem_of_mem_drop hp)
        · have hset : KeepA (fun x => x = b) w5 (w5.setCell ⟨b, 2, none⟩ v) := keep_grown (grown_setCell _ _ _)
          have hall : KeepA (fun x => x = m ∨ x = b) w0 (w5.setCell ⟨b, 2, none⟩ v) := (((HK1.out.mono fun _ e => .inr e).trans (HKP.out.mono fun _ e => .inl e)).trans (KeepA.of_below h1)).trans (hset.mono fun _ e => .inr e)
          exact hall
      clear h5 hdl
      by_cases hpj : pc = j
      · rw [if_pos hpj] at hrd1
        rw [if_pos hpj, show pc - j = 0 by omega] at hC
        have HC := Lib.hid hC
        have HRD1 := Lib.hid hrd1
        clear hrd1 hC
        go_wp2_with fail
        refine (HC.out _ HRD1.out).mono ?_
        rintro _ w5 ⟨⟨v, rfl, hv1, hv2⟩, hv3⟩
        obtain ⟨hfz, hY⟩ := HX.out w5 v hv3 hv1 hv2
        have HY := Lib.hid hY
        obtain ⟨av, cv, rfl, _, _⟩ := Rd.of_own hv2
        have e25 := cell_later hv3 hbs e2
        clear hv1 hv2 hv3 hY
        go_wp2
        go_ret
        rw [← List.length_drop]
        exact ⟨⟨j, by rw [HN.out]; exact hk, _, HKE.out, HER.out, rfl, HY.out.1⟩, HY.out.2⟩
      · rw [if_neg hpj] at hC hrd1
        have HC := Lib.hid hC
        have HRD1 := Lib.hid hrd1
        clear hrd1 hC
        go_wp2_with fail
        refine (HC.out _ HRD1.out).mono ?_
        rintro _ w5 ⟨⟨v, rfl, hv1, hv2⟩, hv3⟩
        obtain ⟨hfz, hY⟩ := HX.out w5 v hv3 hv1 hv2
        have HY := Lib.hid hY
        obtain ⟨av, cv, rfl, _, _⟩ := Rd.of_own hv2
        have e25 := cell_later hv3 hbs e2
        clear hv1 hv2 hv3 hY
        go_wp2
        go_ret
        rw [← List.length_drop]
        exact ⟨⟨j, by rw [HN.out]; exact hk, _, HKE.out, HER.out, rfl, HY.out.1⟩, HY.out.2⟩
end Go.Proofs.Ytmbpacpkabbcgaa
namespace Go.Proofs.Ytmbpacpkabbcgaa
open Go.RowKit

theorem foldl_whole (vs : List Value) : ∀ (k : Nat) (C : Array Value), k + vs.length = C.size →
    ((vs.zipIdx k).foldl (fun cs (c, j) => cs.setIfInBounds (0 + j) c) C).toList = C.toList.take k ++ vs := by
  induction vs with
  | nil => intro k C h; simp only [List.length_nil, Nat.add_zero] at h; subst h; simp [← Array.length_toList]
  | cons v r ih =>
    intro k C h
    rw [List.zipIdx_cons, List.foldl_cons]
    simp only [List.length_cons] at h
    rw [ih (k + 1) _ (by simp; omega)]
    simp only [Array.toList_setIfInBounds, Nat.zero_add]
    have hk : k < C.toList.length := by rw [Array.length_toList]; omega
    rw [List.take_set, List.take_succ_eq_append_getElem hk, List.set_append_right _ _ (by simp; omega), List.length_take, Nat.min_eq_left (by omega), Nat.sub_self, List.append_assoc]
    rfl
theorem fill_whole (place : Nat → Option (Nat × Nat)) (C c : Array Value) (hp : place 0 = some (0, C.size)) (h : c.size = C.size) : Instr.fill place C [(0, .agg c)] = some c := by
  have hne : (decide (c.size ≠ C.size) || decide (0 + c.size > C.size)) = false := by simp [h]
  simp only [Instr.fill, hp, show (Value.agg c).cells = c from rfl, hne, Bool.false_eq_true, if_false]
  congr 1
  apply Array.toList_inj.1
  have := foldl_whole c.toList 0 C (by rw [Array.length_toList]; omega)
  rw [List.take_zero, List.nil_append] at this
  rw [← this, ← Array.foldl_toList, Array.toList_zipIdx]
theorem run_sliceP (w : World) (p : Int × List UInt8) (hp : p.2.length = 512) :
    (Instr.buildSlice 69 1 #[(0, .agg (pcC p).toArray)]).run Try.prog w = .ok (.slice (some ⟨w.heap.size, 0, none⟩) 1 1) (w.alloc (.cells (pcC p).toArray 87)) := by
  obtain ⟨i, hi, hz, hs, hb⟩ := info_parts eltP.info
  refine run_buildSlice w _ _ 1 _ (pcC p).toArray i _ Try.underlying69 hi hz (by rw [hs]; decide) (by rw [hs]; decide) ?_
  refine fill_whole _ _ _ ?_ ?_
  · simp
  · simp [hs, pcC_len hp]
theorem run_buildP (w : World) (k : Int) : (Instr.build 87 #[(0, .int .i64 k)]).run Try.prog w = .ok (.agg (pcC (k, nought)).toArray) w := by kernel_rfl
theorem step_buildP {ops : Array Oper} {rest : List Oper} {o : Oper} {act : Act} {Q : Exit → Act → World → Prop} {w : World} (hgd : o.guard = none) (x : Operand) (ho : o.op = .build 87 #[(0, x)]) (k : Int) (hx : act.eval x = .int .i64 k)
    (h : wpList Try.prog ops Q rest (act.put o.dst (.agg (pcC (k, nought)).toArray)) w) : wpList Try.prog ops Q (o :: rest) act w :=
  wpList_plain hgd fun K hK => by
    unfold Oper.wp execOp
    simp only [ho, List.map_toArray, List.map_cons, List.map_nil, hx]
    have hr := run_buildP w k
    rw [Sem.run_bind, hr, Result.andThen_ok]
    exact hK _ _ h
theorem upon_sliceP {o : Oper} {act : Act} {K : Act → World → Prop} {Q : Exit → Act → World → Prop} {w : World} (p : Int × List UInt8) (hp : p.2.length = 512)
    (h : ∀ w', RowAt w' w.heap.size 87 (pcC p).toArray → Below w.heap.size w w' → w'.heap.size = w.heap.size + 1 → K (act.put o.dst (.slice (some ⟨w.heap.size, 0, none⟩) 1 1)) w') :
    Oper.upon Try.prog o act K Q ((Sem.run Try.prog (Instr.buildSlice 69 1 #[(0, .agg (pcC p).toArray)]) w).andThen fun v w' => .ok (.value v) w') := by
  have hr : Sem.run Try.prog (Instr.buildSlice 69 1 #[(0, .agg (pcC p).toArray)]) w = _ := run_sliceP w p hp
  rw [hr, Result.andThen_ok]
  exact h _ (RowAt.new _ _ _) (below_alloc _) (by simp)
theorem wp_appendP {o : Oper} {act : Act} {K : Act → World → Prop} {Q : Exit → Act → World → Prop} {w : World} (s x : Operand)
    (ho : o.op = .call { callee := .builtin .append, args := #[s, x], argTypes := #[69, 69] }) (base : Nat)
    (v : Value) (l : List (Int × List UInt8)) (hv : act.eval s = v) (g : Nat) (p : Int × List UInt8) (hx : act.eval x = .slice (some ⟨g, 0, none⟩) 1 1)
    (hown : w.ownsRow base 87 513 v l.length (l.flatMap pcC)) (hp : p.2.length = 512) (hk : RowAt w g 87 (pcC p).toArray) (hsz : l.length ≤ 1000000) (hbase : base ≤ w.heap.size)
    (h : ∀ v' w', w'.ownsRow base 87 513 v' (l ++ [p]).length ((l ++ [p]).flatMap pcC) → w.grownBy w' v.ownBlock → NewRow w v v' → K (act.put o.dst v') w') : o.wp Try.prog act w K Q := by
  have hrd : Rd w (some ⟨g, 0, none⟩) (pcC p) := .inr ⟨g, 0, rfl, hk.lt, fun k hkl => by rw [Nat.zero_add, hk.cell k]; simp [hkl]⟩
  obtain ⟨v', w', hr, h2, h3, h4⟩ := run_append_any eltP w base o.type v l.length (l.flatMap pcC) hown (some ⟨g, 0, none⟩) 1 1 (pcC p) (by rw [pcC_len hp]) hrd (pcC_one p) (by omega) (by omega) hbase
  unfold Oper.wp execOp
  simp only [ho, resolve, invoke, builtin, Sem.run_bind, Sem.run_pure, Result.andThen_ok, List.map_toArray, List.map_cons, List.map_nil, hv, hx, hr]
  refine h v' w' ?_ h3 h4
  rw [List.flatMap_append, List.length_append]
  simpa using h2
theorem wp_sliceP {o : Oper} {act : Act} {K : Act → World → Prop} {Q : Exit → Act → World → Prop} {w : World} (x : Operand) (ho : o.op = .buildSlice 69 1 #[(0, x)]) (p : Int × List UInt8) (hp : p.2.length = 512) (hx : act.eval x = .agg (pcC p).toArray)
    (h : ∀ w', RowAt w' w.heap.size 87 (pcC p).toArray → Below w.heap.size w w' → w'.heap.size = w.heap.size + 1 → K (act.put o.dst (.slice (some ⟨w.heap.size, 0, none⟩) 1 1)) w') : o.wp Try.prog act w K Q := by
  have hr := run_sliceP w p hp
  unfold Oper.wp execOp
  simp only [ho, List.map_toArray, List.map_cons, List.map_nil, hx]
  rw [Sem.run_bind, hr, Result.andThen_ok]
  exact h _ (RowAt.new _ _ _) (below_alloc _) (by simp)
theorem keep_grownO {w w' : World} {row : Option Nat} (h : w.grownBy w' row) : KeepA (fun k => row = some k) w w' := ⟨h.os, h.tape, h.output, h.size, fun k hk hx => h.block k hk fun e => hx e.symm⟩
theorem DkAt.appended {w w5 w6 : World} {base b : Nat} {D : DK} {m : Nat} {pv fv v' : Value} {fl : List Ft} {st : Int} (h : DkAt w base b D m pv fv fl st) (p : Int × List UInt8) (hp : 0 ≤ p.1 ∧ p.1 < D.size ∧ p.2.length = 512)
    (hb : Below w.heap.size w w5) (ho : w6.ownsRow base 87 513 v' (D.pcs ++ [p]).length ((D.pcs ++ [p]).flatMap pcC)) (hg : w5.grownBy w6 pv.ownBlock) (hn : NewRow w5 pv v') :
    w6.cell? ⟨b, 2, none⟩ = some pv ∧ w6.frozen? ⟨b, 2, none⟩ = false ∧ DkAt (w6.setCell ⟨b, 2, none⟩ v') base b ⟨D.size, D.last, D.pcs ++ [p]⟩ m v' fv fl st := by
  have hd6 : DkHd w6 b D.size (.map (some m)) pv fv st := RowAt.grown (RowAt.below h.hd hb) hg fun g hg e => h.pb.1 (by rw [hg, e])
  obtain ⟨_, _, c2, _, _⟩ := hd6.cells
  obtain ⟨es, cl, hm, hmi⟩ := h.map
  have hms : m < w.heap.size := (Array.getElem?_eq_some_iff.1 hm).1
  have hbs : b < w.heap.size := h.hd.lt
  have hset : KeepA (fun x => x = b) w6 (w6.setCell ⟨b, 2, none⟩ v') := keep_grown (grown_setCell _ _ _)
  have hall : KeepA (fun x => pv.ownBlock = some x ∨ x = b) w (w6.setCell ⟨b, 2, none⟩ v') := ((KeepA.of_below hb).trans ((keep_grownO hg).mono fun _ e => .inl e)).trans (hset.mono fun _ e => .inr e)
  have hv : ∀ g, v'.ownBlock = some g → pv.ownBlock = some g ∨ w.heap.size ≤ g := fun g hg' => (hn g hg').imp id fun h => Nat.le_trans hb.size h
  refine ⟨c2, hd6.frozen 2, hd6.set 2 v', h.hb, h.hm, h.mb, ⟨es, cl, (hall.same m hms ?_).trans hm, hmi⟩, own_keep hset ho ?_, ⟨fun e => ?_, fun e => ?_⟩, h.fts.keep hall ?_, fun g hg' => ⟨(h.fb g hg').1, (h.fb g hg').2.1, fun e => ?_⟩, h.size, h.sec, ?_⟩
  · rintro (e | e)
    · exact h.pb.2 e
    · exact h.mb e
  · rintro g hg' rfl
    rcases hv _ hg' with e | e
    · exact h.pb.1 e
    · omega
  · rcases hv _ e with e | e
    · exact h.pb.1 e
    · omega
  · rcases hv _ e with e | e
    · exact h.pb.2 e
    · omega
  · rintro g hg' (e | e)
    · exact (h.fb g hg').2.2 e
    · exact (h.fb g hg').1 e
  · rcases hv _ e with e | e
    · exact (h.fb g hg').2.2 e
    · have := (h.fts.blk hg').2
      omega
  · intro q hq
    rcases List.mem_append.1 hq with hq | hq
    · exact h.psec q hq
    · rw [List.mem_singleton.1 hq]; exact hp
end Go.Proofs.Ytmbpacpkabbcgaa
