/- Open. (Printed by gen_pgop.py.) -/
import Derived.Test.YtagipfkgnobjlaaPgOp0
namespace Go.Proofs.Ytagipfkgnobjlaa
open Go.RowKit

attribute [local go_sem] Oper.semAt_some
def mt0 : Mt := ⟨0, 0, 0, [0, 0, 0, 0, 0, 0, 0, 0]⟩
/-- What a pager is, opened. -/
def PS.fresh (m : Mt) (x : LX) : PS := ⟨m, mt0, fun _ => none, false, false, x⟩
/-- The log's state behind Open's steps. -/
def OpX (n room size : Nat) (V : Int → List UInt8) (x3 : LX) : Prop :=
  ∃ run base used bs x1, lookP V 0 n = some (run, base, used, bs) ∧ run + 1 < 4611686018427387904 ∧
    PutsR n room bs ⟨⟨size, laid V (wps (0 + (((run + 1) % 2 : Nat) : Int)) (headB (run + 1) base) ((headB (run + 1) base).length / 512)), []⟩, 0, run + 1, base, used, false, bs⟩ x1 ∧ SyRe 0 x1 x3
noncomputable def opM (n : Nat) (x : LX) : Mt := rdM (flatS x.V (n : Int) 2)
/-- Is it a pager? -/
noncomputable def opOk (n room : Nat) (x : LX) : Bool := readOk (flatS x.V (n : Int) 2) (room : Int) && soundB n (PS.fresh (opM n x) x)
/-- A result's cells, and the boxes of Open. -/
structure OpB (W : World) (g d n : Nat) : Prop where
  p : W.cell? ⟨g, 0, none⟩ = some (.pointer (some ⟨d, 0, none⟩))
  l : W.cell? ⟨g + 1, 0, none⟩ = some (.int .i64 (n : Int))
  r : RowAt W (g + 2) 30 #[.pointer none]
  e : RowAt W (g + 3) 25 #[.int .i64 0]
theorem OpB.keep {W W' : World} {X : Nat → Prop} {g d n : Nat} (h : OpB W g d n) (k : KeepA X W W') (hX : ∀ y, X y → y < g ∨ g + 3 < y) : OpB W' g d n :=
  ⟨k.cell h.p fun e => by have := hX _ e; dsimp only at this; omega, k.cell h.l fun e => by have := hX _ e; dsimp only at this; omega, row_keep k h.r fun e => by have := hX _ e; omega, row_keep k h.e fun e => by have := hX _ e; omega⟩
theorem opb_new (w : World) (d n : Nat) : ∃ w1 w2 w3 w4, w.alloc (.cells #[.pointer (some ⟨d, 0, none⟩)] 24) = w1 ∧ w1.alloc (.cells #[.int .i64 (n : Int)] 3) = w2 ∧ w2.alloc (.cells #[.pointer none] 30) = w3 ∧ w3.alloc (.cells #[.int .i64 0] 25) = w4 ∧ w1.heap.size = w.heap.size + 1 ∧ w2.heap.size = w.heap.size + 1 + 1 ∧ w3.heap.size = w.heap.size + 1 + 1 + 1 ∧ w4.heap.size = w.heap.size + 4 ∧ Below w.heap.size w w4 ∧ OpB w4 w.heap.size d n := by
  have b1 := below_alloc (w := w) (.cells #[.pointer (some ⟨d, 0, none⟩)] 24)
  have r1 := RowAt.new w 24 #[.pointer (some ⟨d, 0, none⟩)]
  obtain ⟨w1, hw1⟩ : ∃ y, w.alloc (.cells #[.pointer (some ⟨d, 0, none⟩)] 24) = y := ⟨_, rfl⟩
  have s1 : w1.heap.size = w.heap.size + 1 := by rw [← hw1]; simp
  rw [hw1] at b1 r1
  have b2 := below_alloc (w := w1) (.cells #[.int .i64 (n : Int)] 3)
  have r2 := RowAt.new w1 3 #[.int .i64 (n : Int)]
  obtain ⟨w2, hw2⟩ : ∃ y, w1.alloc (.cells #[.int .i64 (n : Int)] 3) = y := ⟨_, rfl⟩
  have s2 : w2.heap.size = w.heap.size + 1 + 1 := by rw [← hw2]; simp [s1]
  rw [hw2] at b2 r2
  have b3 := below_alloc (w := w2) (.cells #[.pointer none] 30)
  have r3 := RowAt.new w2 30 #[.pointer none]
  obtain ⟨w3, hw3⟩ : ∃ y, w2.alloc (.cells #[.pointer none] 30) = y := ⟨_, rfl⟩
  have s3 : w3.heap.size = w.heap.size + 1 + 1 + 1 := by rw [← hw3]; simp [s2]
  rw [hw3] at b3 r3
  have b4 := below_alloc (w := w3) (.cells #[.int .i64 0] 25)
  have r4 := RowAt.new w3 25 #[.int .i64 0]
  obtain ⟨w4, hw4⟩ : ∃ y, w3.alloc (.cells #[.int .i64 0] 25) = y := ⟨_, rfl⟩
  have s4 : w4.heap.size = w.heap.size + 4 := by rw [← hw4]; simp [s3]
  rw [hw4] at b4 r4
  have b34 := b3.trans (b4.mono b3.size)
  have b24 := b2.trans (b34.mono b2.size)
  refine ⟨w1, w2, w3, w4, hw1, hw2, hw3, hw4, s1, s2, s3, s4, b1.trans (b24.mono b1.size), ?_⟩
  rw [s1] at r2
  rw [s2] at r3
  rw [s3] at r4
  exact ⟨(RowAt.below r1 b24).cell 0, (RowAt.below r2 b34).cell 0, RowAt.below r3 b4, r4⟩
theorem opres {W : World} {g : Nat} {v : Value} {e : Int} (h1 : RowAt W (g + 2) 30 #[v]) (h2 : RowAt W (g + 3) 25 #[.int .i64 e]) (tmps : Array Value) (a1 : tmps.getD 4 undef = .pointer (some ⟨g + 2, 0, none⟩)) (a2 : tmps.getD 5 undef = .pointer (some ⟨g + 3, 0, none⟩)) :
    (results Try.f8 tmps).run Try.prog W = .ok (.tuple #[v, .int .i64 e]) W :=
  results_box2 (p := 4) (q := 5) rfl a1 a2 (h1.cell 0) (h2.cell 0) rfl Try.underlying30 rfl Try.underlying25
set_option maxRecDepth 100000 in
set_option maxHeartbeats 2000000 in
theorem pgOpen_no (w : World) (S : Nat → Prop) (d : Nat) (D : DK) (F : Nat) (h : DkS w S d D F) (log : Int) (hno : spaceP D.size log < 2) :
    Calls Try.prog 8 #[.pointer (some ⟨d, 0, none⟩), .int .i64 log] w fun e w' => e = .returned (.tuple #[.pointer none, .int .i64 2]) ∧ Below w.heap.size w w' := by
  have HAS : Hid (∀ W, Below w.heap.size w W → Calls Try.prog 25 #[.pointer (some ⟨d, 0, none⟩), .int .i64 log] W fun e w' => e = .returned (.int .i64 2) ∧ w' = W) := Lib.hid fun W hW => by
    have := pasked_any W S d D F (h.later hW) log
    rw [show askP D.size log = 2 by unfold askP; rw [if_pos hno]] at this
    exact this
  obtain ⟨g, hg⟩ : ∃ y, w.heap.size = y := ⟨_, rfl⟩
  obtain ⟨w1, hw1⟩ : ∃ y, w.alloc (.cells #[.pointer (some ⟨d, 0, none⟩)] 24) = y := ⟨_, rfl⟩
  have s1 : w1.heap.size = g + 1 := by rw [← hw1]; simp [hg]
  obtain ⟨w2, hw2⟩ : ∃ y, w1.alloc (.cells #[.int .i64 log] 3) = y := ⟨_, rfl⟩
  have s2 : w2.heap.size = g + 2 := by rw [← hw2]; simp [s1]
  obtain ⟨w3, hw3⟩ : ∃ y, w2.alloc (.cells #[.pointer none] 30) = y := ⟨_, rfl⟩
  have s3 : w3.heap.size = g + 3 := by rw [← hw3]; simp [s2]
  obtain ⟨w4, hw4⟩ : ∃ y, w3.alloc (.cells #[.int .i64 0] 25) = y := ⟨_, rfl⟩
  have b1 : Below w.heap.size w w1 := by rw [← hw1]; exact below_alloc _
  have b2 : Below w1.heap.size w1 w2 := by rw [← hw2]; exact below_alloc _
  have b3 : Below w2.heap.size w2 w3 := by rw [← hw3]; exact below_alloc _
  have b4 : Below w3.heap.size w3 w4 := by rw [← hw4]; exact below_alloc _
  have b34 := b3.trans (b4.mono b3.size)
  have b24 := b2.trans (b34.mono b2.size)
  have HB4 : Hid (Below w.heap.size w w4) := b1.trans (b24.mono b1.size)
  have cp : w4.cell? ⟨g, 0, none⟩ = some (.pointer (some ⟨d, 0, none⟩)) := by
    have : RowAt w1 g 24 #[.pointer (some ⟨d, 0, none⟩)] := by rw [← hw1, ← hg]; exact RowAt.new _ _ _
    exact (RowAt.below this b24).cell 0
  have cl : w4.cell? ⟨g + 1, 0, none⟩ = some (.int .i64 log) := by
    have : RowAt w2 (g + 1) 3 #[.int .i64 log] := by rw [← hw2, ← s1]; exact RowAt.new _ _ _
    exact (RowAt.below this b34).cell 0
  have hr : RowAt w4 (g + 2) 30 #[.pointer none] := by
    have : RowAt w3 (g + 2) 30 #[.pointer none] := by rw [← hw3, ← s2]; exact RowAt.new _ _ _
    exact RowAt.below this b4
  have he : RowAt w4 (g + 3) 25 #[.int .i64 0] := by rw [← hw4, ← s3]; exact RowAt.new _ _ _
  have cr := hr.cell 0
  have ce := he.cell 0
  have fr := hr.frozen 0
  have fe := he.frozen 0
  simp only [List.getElem?_toArray, List.getElem?_cons_zero] at cr ce
  obtain ⟨w5, hw5⟩ : ∃ y, w4.setCell ⟨g + 2, 0, none⟩ (.pointer none) = y := ⟨_, rfl⟩
  have hr5 : RowAt w5 (g + 2) 30 #[.pointer none] := by rw [← hw5]; exact RowAt.set (cs := #[_]) hr 0 _
  have he5 : RowAt w5 (g + 3) 25 #[.int .i64 0] := by rw [← hw5]; exact RowAt.other he (a := ⟨g + 2, 0, none⟩) _ (by dsimp only; omega)
  obtain ⟨w6, hw6⟩ : ∃ y, w5.setCell ⟨g + 3, 0, none⟩ (.int .i64 2) = y := ⟨_, rfl⟩
  have hr6 : RowAt w6 (g + 2) 30 #[.pointer none] := by rw [← hw6]; exact RowAt.other hr5 (a := ⟨g + 3, 0, none⟩) _ (by dsimp only; omega)
  have he6 : RowAt w6 (g + 3) 25 #[.int .i64 2] := by rw [← hw6]; exact RowAt.set (cs := #[_]) he5 0 _
  have HR6 := Lib.hid (And.intro hr6 he6)
  have ce5 := he5.cell 0
  have fe5 := he5.frozen 0
  simp only [List.getElem?_toArray, List.getElem?_cons_zero] at ce5
  have HB6 : Hid (Below w.heap.size w w6) := by
    have := (HB4.out.setCell (p := ⟨g + 2, 0, none⟩) (by dsimp only; omega) (.pointer none)).setCell (p := ⟨g + 3, 0, none⟩) (by dsimp only; omega) (.int .i64 2)
    rw [hw5, hw6] at this
    exact this
  clear b1 b2 b3 b4 b34 b24 h hno hr he hr5 he5 hr6 he6
  go_enter Try.func8, Try.ntmps8
  try simp only [hg, hw1, s1, hw2, s2, hw3, s3, hw4]
  go_wp2_with fail
  try simp only [hg, hw1, s1, hw2, s2, hw3, s3, hw4]
  refine (HAS.out _ HB4.out).mono ?_
  rintro _ _ ⟨rfl, rfl⟩
  go_wp2
  try simp only [hw5, hw6]
  refine bodyPost_ret (opres HR6.out.1 HR6.out.2 _ rfl rfl) rfl ?_
  exact ⟨rfl, hg ▸ HB6.out⟩
set_option maxRecDepth 100000 in
set_option maxHeartbeats 16000000 in
theorem pgOpen_any (b0 : Nat) (w : World) (S : Nat → Prop) (d : Nat) (D : DK) (n room : Nat) (h : DkS w S d D 0) (hS : ∀ y, S y → b0 ≤ y ∧ y < w.heap.size) (hb0 : b0 ≤ w.heap.size) (hp : D.pcs.length ≤ 300000) (hn4 : 4 ≤ n) (hn : n ≤ D.size) (hn3 : n ≤ 300) (hr2 : 2 ≤ room) (hroom : spaceP D.size (n : Int) = (room : Int)) (hrm : n + 2 * room ≤ D.size) (hr5 : room ≤ 100000) :
    Calls Try.prog 8 #[.pointer (some ⟨d, 0, none⟩), .int .i64 (n : Int)] w fun e w' =>
      (e = .returned (.tuple #[.pointer none, .int .i64 9]) ∧ KeepA S w w' ∧ ∀ x, OpX n room D.size (laid D.last D.pcs) x → opOk n room x = false) ∨
      (∃ pb F x, e = .returned (.tuple #[.pointer (some ⟨pb, 0, none⟩), .int .i64 0]) ∧ OpX n room D.size (laid D.last D.pcs) x ∧ opOk n room x = true ∧ PgA b0 w' F pb d D.size n room (PS.fresh (opM n x) x) ∧ (∀ y, F y → S y ∨ w.heap.size ≤ y) ∧ KeepA S w w') := by
  obtain ⟨K, hK⟩ : ∃ K : Ending → World → Prop, (fun (e : Ending) (w' : World) => (e = .returned (.tuple #[.pointer none, .int .i64 9]) ∧ KeepA S w w' ∧ ∀ x, OpX n room D.size (laid D.last D.pcs) x → opOk n room x = false) ∨
      (∃ pb F x, e = .returned (.tuple #[.pointer (some ⟨pb, 0, none⟩), .int .i64 0]) ∧ OpX n room D.size (laid D.last D.pcs) x ∧ opOk n room x = true ∧ PgA b0 w' F pb d D.size n room (PS.fresh (opM n x) x) ∧ (∀ y, F y → S y ∨ w.heap.size ≤ y) ∧ KeepA S w w')) = K := ⟨_, rfl⟩
  have HKN : Hid (∀ w', KeepA S w w' → (∀ x, OpX n room D.size (laid D.last D.pcs) x → opOk n room x = false) → K (.returned (.tuple #[.pointer none, .int .i64 9])) w') := Lib.hid fun w' h1 h2 => by rw [← hK]; exact .inl ⟨rfl, h1, h2⟩
  have HKY : Hid (∀ pb F x w', OpX n room D.size (laid D.last D.pcs) x → opOk n room x = true → PgA b0 w' F pb d D.size n room (PS.fresh (opM n x) x) → (∀ y, F y → S y ∨ w.heap.size ≤ y) → KeepA S w w' → K (.returned (.tuple #[.pointer (some ⟨pb, 0, none⟩), .int .i64 0])) w') := Lib.hid fun pb F x w' h1 h2 h3 h4 h5 => by rw [← hK]; exact .inr ⟨pb, F, x, rfl, h1, h2, h3, h4, h5⟩
  rw [hK]
  have hs6 := h.sizes.2
  obtain ⟨w1, w2, w3, w4, hw1, hw2, hw3, hw4, s1, s2, s3, s4, hb4, hOB⟩ := opb_new w d n
  obtain ⟨g, hg⟩ : ∃ y, w.heap.size = y := ⟨_, rfl⟩
  rw [hg] at s1 s2 s3 s4 hOB
  have h4 := h.later hb4
  have hSg : ∀ y, S y → b0 ≤ y ∧ y < g := fun y hy => by rw [← hg]; exact hS y hy
  have hask : askP D.size (n : Int) = 0 := by unfold askP; rw [hroom, if_neg (by omega)]
  have HAS := Lib.hid (pasked_any w4 S d D 0 h4 (n : Int))
  rw [hask] at HAS
  have HOP := Lib.hid (gl_open b0 w4 S d n D h4 (by omega) (fun y hy => ⟨(hSg y hy).1, by have := (hSg y hy).2; omega⟩) (by have := hb4.size; omega) hn4 hn)
  have HSG := Lib.hid hSg
  have HOB := Lib.hid hOB
  have HB4 := Lib.hid hb4
  have cp := hOB.p
  have cl := hOB.l
  have HD4 := Lib.hid h4
  clear hK h h4 hask hSg hOB hb4 hS
  refine calls_of_wp_marks Try.func8 rfl ?_
  simp only [Try.ntmps8, List.size_toArray, List.length_cons, List.length_nil, Nat.reduceAdd, Nat.reduceSub, Array.replicate_succ, Array.replicate_zero, List.push_toArray, List.append_toArray, List.nil_append, List.cons_append]
  try simp only [hg, hw1, s1, hw2, s2, hw3, s3, hw4]
  go_wp2_with fail
  try simp only [hg, hw1, s1, hw2, s2, hw3, s3, hw4]
  refine HAS.out.mono ?_
  rintro _ wq ⟨rfl, hq⟩
  have hq := hq.symm
  subst hq
  go_wp2_with fail
  refine HOP.out.mono ?_
  rintro _ w5 (⟨rfl, hb5, hbad⟩ | ⟨run, base, used, bs, lb, hlook, hrun, rfl, hk5, hgn⟩)
  · have hOB5 := HOB.out.keep (KeepA.of_below (X := fun _ => False) hb5) fun _ h => h.elim
    have hk5 : KeepA S w w5 := KeepA.of_below (HB4.out.trans (hb5.mono HB4.out.size))
    have HE : Hid (∀ w', KeepA (fun k => k ∈ ([] : List Nat)) ((w5.setCell ⟨g + 2, 0, none⟩ (.pointer none)).setCell ⟨g + 3, 0, none⟩ (.int .i64 9)) w' → K (.returned (.tuple #[.pointer none, .int .i64 9])) w') := Lib.hid fun w' hk => by
      refine HKN.out _ (KeepA.trans2 ?_ hk fun y _ e => by simp at e) fun x hx => ?_
      · exact (hk5.trans2 (keep_grown (grownBy_setCellAt w5 (g + 2) 0 _)) fun y hy e => by omega).trans2 (keep_grown (grownBy_setCellAt _ (g + 3) 0 _)) fun y hy e => by omega
      · obtain ⟨run, base, used, bs, x1, q1, q2, -⟩ := hx
        have := hbad run base used bs q1
        omega
    obtain ⟨cp5, cl5, hr5, he5⟩ := hOB5
    have cr := hr5.cell 0
    have ce := he5.cell 0
    have fr := hr5.frozen 0
    have fe := he5.frozen 0
    simp only [List.getElem?_toArray, List.getElem?_cons_zero] at cr ce
    have HR9 : Hid (RowAt ((w5.setCell ⟨g + 2, 0, none⟩ (.pointer none)).setCell ⟨g + 3, 0, none⟩ (.int .i64 9)) (g + 2) 30 #[.pointer none] ∧ RowAt ((w5.setCell ⟨g + 2, 0, none⟩ (.pointer none)).setCell ⟨g + 3, 0, none⟩ (.int .i64 9)) (g + 3) 25 #[.int .i64 9]) :=
      ⟨RowAt.other (RowAt.set (cs := #[_]) hr5 0 _) (a := ⟨g + 3, 0, none⟩) _ (by dsimp only; omega), RowAt.set (cs := #[_]) (RowAt.other he5 (a := ⟨g + 2, 0, none⟩) _ (by dsimp only; omega)) 0 _⟩
    clear hr5 he5 cp5 cl5
    go_wp2
    refine post_marks [] rfl (by simp) (by simp) fun w' hk => ⟨.tuple #[.pointer none, .int .i64 9], ?_, ?_⟩
    · exact opres (row_keep hk HR9.out.1 (by simp)) (row_keep hk HR9.out.2 (by simp)) _ rfl rfl
    · exact HE.out w' hk
  · obtain ⟨T5, hg5, hT5⟩ := hgn
    obtain ⟨hfb, hfn⟩ := lookP_fine hlook
    have hOB5 := HOB.out.keep hk5 fun y hy => .inl (HSG.out y hy).2
    have hz5 : w4.heap.size ≤ w5.heap.size := hk5.size
    obtain ⟨N5, hN5⟩ : ∃ y, w5.heap.size = y := ⟨_, rfl⟩
    obtain ⟨x0, hx0⟩ : ∃ y, (⟨⟨D.size, laid (laid D.last D.pcs) (wps (0 + (((run + 1) % 2 : Nat) : Int)) (headB (run + 1) base) ((headB (run + 1) base).length / 512)), []⟩, 0, run + 1, base, used, false, bs⟩ : LX) = y := ⟨_, rfl⟩
    have hfz : x0.fz = 0 ∧ x0.ld = false ∧ x0.D.pcs = [] ∧ x0.bs = bs ∧ x0.run = run + 1 ∧ x0.D.size = D.size := by rw [← hx0]; exact ⟨rfl, rfl, rfl, rfl, rfl, rfl⟩
    rw [hx0] at hg5
    have HOX : Hid (∀ x1 x3, PutsR n room bs x0 x1 → SyRe 0 x1 x3 → OpX n room D.size (laid D.last D.pcs) x3) := Lib.hid fun x1 x3 h1 h2 => ⟨run, base, used, bs, x1, hlook, hrun, by rw [hx0]; exact h1, h2⟩
    have HOU : Hid (∀ x3, OpX n room D.size (laid D.last D.pcs) x3 → ∃ x1, PutsR n room bs x0 x1 ∧ SyRe 0 x1 x3) := Lib.hid fun x3 h => by
      obtain ⟨run', base', used', bs', x1, q1, q2, q3, q4⟩ := h
      rw [hlook] at q1
      cases q1
      rw [hx0] at q3
      exact ⟨x1, q3, q4⟩
    have HFB : Hid ((∀ b ∈ bs, b.length ≤ 146400) ∧ bs.length ≤ 301) := ⟨fun b hb => Nat.le_trans (hfb b hb) (by omega), by omega⟩
    -- space, the room's box
    have HSP : Hid (Calls Try.prog 27 #[.pointer (some ⟨d, 0, none⟩), .int .i64 (n : Int)] w5 fun e w' => e = .returned (.int .i64 (room : Int)) ∧ w' = w5) := by
      obtain ⟨S5, hd5, -⟩ := hg5.disk
      have := space_any w5 S5 d x0.D x0.fz hd5 (n : Int)
      rw [hfz.2.2.2.2.2, hroom] at this
      exact this
    obtain ⟨w6, hw6⟩ : ∃ y, w5.alloc (.cells #[.int .i64 0] 3) = y := ⟨_, rfl⟩
    have hb6 : Below w5.heap.size w5 w6 := by rw [← hw6]; exact below_alloc _
    have hr6 : RowAt w6 N5 3 #[.int .i64 0] := by rw [← hw6, ← hN5]; exact RowAt.new _ _ _
    have c6 := hr6.cell 0
    have f6 := hr6.frozen 0
    simp only [List.getElem?_toArray, List.getElem?_cons_zero] at c6
    obtain ⟨w7, hw7⟩ : ∃ y, w6.setCell ⟨N5, 0, none⟩ (.int .i64 (room : Int)) = y := ⟨_, rfl⟩
    have hr7 : RowAt w7 N5 3 #[.int .i64 (room : Int)] := by rw [← hw7]; exact RowAt.set (cs := #[_]) hr6 0 _
    have hb7 : Below N5 w5 w7 := by
      have := (hb6.setCell (p := ⟨N5, 0, none⟩) (by dsimp only; omega) (.int .i64 (room : Int)))
      rw [hw7, hN5] at this
      exact this
    have hs7 : w7.heap.size = N5 + 1 := by rw [← hw7, ← hw6]; simp [hN5]
    have hg7 : GLog b0 w7 T5 lb d D.size n x0 := hg5.later (by rw [hN5]; exact hb7)
    have hOB7 := hOB5.keep (X := fun _ => False) (KeepA.of_below (by rw [hN5]; exact hb7)) fun _ h => h.elim
    have HBA := Lib.hid (gl_batches hg7 (by rw [hfz.2.2.2.1]; have := HFB.out.2; omega) (fun b hb => by rw [hfz.2.2.2.1] at hb; have := HFB.out.1 b hb; omega))
    rw [hfz.2.2.2.1] at HBA
    have HG7 := Lib.hid hg7
    have HOB7 := Lib.hid hOB7
    have HR7 := Lib.hid hr7
    have HT5 : Hid (∀ y, T5 y → (S y ∨ g + 4 ≤ y) ∧ y < N5) := Lib.hid fun y hy => ⟨(hT5 y hy).imp id fun e => by omega, by rw [← hN5]; exact (hg5.lt y hy).2⟩
    have HK7 : Hid (KeepA S w w7) := ((KeepA.of_below HB4.out).trans hk5).trans (KeepA.of_below (by rw [hN5]; exact hb7))
    have HX0 := Lib.hid hfz
    have HZ5 : Hid (g + 4 ≤ N5) := by show _ ≤ _; omega
    have HS7 := Lib.hid hs7
    have HBG : Hid (b0 ≤ N5) := by
      have := HB4.out.size
      show _ ≤ _
      omega
    have HRUN := Lib.hid hrun
    have cp5 := hOB5.p
    have cl5 := hOB5.l
    clear hfb hfn hk5 hz5 hx0 hg5 hT5 hlook hrun hb6 hr6 hr7 hb7 hg7 hOB7 hOB5 hfz cp cl hs7
    go_wp2_with fail
    refine HSP.out.mono ?_
    rintro _ wq ⟨rfl, hq⟩
    have hq := hq.symm
    subst hq
    go_wp2_with fail
    try simp only [hN5, hw6, hw7]
    refine HBA.out.mono ?_
    rintro _ w8 ⟨⟨bx, vb, rfl, hbx, hrb, hbt⟩, hb8⟩
    have HB8 := Lib.hid hb8
    have HBX := Lib.hid (And.intro hbx (And.intro hrb hbt))
    clear hbx hrb hbt hb8
    obtain ⟨g8, hg8⟩ : ∃ y, w8.heap.size = y := ⟨_, rfl⟩
    have HG8 : Hid (N5 < g8 ∧ w8.heap.size = g8) := by
      have := HB8.out.size
      have := HS7.out
      exact ⟨by omega, hg8⟩
    go_wp2_with fail
    have hst := batches_stopsF w8 w8 (Below.refl _ _) bx vb bs w7.heap.size (HBX.out.2.1.cell 0) HBX.out.2.2 (by have := HFB.out.2; omega) (fun b hb => by have := HFB.out.1 b hb; omega) (fun y => T5 y ∨ g8 + 2 ≤ y) (fun y hy => by
      rcases hy with e | e
      · have := (HT5.out y e).2
        have := HS7.out
        omega
      · omega)
    refine wp_rangeF (gf := 59) (lb := #[.pointer (some ⟨bx, 0, none⟩)]) rfl (enters_of Try.func59 (by kernel_rfl) rfl) (fun y => T5 y ∨ g8 + 2 ≤ y) (len := bs.length) hst ?hX ?hps (fun k W => ∃ T' x', GLog b0 W T' lb d D.size n x' ∧ (∀ y, T' y → T5 y ∨ g8 + 2 ≤ y) ∧ PutsR n room (bs.take k) x0 x' ∧ x'.D.pcs.length ≤ k * 300 ∧ x'.fz = 0 ∧ x'.ld = false ∧ x'.run = run + 1) (fun _ _ _ => False) ?hG ?hGx ?h0 ?hround ?hdone ?hstop
    case hX =>
      intro k hk
      rcases hk with e | e
      · have := (HT5.out k e).2
        have := HG8.out
        omega
      · have := HG8.out
        omega
    case hps => rintro j args W0 W ⟨b, u, _, rfl, _⟩; rfl
    case hGx => exact fun c j W W' h hs => h
    case hstop => exact fun D c k W _ _ _ h _ => h.elim
    case hG =>
      rintro k W W' ⟨T', x', h1, h2⟩ hs
      exact ⟨T', x', h1.stays hs, h2⟩
    case h0 => exact ⟨T5, x0, HG7.out.later HB8.out, fun y hy => .inl hy, rfl, by rw [HX0.out.2.2.1]; exact Nat.zero_le _, HX0.out.1, HX0.out.2.1, HX0.out.2.2.2.2.1⟩
    case hround =>
      rintro lp k args W0 W hk hk0 ⟨T', x1, hg0, hT', hpu, hpc, hfz, hld, hru⟩ hsz0 hbel ⟨b, u, hget, rfl, hown⟩
      have hkb : bs[k]? = some b := hget
      have hbm : b ∈ bs := List.mem_of_getElem? hget
      have hbl := HFB.out.1 b hbm
      obtain ⟨a1, c1, rfl, hc1, hrd⟩ := hown.rd
      have HOW := Lib.hid hown
      have HSTEP : Hid (∀ W2, StayW w8.heap.size W W2 → KeepA (fun y => T5 y ∨ g8 + 2 ≤ y) w8 W2 → OpB W2 g d n ∧ W2.cell? ⟨N5, 0, none⟩ = some (.int .i64 (room : Int)) ∧ Calls Try.prog 29 #[.pointer (some ⟨d, 0, none⟩), .int .i64 (n : Int), .slice a1 b.length c1, .int .i64 (room : Int)] W2 fun e w' => e = .returned (.int .i64 0) ∧ KeepA (fun y => T5 y ∨ g8 + 2 ≤ y) W2 w' ∧ ∃ T' x', GLog b0 w' T' lb d D.size n x' ∧ (∀ y, T' y → T5 y ∨ g8 + 2 ≤ y) ∧ PutsR n room (bs.take (k + 1)) x0 x' ∧ x'.D.pcs.length ≤ (k + 1) * 300 ∧ x'.fz = 0 ∧ x'.ld = false ∧ x'.run = run + 1) := Lib.hid fun W2 hs2 hk2 => by
        have ho2 := ownB_stayW hs2 HOW.out
        obtain ⟨a2, c2, e2, -, hr2⟩ := ho2.rd
        simp only [Value.slice.injEq] at e2
        obtain ⟨rfl, -, rfl⟩ := e2
        have hg2 := (hg0.later hbel).stays hs2
        have hkl : k < 301 := by have := HFB.out.2; omega
        have hsz2 : W0.heap.size ≤ W2.heap.size := Nat.le_trans hbel.size hs2.keepO.size
        have hr7 := row_keep hk2 (RowAt.below HR7.out HB8.out) (fun e => by
          rcases e with e | e
          · have := (HT5.out _ e).2
            omega
          · have := HG8.out
            omega)
        refine ⟨(HOB7.out.keep (X := fun _ => False) (KeepA.of_below HB8.out) fun _ h => h.elim).keep hk2 fun y hy => ?_, hr7.cell 0, ?_⟩
        · rcases hy with e | e
          · rcases (HT5.out y e).1 with e | e
            · exact .inl (HSG.out y e).2
            · exact .inr (by omega)
          · have := HG8.out
            have := HZ5.out
            exact .inr (by omega)
        · refine (G_put (GL.refl hg2) (by have := HBG.out; have := HG8.out; omega) room hrm _ b b.length _ rfl hc1 hr2 (fun ad e => ?_) (by omega)).mono ?_
          · obtain ⟨p1, p2⟩ := ho2.addr ad e
            exact ⟨fun ht => by have := (hg0.lt _ ht).2; omega, p2⟩
          · rintro e w' ⟨er, x2, rfl, hput, T2, hg3, hT2, kk⟩
            obtain rfl := hput.zero hfz
            obtain ⟨-, m2, m3, m4⟩ := hput.more fun e he => entsN_len _ _ e he
            have hmany := entsN_many b.length b
            unfold ents at m3
            refine ⟨rfl, kk.mono fun y hy => ?_, T2, x2, hg3, fun y hy => ?_, ?_, ?_, ?_, ?_, ?_⟩
            · rcases hy with e | e
              · exact hT' y e
              · exact .inr (by omega)
            · rcases hT2 y hy with e | e
              · exact hT' y e
              · exact .inr (by omega)
            · have ht : bs.take (k + 1) = bs.take k ++ [b] := by
                rw [List.take_add_one, hkb]
                rfl
              rw [ht]
              exact hpu.snoc hput
            · omega
            · rw [m4]; exact hfz
            · rw [m4]; exact hld
            · rw [m4]; exact hru
      clear hown hrd hget hkb hbm hbl hg0 hT' hpu hpc hfz hld hru hst
      gi_wp2
      refine ⟨KeepA.refl _ _, fun W2 hs2 hk2 hsz2 => ?_⟩
      obtain ⟨hOB2, cr2, hcall⟩ := HSTEP.out W2 hs2 hk2
      have HCA := Lib.hid hcall
      obtain ⟨cp2, cl2, -, -⟩ := hOB2
      clear hcall hs2 hk2
      obtain ⟨bl, hbl⟩ : ∃ z, b.length = z := ⟨_, rfl⟩
      rw [hbl] at HCA
      try rw [hbl]
      clear hbl
      gi_wp2_with fail
      refine ⟨trivial, (callsIn_wide.2 HCA.out).mono ?_⟩
      rintro _ w9 ⟨rfl, hk9, hE⟩
      have HE := Lib.hid (And.intro hk9 hE)
      clear hk9 hE cr2 cp2 cl2
      gi_wp2
      exact ⟨HE.out.1, HE.out.2⟩
    case hdone =>
      rintro D1 W hD hkw ⟨T', x1, hg1, hT', hpu, hpc, hfz, hld, hru⟩ hdf
      rw [HG8.out.2] at hD
      have hD := hD.symm
      subst hD
      rw [List.take_length] at hpu
      have hkF : ∀ y, (T5 y ∨ g8 + 2 ≤ y) → (y < g ∨ g + 3 < y) ∧ y ≠ N5 ∧ y ≠ g8 := fun y e => by
        have h8 := HG8.out.1
        have hz := HZ5.out
        rcases e with e | e
        · obtain ⟨q1, q2⟩ := HT5.out y e
          refine ⟨?_, by omega, by omega⟩
          rcases q1 with e | e
          · exact .inl (HSG.out y e).2
          · exact .inr (by omega)
        · exact ⟨.inr (by omega), by omega, by omega⟩
      have HKF := Lib.hid hkF
      have hOBW := (HOB7.out.keep (X := fun _ => False) (KeepA.of_below HB8.out) fun _ h => h.elim).keep hkw fun y hy => (hkF y hy).1
      have hrW := row_keep hkw (RowAt.below HR7.out HB8.out) fun e => (hkF _ e).2.1 rfl
      obtain ⟨sb, hsb⟩ : ∃ y, W.heap.size = y := ⟨_, rfl⟩
      obtain ⟨w10, hw10⟩ : ∃ y, W.alloc (.cells #[.func (.func 7) #[.pointer (some ⟨d, 0, none⟩)] #[], .func (.func 31) #[.pointer (some ⟨lb, 0, none⟩)] #[]] 29) = y := ⟨_, rfl⟩
      have hb10 : Below W.heap.size W w10 := by rw [← hw10]; exact below_alloc _
      have hr10 : RowAt w10 sb 29 #[.func (.func 7) #[.pointer (some ⟨d, 0, none⟩)] #[], .func (.func 31) #[.pointer (some ⟨lb, 0, none⟩)] #[]] := by rw [← hw10, ← hsb]; exact RowAt.new _ _ _
      have h8s : g8 < W.heap.size := (Array.getElem?_eq_some_iff.1 hdf).1
      have hg10 := hg1.later hb10
      have HSY : Hid (Calls Try.prog 30 #[.slice (some ⟨sb, 0, none⟩) 2 2] w10 fun e w' => ∃ x3, e = .returned (.int .i64 0) ∧ SyRe 0 x1 x3 ∧ GL b0 w10 w' T' lb d D.size n x3) := by
        have hlen := HFB.out.2
        refine (syre_any b0 w10 T' lb d D.size n x1 hg10 hld (by have := HBG.out; have := HG8.out.1; have := hb10.size; omega) (by have : bs.length * 300 ≤ 301 * 300 := Nat.mul_le_mul_right _ hlen; omega) (by have := HRUN.out; omega) sb 2 (fun e => by have := (hg1.lt sb e).2; omega) hr10).mono ?_
        rintro e w' ⟨er, x3, rfl, h1, h2⟩
        obtain rfl := h1.zero hfz
        exact ⟨x3, rfl, h1, h2⟩
      have HOBW := Lib.hid hOBW
      have HRW := Lib.hid hrW
      have HPU := Lib.hid (And.intro hpu (And.intro hfz hT'))
      have HKW : Hid (KeepA (fun y => T5 y ∨ g8 + 2 ≤ y) w8 W) := Lib.hid hkw
      have HB10 := Lib.hid hb10
      have HDF := Lib.hid hdf
      have cpW := hOBW.p
      have clW := hOBW.l
      have HSB : Hid (sb = W.heap.size ∧ g8 < sb ∧ sb < w10.heap.size) := ⟨hsb.symm, by omega, hr10.lt⟩
      clear hg1 hT' hpu hpc hfz hld hru hdf hkw hkF hOBW hrW hb10 hr10 h8s hg10 hst cp5 cl5 c6 f6 hg8 hw6 hw7 hN5
      go_wp2_with fail
      try simp only [hsb, hw10]
      refine HSY.out.mono ?_
      rintro _ w11 ⟨x3, rfl, hsr, T3, hg3, hT3, hk3⟩
      have HK3 : Hid (KeepA (fun y => T5 y ∨ g8 + 2 ≤ y) w8 w11) := by
        refine (HKW.out.trans (KeepA.of_below HB10.out)).trans (hk3.mono fun y hy => ?_)
        rcases hy with e | e
        · exact HPU.out.2.2 y e
        · have := HSB.out
          exact .inr (by omega)
      have HT3 : Hid (∀ y, T3 y → (T5 y ∨ g8 + 2 ≤ y) ∧ y < w11.heap.size) := Lib.hid fun y hy => ⟨by
        rcases hT3 y hy with e | e
        · exact HPU.out.2.2 y e
        · have := HSB.out
          exact .inr (by omega), (hg3.lt y hy).2⟩
      have HOB11 : Hid (OpB w11 g d n ∧ w11.cell? ⟨N5, 0, none⟩ = some (.int .i64 (room : Int)) ∧ w11.heap[g8]? = some (.deferred (some []))) := by
        have hk := (KeepA.of_below (X := fun y => T5 y ∨ g8 + 2 ≤ y) HB10.out).trans (hk3.mono fun y hy => (by
          rcases hy with e | e
          · exact HPU.out.2.2 y e
          · have := HSB.out
            exact .inr (by omega)))
        exact ⟨HOBW.out.keep hk fun y hy => (HKF.out y hy).1, (row_keep hk HRW.out fun e => (HKF.out _ e).2.1 rfl).cell 0, (hk.same g8 (by have := HSB.out; omega) fun e => (HKF.out _ e).2.2 rfl).trans HDF.out⟩
      have hsm := hsr.more
      have HX3 : Hid (OpX n room D.size (laid D.last D.pcs) x3 ∧ (∀ x, OpX n room D.size (laid D.last D.pcs) x → x = x3) ∧ x3.D.pcs = []) := ⟨HOX.out x1 x3 HPU.out.1 hsr, fun x hx => by
        obtain ⟨x1', p1, p2⟩ := HOU.out x hx
        obtain ⟨rfl, -⟩ := p1.det HPU.out.1 HX0.out.1
        exact p2.det hsr HPU.out.2.1, hsm.1⟩
      have HRD := Lib.hid (gl_read hg3 (by rw [hsm.1]; exact Nat.zero_le _) (n : Int) 2 (by omega) (by omega))
      have HG3 := Lib.hid hg3
      obtain ⟨PB, hPB⟩ : ∃ y, flatS x3.V (n : Int) 2 = y := ⟨_, rfl⟩
      have hPBl : PB.length = 1024 := by rw [← hPB]; exact flatS_len hg3.len _ 2
      rw [hPB] at HRD
      have HPB := Lib.hid (And.intro hPB hPBl)
      have cp11 := HOB11.out.1.p
      have cl11 := HOB11.out.1.l
      clear hsr hg3 hT3 hk3 hsm hPB hPBl cpW clW hw10 hsb
      go_wp2_with fail
      refine HRD.out.mono ?_
      rintro _ w12 ⟨⟨vb2, rfl, ho12⟩, hb12⟩
      obtain ⟨pa, pc, rfl, hpc, hpr⟩ := OwnB.rd ho12
      rw [HPB.out.2] at hpc ⊢
      have HB12 := Lib.hid hb12
      have HRV := Lib.hid (read_any' w12 pa PB 1024 pc (room : Int) hpr HPB.out.2.symm hpc (by omega) (by omega))
      have cr12 : w12.cell? ⟨N5, 0, none⟩ = some (.int .i64 (room : Int)) := (hb12.cell (World.block_lt_of_cell? w11 _ HOB11.out.2.1)).trans HOB11.out.2.1
      obtain ⟨cnt, fr, mn, r0, r1, r2, r3, r4, r5, r6, r7, hmt⟩ := mt_open (rdM PB) (by simp [rdM])
      obtain ⟨mt, hmtv⟩ : ∃ y, rdM PB = y := ⟨_, rfl⟩
      have hmc : (mtC (rdM PB)).toArray = #[.int .i64 (cnt : Int), .int .i64 (fr : Int), .int .i64 (mn : Int), .int .i64 (r0 : Int), .int .i64 (r1 : Int), .int .i64 (r2 : Int), .int .i64 (r3 : Int), .int .i64 (r4 : Int), .int .i64 (r5 : Int), .int .i64 (r6 : Int), .int .i64 (r7 : Int)] := by rw [hmt]; rfl
      rw [hmc] at HRV
      have HMT : Hid (rdM PB = ⟨cnt, fr, mn, [r0, r1, r2, r3, r4, r5, r6, r7]⟩) := hmt
      clear ho12 hb12 hpr hpc hmt hmc hmtv cp11 cl11
      obtain ⟨okv, hokv⟩ : ∃ y, readOk PB (room : Int) = y := ⟨_, rfl⟩
      have HOK := Lib.hid hokv
      rw [hokv] at HRV
      clear hokv
      go_wp2_with fail
      refine HRV.out.mono ?_
      rintro _ w13 ⟨rfl, hb13⟩
      have HB13 := Lib.hid hb13
      clear hb13
      obtain ⟨g13, hg13⟩ : ∃ y, w13.heap.size = y := ⟨_, rfl⟩
      obtain ⟨w14, hw14⟩ : ∃ y, w13.alloc (.cells #[.int .i64 0, .int .i64 0, .int .i64 0, .int .i64 0, .int .i64 0, .int .i64 0, .int .i64 0, .int .i64 0, .int .i64 0, .int .i64 0, .int .i64 0] 72) = y := ⟨_, rfl⟩
      have hr14 : RowAt w14 g13 72 #[.int .i64 0, .int .i64 0, .int .i64 0, .int .i64 0, .int .i64 0, .int .i64 0, .int .i64 0, .int .i64 0, .int .i64 0, .int .i64 0, .int .i64 0] := by rw [← hw14, ← hg13]; exact RowAt.new _ _ _
      have hb14 : Below w13.heap.size w13 w14 := by rw [← hw14]; exact below_alloc _
      have HB14 := Lib.hid hb14
      have HR14 := Lib.hid hr14
      have HG13 : Hid (g13 = w13.heap.size) := hg13.symm
      clear hb14 hr14
      cases okv with
      | false =>
        have HOB14 : Hid (OpB w14 g d n ∧ w14.cell? ⟨N5, 0, none⟩ = some (.int .i64 (room : Int)) ∧ w14.heap[g8]? = some (.deferred (some [])) ∧ g + 4 ≤ g13 ∧ N5 < g13 ∧ g8 < g13 ∧ w11.heap.size ≤ g13 ∧ Below w11.heap.size w11 w14) := by
          have hb := (HB12.out.trans ((HB13.out.trans (HB14.out.mono HB13.out.size)).mono HB12.out.size))
          obtain ⟨p1, p2, p3⟩ := HOB11.out
          have h8 := (Array.getElem?_eq_some_iff.1 p3).1
          have hz := HB12.out.size
          have hz2 := HB13.out.size
          have h5 := HG8.out.1
          have h6 := HZ5.out
          have h7 := HG13.out
          exact ⟨p1.keep (X := fun _ => False) (KeepA.of_below hb) fun _ h => h.elim, (hb.cell (World.block_lt_of_cell? w11 _ p2)).trans p2, (hb.block g8 h8).trans p3, by omega, by omega, by omega, by omega, hb⟩
        have HKS : Hid (KeepA S w w11) := by
          refine (HK7.out.trans (KeepA.of_below HB8.out)).trans2 HK3.out fun y hy e => ?_
          have h5 := HG8.out.1
          have h6 := HZ5.out
          rcases e with e | e
          · obtain ⟨q1, q2⟩ := HT5.out y e
            rcases q1 with e | e
            · exact e
            · omega
          · omega
        have HFC : Hid (∀ w15, w14.grownBy w15 (some g13) → (w15.cell? ⟨g + 2, 0, none⟩ = some (.pointer none) ∧ w15.cell? ⟨g + 3, 0, none⟩ = some (.int .i64 0) ∧ w15.frozen? ⟨g + 2, 0, none⟩ = false ∧ w15.frozen? ⟨g + 3, 0, none⟩ = false) ∧
            (RowAt ((w15.setCell ⟨g + 2, 0, none⟩ (.pointer none)).setCell ⟨g + 3, 0, none⟩ (.int .i64 9)) (g + 2) 30 #[.pointer none] ∧ RowAt ((w15.setCell ⟨g + 2, 0, none⟩ (.pointer none)).setCell ⟨g + 3, 0, none⟩ (.int .i64 9)) (g + 3) 25 #[.int .i64 9] ∧ ((w15.setCell ⟨g + 2, 0, none⟩ (.pointer none)).setCell ⟨g + 3, 0, none⟩ (.int .i64 9)).heap[g8]? = some (.deferred (some []))) ∧
            ∀ w', KeepA (fun k => k ∈ [g8]) ((w15.setCell ⟨g + 2, 0, none⟩ (.pointer none)).setCell ⟨g + 3, 0, none⟩ (.int .i64 9)) w' → K (.returned (.tuple #[.pointer none, .int .i64 9])) w') := Lib.hid fun w15 hg15 => by
          obtain ⟨p1, p2, p3, p4, p5, p6, p7, p8⟩ := HOB14.out
          have hk15 := keep_grown hg15
          obtain ⟨-, -, hr5, he5⟩ := p1.keep hk15 fun y e => .inr (by omega)
          have h5 := HG8.out.1
          have h6 := HZ5.out
          refine ⟨⟨hr5.cell 0, he5.cell 0, hr5.frozen 0, he5.frozen 0⟩, ⟨RowAt.other (RowAt.set (cs := #[_]) hr5 0 _) (a := ⟨g + 3, 0, none⟩) _ (by dsimp only; omega), RowAt.set (cs := #[_]) (RowAt.other he5 (a := ⟨g + 2, 0, none⟩) _ (by dsimp only; omega)) 0 _, ?_⟩, fun w' hk => HKN.out w' ?_ fun x hx => ?_⟩
          · rw [heap_setCell_other _ _ g8 _ (by dsimp only; omega), heap_setCell_other _ _ g8 _ (by dsimp only; omega), hk15.same g8 (Array.getElem?_eq_some_iff.1 p3).1 (by omega)]
            exact p3
          · refine ((((HKS.out.trans (KeepA.of_below p8)).trans2 hk15 fun y hy e => ?_).trans2 (keep_grown (grownBy_setCellAt w15 (g + 2) 0 _)) fun y hy e => ?_).trans2 (keep_grown (grownBy_setCellAt _ (g + 3) 0 _)) fun y hy e => ?_).trans2 hk fun y hy e => ?_
            · omega
            · omega
            · omega
            · simp only [List.mem_singleton] at e
              omega
          · obtain rfl := HX3.out.2.1 x hx
            unfold opOk
            rw [HPB.out.1, HOK.out]
            rfl
        go_wp2_with (first | (refine step_storeRow rfl 72 (.tmp 16) (.tmp 68) rfl rfl g13 #[.int .i64 (cnt : Int), .int .i64 (fr : Int), .int .i64 (mn : Int), .int .i64 (r0 : Int), .int .i64 (r1 : Int), .int .i64 (r2 : Int), .int .i64 (r3 : Int), .int .i64 (r4 : Int), .int .i64 (r5 : Int), .int .i64 (r6 : Int), .int .i64 (r7 : Int)] rfl rfl 72 _ HR14.out metaSize rfl (by simp [Value.oneCell']) ?_; intro w15 hr15 hg15; have HF15 := Lib.hid (HFC.out w15 hg15); obtain ⟨cr15, ce15, fr15, fe15⟩ := HF15.out.1; clear hr15 hg15))
        refine post_marks [g8] rfl (by simp) (by intro y hy; simp only [List.mem_singleton] at hy; subst hy; exact HF15.out.2.1.2.2) fun w' hk => ⟨.tuple #[.pointer none, .int .i64 9], ?_, ?_⟩
        · exact opres (row_keep hk HF15.out.2.1.1 (by have := HG8.out.1; have := HZ5.out; simp; omega)) (row_keep hk HF15.out.2.1.2.1 (by have := HG8.out.1; have := HZ5.out; simp; omega)) _ rfl rfl
        · exact HF15.out.2.2 w' hk
      | true =>
        have HOB14 : Hid (OpB w14 g d n ∧ w14.cell? ⟨N5, 0, none⟩ = some (.int .i64 (room : Int)) ∧ w14.heap[g8]? = some (.deferred (some [])) ∧ g + 4 ≤ g13 ∧ N5 < g13 ∧ g8 < g13 ∧ w11.heap.size ≤ g13 ∧ Below w11.heap.size w11 w14) := by
          have hb := (HB12.out.trans ((HB13.out.trans (HB14.out.mono HB13.out.size)).mono HB12.out.size))
          obtain ⟨p1, p2, p3⟩ := HOB11.out
          have h8 := (Array.getElem?_eq_some_iff.1 p3).1
          have hz := HB12.out.size
          have hz2 := HB13.out.size
          have h5 := HG8.out.1
          have h6 := HZ5.out
          have h7 := HG13.out
          exact ⟨p1.keep (X := fun _ => False) (KeepA.of_below hb) fun _ h => h.elim, (hb.cell (World.block_lt_of_cell? w11 _ p2)).trans p2, (hb.block g8 h8).trans p3, by omega, by omega, by omega, by omega, hb⟩
        have HKS : Hid (KeepA S w w11) := by
          refine (HK7.out.trans (KeepA.of_below HB8.out)).trans2 HK3.out fun y hy e => ?_
          have h5 := HG8.out.1
          have h6 := HZ5.out
          rcases e with e | e
          · obtain ⟨q1, q2⟩ := HT5.out y e
            rcases q1 with e | e
            · exact e
            · omega
          · omega
        have HFC : Hid (∀ w15, w14.grownBy w15 (some g13) → OpB w15 g d n ∧ w15.cell? ⟨N5, 0, none⟩ = some (.int .i64 (room : Int)) ∧ w15.heap[g8]? = some (.deferred (some []))) := Lib.hid fun w15 hg15 => by
          obtain ⟨p1, p2, p3, p4, p5, p6, p7, p8⟩ := HOB14.out
          have hk15 := keep_grown hg15
          exact ⟨p1.keep hk15 fun y e => .inr (by omega), hk15.cell p2 (by dsimp only; omega), (hk15.same g8 (Array.getElem?_eq_some_iff.1 p3).1 (by omega)).trans p3⟩
        go_upto_region 20 with (refine step_storeRow rfl 72 (.tmp 16) (.tmp 68) rfl rfl g13 #[.int .i64 (cnt : Int), .int .i64 (fr : Int), .int .i64 (mn : Int), .int .i64 (r0 : Int), .int .i64 (r1 : Int), .int .i64 (r2 : Int), .int .i64 (r3 : Int), .int .i64 (r4 : Int), .int .i64 (r5 : Int), .int .i64 (r6 : Int), .int .i64 (r7 : Int)] rfl rfl 72 _ HR14.out metaSize rfl (by simp [Value.oneCell']) ?_; intro w15 hr15 hg15; have HR15 := Lib.hid hr15; have HG15 := Lib.hid hg15; obtain ⟨hOB15, cr15, hd15⟩ := HFC.out w15 hg15; have cp15 := hOB15.p; have cl15 := hOB15.l; have HOB15 := Lib.hid (And.intro hOB15 (And.intro cr15 hd15)); clear hr15 hg15 hOB15 hd15)
        obtain ⟨M, hM⟩ : ∃ y, w15.heap.size = y := ⟨_, rfl⟩
        obtain ⟨w16, hw16⟩ : ∃ y, w15.alloc (.map #[] 0) = y := ⟨_, rfl⟩
        have hb16 : Below w15.heap.size w15 w16 := by rw [← hw16]; exact below_alloc _
        have hm16 : MapR w16 M intV (fun _ => none) := by rw [← hw16, ← hM]; exact MapR.new _
        have hs16 : w16.heap.size = M + 1 := by rw [← hw16, ← hM]; simp
        go_wp2_with (first
          | (refine step_loadRow rfl 72 (.tmp 16) rfl g13 rfl HR15.out (show Agg Try.prog 72 11 from aggMt (m := mt0) rfl) ?_)
          | (refine step_makeMapM rfl 75 rfl ?_; intro wq hwq; rw [hw16] at hwq; rw [hM]; subst hwq))
        obtain ⟨w17, hw17⟩ : ∃ y, w16.alloc (.cells #[.pointer (some ⟨d, 0, none⟩), .pointer (some ⟨lb, 0, none⟩), .int .i64 (n : Int), .int .i64 (room : Int), .int .i64 (cnt : Int), .int .i64 (fr : Int), .int .i64 (mn : Int), .int .i64 (r0 : Int), .int .i64 (r1 : Int), .int .i64 (r2 : Int), .int .i64 (r3 : Int), .int .i64 (r4 : Int), .int .i64 (r5 : Int), .int .i64 (r6 : Int), .int .i64 (r7 : Int), .int .i64 0, .int .i64 0, .int .i64 0, .int .i64 0, .int .i64 0, .int .i64 0, .int .i64 0, .int .i64 0, .int .i64 0, .int .i64 0, .int .i64 0, .map (some M), .bool false, .bool false] 77) = y := ⟨_, rfl⟩
        rw [hw17]
        have hb17 : Below w16.heap.size w16 w17 := by rw [← hw17]; exact below_alloc _
        have hrow : PgRow w17 (M + 1) d lb n room ⟨cnt, fr, mn, [r0, r1, r2, r3, r4, r5, r6, r7]⟩ mt0 M false false := ⟨by rw [← hw17, ← hs16]; exact RowAt.new _ _ _, rfl, rfl⟩
        have hm17 : MapR w17 M intV (fun _ => none) := hm16.same (hb17.block M (by omega))
        have hb1517 : Below w15.heap.size w15 w17 := hb16.trans (hb17.mono hb16.size)
        have hs17 : w17.heap.size = M + 2 := by rw [← hw17]; simp [hs16]
        have H14 : Hid (g + 4 ≤ g13 ∧ N5 < g13 ∧ g8 < g13 ∧ w11.heap.size ≤ g13 ∧ Below w11.heap.size w11 w14) := HOB14.out.2.2.2
        have h1417 : KeepA (fun y => y = g13) w14 w17 := (keep_grown HG15.out).trans (KeepA.of_below hb1517)
        have h14s := HR14.out.lt
        have h15s : w14.heap.size ≤ M := by rw [← hM]; exact HG15.out.size
        have hg17 : GLog b0 w17 T3 lb d D.size n x3 := (HG3.out.later H14.out.2.2.2.2).keep h1417 fun y hy e => by
          have := (HT3.out y hy).2
          have := H14.out.2.2.2.1
          omega
        have hok2 := HOK.out
        have hmt := HMT.out
        have hcr : 1 ≤ cnt ∧ cnt ≤ room ∧ fr < cnt ∧ mn < cnt := by
          unfold readOk at hok2
          simp only [Bool.and_eq_true, decide_eq_true_eq] at hok2
          have e1 : nth4 PB 1 = cnt := congrArg Mt.count hmt
          have e2 : nth4 PB 2 = fr := congrArg Mt.free hmt
          have e3 : nth4 PB 3 = mn := congrArg Mt.many hmt
          rw [e1, e2, e3] at hok2
          omega
        have HSX : Hid (PS.fresh (opM n x3) x3 = PS.fresh ⟨cnt, fr, mn, [r0, r1, r2, r3, r4, r5, r6, r7]⟩ x3) := by
          show _ = _
          unfold opM
          rw [HPB.out.1, hmt]
        have hTn : ∀ y, T3 y → y < M ∧ (T5 y ∨ g8 + 2 ≤ y) := fun y hy => ⟨by
          have := (HT3.out y hy).2
          have := H14.out.2.2.2.1
          omega, (HT3.out y hy).1⟩
        have hpg : PgM b0 w17 (fun y => T3 y ∨ y = M + 1 ∨ y = M) T3 (fun _ => False) (M + 1) d D.size n room lb M (fun _ => none) (PS.fresh ⟨cnt, fr, mn, [r0, r1, r2, r3, r4, r5, r6, r7]⟩ x3) := by
          refine ⟨hrow, TurnAt.nil hm17, hg17, fun _ e => e.elim, ⟨fun e => by have := (hTn _ e).1; omega, fun e => e⟩, ⟨fun e => by have := (hTn _ e).1; omega, fun e => e, by omega⟩, fun y hy => ?_, fun y hy => ?_, hrm, ?_⟩
          · rcases hy with e | e | e | e
            · exact .inl e
            · exact e.elim
            · exact .inr (.inl e)
            · exact .inr (.inr e)
          · have h5 := HG8.out.1
            have hbg := HBG.out
            have hn5 := HZ5.out
            have hq8 := H14.out.2.2.1
            rcases hy with e | e | e
            · exact ⟨(hg17.lt y e).1, (hg17.lt y e).2⟩
            · exact ⟨by omega, by omega⟩
            · exact ⟨by omega, by omega⟩
          · show x3.D.pcs.length ≤ _
            rw [HX3.out.2.2]
            exact Nat.zero_le _
        have HPG := Lib.hid hpg
        have HSO := Lib.hid (pgsound_any b0 w17 _ (M + 1) d D.size n room _ ⟨_, _, _, _, _, hpg⟩ hcr.2.1)
        have HB17 := Lib.hid hb1517
        have HOB17 : Hid (OpB w17 g d n ∧ w17.heap[g8]? = some (.deferred (some []))) := by
          obtain ⟨p1, p2, p3⟩ := HOB15.out
          exact ⟨p1.keep (X := fun _ => False) (KeepA.of_below hb1517) fun _ h => h.elim, (hb1517.block g8 (Array.getElem?_eq_some_iff.1 p3).1).trans p3⟩
        have HKE : Hid (∀ w', Below w17.heap.size w17 w' → KeepA S w w') := Lib.hid fun w' hb => by
          refine (((HKS.out.trans (KeepA.of_below H14.out.2.2.2.2)).trans2 h1417 fun y hy e => ?_).trans (KeepA.of_below hb))
          have := H14.out.1
          omega
        have HMS : Hid (g + 4 ≤ g8 ∧ g8 < M ∧ w17.heap.size = M + 2) := by
          have := HG8.out.1
          have := HZ5.out
          have := H14.out.2.2.1
          exact ⟨by omega, by omega, hs17⟩
        obtain ⟨so, hso⟩ : ∃ y, soundB n (PS.fresh ⟨cnt, fr, mn, [r0, r1, r2, r3, r4, r5, r6, r7]⟩ x3) = y := ⟨_, rfl⟩
        rw [hso] at HSO
        have HOPK : Hid (opOk n room x3 = so) := by
          show _ = _
          unfold opOk
          rw [HPB.out.1, HOK.out, HSX.out, hso]
          rfl
        clear hb17 hrow hm17 hb1517 h1417 h14s h15s hg17 hok2 hmt hcr hTn hpg hso hm16 hb16 hs16 hw16 hw17 hM cp15 cl15 hs17
        refine HSO.out.mono ?_
        rintro _ w18 ⟨rfl, hb18⟩
        have HB18 := Lib.hid hb18
        have HFE : Hid (∀ (v : Value) (e : Int), (w18.cell? ⟨g + 2, 0, none⟩ = some (.pointer none) ∧ w18.cell? ⟨g + 3, 0, none⟩ = some (.int .i64 0) ∧ w18.frozen? ⟨g + 2, 0, none⟩ = false ∧ w18.frozen? ⟨g + 3, 0, none⟩ = false) ∧
            (RowAt ((w18.setCell ⟨g + 2, 0, none⟩ v).setCell ⟨g + 3, 0, none⟩ (.int .i64 e)) (g + 2) 30 #[v] ∧ RowAt ((w18.setCell ⟨g + 2, 0, none⟩ v).setCell ⟨g + 3, 0, none⟩ (.int .i64 e)) (g + 3) 25 #[.int .i64 e] ∧ ((w18.setCell ⟨g + 2, 0, none⟩ v).setCell ⟨g + 3, 0, none⟩ (.int .i64 e)).heap[g8]? = some (.deferred (some []))) ∧
            ∀ w', KeepA (fun k => k ∈ [g8]) ((w18.setCell ⟨g + 2, 0, none⟩ v).setCell ⟨g + 3, 0, none⟩ (.int .i64 e)) w' → KeepA S w w' ∧ KeepA (fun y => y = g + 2 ∨ y = g + 3 ∨ y = g8) w17 w') := Lib.hid fun v e => by
          obtain ⟨p1, p3⟩ := HOB17.out
          obtain ⟨-, -, hr5, he5⟩ := p1.keep (X := fun _ => False) (KeepA.of_below HB18.out) fun _ h => h.elim
          have p3' := (HB18.out.block g8 (Array.getElem?_eq_some_iff.1 p3).1).trans p3
          obtain ⟨m1, m2, m3⟩ := HMS.out
          refine ⟨⟨hr5.cell 0, he5.cell 0, hr5.frozen 0, he5.frozen 0⟩, ⟨RowAt.other (RowAt.set (cs := #[_]) hr5 0 _) (a := ⟨g + 3, 0, none⟩) _ (by dsimp only; omega), RowAt.set (cs := #[_]) (RowAt.other he5 (a := ⟨g + 2, 0, none⟩) _ (by dsimp only; omega)) 0 _, ?_⟩, fun w' hk => ⟨?_, ?_⟩⟩
          · rw [heap_setCell_other _ _ g8 _ (by dsimp only; omega), heap_setCell_other _ _ g8 _ (by dsimp only; omega)]
            exact p3'
          · refine (((HKE.out w18 HB18.out).trans2 (keep_grown (grownBy_setCellAt w18 (g + 2) 0 _)) fun y hy e => ?_).trans2 (keep_grown (grownBy_setCellAt _ (g + 3) 0 _)) fun y hy e => ?_).trans2 hk fun y hy e => ?_
            · omega
            · omega
            · simp only [List.mem_singleton] at e
              omega
          · refine (((KeepA.of_below HB18.out).trans ((keep_grown (grownBy_setCellAt w18 (g + 2) 0 _)).mono fun y e => .inl e)).trans ((keep_grown (grownBy_setCellAt _ (g + 3) 0 _)).mono fun y e => .inr (.inl e))).trans (hk.mono fun y e => .inr (.inr ?_))
            simpa using e
        clear hb18
        obtain ⟨cr18, ce18, fr18, fe18⟩ := (HFE.out undef 0).1
        cases so with
        | false =>
          go_wp2
          obtain ⟨-, ⟨q1, q2, q3⟩, q4⟩ := HFE.out (.pointer none) 9
          refine post_marks [g8] rfl (by simp) (by intro y hy; simp only [List.mem_singleton] at hy; subst hy; exact q3) fun w' hk => ⟨.tuple #[.pointer none, .int .i64 9], ?_, ?_⟩
          · exact opres (row_keep hk q1 (by have := HMS.out.1; simp; omega)) (row_keep hk q2 (by have := HMS.out.1; simp; omega)) _ rfl rfl
          · refine HKN.out w' (q4 w' hk).1 fun x hx => ?_
            obtain rfl := HX3.out.2.1 x hx
            exact HOPK.out
        | true =>
          go_wp2
          obtain ⟨-, ⟨q1, q2, q3⟩, q4⟩ := HFE.out (.pointer (some ⟨M + 1, 0, none⟩)) 0
          refine post_marks [g8] rfl (by simp) (by intro y hy; simp only [List.mem_singleton] at hy; subst hy; exact q3) fun w' hk => ⟨.tuple #[.pointer (some ⟨M + 1, 0, none⟩), .int .i64 0], ?_, ?_⟩
          · exact opres (row_keep hk q1 (by have := HMS.out.1; simp; omega)) (row_keep hk q2 (by have := HMS.out.1; simp; omega)) _ rfl rfl
          · obtain ⟨k1, k2⟩ := q4 w' hk
            obtain ⟨m1, m2, m3⟩ := HMS.out
            have hpx := HPG.out.keep k2 fun y hy e => by
              rcases hy with e2 | e2 | e2
              · rcases (HT3.out y e2).1 with e3 | e3
                · have h5 := (HT5.out y e3)
                  have h6 := HG8.out.1
                  have h7 := HZ5.out
                  rcases h5.1 with e4 | e4
                  · have := (HSG.out y e4).2
                    omega
                  · omega
                · omega
              · omega
              · omega
            refine HKY.out (M + 1) _ x3 w' HX3.out.1 HOPK.out (by rw [HSX.out]; exact ⟨_, _, _, _, _, hpx⟩) (fun y hy => ?_) k1
            have hg0 := hg
            rcases hy with e | e | e
            · rcases (HT3.out y e).1 with e | e
              · rcases (HT5.out y e).1 with e | e
                · exact .inl e
                · exact .inr (by omega)
              · exact .inr (by omega)
            · exact .inr (by omega)
            · exact .inr (by omega)
end Go.Proofs.Ytagipfkgnobjlaa
