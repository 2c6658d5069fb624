/- The pager's calls without faults, as the laws see them. -/
import Derived.Test.YtagipfkgnobjlaaPgPlE
namespace Go.Proofs.Ytagipfkgnobjlaa
open Go.RowKit

theorem PgA.lims {b0 : Nat} {w : World} {F : Nat → Prop} {pb d size n room : Nat} {s : PS} (h : PgA b0 w F pb d size n room s) : ∀ y, F y → b0 ≤ y ∧ y < w.heap.size := by
  obtain ⟨T, U, lb, m, f, h⟩ := h
  exact h.lim
theorem PgA.len {b0 : Nat} {w : World} {F : Nat → Prop} {pb d size n room : Nat} {s : PS} (h : PgA b0 w F pb d size n room s) : ∀ k, (s.x.V k).length = 512 := by
  obtain ⟨T, U, lb, m, f, h⟩ := h
  exact h.log.len
theorem PgA.szs {b0 : Nat} {w : World} {F : Nat → Prop} {pb d size n room : Nat} {s : PS} (h : PgA b0 w F pb d size n room s) : 4 ≤ n ∧ n ≤ size ∧ size ≤ 65536 ∧ n + 2 * room ≤ size ∧ s.x.D.size = size := by
  obtain ⟨T, U, lb, m, f, h⟩ := h
  obtain ⟨q1, q2, q3, q4, q5⟩ := h.log.sizes
  exact ⟨q1, q2, q3, h.rm, q5⟩
theorem PgA.dk {b0 : Nat} {w : World} {F : Nat → Prop} {pb d size n room : Nat} {s : PS} (h : PgA b0 w F pb d size n room s) : ∃ S, DkS w S d s.x.D s.x.fz ∧ ∀ y, S y → F y := by
  obtain ⟨T, U, lb, m, f, h⟩ := h
  obtain ⟨S, h1, h2⟩ := h.log.disk
  exact ⟨S, h1, fun y hy => h.foot y (.inl (h2 y hy))⟩
/-- A pager made since w0, without faults. -/
def PyS (w0 w : World) (pb d size n room r : Nat) (s : PS) (l lc : List Nat) : Prop :=
  Below w0.heap.size w0 w ∧ (∃ F, PgA w0.heap.size w F pb d size n room s) ∧ PlS n room r s l lc ∧ s.x.fz = 0
theorem PlS.more {n room r r2 : Nat} {s : PS} {l lc : List Nat} (h : PlS n room r s l lc) (hr : r ≤ r2) : PlS n room r2 s l lc := ⟨h.st, h.di, h.p0, h.pl, Nat.le_trans h.rb hr⟩
/-- Where no turn is open the state is the committed one. -/
theorem PSt.idle {n room : Nat} {s : PS} {l lc : List Nat} (h : PSt n room s l lc) (hop : s.op = false) : s.cn = s.now ∧ (∀ k, bytesP n s.cm k = bytesP n s k) ∧ lc = l := by
  have hc : s.cn = s.now := by unfold PS.cn; rw [hop]; rfl
  have hb : ∀ k, bytesP n s.cm k = bytesP n s k := fun k => by
    rw [bytesP_pg, bytesP_pg, h.nt hop]
    rfl
  refine ⟨hc, hb, ?_⟩
  have h2 : FreeIs n s lc := h.frc.congr hc.symm fun k _ => (hb k).symm
  rw [← h2.free, h.fre.free]
/-- A step of a turn: the disk is as it was. -/
theorem PlS.turn {n room r : Nat} {s s' : PS} {l l' lc : List Nat} (h : PlS n room r s l lc) (hS : PSt n room s' l' lc) (hx : s'.x = s.x) (hc : s'.cm = s.cm) : PlS n room r s' l' lc :=
  ⟨hS, by rw [hx]; exact h.di, by rw [hx, show s'.cn = s.cn from congrArg PS.now hc]; exact h.p0, by rw [hx]; exact h.pl, by rw [hx]; exact h.rb⟩
section
variable {w0 w : World} {pb d size n room r : Nat} {s : PS} {l lc : List Nat}
theorem PyS.later {w' : World} (h : PyS w0 w pb d size n room r s l lc) (hb : Below w.heap.size w w') : PyS w0 w' pb d size n room r s l lc := by
  obtain ⟨h1, ⟨F, h2⟩, h3⟩ := h
  exact ⟨h1.trans (hb.mono h1.size), ⟨F, h2.later hb⟩, h3⟩
theorem PyS.more {r2 : Nat} (h : PyS w0 w pb d size n room r s l lc) (hr : r ≤ r2) : PyS w0 w pb d size n room r2 s l lc := ⟨h.1, h.2.1, h.2.2.1.more hr, h.2.2.2⟩
theorem PyS.step {w' : World} {F : Nat → Prop} {s' : PS} {r' : Nat} {l' lc' : List Nat} (hb : Below w0.heap.size w0 w) (h2 : PgA w0.heap.size w F pb d size n room s) (hR : PgR w0.heap.size w w' F pb d size n room s') (hS : PlS n room r' s' l' lc') (hx : s'.x.fz = 0) : PyS w0 w' pb d size n room r' s' l' lc' := by
  obtain ⟨F', h1, h2', h3⟩ := hR
  exact ⟨hb.trans (h3.below hb.size fun y hy => (h2.lims y hy).1), ⟨F', h1⟩, hS, hx⟩
theorem py_alloc (h : PyS w0 w pb d size n room r s l lc) (hr : room ≤ 100000) : Calls Try.prog 10 #[.pointer (some ⟨pb, 0, none⟩)] w fun e w' =>
    (e = .returned (.tuple #[.int .i64 0, .int .i64 6]) ∧ PyS w0 w' pb d size n room r s l lc ∧ l = [] ∧ s.now.count = room) ∨
    ∃ (k : Nat) (s' : PS) (l' : List Nat), e = .returned (.tuple #[.int .i64 (k : Int), .int .i64 0]) ∧ PyS w0 w' pb d size n room r s' l' lc ∧ Alc n s s' l l' k ∧ ¬ (l = [] ∧ s.now.count = room) := by
  obtain ⟨h1, ⟨F, h2⟩, h3, h4⟩ := id h
  refine (alloc_St _ w F pb d size n room s l lc h2 h3.st hr).mono ?_
  rintro e w' (⟨rfl, hb, q⟩ | ⟨k, s', l', rfl, hR, hS, hA, q⟩)
  · exact .inl ⟨rfl, h.later hb, q⟩
  · exact .inr ⟨k, s', l', rfl, PyS.step h1 h2 hR (h3.turn hS hA.x hA.cm) (by rw [hA.x]; exact h4), hA, q⟩
/-- Put of a fresh page's bytes. -/
theorem py_put (W : World) (h : PyS w0 W pb d size n room r s l lc) (hW : Below W.heap.size W w) {k : Nat} (hk : k ∉ l) (h0 : 0 < k) (hc : k < s.now.count) (v : Value) (B : List UInt8) (hB : B.length = 1024) (hv : OwnB w W.heap.size 5 v B) :
    Calls Try.prog 11 #[.pointer (some ⟨pb, 0, none⟩), .int .i64 (k : Int), v] w fun e w' => e = .returned (.int .i64 0) ∧ ∃ s', PyS w0 w' pb d size n room r s' l lc ∧ s'.op = true ∧ s'.cm = s.cm ∧ s'.now = s.now ∧ bytesP n s' k = B ∧ ∀ j, j ≠ k → bytesP n s' j = bytesP n s j := by
  obtain ⟨h1, ⟨F, h2⟩, h3, h4⟩ := id h
  have h1' := h1.trans (hW.mono h1.size)
  have h2' := h2.later hW
  obtain ⟨g, c, rfl, hgc, hga, hgb, hgr⟩ := OwnB.rd2 hv (fun e => by rw [e] at hB; cases hB)
  rw [hB] at hgc ⊢
  refine (put_St _ w F pb d size n room s l lc h2' h3.st hk h0 hc (some ⟨g, 0, none⟩) B c hB hgc hgr (fun b off e hf => ?_)).mono ?_
  · cases e
    have := (h2.lims _ hf).2
    omega
  · rintro e w' ⟨rfl, hR⟩
    obtain ⟨q1, q2, q3, q4, q5, q6⟩ := h3.st.put hk h0 hc hB
    exact ⟨rfl, _, PyS.step h1' h2' hR (h3.turn q1 q4 q2) (by rw [q4]; exact h4), begun_op s, q2, q3, q5, q6⟩
theorem PyS.c0 (h : PyS w0 w pb d size n room r s l lc) : w.cell? ⟨pb, 0, none⟩ = some (.pointer (some ⟨d, 0, none⟩)) := by
  obtain ⟨h1, ⟨F, T, U, lb, m, f, h2⟩, h3, h4⟩ := h
  exact h2.row.cells.1
theorem py_root (h : PyS w0 w pb d size n room r s l lc) (i v : Nat) (hi : i < 8) (hv : v ≤ 2147483647) :
    Calls Try.prog 16 #[.pointer (some ⟨pb, 0, none⟩), .int .i64 (i : Int), .int .i64 (v : Int)] w fun e w' => e = .returned (.int .i64 0) ∧ ∃ s', PyS w0 w' pb d size n room r s' l lc ∧ s'.op = true ∧ s'.cm = s.cm ∧ s'.now.count = s.now.count ∧ s'.now.roots = s.now.roots.set i v ∧ ∀ j, bytesP n s' j = bytesP n s j := by
  obtain ⟨h1, ⟨F, h2⟩, h3, h4⟩ := id h
  refine (pgsetroot_yes _ w F pb d size n room s h2 h3.st.dd i v hi hv).mono ?_
  rintro e w' ⟨rfl, hR⟩
  obtain ⟨q1, q2, q3, q4, q5, q6⟩ := h3.st.root (i := i) (v := v) (by omega)
  exact ⟨rfl, _, PyS.step h1 h2 hR (h3.turn q1 q5 q2) (by rw [q5]; exact h4), begun_op s, q2, q3, q4, q6⟩
theorem py_commit (h : PyS w0 w pb d size n room r s l lc) (hrm : room ≤ 580) (hr : r + 1 < 4611686018427387904) :
    Calls Try.prog 14 #[.pointer (some ⟨pb, 0, none⟩)] w fun e w' =>
      (e = .returned (.int .i64 0) ∧ ∃ s', PyS w0 w' pb d size n room (r + 1) s' l l ∧ s'.op = false ∧ s'.now = s.now ∧ ∀ k, 0 < k → k < room → bytesP n s' k = bytesP n s k) ∨
      (e = .returned (.int .i64 6) ∧ s.op = true ∧ ∃ s', PyS w0 w' pb d size n room (r + 1) s' lc lc ∧ s'.op = false ∧ s'.now = s.cn ∧ (∀ k, bytesP n s' k = bytesP n s.cm k) ∧ ∃ b, b ≤ 1028 * s.now.count ∧ ¬ secsOf b ≤ n - 2) := by
  obtain ⟨h1, ⟨F, h2⟩, h3, h4⟩ := id h
  obtain ⟨z1, z2, z3, z4, z5⟩ := h2.szs
  have hc1 := h3.st.c1
  have hcr := h3.st.cr
  have hpl := h3.pl
  have hbs := h3.di.bsl
  have hrb := h3.rb
  cases hop : s.op with
  | true =>
    refine (pgCommit_open _ w F pb d size n room s h2 hop h3.st.dd h3.st.ld h3.st.ok (by omega) hrm (fun k v e => ?_) (by omega) (by omega) (by omega)).mono ?_
    · obtain ⟨j, q1, q2, q3, -⟩ := h3.st.tn k v e
      exact ⟨j, q1, by omega⟩
    · rintro e w' ⟨er, s', rfl, hC, hR⟩
      obtain ⟨F', h5, -⟩ := id hR
      obtain ⟨p0, p6⟩ := h3.com hC hop (by omega) z1 (by omega) (by omega) h5.len
      rcases hC.zero h4 with rfl | rfl
      · obtain ⟨a, b⟩ := p0 rfl
        exact .inl ⟨rfl, s', PyS.step h1 h2 hR a (by rw [b.fz]; exact h4), b.op, b.now, b.by_⟩
      · obtain ⟨a, b⟩ := p6 rfl
        exact .inr ⟨rfl, rfl, s', PyS.step h1 h2 hR a (by rw [b.fz]; exact h4), b.op, b.now, b.by_, _, h3.st.batch_cnt (by omega), hC.full⟩
  | false =>
    obtain ⟨T, U, lb, m, f, hm⟩ := h2
    have hrow := hm.row
    rw [hop, h3.st.dd] at hrow
    refine (pgCommit_idle w pb d lb n room s.now s.was m hrow).mono ?_
    rintro e w' ⟨rfl, hb⟩
    have hlc := (h3.st.idle hop).2.2
    subst hlc
    exact .inl ⟨rfl, s, (h.later hb).more (Nat.le_succ _), hop, rfl, fun _ _ _ => rfl⟩
theorem py_rollback (h : PyS w0 w pb d size n room r s l lc) :
    Calls Try.prog 17 #[.pointer (some ⟨pb, 0, none⟩)] w fun e w' => e = .returned (.int .i64 0) ∧ ∃ s', PyS w0 w' pb d size n room r s' lc lc ∧ s'.op = false ∧ s'.now = s.cn ∧ ∀ k, bytesP n s' k = bytesP n s.cm k := by
  obtain ⟨h1, ⟨F, h2⟩, h3, h4⟩ := id h
  refine (pgrollback_any _ w F pb d size n room s h2).mono ?_
  rintro e w' ⟨rfl, hR⟩
  cases hop : s.op with
  | true =>
    rw [if_pos hop] at hR
    obtain ⟨q1, q2⟩ := h3.st.back
    have hs : (PS.ended { s with now := s.was } : PS) = { s with now := s.cn, tn := fun _ => none, op := false } := by
      unfold PS.ended PS.cn
      rw [if_pos hop]
    rw [hs] at hR
    refine ⟨rfl, _, PyS.step h1 h2 hR ⟨q1, h3.di, ?_, h3.pl, h3.rb⟩ h4, rfl, rfl, fun k => rfl⟩
    rw [q2]
    exact h3.p0
  | false =>
    rw [if_neg (by rw [hop]; simp)] at hR
    obtain ⟨q1, q2, q3⟩ := h3.st.idle hop
    subst q3
    exact ⟨rfl, s, PyS.step h1 h2 hR h3 h4, hop, q1.symm, fun k => (q2 k).symm⟩
theorem py_getyes (h : PyS w0 w pb d size n room r s l lc) {k : Nat} (hk : k ∉ l) (h0 : 0 < k) (hc : k < s.now.count) :
    Calls Try.prog 9 #[.pointer (some ⟨pb, 0, none⟩), .int .i64 (k : Int)] w fun e w' => ∃ vb, e = .returned (.tuple #[vb, .int .i64 0]) ∧ OwnB w' w.heap.size 5 vb (bytesP n s k) ∧ PyS w0 w' pb d size n room r s l lc ∧ Below w.heap.size w w' := by
  obtain ⟨h1, ⟨F, h2⟩, h3, h4⟩ := id h
  refine (pgget_yes _ w F pb d size n room s h2 h3.st.cr k ((h3.st.fre.taken k).2 ⟨h0, hc, hk⟩)).mono ?_
  rintro e w' ⟨vb, rfl, q, hb⟩
  exact ⟨vb, rfl, q, h.later hb, hb⟩
theorem py_getno (h : PyS w0 w pb d size n room r s l lc) (x : Int) (ht : takenB n s x = false) :
    Calls Try.prog 9 #[.pointer (some ⟨pb, 0, none⟩), .int .i64 x] w fun e w' => e = .returned (.tuple #[.slice none 0 0, .int .i64 4]) ∧ PyS w0 w' pb d size n room r s l lc ∧ Below w.heap.size w w' := by
  obtain ⟨h1, ⟨F, h2⟩, h3, h4⟩ := id h
  refine (pgget_no _ w F pb d size n room s h2 h3.st.cr x ht).mono ?_
  rintro e w' ⟨rfl, hb⟩
  exact ⟨rfl, h.later hb, hb⟩
theorem py_state (h : PyS w0 w pb d size n room r s l lc) (hr : room ≤ 100000) :
    Calls Try.prog 18 #[.pointer (some ⟨pb, 0, none⟩)] w fun e w' => e = .returned (.tuple #[.int .i64 ((s.now.count : Int) - 1 - (l.length : Int)), .int .i64 ((room : Int) - 1), .bool s.op, .bool false]) ∧ PyS w0 w' pb d size n room r s l lc ∧ Below w.heap.size w w' := by
  obtain ⟨h1, ⟨F, T, U, lb, m, f, h2⟩, h3, h4⟩ := id h
  refine (pgstate_any w pb d lb n room s.now s.was m s.op s.dd h2.row h3.st.ok.count h3.st.ok.many hr).mono ?_
  rintro e w' ⟨rfl, hb⟩
  rw [h3.st.dd, h3.st.fre.mn]
  exact ⟨rfl, h.later hb, hb⟩
end
/-- Opens always find something. -/
theorem putR_ex (n : Nat) (room : Int) : ∀ (l : List (Nat × List UInt8)) (x : LX), x.fz = 0 → ∃ x', PutR n room l 0 x x'
  | [], x, _ => ⟨x, rfl, rfl⟩
  | e :: l, x, h => by
    unfold PutR
    split
    · obtain ⟨x', hx'⟩ := putR_ex n room l { x with D := ⟨x.D.size, x.D.last, x.D.pcs ++ wps ((n : Int) + 2 * (e.1 : Int)) e.2 (e.2.length / 512)⟩ } h
      exact ⟨x', 0, _, ⟨_, Nat.le_refl _, fun _ => ⟨rfl, rfl⟩, .inl ⟨rfl, rfl⟩, rfl⟩, .inr ⟨rfl, hx'⟩⟩
    · exact putR_ex n room l x h
theorem putsR_ex (n : Nat) (room : Int) : ∀ (bs : List (List UInt8)) (x : LX), x.fz = 0 → ∃ x', PutsR n room bs x x' ∧ x'.fz = 0
  | [], x, h => ⟨x, rfl, h⟩
  | b :: bs, x, h => by
    obtain ⟨x1, h1⟩ := putR_ex n room (ents b) x h
    obtain ⟨x2, h2, h3⟩ := putsR_ex n room bs x1 (h1.fz.trans h)
    exact ⟨x2, ⟨x1, h1, h2⟩, h3⟩
theorem syre_ex (x : LX) (h : x.fz = 0) : ∃ x', SyRe 0 x x' := by
  refine ⟨_, 0, { x with D := ⟨x.D.size, laid x.D.last (x.D.pcs.take x.D.pcs.length), x.D.pcs.drop x.D.pcs.length⟩ }, ⟨x.D.pcs.length, Nat.le_refl _, fun _ => ⟨rfl, rfl⟩, .inl ⟨rfl, rfl⟩, rfl⟩, .inr ⟨rfl, _, ⟨fun _ => rfl, .inr ⟨_, Nat.le_refl _, .inl ⟨rfl, rfl⟩, rfl⟩⟩, .inl ⟨rfl, rfl⟩⟩⟩
theorem opx_ex {n room r size : Nat} {V : Int → List UInt8} {P : Nat → List UInt8} (h : Rec n room r V P) (hr : r + 2 < 4611686018427387904) : ∃ x, OpX n room size V x := by
  obtain ⟨run, base, used, bs, h1, h2, h3⟩ := h
  obtain ⟨x1, p1, p2⟩ := putsR_ex n (room : Int) bs ⟨⟨size, laid V (wps (0 + (((run + 1) % 2 : Nat) : Int)) (headB (run + 1) base) ((headB (run + 1) base).length / 512)), []⟩, 0, run + 1, base, used, false, bs⟩ rfl
  obtain ⟨x3, p3⟩ := syre_ex x1 p2
  exact ⟨x3, run, base, used, bs, x1, h1.look, by omega, p1, p3⟩
/-- Open of a disk that holds a pager. -/
theorem py_open (w0 w : World) (S : Nat → Prop) (d : Nat) (D : DK) (n room r : Nat) (P : Nat → List UInt8) (m : Mt) (s0 : PS) (lc : List Nat) (hb : Below w0.heap.size w0 w) (h : DkS w S d D 0) (hS : ∀ y, S y → w0.heap.size ≤ y ∧ y < w.heap.size) (hp : D.pcs.length ≤ 300000)
    (hn4 : 4 ≤ n) (hn : n ≤ D.size) (hn3 : n ≤ 300) (hr2 : 2 ≤ room) (hroom : spaceP D.size (n : Int) = (room : Int)) (hrm : n + 2 * room ≤ D.size) (hr5 : room ≤ 100000)
    (hrec : Rec n room r (laid D.last D.pcs) P) (hr : r + 2 < 4611686018427387904) (hm : m.Ok) (c1 : 1 ≤ m.count) (cr : m.count ≤ room) (h0 : P 0 = pageB m) (hf : FreeIs n s0 lc) (hs0 : s0.now = m) (hP : ∀ k, 0 < k → k < m.count → P k = bytesP n s0 k) :
    Calls Try.prog 8 #[.pointer (some ⟨d, 0, none⟩), .int .i64 (n : Int)] w fun e w' => ∃ pb s', e = .returned (.tuple #[.pointer (some ⟨pb, 0, none⟩), .int .i64 0]) ∧ PyS w0 w' pb d D.size n room (r + 2) s' lc lc ∧ s'.op = false ∧ s'.now = m ∧ (∀ k, k < room → bytesP n s' k = P k) ∧ KeepA S w w' := by
  refine (pgOpen_any w0.heap.size w S d D n room h hS hb.size hp hn4 hn hn3 hr2 hroom hrm hr5).mono ?_
  rintro e w' (⟨rfl, -, q⟩ | ⟨pb, F, x, rfl, q1, q2, q3, q4, q5⟩)
  · obtain ⟨x, hx⟩ := opx_ex (size := D.size) hrec hr
    obtain ⟨-, a2, -⟩ := open_pls hrec hx hn4 hr hm c1 cr h0 hf hs0 hP
    rw [q x hx] at a2
    cases a2
  · obtain ⟨a1, a2, a3, a4, a5⟩ := open_pls hrec q1 hn4 hr hm c1 cr h0 hf hs0 hP
    rw [a1] at q3
    exact ⟨pb, _, rfl, ⟨hb.trans (q5.below hb.size fun y hy => (hS y hy).1), ⟨F, q3⟩, a3, a4⟩, rfl, rfl, a5, q5⟩
/-- What Format leaves is a pager. -/
theorem fmt_rec {n room : Nat} {V : Int → List UInt8} (hV : ∀ k, (V k).length = 512) (hn4 : 4 ≤ n) (hr : 1 ≤ room) : Rec n room 1 (fmtV n V) (pgV n (fmtV n V)) ∧ pgV n (fmtV n V) 0 = pageB mt1 := by
  have hpl : (pageB mt1).length = 1024 := pageB_len mt1_ok.eight
  obtain ⟨V1, hV1⟩ : ∃ y, laid V (wps (n : Int) (pageB mt1) 2) = y := ⟨_, rfl⟩
  have hp0 : pgV n V1 0 = pageB mt1 := by
    have := pgV_wps (n := n) (V := V) (j := 0) hpl 0
    rw [show ((n : Int) + 2 * ((0 : Nat) : Int)) = (n : Int) by omega, hV1, if_pos rfl] at this
    exact this
  have hl1 : ∀ k, (V1 k).length = 512 := fun k => by
    rw [← hV1, laid_wps_at]
    split
    · unfold sec
      rw [List.length_take, List.length_drop, hpl]
      have : (k - (n : Int)).toNat < 2 := by omega
      have : (k - (n : Int)).toNat * 512 ≤ 1 * 512 := Nat.mul_le_mul_right _ (by omega)
      omega
    · exact hV k
  have hF : fmtV n V = laid V1 (wps 0 (fmtB n) n) := by unfold fmtV; rw [hV1]
  have hlg := LgI.format (L := V1) (L' := fmtV n V) (from_ := 0) hl1 hn4 (by rw [hF, fmtB_len (by omega), Nat.mul_div_cancel _ (by omega)])
  have hpg : ∀ k, pgV n (fmtV n V) k = pgV n V1 k := fun k => pgV_congr (by rw [hF, laid_wps_at, if_neg (by omega)]) (by rw [hF, laid_wps_at, if_neg (by omega)])
  exact ⟨⟨1, 1, 0, [], hlg.1, Nat.le_refl _, fun k _ => rfl⟩, (hpg 0).trans hp0⟩
theorem fmt_free (n : Nat) (x : LX) : FreeIs n (PS.fresh mt1 x) [] := ⟨List.nodup_nil, (fun x hx => by cases hx), rfl, rfl⟩
end Go.Proofs.Ytagipfkgnobjlaa
