/- Commit, plainly: what it does to the log and the disk; the pager behind a step on its log. Commit$1. -/
import Derived.Test.YtagipfkgnobjlaaPgSoundB
import Derived.Test.YtagipfkgnobjlaaPgSort
namespace Go.Proofs.Ytagipfkgnobjlaa
open Go.RowKit

attribute [local go_sem] Oper.semAt_some
/-- A batch: the changed pages, each behind its number. -/
def batchB (l : List Nat) (tn : Int → Option (List UInt8)) : List UInt8 := l.flatMap fun k => lowB k 4 ++ (tn (k : Int)).getD []
theorem batchB_snoc (l : List Nat) (k : Nat) (tn : Int → Option (List UInt8)) : batchB (l ++ [k]) tn = batchB l tn ++ (lowB k 4 ++ (tn (k : Int)).getD []) := by
  unfold batchB
  rw [List.flatMap_append]
  simp
/-- Append, also where there is no room. -/
def AppF (n : Nat) (B : List UInt8) (er : Int) (x x' : LX) : Prop := (x.used + secsOf B.length ≤ n - 2 ∧ AppR B er x x') ∨ (¬ x.used + secsOf B.length ≤ n - 2 ∧ er = 6 ∧ x' = x)
/-- The second try: synced, emptied, appended. -/
def ReR (n : Nat) (B : List UInt8) (er : Int) (x x' : LX) : Prop :=
  ∃ e0 xa, SyncR e0 x xa ∧ ((e0 ≠ 0 ∧ er = e0 ∧ x' = xa) ∨ (e0 = 0 ∧ ∃ e1 xb, ResetR e1 xa xb ∧ ((e1 ≠ 0 ∧ er = e1 ∧ x' = xb) ∨ (e1 = 0 ∧ AppF n B er xb x'))))
def LogR (n : Nat) (B : List UInt8) (er : Int) (x x' : LX) : Prop :=
  ∃ e0 x0, AppF n B e0 x x0 ∧ ((e0 ≠ 6 ∧ er = e0 ∧ x' = x0) ∨ (e0 = 6 ∧ ReR n B er x0 x'))
/-- The changed pages, page 0 among them. -/
def PS.tn0 (s : PS) : Int → Option (List UInt8) := fun z => if z = 0 then some (pageB s.now) else s.tn z
def PS.batch (s : PS) (room : Nat) : List UInt8 := batchB (dirtyL room s.tn0) s.tn0
/-- What a Commit of an open turn does. -/
def ComR (n room : Nat) (er : Int) (s s' : PS) : Prop :=
  ∃ e1 x1, LogR n (s.batch room) e1 s.x x1 ∧ ((e1 = 6 ∧ er = 6 ∧ s' = { s with now := s.was, tn := fun _ => none, op := false, x := x1 }) ∨
    (e1 = 0 ∧ ∃ x2, PutR n room (ents (s.batch room)) er x1 x2 ∧ ((er = 0 ∧ s' = { s with tn := fun _ => none, op := false, dd := false, x := x2 }) ∨ (er ≠ 0 ∧ s' = { s with tn := s.tn0, op := false, dd := true, x := x2 }))) ∨
    (e1 ≠ 0 ∧ e1 ≠ 6 ∧ er = e1 ∧ s' = { s with tn := s.tn0, dd := true, x := x1 }))
theorem ws_er {F : Nat} {D : DK} {at_ : Int} {B : List UInt8} {er : Int} {D' : DK} (h : WS F D at_ B er D') : er = 0 ∨ er = 5 := by
  rcases h.2 with ⟨h, -⟩ | ⟨k, -, h, -⟩
  · exact .inr h
  · exact h.elim (fun h => .inl h.1) .inr
/-- The pieces that a step leaves unsynced. -/
theorem AppF.more {n : Nat} {B : List UInt8} {er : Int} {x x' : LX} (h : AppF n B er x x') : (er = 0 ∨ er = 5 ∨ er = 6) ∧ x'.D.size = x.D.size ∧ x'.D.pcs.length ≤ x.D.pcs.length + n ∧ x'.bs.length ≤ x.bs.length + 1 ∧ x'.run = x.run ∧ (er = 0 → x'.ld = x.ld ∧ x'.D.pcs = []) ∧ (er = 6 → x' = x) := by
  rcases h with ⟨h1, D', hw, hc⟩ | ⟨h1, rfl, rfl⟩
  · have he := ws_er hw
    have hl := hw.size
    rw [appB_len, Nat.mul_div_cancel _ (by omega)] at hl
    rcases hc with ⟨rfl, rfl⟩ | ⟨hne, rfl⟩
    · have hD := hw.ok rfl
      refine ⟨.inl rfl, hl.1, ?_, ?_, rfl, fun _ => ⟨rfl, ?_⟩, fun e => by cases e⟩
      · show D'.pcs.length ≤ _; have := hl.2; omega
      · show (x.bs ++ [B]).length ≤ _; simp
      · show D'.pcs = []; rw [hD]
    · refine ⟨he.elim .inl fun e => .inr (.inl e), hl.1, ?_, ?_, rfl, fun e => absurd e hne, fun e => by omega⟩
      · show D'.pcs.length ≤ _; have := hl.2; omega
      · show x.bs.length ≤ _; omega
  · exact ⟨.inr (.inr rfl), rfl, by omega, by omega, rfl, (fun e => by cases e), fun _ => rfl⟩
theorem SyncR.more {er : Int} {x x' : LX} (h : SyncR er x x') : (er = 0 ∨ er = 5) ∧ x'.D.size = x.D.size ∧ x'.D.pcs.length ≤ x.D.pcs.length ∧ x'.bs = x.bs ∧ x'.run = x.run ∧ x'.ld = x.ld ∧ x'.used = x.used := by
  obtain ⟨k, q1, q2, q3, rfl⟩ := h
  refine ⟨q3.elim (fun h => .inl h.1) .inr, rfl, ?_, rfl, rfl, rfl, rfl⟩
  show (x.D.pcs.drop k).length ≤ _
  rw [List.length_drop]
  omega
theorem ResetR.more {er : Int} {x x' : LX} (h : ResetR er x x') : (er = 0 ∨ er = 5) ∧ x'.D.size = x.D.size ∧ x'.D.pcs.length ≤ x.D.pcs.length + 1 ∧ x'.bs.length ≤ x.bs.length ∧ x'.run ≤ x.run + 1 ∧ (er = 0 → x'.ld = x.ld ∧ x'.D.pcs = []) := by
  obtain ⟨D', hw, hc⟩ := h
  have hl := hw.size
  rw [headB_len] at hl
  rcases hc with ⟨rfl, rfl⟩ | ⟨hne, rfl⟩
  · have hD := hw.ok rfl
    refine ⟨.inl rfl, hl.1, hl.2, Nat.zero_le _, Nat.le_refl _, fun _ => ⟨rfl, ?_⟩⟩
    show D'.pcs = []; rw [hD]
  · exact ⟨ws_er hw, hl.1, hl.2, Nat.le_refl _, Nat.le_succ _, fun e => absurd e hne⟩
theorem ReR.more {n : Nat} {B : List UInt8} {er : Int} {x x' : LX} (h : ReR n B er x x') : (er = 0 ∨ er = 5 ∨ er = 6) ∧ x'.D.size = x.D.size ∧ x'.D.pcs.length ≤ x.D.pcs.length + n + 1 ∧ x'.bs.length ≤ x.bs.length + 1 ∧ x'.run ≤ x.run + 1 ∧ (er = 0 → x'.ld = x.ld ∧ x'.D.pcs = []) := by
  obtain ⟨e0, xa, h1, hc⟩ := h
  obtain ⟨a1, a2, a3, a4, a5, a6, -⟩ := h1.more
  rcases hc with ⟨hne, rfl, rfl⟩ | ⟨rfl, e1, xb, h2, hc⟩
  · exact ⟨a1.elim .inl fun e => .inr (.inl e), a2, by omega, by rw [a4]; omega, by omega, fun e => absurd e hne⟩
  · obtain ⟨b1, b2, b3, b4, b5, b6⟩ := h2.more
    rw [a4] at b4
    rcases hc with ⟨hne, rfl, rfl⟩ | ⟨rfl, h3⟩
    · exact ⟨b1.elim .inl fun e => .inr (.inl e), b2.trans a2, by omega, by omega, by omega, fun e => absurd e hne⟩
    · obtain ⟨c1, c2, c3, c4, c5, c6, c7⟩ := h3.more
      obtain ⟨d1, d2⟩ := b6 rfl
      refine ⟨c1, c2.trans (b2.trans a2), ?_, by omega, by omega, fun e => ⟨((c6 e).1.trans d1).trans a6, (c6 e).2⟩⟩
      rw [d2] at c3
      simp only [List.length_nil] at c3
      omega
theorem LogR.more {n : Nat} {B : List UInt8} {er : Int} {x x' : LX} (h : LogR n B er x x') : (er = 0 ∨ er = 5 ∨ er = 6) ∧ x'.D.size = x.D.size ∧ x'.D.pcs.length ≤ x.D.pcs.length + n + 1 ∧ x'.bs.length ≤ x.bs.length + 1 ∧ x'.run ≤ x.run + 1 ∧ (er = 0 → x'.ld = x.ld ∧ x'.D.pcs = []) := by
  obtain ⟨e0, x0, h1, hc⟩ := h
  obtain ⟨c1, c2, c3, c4, c5, c6, c7⟩ := h1.more
  rcases hc with ⟨hne, rfl, rfl⟩ | ⟨rfl, h2⟩
  · exact ⟨c1, c2, by omega, c4, by omega, c6⟩
  · obtain rfl := c7 rfl
    exact h2.more
theorem PutR.more {n : Nat} {room : Int} : ∀ {l : List (Nat × List UInt8)} {er : Int} {x x' : LX}, PutR n room l er x x' → (∀ e ∈ l, e.2.length = 1024) → (er = 0 ∨ er = 5) ∧ x'.D.size = x.D.size ∧ x'.D.pcs.length ≤ x.D.pcs.length + 2 * l.length ∧ x' = { x with D := x'.D }
  | [], er, x, x', h, _ => by
    obtain ⟨rfl, rfl⟩ := h
    exact ⟨.inl rfl, rfl, by simp, rfl⟩
  | e :: l, er, x, x', h, hl => by
    unfold PutR at h
    split at h
    · obtain ⟨e1, x1, ⟨k, q1, q2, q3, q4⟩, hc⟩ := h
      rw [hl e List.mem_cons_self] at q1
      have hp : x1.D.pcs.length ≤ x.D.pcs.length + 2 := by
        rw [q4]
        show (x.D.pcs ++ _).length ≤ _
        rw [List.length_append, wps_len]
        omega
      have hs : x1.D.size = x.D.size := by rw [q4]
      have hx : x1 = { x with D := x1.D } := by rw [q4]
      rcases hc with ⟨hne, rfl, rfl⟩ | ⟨rfl, h⟩
      · exact ⟨q3.elim (fun h => .inl h.1) .inr, hs, by rw [List.length_cons]; omega, hx⟩
      · obtain ⟨a1, a2, a3, a4⟩ := h.more fun e he => hl e (List.mem_cons_of_mem _ he)
        refine ⟨a1, a2.trans hs, by rw [List.length_cons]; omega, ?_⟩
        rw [a4, hx]
    · obtain ⟨a1, a2, a3, a4⟩ := h.more fun e he => hl e (List.mem_cons_of_mem _ he)
      exact ⟨a1, a2, by rw [List.length_cons]; omega, a4⟩
theorem entsN_len : ∀ (f : Nat) (B : List UInt8), ∀ e ∈ entsN f B, e.2.length = 1024
  | 0, _, e, h => by cases h
  | f + 1, B, e, h => by
    unfold entsN at h
    split at h
    · rcases List.mem_cons.1 h with rfl | h
      · show ((B.drop 4).take 1024).length = 1024
        rw [List.length_take, List.length_drop]
        omega
      · exact entsN_len f _ e h
    · cases h
theorem entsN_many : ∀ (f : Nat) (B : List UInt8), 1028 * (entsN f B).length ≤ B.length
  | 0, _ => by unfold entsN; simp
  | f + 1, B => by
    unfold entsN
    split
    · have := entsN_many f (B.drop 1028)
      rw [List.length_drop] at this
      rw [List.length_cons]
      omega
    · simp
section
variable {b0 : Nat} {w W w' : World} {T0 T : Nat → Prop} {lb d size n : Nat} {x x' : LX}
theorem GL.refl (h : GLog b0 w T lb d size n x) : GL b0 w w T lb d size n x := ⟨T, h, fun _ hx => .inl hx, KeepA.refl _ _⟩
theorem GL.glog (h : GL b0 w W T0 lb d size n x) (h2 : ∀ T, GLog b0 W T lb d size n x → KeepA T W w' ∧ GLogN b0 W w' T lb d size n x') : GL b0 w w' T0 lb d size n x' := by
  obtain ⟨T, g, q1, q2⟩ := h
  obtain ⟨k, T', g', q3⟩ := h2 T g
  refine ⟨T', g', fun y hy => ?_, q2.trans (k.mono q1)⟩
  rcases q3 y hy with e | e
  · exact q1 y e
  · exact .inr (Nat.le_trans q2.size e)
theorem GL.later (h : GL b0 w W T0 lb d size n x) (hb : Below W.heap.size W w') : GL b0 w w' T0 lb d size n x := by
  obtain ⟨T, g, q1, q2⟩ := h
  exact ⟨T, g.later hb, q1, q2.trans (KeepA.of_below hb)⟩
theorem G_append (h : GL b0 w W T0 lb d size n x) (hld : x.ld = false) (hb0 : b0 ≤ w.heap.size) (hq : x.D.pcs.length ≤ 800000) (hbs : x.bs.length ≤ 900000) (hrun : x.run < 9223372036854775808)
    (a : Option Addr) (B : List UInt8) (m c : Nat) (hm : m = B.length) (hr : RdB W a B) (hsep : ∀ ad, a = some ad → ¬ T0 ad.block ∧ ad.block < w.heap.size) :
    Calls Try.prog 45 #[.pointer (some ⟨lb, 0, none⟩), .slice a m c] W fun e w' => ∃ er x', e = .returned (.int .i64 er) ∧ AppF n B er x x' ∧ GL b0 w w' T0 lb d size n x' := by
  obtain ⟨T, g, q1, q2⟩ := h
  by_cases hf : x.used + secsOf m ≤ n - 2
  · refine (gl_append g hld (Nat.le_trans hb0 q2.size) hq hbs hrun a B m c hm hr (fun ad e ht => ?_) hf).mono ?_
    · have := hsep ad e
      rcases q1 _ ht with e | e
      · exact this.1 e
      · omega
    · rintro e w' ⟨er, x', rfl, hA, k, T', g', q3⟩
      rw [hm] at hf
      refine ⟨er, x', rfl, .inl ⟨hf, hA⟩, T', g', fun y hy => ?_, q2.trans (k.mono q1)⟩
      rcases q3 y hy with e | e
      · exact q1 y e
      · exact .inr (Nat.le_trans q2.size e)
  · refine (gl_full g hld a m c hf).mono ?_
    rintro e w' ⟨rfl, hb⟩
    rw [hm] at hf
    exact ⟨6, x, rfl, .inr ⟨hf, rfl, rfl⟩, T, g.later hb, q1, q2.trans (KeepA.of_below hb)⟩
theorem G_reset (h : GL b0 w W T0 lb d size n x) (hld : x.ld = false) (hb0 : b0 ≤ w.heap.size) (hq : x.D.pcs.length ≤ 800000) (hrun : x.run < 9223372036854775808) :
    Calls Try.prog 31 #[.pointer (some ⟨lb, 0, none⟩)] W fun e w' => ∃ er x', e = .returned (.int .i64 er) ∧ ResetR er x x' ∧ GL b0 w w' T0 lb d size n x' := by
  obtain ⟨T, g, q1, q2⟩ := h
  refine (gl_reset g hld (Nat.le_trans hb0 q2.size) hq hrun).mono ?_
  rintro e w' ⟨er, x', rfl, hA, k, T', g', q3⟩
  refine ⟨er, x', rfl, hA, T', g', fun y hy => ?_, q2.trans (k.mono q1)⟩
  rcases q3 y hy with e | e
  · exact q1 y e
  · exact .inr (Nat.le_trans q2.size e)
theorem G_sync (h : GL b0 w W T0 lb d size n x) (hb0 : b0 ≤ w.heap.size) (hq : x.D.pcs.length ≤ 800000) :
    Calls Try.prog 7 #[.pointer (some ⟨d, 0, none⟩)] W fun e w' => ∃ er x', e = .returned (.int .i64 er) ∧ SyncR er x x' ∧ GL b0 w w' T0 lb d size n x' := by
  obtain ⟨T, g, q1, q2⟩ := h
  refine (gl_sync g (Nat.le_trans hb0 q2.size) hq).mono ?_
  rintro e w' ⟨er, x', rfl, hA, k, T', g', q3⟩
  refine ⟨er, x', rfl, hA, T', g', fun y hy => ?_, q2.trans (k.mono q1)⟩
  rcases q3 y hy with e | e
  · exact q1 y e
  · exact .inr (Nat.le_trans q2.size e)
theorem G_put (h : GL b0 w W T0 lb d size n x) (hb0 : b0 ≤ w.heap.size) (room : Nat) (hroom : n + 2 * room ≤ size)
    (a : Option Addr) (B : List UInt8) (m cap : Nat) (hm : m = B.length) (hc : m ≤ cap) (hr : RdB W a B) (hsep : ∀ ad, a = some ad → ¬ T0 ad.block ∧ ad.block < w.heap.size) (hq : x.D.pcs.length + m ≤ 700000) :
    Calls Try.prog 29 #[.pointer (some ⟨d, 0, none⟩), .int .i64 (n : Int), .slice a m cap, .int .i64 (room : Int)] W fun e w' => ∃ er x', e = .returned (.int .i64 er) ∧ PutR n room (ents B) er x x' ∧ GL b0 w w' T0 lb d size n x' := by
  obtain ⟨T, g, q1, q2⟩ := h
  refine (pgput_any b0 W T lb d size n x g (Nat.le_trans hb0 q2.size) room hroom a B m cap hm hc hr (fun b off e ht => ?_) hq).mono ?_
  · have := hsep _ e
    rcases q1 _ ht with e | e
    · exact this.1 e
    · have h2 : b < w.heap.size := this.2
      omega
  · rintro e w' ⟨er, x', rfl, hP, T', g', q3, k⟩
    refine ⟨er, x', rfl, hP, T', g', fun y hy => ?_, q2.trans (k.mono fun y hy => ?_)⟩
    · rcases q3 y hy with e | e
      · exact q1 y e
      · exact .inr (Nat.le_trans q2.size e)
    · rcases hy with e | e
      · exact q1 y e
      · exact .inr (Nat.le_trans q2.size e)
end
/-- A pager behind steps of a call that began in w0 with the footprint F0. -/
structure PgX (b0 : Nat) (w0 W : World) (F0 F T U : Nat → Prop) (pb d size n room lb m : Nat) (f : Int → Option Value) (s : PS) : Prop where
  pm : PgM b0 W F T U pb d size n room lb m f s
  sub : ∀ y, F y → F0 y ∨ w0.heap.size ≤ y
  kp : KeepA F0 w0 W
section
variable {b0 : Nat} {w0 W W' : World} {F0 F T U : Nat → Prop} {pb d size n room lb m : Nat} {f : Int → Option Value} {s : PS}
theorem PgX.pgR (h : PgX b0 w0 W F0 F T U pb d size n room lb m f s) : PgR b0 w0 W F0 pb d size n room s := ⟨F, ⟨T, U, lb, m, f, h.pm⟩, h.sub, h.kp⟩
theorem PgX.later (h : PgX b0 w0 W F0 F T U pb d size n room lb m f s) (hb : Below W.heap.size W W') : PgX b0 w0 W' F0 F T U pb d size n room lb m f s := ⟨h.pm.later hb, h.sub, h.kp.trans (KeepA.of_below hb)⟩
theorem keep_sub {X Y : Nat → Prop} {w w' : World} (h : KeepA X w w') (hx : ∀ y, y < w.heap.size → X y → Y y) : KeepA Y w w' := ⟨h.os, h.tape, h.output, h.size, fun k hk hn => h.same k hk fun e => hn (hx k hk e)⟩
theorem PgX.row (h : PgX b0 w0 W F0 F T U pb d size n room lb m f s) (hk : KeepA (fun x => x = pb) W W') {now was : Mt} {op dd : Bool} (hr : PgRow W' pb d lb n room now was m op dd) : PgX b0 w0 W' F0 F T U pb d size n room lb m f { s with now := now, was := was, op := op, dd := dd } := by
  refine ⟨h.pm.setRow hk hr, h.sub, ?_⟩
  refine h.kp.trans2 hk fun y hy e => ?_
  subst e
  rcases h.sub y (h.pm.foot y (.inr (.inr (.inl rfl)))) with e | e
  · exact e
  · omega
theorem PgX.gl (h : PgX b0 w0 W F0 F T U pb d size n room lb m f s) {x' : LX} (hg : GL b0 W W' T lb d size n x') (hq : x'.D.pcs.length ≤ 400000) : ∃ T', PgX b0 w0 W' F0 (fun y => F y ∨ T' y) T' U pb d size n room lb m f { s with x := x' } := by
  obtain ⟨T', g, q1, k⟩ := hg
  have hnT : ∀ y, y < W.heap.size → (T y ∨ W.heap.size ≤ y) → T y := fun y hy e => e.elim id fun e => by omega
  have k2 : KeepA T W W' := keep_sub k hnT
  have hlt := fun y hy => (h.pm.lim y hy).2
  have fU : ∀ y, U y → ¬ T' y := fun y hy e => by
    have := hlt y (h.pm.foot y (.inr (.inl hy)))
    exact h.pm.tu y hy (hnT y this (q1 y e))
  have fp : ¬ T' pb := fun e => by
    have := hlt pb (h.pm.foot pb (.inr (.inr (.inl rfl))))
    exact h.pm.pbT.1 (hnT pb this (q1 pb e))
  have fm : ¬ T' m := fun e => by
    have := hlt m (h.pm.foot m (.inr (.inr (.inr rfl))))
    exact h.pm.mT.1 (hnT m this (q1 m e))
  refine ⟨T', ⟨h.pm.row.keep k2 h.pm.pbT.1, h.pm.turn.keep k2 h.pm.mT.1 h.pm.tu, g, fU, ⟨fp, h.pm.pbT.2⟩, ⟨fm, h.pm.mT.2⟩, fun y hy => ?_, fun y hy => ?_, h.pm.rm, hq⟩, fun y hy => ?_, ?_⟩
  · rcases hy with e | e | e | e
    · exact .inr e
    · exact .inl (h.pm.foot y (.inr (.inl e)))
    · exact .inl (h.pm.foot y (.inr (.inr (.inl e))))
    · exact .inl (h.pm.foot y (.inr (.inr (.inr e))))
  · rcases hy with e | e
    · exact ⟨(h.pm.lim y e).1, Nat.lt_of_lt_of_le (hlt y e) k.size⟩
    · exact g.lt y e
  · rcases hy with e | e
    · exact h.sub y e
    · rcases q1 y e with e | e
      · exact h.sub y (h.pm.foot y (.inl e))
      · exact .inr (Nat.le_trans h.kp.size e)
  · refine h.kp.trans2 k2 fun y hy e => ?_
    rcases h.sub y (h.pm.foot y (.inl e)) with e | e
    · exact e
    · omega
end
theorem PgM.x0 {b0 : Nat} {w : World} {F T U : Nat → Prop} {pb d size n room lb m : Nat} {f : Int → Option Value} {s : PS} (h : PgM b0 w F T U pb d size n room lb m f s) : PgX b0 w w F F T U pb d size n room lb m f s := ⟨h, fun _ hy => .inl hy, KeepA.refl _ _⟩
end Go.Proofs.Ytagipfkgnobjlaa
