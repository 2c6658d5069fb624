/- A log and its disk, as the pager has them: what each call does to them, faults among them. -/
import Derived.Test.YtagipfkgnobjlaaPgLow
import Derived.Test.YtagipfkgnobjlaaWlLaw
import Derived.Test.YtagipfkgnobjlaaWlIter
namespace Go.Proofs.Ytagipfkgnobjlaa
open Go.RowKit

theorem laid_app (L : Int → List UInt8) (a b : List (Int × List UInt8)) : laid L (a ++ b) = laid (laid L a) b := by
  unfold laid
  rw [List.foldl_append]
theorem LgI.congr {L M : Int → List UInt8} {n run base used : Nat} {bs : List (List UInt8)} (h : LgI L 0 n run base used bs) (hn : 4 ≤ n) (hM : ∀ k, (M k).length = 512) (he : ∀ k : Int, 0 ≤ k → k < (n : Int) → M k = L k) : LgI M 0 n run base used bs := by
  have e0 : M 0 = L 0 := he 0 (Int.le_refl _) (by omega)
  have e1 : M (0 + 1) = L (0 + 1) := he _ (by omega) (by omega)
  have eb : ∀ i : Nat, i < n - 2 → M (0 + 2 + (i : Int)) = L (0 + 2 + (i : Int)) := fun i hi => he _ (by omega) (by omega)
  refine ⟨hM, by rw [e0, e1]; exact h.hd, h.b1, h.br, h.r62, ?_, fun i hi => by rw [eb i hi]; exact h.low i hi, h.us⟩
  have hbe : bodyP M 0 n = bodyP L 0 n := flatS_congr _ _ fun i hi => eb i hi
  rw [hbe]
  exact h.par
theorem LgFree.congr {L M : Int → List UInt8} {n run used : Nat} (h : LgFree L 0 n run used) (he : ∀ k : Int, 0 ≤ k → k < (n : Int) → M k = L k) : LgFree M 0 n run used := fun i h1 h2 => by
  rw [he (0 + 2 + (i : Int)) (by omega) (by omega)]
  exact h i h1 h2
theorem parse_us {BY : List UInt8} {n base run : Nat} : ∀ (f u l : Nat) (bs : List (List UInt8)), u ≤ n - 2 → (parse BY n base run f u l bs).1 ≤ n - 2
  | 0, u, l, bs, h => h
  | f + 1, u, l, bs, h => by
    unfold parse
    split
    · split
      · exact h
      · rename_i acc i hc
        have h1 := coll_more (longOf_pos BY u) hc
        obtain ⟨h2, -⟩ := coll_good _ _ _ _ _ hc
        have h3 := h2 (i - 1) (by omega) (by omega)
        unfold secGood at h3
        simp only [Bool.and_eq_true, decide_eq_true_eq] at h3
        exact parse_us f i _ _ (by omega)
    · exact h
theorem lookP_us {L : Int → List UInt8} {from_ : Int} {n run base used : Nat} {bs : List (List UInt8)} (h : lookP L from_ n = some (run, base, used, bs)) : used ≤ n - 2 := by
  unfold lookP at h
  split at h
  · cases h
  · split at h
    · cases h
    · simp only [Option.some.injEq, Prod.mk.injEq] at h
      have := parse_us (BY := bodyP L from_ n) (n := n) (base := (headsP L from_ 2).2) (run := (headsP L from_ 2).1) (n + 1) 0 (headsP L from_ 2).2 [] (Nat.zero_le _)
      rw [h.2.2] at this
      exact this
/-- A log's state, with its disk: how many fates there may be, and is the log dead. -/
structure LX where
  D : DK
  fz : Nat
  run : Nat
  base : Nat
  used : Nat
  ld : Bool
  bs : List (List UInt8)
/-- The disk as it is read. -/
def LX.V (x : LX) : Int → List UInt8 := laid x.D.last x.D.pcs
/-- A log that is open, from the disk's begin on. -/
structure GLogM (b0 : Nat) (W : World) (T S : Nat → Prop) (lb d size n : Nat) (allv : Value) (x : LX) : Prop where
  lg : LgAt W T S lb d x.D x.fz 0 n x.run x.base allv x.used x.ld x.bs
  sz : x.D.size = size
  lo : ∀ y, T y → b0 ≤ y
  us : x.used ≤ n - 2
  n4 : 4 ≤ n
  ns : n ≤ size
  s6 : size ≤ 65536
def GLog (b0 : Nat) (W : World) (T : Nat → Prop) (lb d size n : Nat) (x : LX) : Prop := ∃ S allv, GLogM b0 W T S lb d size n allv x
/-- A log in old blocks of T, or in new ones. -/
def GLogN (b0 : Nat) (W w' : World) (T : Nat → Prop) (lb d size n : Nat) (x : LX) : Prop := ∃ T', GLog b0 w' T' lb d size n x ∧ ∀ y, T' y → T y ∨ W.heap.size ≤ y
/-- What an Append does. -/
def AppR (B : List UInt8) (er : Int) (x x' : LX) : Prop :=
  ∃ D', WS x.fz x.D (0 + 2 + (x.used : Int)) (appB x.run x.used (lowB B.length 4 ++ B) (secsOf B.length)) er D' ∧ ((er = 0 ∧ x' = { x with D := D', used := x.used + secsOf B.length, bs := x.bs ++ [B] }) ∨ (er ≠ 0 ∧ x' = { x with D := D', ld := true }))
def ResetR (er : Int) (x x' : LX) : Prop :=
  ∃ D', WS x.fz x.D (0 + (((x.run + 1) % 2 : Nat) : Int)) (headB (x.run + 1) (x.run + 1)) er D' ∧ ((er = 0 ∧ x' = { x with D := D', run := x.run + 1, base := x.run + 1, used := 0, bs := [] }) ∨ (er ≠ 0 ∧ x' = { x with D := D', ld := true }))
def WriteR (at_ : Int) (B : List UInt8) (er : Int) (x x' : LX) : Prop :=
  ∃ k, k ≤ B.length / 512 ∧ (x.fz = 0 → k = B.length / 512 ∧ er = 0) ∧ Fine er k (B.length / 512) ∧ x' = { x with D := ⟨x.D.size, x.D.last, x.D.pcs ++ wps at_ B k⟩ }
def SyncR (er : Int) (x x' : LX) : Prop :=
  ∃ k, k ≤ x.D.pcs.length ∧ (x.fz = 0 → k = x.D.pcs.length ∧ er = 0) ∧ Fine er k x.D.pcs.length ∧ x' = { x with D := ⟨x.D.size, laid x.D.last (x.D.pcs.take k), x.D.pcs.drop k⟩ }
section
variable {b0 : Nat} {W W' : World} {T : Nat → Prop} {lb d size n : Nat} {x : LX}
theorem GLog.keep {X : Nat → Prop} (h : GLog b0 W T lb d size n x) (hk : KeepA X W W') (hx : ∀ y, T y → ¬ X y) : GLog b0 W' T lb d size n x := by
  obtain ⟨S, allv, h⟩ := h
  exact ⟨S, allv, h.lg.keep hk hx, h.sz, h.lo, h.us, h.n4, h.ns, h.s6⟩
theorem GLog.later (h : GLog b0 W T lb d size n x) (hb : Below W.heap.size W W') : GLog b0 W' T lb d size n x := h.keep (KeepA.of_below (X := fun _ => False) hb) fun _ _ h => h
theorem GLog.lt (h : GLog b0 W T lb d size n x) : ∀ y, T y → b0 ≤ y ∧ y < W.heap.size := by
  obtain ⟨S, allv, h⟩ := h
  exact fun y hy => ⟨h.lo y hy, h.lg.lt y hy⟩
theorem GLog.len (h : GLog b0 W T lb d size n x) : ∀ k, (x.V k).length = 512 := by
  obtain ⟨S, allv, h⟩ := h
  exact laid_len h.lg.dk.sec _ fun p hp => (h.lg.dk.psec p hp).2.2
theorem GLog.sizes (h : GLog b0 W T lb d size n x) : 4 ≤ n ∧ n ≤ size ∧ size ≤ 65536 ∧ x.used ≤ n - 2 ∧ x.D.size = size := by
  obtain ⟨S, allv, h⟩ := h
  exact ⟨h.n4, h.ns, h.s6, h.us, h.sz⟩
theorem GLog.disk (h : GLog b0 W T lb d size n x) : ∃ S, DkS W S d x.D x.fz ∧ ∀ y, S y → T y := by
  obtain ⟨S, allv, h⟩ := h
  exact ⟨S, h.lg.dk, h.lg.sub⟩
theorem LgSome.glog {w' : World} {D' : DK} {run base used : Nat} {ld : Bool} {bs : List (List UInt8)} (h : LgSome W w' T lb d D' x.fz 0 n run base used ld bs) (hb0 : b0 ≤ W.heap.size) (hlo : ∀ y, T y → b0 ≤ y) (hsz : D'.size = size) (hus : used ≤ n - 2) (n4 : 4 ≤ n) (ns : n ≤ size) (s6 : size ≤ 65536) :
    GLogN b0 W w' T lb d size n ⟨D', x.fz, run, base, used, ld, bs⟩ := by
  obtain ⟨T', S', allv, h1, h2⟩ := h
  exact ⟨T', ⟨S', allv, h1, hsz, fun y hy => (h2 y hy).elim (hlo y) (fun h => Nat.le_trans hb0 h), hus, n4, ns, s6⟩, h2⟩
theorem gl_append (h : GLog b0 W T lb d size n x) (hld : x.ld = false) (hb0 : b0 ≤ W.heap.size) (hq : x.D.pcs.length ≤ 800000) (hbs : x.bs.length ≤ 900000) (hrun : x.run < 9223372036854775808)
    (a : Option Addr) (B : List UInt8) (m c : Nat) (hm : m = B.length) (hr : RdB W a B) (hsep : ∀ ad, a = some ad → ¬ T ad.block) (hfit : x.used + secsOf m ≤ n - 2) :
    Calls Try.prog 45 #[.pointer (some ⟨lb, 0, none⟩), .slice a m c] W fun e w' => ∃ er x', e = .returned (.int .i64 er) ∧ AppR B er x x' ∧ KeepA T W w' ∧ GLogN b0 W w' T lb d size n x' := by
  obtain ⟨S, allv, h⟩ := h
  have hn4 := h.n4
  have hns := h.ns
  have hs6 := h.s6
  have hlg := h.lg
  rw [hld] at hlg
  subst hm
  have hroom : ((B.length : Nat) : Int) ≤ roomOf n x.used := by unfold roomOf; unfold secsOf at hfit; omega
  refine (append_any W T S lb d x.D x.fz 0 n x.run x.base allv x.used x.bs hlg (Int.le_refl _) (by rw [h.sz]; omega) h.n4 (by omega) h.us hrun hq hbs a B B.length c rfl hr hsep hroom).mono ?_
  rintro e w' ⟨⟨er, D', rfl, hws, hcase⟩, hk⟩
  have hz := hws.size.1.trans h.sz
  rcases hcase with ⟨h0, hs⟩ | ⟨h0, hs⟩
  · refine ⟨er, _, rfl, ⟨D', hws, .inl ⟨h0, rfl⟩⟩, hk, ?_⟩
    rw [← hld] at hs
    exact hs.glog hb0 h.lo hz hfit h.n4 h.ns h.s6
  · exact ⟨er, _, rfl, ⟨D', hws, .inr ⟨h0, rfl⟩⟩, hk, hs.glog hb0 h.lo hz h.us h.n4 h.ns h.s6⟩
theorem gl_full (h : GLog b0 W T lb d size n x) (hld : x.ld = false) (a : Option Addr) (m c : Nat) (hfit : ¬ x.used + secsOf m ≤ n - 2) :
    Calls Try.prog 45 #[.pointer (some ⟨lb, 0, none⟩), .slice a m c] W fun e w' => e = .returned (.int .i64 6) ∧ Below W.heap.size W w' := by
  obtain ⟨S, allv, h⟩ := h
  have := h.us
  have := h.n4
  have := h.ns
  have := h.s6
  have hlg := h.lg
  rw [hld] at hlg
  exact append_full W lb d 0 n x.run x.base allv x.used hlg.row (by omega) (by omega) a m c (by unfold roomOf; unfold secsOf at hfit; omega)
theorem gl_reset (h : GLog b0 W T lb d size n x) (hld : x.ld = false) (hb0 : b0 ≤ W.heap.size) (hq : x.D.pcs.length ≤ 800000) (hrun : x.run < 9223372036854775808) :
    Calls Try.prog 31 #[.pointer (some ⟨lb, 0, none⟩)] W fun e w' => ∃ er x', e = .returned (.int .i64 er) ∧ ResetR er x x' ∧ KeepA T W w' ∧ GLogN b0 W w' T lb d size n x' := by
  obtain ⟨S, allv, h⟩ := h
  have hn4 := h.n4
  have hns := h.ns
  have hs6 := h.s6
  have hlg := h.lg
  rw [hld] at hlg
  refine (reset_any W T S lb d x.D x.fz 0 n x.run x.base allv x.used x.bs hlg (Int.le_refl _) (by rw [h.sz]; omega) hrun (by omega)).mono ?_
  rintro e w' ⟨⟨er, D', rfl, hws, hcase⟩, hk⟩
  have hz := hws.size.1.trans h.sz
  rcases hcase with ⟨h0, hs⟩ | ⟨h0, hs⟩
  · refine ⟨er, _, rfl, ⟨D', hws, .inl ⟨h0, rfl⟩⟩, hk, ?_⟩
    rw [← hld] at hs
    exact hs.glog hb0 h.lo hz (Nat.zero_le _) h.n4 h.ns h.s6
  · exact ⟨er, _, rfl, ⟨D', hws, .inr ⟨h0, rfl⟩⟩, hk, hs.glog hb0 h.lo hz h.us h.n4 h.ns h.s6⟩
theorem GLogM.step {w' : World} {S : Nat → Prop} {allv : Value} {D' : DK} (h : GLogM b0 W T S lb d size n allv x) (hb0 : b0 ≤ W.heap.size) (hd : DkS w' (Plus S (Span W w')) d D' x.fz) (hk : KeepA S W w') (hsz : D'.size = x.D.size) : GLogN b0 W w' T lb d size n { x with D := D' } :=
  ⟨Plus T (Span W w'), ⟨_, allv, h.lg.step hd hk, hsz.trans h.sz, fun y hy => hy.elim (h.lo y) (fun e => Nat.le_trans hb0 e.1), h.us, h.n4, h.ns, h.s6⟩, fun y hy => hy.imp id fun e => e.1⟩
/-- Sectors are written behind the log. -/
theorem gl_write (h : GLog b0 W T lb d size n x) (hb0 : b0 ≤ W.heap.size) (hq : x.D.pcs.length ≤ 800000) (at_ : Int) (a : Option Addr) (B : List UInt8) (m c : Nat) (hm : m = B.length) (hc : m ≤ c) (hr : RdB W a B) (hsep : ∀ ad, a = some ad → ¬ T ad.block) (hB : B.length % 512 = 0) (hbl : B.length ≤ 100000)
    (h1 : 0 ≤ at_) (h2 : at_ + ((B.length / 512 : Nat) : Int) ≤ size) :
    Calls Try.prog 6 #[.pointer (some ⟨d, 0, none⟩), .int .i64 at_, .slice a m c] W fun e w' => ∃ er x', e = .returned (.int .i64 er) ∧ WriteR at_ B er x x' ∧ KeepA T W w' ∧ GLogN b0 W w' T lb d size n x' := by
  obtain ⟨S, allv, h⟩ := h
  refine (write_s W S d x.D x.fz at_ a B m c h.lg.dk hm hc hr (fun _ ad e q => hsep ad e (h.lg.sub _ q)) (by omega) (by omega)).mono ?_
  rintro e w' ⟨⟨k, er, q1, q2, q3, q4, rfl, q5⟩, hk⟩
  have h3 : at_ + ((B.length / 512 : Nat) : Int) ≤ x.D.size := by rw [h.sz]; exact h2
  exact ⟨er, _, rfl, ⟨k, q1, fun h0 => q3 h0 hB h1 h3, q4 hB h1 h3, rfl⟩, hk.mono h.lg.sub, h.step hb0 q5 hk rfl⟩
theorem gl_sync (h : GLog b0 W T lb d size n x) (hb0 : b0 ≤ W.heap.size) (hq : x.D.pcs.length ≤ 800000) :
    Calls Try.prog 7 #[.pointer (some ⟨d, 0, none⟩)] W fun e w' => ∃ er x', e = .returned (.int .i64 er) ∧ SyncR er x x' ∧ KeepA T W w' ∧ GLogN b0 W w' T lb d size n x' := by
  obtain ⟨S, allv, h⟩ := h
  refine (sync_s W S d x.D x.fz h.lg.dk (by omega)).mono ?_
  rintro e w' ⟨⟨k, q1, er, q2, q3, rfl, q4⟩, hk⟩
  exact ⟨er, _, rfl, ⟨k, q1, q2, q3, rfl⟩, hk.mono h.lg.sub, h.step hb0 q4 hk rfl⟩
theorem gl_read (h : GLog b0 W T lb d size n x) (hq : x.D.pcs.length ≤ 800000) (at_ : Int) (m : Nat) (h1 : 0 ≤ at_) (h2 : at_ + (m : Int) ≤ size) :
    Calls Try.prog 32 #[.pointer (some ⟨d, 0, none⟩), .int .i64 at_, .int .i64 (m : Int)] W fun e w' =>
      (∃ v, e = .returned (.tuple #[v, .int .i64 0]) ∧ OwnB w' W.heap.size 5 v (flatS x.V at_ m)) ∧ Below W.heap.size W w' := by
  obtain ⟨S, allv, h⟩ := h
  exact read_any W 0 d x.D x.fz at_ m h.lg.dk.isDk (by omega) h1 (by rw [h.sz]; exact h2)
/-- A disk is opened as a log. -/
theorem gl_open (b0 : Nat) (W : World) (S : Nat → Prop) (d n : Nat) (D : DK) (hd : DkS W S d D 0) (hp : D.pcs.length ≤ 800000) (hS : ∀ y, S y → b0 ≤ y ∧ y < W.heap.size) (hb0 : b0 ≤ W.heap.size) (hn : 4 ≤ n) (hns : n ≤ D.size) :
    Calls Try.prog 26 #[.pointer (some ⟨d, 0, none⟩), .int .i64 0, .int .i64 (n : Int)] W fun e w' =>
      (e = .returned (.tuple #[.pointer none, .int .i64 9]) ∧ Below W.heap.size W w' ∧ ∀ run base used bs, lookP (laid D.last D.pcs) 0 n = some (run, base, used, bs) → 4611686018427387904 ≤ run + 1) ∨
      (∃ run base used bs lb, lookP (laid D.last D.pcs) 0 n = some (run, base, used, bs) ∧ run + 1 < 4611686018427387904 ∧ e = .returned (.tuple #[.pointer (some ⟨lb, 0, none⟩), .int .i64 0]) ∧ KeepA S W w' ∧
        GLogN b0 W w' S lb d D.size n ⟨⟨D.size, laid (laid D.last D.pcs) (wps (0 + (((run + 1) % 2 : Nat) : Int)) (headB (run + 1) base) ((headB (run + 1) base).length / 512)), []⟩, 0, run + 1, base, used, false, bs⟩) := by
  have hs6 := hd.sizes.2
  have hok : askW D.size 0 (n : Int) = 0 := by unfold askW; rw [if_neg (by omega), if_neg (by omega)]
  have ho := open_any W S d D 0 0 n hd (fun x hx => (hS x hx).2) hok (by omega)
  cases hl : lookP (laid D.last D.pcs) 0 n with
  | none =>
    rw [hl] at ho
    refine ho.mono ?_
    rintro e w' ⟨h1, h2⟩
    exact .inl ⟨h2, h1, fun _ _ _ _ h => by cases h⟩
  | some r =>
    obtain ⟨run, base, used, bs⟩ := r
    rw [hl] at ho
    have hus := lookP_us hl
    refine ho.mono ?_
    rintro e w' (⟨h1, h2, h3⟩ | ⟨h1, h2, er, D', hws, hcase⟩)
    · exact .inl ⟨h3, h2, fun _ _ _ _ h => by cases h; exact h1⟩
    · have h0 := hws.1 rfl
      subst h0
      rcases hcase with ⟨_, lb, rfl, hlb, hsome⟩ | ⟨hne, _⟩
      · have hD := hws.ok rfl
        subst hD
        rw [laid_app] at hsome
        refine .inr ⟨run, base, used, bs, lb, rfl, h1, rfl, h2, ?_⟩
        exact LgSome.glog (x := ⟨D, 0, 0, 0, 0, false, []⟩) hsome hb0 (fun y hy => (hS y hy).1) rfl hus hn hns hs6
      · exact absurd rfl hne
end
end Go.Proofs.Ytagipfkgnobjlaa
