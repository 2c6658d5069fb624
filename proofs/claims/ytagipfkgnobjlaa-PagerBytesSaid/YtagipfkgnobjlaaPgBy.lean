/- PagerBytes: the walk. (Printed by gen_pgby.py.) -/
import Derived.Test.YtagipfkgnobjlaaPgKno
namespace Go.Proofs.Ytagipfkgnobjlaa
open Go.RowKit

attribute [local go_sem] Oper.semAt_some
/-- A pager made since w0. -/
def ByS (w0 w : World) (pb d size n room : Nat) (s : PS) (l lc : List Nat) : Prop :=
  Below w0.heap.size w0 w ∧ (∃ F, PgA w0.heap.size w F pb d size n room s) ∧ PSt n room s l lc ∧ s.x.D.pcs = [] ∧ s.x.bs = [] ∧ s.x.run ≤ 4611686018427387905
section
variable {w0 w : World} {pb d size n room : Nat} {s : PS} {l lc : List Nat}
theorem ByS.later {w' : World} (h : ByS w0 w pb d size n room s l lc) (hb : Below w.heap.size w w') : ByS w0 w' pb d size n room s l lc := by
  obtain ⟨h1, ⟨F, h2⟩, h3⟩ := h
  exact ⟨h1.trans (hb.mono h1.size), ⟨F, h2.later hb⟩, h3⟩
theorem ByS.step {w' : World} {F : Nat → Prop} {s' : PS} {l' : List Nat} (hb : Below w0.heap.size w0 w) (hF : ∀ y, F y → w0.heap.size ≤ y) (hR : PgR w0.heap.size w w' F pb d size n room s') (hS : PSt n room s' l' lc) (hx : s'.x.D.pcs = [] ∧ s'.x.bs = [] ∧ s'.x.run ≤ 4611686018427387905) : ByS w0 w' pb d size n room s' l' lc := by
  obtain ⟨F', h1, h2, h3⟩ := hR
  exact ⟨hb.trans (h3.below hb.size hF), ⟨F', h1⟩, hS, hx⟩
theorem by_get (h : ByS w0 w pb d size n room s l lc) (x : Int) : Calls Try.prog 9 #[.pointer (some ⟨pb, 0, none⟩), .int .i64 x] w fun e w' => (∃ v, e = .returned v) ∧ ByS w0 w' pb d size n room s l lc := by
  obtain ⟨h1, ⟨F, h2⟩, h3⟩ := id h
  refine (get_St _ w F pb d size n room s h2 h3.1.cr x).mono ?_
  rintro e w' ⟨q1, q2⟩
  exact ⟨q1, h.later q2⟩
theorem by_alloc (h : ByS w0 w pb d size n room s l lc) (hr : room ≤ 100000) : Calls Try.prog 10 #[.pointer (some ⟨pb, 0, none⟩)] w fun e w' =>
    (e = .returned (.tuple #[.int .i64 0, .int .i64 6]) ∧ ByS w0 w' pb d size n room s l lc) ∨ ∃ (k : Nat) (s' : PS) (l' : List Nat), e = .returned (.tuple #[.int .i64 (k : Int), .int .i64 0]) ∧ ByS w0 w' pb d size n room s' l' lc ∧ 0 < k ∧ k < s'.now.count ∧ k ∉ l' := by
  obtain ⟨h1, ⟨F, h2⟩, h3, h4⟩ := id h
  refine (alloc_St _ w F pb d size n room s l lc h2 h3 hr).mono ?_
  rintro e w' (⟨rfl, hb, -⟩ | ⟨k, s', l', rfl, hR, hS, hA, -⟩)
  · exact .inl ⟨rfl, h.later hb⟩
  · have := (hA.set k hA.k0).2 (.inl rfl)
    exact .inr ⟨k, s', l', rfl, ByS.step h1 (fun y hy => (h2.lims y hy).1) hR hS (by rw [hA.x]; exact h4), hA.k0, this.1, this.2⟩
theorem by_put (h : ByS w0 w pb d size n room s l lc) {k : Nat} (hk : k ∉ l) (h0 : 0 < k) (hc : k < s.now.count) (W : World) (hW : Below W.heap.size W w) (hWF : ByS w0 W pb d size n room s l lc) (v : Value) (B : List UInt8) (hB : B.length = 1024) (hv : OwnB w W.heap.size 5 v B) :
    Calls Try.prog 11 #[.pointer (some ⟨pb, 0, none⟩), .int .i64 (k : Int), v] w fun e w' => e = .returned (.int .i64 0) ∧ ∃ s', ByS w0 w' pb d size n room s' l lc := by
  obtain ⟨h1, -, h3, h4⟩ := id h
  obtain ⟨-, ⟨F, h2⟩, -⟩ := hWF
  obtain ⟨g, c, rfl, hgc, hga, hgb, hgr⟩ := OwnB.rd2 hv (fun e => by rw [e] at hB; cases hB)
  rw [hB] at hgc ⊢
  have h2' := h2.later hW
  refine (put_St _ w F pb d size n room s l lc h2' h3 hk h0 hc (some ⟨g, 0, none⟩) B c hB hgc hgr (fun b off e hf => ?_)).mono ?_
  · cases e
    have := (h2.lims _ hf).2
    omega
  · rintro e w' ⟨rfl, hR⟩
    obtain ⟨q1, -, -, q2, -⟩ := h3.put hk h0 hc hB
    exact ⟨rfl, _, ByS.step h1 (fun y hy => (h2.lims y hy).1) hR q1 (by rw [q2]; exact h4)⟩
theorem by_free (h : ByS w0 w pb d size n room s l lc) (hr : room ≤ 100000) (x : Int) : Calls Try.prog 13 #[.pointer (some ⟨pb, 0, none⟩), .int .i64 x] w fun e w' => (∃ er : Int, e = .returned (.int .i64 er)) ∧ ∃ s' l', ByS w0 w' pb d size n room s' l' lc := by
  obtain ⟨h1, ⟨F, h2⟩, h3, h4⟩ := id h
  refine (free_St _ w F pb d size n room s l lc h2 h3 hr x).mono ?_
  rintro e w' (⟨rfl, hb, -⟩ | ⟨k, rfl, a1, a2, a3, rfl, hR⟩)
  · exact ⟨⟨4, rfl⟩, s, l, h.later hb⟩
  · obtain ⟨q1, -, -, -, q2, -⟩ := h3.free a1 a2 a3 hr
    exact ⟨⟨0, rfl⟩, _, _, ByS.step h1 (fun y hy => (h2.lims y hy).1) hR q1 (by rw [q2]; exact h4)⟩
theorem by_commit (h : ByS w0 w pb d size n room s l lc) (hr : room ≤ 580) : Calls Try.prog 14 #[.pointer (some ⟨pb, 0, none⟩)] w fun e w' => (∃ er : Int, e = .returned (.int .i64 er)) ∧ Below w0.heap.size w0 w' := by
  obtain ⟨h1, ⟨F, h2⟩, h3, h4, h5, h6⟩ := h
  refine (commit_St _ w F pb d size n room s l lc h2 h3 hr (by rw [h4]; exact Nat.zero_le _) (by rw [h5]; exact Nat.zero_le _) (by omega)).mono ?_
  rintro e w' ⟨q1, q2⟩
  exact ⟨q1, h1.trans (q2.below h1.size fun y hy => (h2.lims y hy).1)⟩
end
/-- A disk of k sectors, opened as a pager. -/
theorem by_open (w0 w : World) (S : Nat → Prop) (d : Nat) (D : DK) (log : Int) (hb : Below w0.heap.size w0 w) (h : DkS w S d D 0) (hS : ∀ y, S y → w0.heap.size ≤ y ∧ y < w.heap.size) (hp : D.pcs.length ≤ 300000) (hk : D.size ≤ 60) :
    Calls Try.prog 8 #[.pointer (some ⟨d, 0, none⟩), .int .i64 log] w fun e w' =>
      (∃ er : Int, (er = 2 ∨ er = 9) ∧ e = .returned (.tuple #[.pointer none, .int .i64 er]) ∧ Below w0.heap.size w0 w') ∨
      (∃ pb n room s l, room ≤ 100 ∧ e = .returned (.tuple #[.pointer (some ⟨pb, 0, none⟩), .int .i64 0]) ∧ ByS w0 w' pb d D.size n room s l l) := by
  by_cases hno : spaceP D.size log < 2
  · refine (pgOpen_no w S d D 0 h log hno).mono ?_
    rintro e w' ⟨rfl, q⟩
    exact .inl ⟨2, .inl rfl, rfl, hb.trans (q.mono hb.size)⟩
  · have h4 : ¬ log < 4 := fun e => hno (by rw [spaceP_low e]; decide)
    have h5 : ¬ (D.size : Int) < log := fun e => hno (by rw [spaceP_high h4 e]; decide)
    rw [spaceP_ok h4 h5] at hno
    obtain ⟨n, rfl⟩ : ∃ n : Nat, log = (n : Int) := ⟨log.toNat, by omega⟩
    obtain ⟨room, hrm⟩ : ∃ r : Nat, ((D.size : Int) - n) / 2 = (r : Int) := ⟨(((D.size : Int) - n) / 2).toNat, by omega⟩
    refine (pgOpen_any w0.heap.size w S d D n room h hS hb.size hp (by omega) (by omega) (by omega) (by omega) (by rw [spaceP_ok h4 h5]; exact hrm) (by omega) (by omega)).mono ?_
    rintro e w' (⟨rfl, q, -⟩ | ⟨pb, F, x, rfl, q1, q2, q3, q4, q5⟩)
    · exact .inl ⟨9, .inr rfl, rfl, hb.trans (q.below hb.size fun y hy => (hS y hy).1)⟩
    · obtain ⟨l, r1, r2, r3, r4⟩ := open_St q1 q2
      exact .inr ⟨pb, n, room, _, l, by omega, rfl, hb.trans (q5.below hb.size fun y hy => (hS y hy).1), ⟨F, q3⟩, r1, r2, r3, r4⟩
set_option maxRecDepth 100000 in
set_option maxHeartbeats 8000000 in
theorem pagerbytes_any (a : Option Addr) (l : List UInt8) (n cap : Nat) (log x : Int) (w : World) (hn : Hid (n = l.length)) (hc : n ≤ cap) (hl : RdB w a l) (hnm : n ≤ 9223372036854775807) :
    Calls Try.prog 3 #[.slice a n cap, .int .i64 log, .int .i64 x] w fun e w' => e = .returned (.bool true) ∧ Below w.heap.size w w' := by
  have HKN := Lib.hid (fun W => known_any W)
  obtain ⟨k, hk⟩ : ∃ k, n / 512 = k := ⟨_, rfl⟩
  have hq : (n : Int).tdiv 512 = (k : Int) := by rw [Int.tdiv_eq_ediv_of_nonneg (by omega)]; omega
  have hw1 : IntKind.i64.wrap (k : Int) = (k : Int) := IntWalk.i64_in _ (by omega)
  by_cases hk1 : k < 1
  · obtain rfl : k = 0 := by omega
    clear hn hl hk
    go_enter Try.func3, Try.ntmps3
    go_wp2_with (go_at_call 4; refine (HKN.out _).mono ?_; rintro _ w1 ⟨rfl, hb⟩; have HB := Lib.hid hb; clear hb)
    go_ret
    exact ⟨rfl, HB.out⟩
  by_cases hk2 : 60 < k
  · have i1 : ¬ (k : Int) < 1 := by omega
    have i2 : (60 : Int) < (k : Int) := by omega
    clear hn hl hk
    go_enter Try.func3, Try.ntmps3
    go_wp2_with (go_at_call 4; refine (HKN.out _).mono ?_; rintro _ w1 ⟨rfl, hb⟩; have HB := Lib.hid hb; clear hb)
    go_ret
    exact ⟨rfl, HB.out⟩
  have i1 : ¬ (k : Int) < 1 := by omega
  have i2 : ¬ (60 : Int) < (k : Int) := by omega
  have hk5 : 512 * k ≤ n := by omega
  have y1 : IntKind.i64.wrap (512 * (k : Int)) = ((512 * k : Nat) : Int) := by rw [IntWalk.i64_in _ (by omega)]; omega
  have i3 : ((512 * k : Nat) : Int) ≤ (cap : Int) := by omega
  obtain ⟨m, hm⟩ : ∃ m, 512 * k = m := ⟨_, rfl⟩
  rw [hm] at y1 i3
  obtain ⟨B, hB⟩ : ∃ B, l.take m = B := ⟨_, rfl⟩
  have hBl : B.length = m := by rw [← hB, List.length_take, ← hn.out]; omega
  have HNEW := Lib.hid (new_any none [] 0 0 k w rfl (by omega) (.inl rfl) (by omega) (by omega) rfl)
  have HWS : Hid (∀ w1 b, Below w.heap.size w w1 → IsDk w1 w.heap.size b ⟨k, fun _ => nought, []⟩ 0 → Calls Try.prog 6 #[.pointer (some ⟨b, 0, none⟩), .int .i64 0, .slice a m cap] w1 fun e w2 => (∃ er : Int, e = .returned (.int .i64 er)) ∧
      Calls Try.prog 7 #[.pointer (some ⟨b, 0, none⟩)] w2 fun e w3 => (∃ er : Int, e = .returned (.int .i64 er)) ∧ Calls Try.prog 8 #[.pointer (some ⟨b, 0, none⟩), .int .i64 log] w3 fun e w' =>
        (∃ er : Int, (er = 2 ∨ er = 9) ∧ e = .returned (.tuple #[.pointer none, .int .i64 er]) ∧ Below w.heap.size w w') ∨
        (∃ pb n' room s l', room ≤ 100 ∧ e = .returned (.tuple #[.pointer (some ⟨pb, 0, none⟩), .int .i64 0]) ∧ ByS w w' pb b k n' room s l' l')) := Lib.hid fun w1 b hb1 hd => by
    have hs := hd.toS
    have hrd : RdB w1 a B := by rw [← hB]; exact (hl.take m).mono hb1
    refine (write_s w1 _ b _ 0 0 a B m cap hs hBl.symm (by omega) hrd (fun hne ad e hs => ?_) (by rw [hBl]; show 0 + _ ≤ _; omega) (by omega)).mono ?_
    · have hBl2 := List.length_pos_iff.2 hne
      obtain ⟨b2, off, e2, hlt, -⟩ := RdB.at hl (by rw [← hn.out]; omega)
      rw [e2] at e
      cases e
      have := hs.1
      dsimp only at this
      omega
    rintro e w2 ⟨⟨kk, er, q1, q2, q3, q4, rfl, q5⟩, k2⟩
    have hf1 : Below w.heap.size w w2 := hb1.trans (k2.below hb1.size fun y hy => hy.1)
    refine ⟨⟨er, rfl⟩, (sync_s w2 _ b _ 0 q5 (by show ([] ++ _).length ≤ _; rw [List.nil_append, wps_len]; rw [hBl] at q1; omega)).mono ?_⟩
    rintro e w3 ⟨⟨k3, r1, er3, r2, r3, rfl, r4⟩, k3'⟩
    have hlim2 : ∀ y, Plus (fun y => w.heap.size ≤ y ∧ y < w1.heap.size) (Span w1 w2) y → w.heap.size ≤ y ∧ y < w2.heap.size := fun y hy => by
      have := hb1.size
      have := k2.size
      rcases hy with e | e
      · exact ⟨e.1, by omega⟩
      · exact ⟨Nat.le_trans hb1.size e.1, e.2⟩
    have hf2 : Below w.heap.size w w3 := hf1.trans (k3'.below hf1.size fun y hy => (hlim2 y hy).1)
    refine ⟨⟨er3, rfl⟩, by_open w w3 _ b _ log hf2 r4 (fun y hy => ?_) ?_ (by show k ≤ 60; omega)⟩
    · have := k3'.size
      rcases hy with e | e
      · have := hlim2 y e
        omega
      · exact ⟨Nat.le_trans hf1.size e.1, e.2⟩
    · show (List.drop _ _).length ≤ _
      rw [List.length_drop, List.nil_append, wps_len]
      rw [hBl] at q1
      omega
  clear hn hl hB hBl hk hm
  go_enter Try.func3, Try.ntmps3
  go_wp2_with fail
  refine HNEW.out.mono ?_
  rintro _ w1 ⟨⟨b, rfl, hd⟩, hb1⟩
  have HW := Lib.hid (HWS.out w1 b hb1 hd)
  clear hb1 hd
  go_wp2_with fail
  refine HW.out.mono ?_
  rintro _ w2 ⟨⟨er, rfl⟩, hc2⟩
  have HC2 := Lib.hid hc2
  clear hc2
  go_wp2_with fail
  refine HC2.out.mono ?_
  rintro _ w3 ⟨⟨er3, rfl⟩, hc3⟩
  have HC3 := Lib.hid hc3
  clear hc3
  go_wp2_with fail
  refine HC3.out.mono ?_
  rintro _ w4 (⟨er4, her, rfl, hb4⟩ | ⟨pb, n', room, s, l', hrm, rfl, hy⟩)
  · have HB4 := Lib.hid hb4
    clear hb4
    have HEQ := run_eqPgN w4
    rcases her with rfl | rfl
    · go_wp2_with (go_at_call 4; refine (HKN.out _).mono ?_; rintro _ w5 ⟨rfl, hb⟩; have HB := Lib.hid (HB4.out.trans (hb.mono HB4.out.size)); clear hb)
      go_ret
      exact ⟨rfl, HB.out⟩
    · go_wp2_with (go_at_call 4; refine (HKN.out _).mono ?_; rintro _ w5 ⟨rfl, hb⟩; have HB := Lib.hid (HB4.out.trans (hb.mono HB4.out.size)); clear hb)
      go_ret
      exact ⟨rfl, HB.out⟩
  · have HY := Lib.hid hy
    have HEQ := run_eqPgNil w4 pb
    clear hy
    go_wp2_with fail
    refine (by_get HY.out x).mono ?_
    rintro _ w5 ⟨⟨v5, rfl⟩, hy5⟩
    have HY5 := Lib.hid hy5
    clear hy5 HEQ
    go_wp2_with fail
    refine (by_alloc HY5.out (by omega)).mono ?_
    rintro _ w6 (⟨rfl, hy6⟩ | ⟨kk, s6, l6, rfl, hy6, k0, kc, kl⟩)
    · have HY6 := Lib.hid hy6
      clear hy6
      go_wp2_with fail
      refine (by_free HY6.out (by omega) x).mono ?_
      rintro _ w7 ⟨⟨er7, rfl⟩, s7, l7, hy7⟩
      have HY7 := Lib.hid hy7
      clear hy7
      go_wp2_with fail
      refine (by_commit HY7.out (by omega)).mono ?_
      rintro _ w8 ⟨⟨er8, rfl⟩, hb8⟩
      have HB8 := Lib.hid hb8
      clear hb8
      go_wp2_with (go_at_call 4; refine (HKN.out _).mono ?_; rintro _ w9 ⟨rfl, hb⟩; have HB := Lib.hid (HB8.out.trans (hb.mono HB8.out.size)); clear hb)
      go_ret
      exact ⟨rfl, HB.out⟩
    · have HY6 := Lib.hid hy6
      have HKK := Lib.hid (And.intro k0 (And.intro kc kl))
      have HFU : Hid (Calls Try.prog 12 #[.int .u8 3] w6 (RetB 5 w6 (fullP 3))) := full_any 3 w6
      clear hy6 k0 kc kl
      go_wp2_with fail
      refine HFU.out.mono ?_
      rintro _ w7 ⟨v7, rfl, ho7, hb7⟩
      have HP := Lib.hid (by_put (HY6.out.later hb7) HKK.out.2.2 HKK.out.1 HKK.out.2.1 w6 hb7 HY6.out v7 (fullP 3) (fullP_len 3) ho7)
      clear ho7 hb7
      go_wp2_with fail
      refine HP.out.mono ?_
      rintro _ w8 ⟨rfl, s8, hy8⟩
      have HY8 := Lib.hid hy8
      clear hy8
      go_wp2_with fail
      refine (by_free HY8.out (by omega) x).mono ?_
      rintro _ w9 ⟨⟨er9, rfl⟩, s9, l9, hy9⟩
      have HY9 := Lib.hid hy9
      clear hy9
      go_wp2_with fail
      refine (by_commit HY9.out (by omega)).mono ?_
      rintro _ w10 ⟨⟨er10, rfl⟩, hb10⟩
      have HB10 := Lib.hid hb10
      clear hb10
      go_wp2_with (go_at_call 4; refine (HKN.out _).mono ?_; rintro _ w11 ⟨rfl, hb⟩; have HB := Lib.hid (HB10.out.trans (hb.mono HB10.out.size)); clear hb)
      go_ret
      exact ⟨rfl, HB.out⟩
end Go.Proofs.Ytagipfkgnobjlaa
