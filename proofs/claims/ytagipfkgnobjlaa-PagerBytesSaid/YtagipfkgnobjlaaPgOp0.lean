/- For Open: a log under a loop's book-keeping; its batches; puts of all of them; the second steps. -/
import Derived.Test.YtagipfkgnobjlaaPgFmt
import Derived.Test.YtagipfkgnobjlaaPgRnd
namespace Go.Proofs.Ytagipfkgnobjlaa
open Go.RowKit

theorem StayW.keepO {B : Nat} {W W' : World} (h : StayW B W W') : KeepA (fun y => ∃ o, W.heap[y]? = some o ∧ oddO o = true) W W' := by
  obtain ⟨row, hg, hr⟩ := h
  exact ⟨hg.os, hg.tape, hg.output, hg.size, fun k hk hn => hg.block k hk fun e => hn (hr k e.symm).2⟩
theorem odd_cells {W : World} {k : Nat} {c : Array Value} {t : TypeId} {fz : Nat × Nat} (h : W.heap[k]? = some (.cells c t fz)) : ¬ ∃ o, W.heap[k]? = some o ∧ oddO o = true := fun ⟨o, h1, h2⟩ => by
  rw [h] at h1
  cases h1
  cases h2
theorem odd_map {W : World} {k : Nat} {es : Array MapEntry} {c : Nat} (h : W.heap[k]? = some (.map es c)) : ¬ ∃ o, W.heap[k]? = some o ∧ oddO o = true := fun ⟨o, h1, h2⟩ => by
  rw [h] at h1
  cases h1
  cases h2
theorem odd_cell {W : World} {b k : Nat} {v : Value} (h : W.cell? ⟨b, k, none⟩ = some v) : ¬ ∃ o, W.heap[b]? = some o ∧ oddO o = true := by
  unfold World.cell? at h
  cases ho : W.heap[b]? with
  | none => rw [ho] at h; cases h
  | some o =>
    rw [ho] at h
    cases o with
    | cells c t fz => exact fun ⟨o, h1, h2⟩ => by cases h1; cases h2
    | map es c => exact fun ⟨o, h1, h2⟩ => by cases h1; cases h2
    | _ => simp at h
theorem odd_own {w : World} {base : Nat} {e : TypeId} {k : Nat} {v : Value} {n : Nat} {l : List Value} (h : w.ownsRow base e k v n l) {g : Nat} (hg : v.ownBlock = some g) : ¬ ∃ o, w.heap[g]? = some o ∧ oddO o = true := by
  rcases h.2 with ⟨h, -⟩ | ⟨g', cap, cur, hv, hb, hh, -⟩
  · rw [h] at hg
    simp [Value.ownBlock] at hg
  · rw [hv] at hg
    have : g' = g := by simpa [Value.ownBlock] using hg
    subst this
    exact odd_cells hh
theorem DkS.stays {B : Nat} {W W' : World} {S : Nat → Prop} {b : Nat} {D : DK} {F : Nat} (h : DkS W S b D F) (hs : StayW B W W') : DkS W' S b D F := by
  have hk := hs.keepO
  obtain ⟨m, pv, fv, fl, st, h, hF, h1, h2, h3, h4⟩ := h
  obtain ⟨es, cl, q1, q2⟩ := h.map
  refine ⟨m, pv, fv, fl, st, ⟨row_keepS hk h.hd (odd_cells h.hd), h.hb, h.hm, h.mb, ⟨es, cl, (hk.same m (Array.getElem?_eq_some_iff.1 q1).1 (odd_map q1)).trans q1, q2⟩, own_keep hk h.pcs fun g hg => odd_own h.pcs hg, h.pb, h.fts.keep hk fun g hg => ?_, h.fb, h.size, h.sec, h.psec⟩, hF, h1, h2, h3, h4⟩
  obtain ⟨a, n, c, e, -, -, -, q5⟩ := h.fts
  subst e
  cases a with
  | none => simp [slB] at hg
  | some ad =>
    obtain ⟨-, -, cur, q3, -⟩ := q5 ad rfl
    have : ad.block = g := by simpa [slB] using hg
    subst this
    exact odd_cells q3
theorem LgAt.stays {B : Nat} {W W' : World} {T S : Nat → Prop} {lb d : Nat} {D : DK} {F : Nat} {from_ : Int} {n run base : Nat} {allv : Value} {used : Nat} {dead : Bool} {bs : List (List UInt8)} (h : LgAt W T S lb d D F from_ n run base allv used dead bs) (hs : StayW B W W') : LgAt W' T S lb d D F from_ n run base allv used dead bs := by
  have hk := hs.keepO
  refine ⟨h.dk.stays hs, row_keep hk h.row (odd_cells h.row), ?_, h.sub, h.lbT, h.lbS, fun x hx => Nat.lt_of_lt_of_le (h.lt x hx) hk.size⟩
  obtain ⟨xs, h1, h2, h0, h3⟩ := h.bats
  refine ⟨xs, h1, own_keep hk h2 (fun g hg => odd_own h2 hg), h0, fun x hm => ?_⟩
  obtain ⟨r, q⟩ := h3 x hm
  refine ⟨?_, fun ad he => ?_⟩
  · by_cases hz : x.2.2 = []
    · rw [hz]
      exact .inl rfl
    · refine Rd.keepA r hk (fun b off he _ => ?_)
      have hl := List.length_pos_iff.2 hz
      obtain ⟨b2, off2, e2, -, hc⟩ := RdB.at r hl
      rw [he] at e2
      cases e2
      exact odd_cell (hc 0 hl)
  · obtain ⟨q1, q2, q3⟩ := q ad he
    exact ⟨q1, Nat.lt_of_lt_of_le q2 hk.size, q3⟩
theorem GLog.stays {B : Nat} {b0 : Nat} {W W' : World} {T : Nat → Prop} {lb d size n : Nat} {x : LX} (h : GLog b0 W T lb d size n x) (hs : StayW B W W') : GLog b0 W' T lb d size n x := by
  obtain ⟨S, allv, h⟩ := h
  exact ⟨S, allv, h.lg.stays hs, h.sz, h.lo, h.us, h.n4, h.ns, h.s6⟩
theorem StayW.stays {B : Nat} {W W' : World} (h : StayW B W W') : Stays B W W' := by
  obtain ⟨row, hg, hr⟩ := h
  refine stays_grown hg fun r e => ?_
  obtain ⟨h1, o, h2, h3⟩ := hr r e
  refine ⟨h1, o, h2, ?_⟩
  cases o <;> first | rfl | cases h3
theorem ownB_stayW {B : Nat} {w w' : World} (hs : StayW B w w') {base : Nat} {e : TypeId} {v : Value} {l : List UInt8} (h : OwnB w base e v l) : OwnB w' base e v l :=
  own_keep hs.keepO h fun _ hg => odd_own h hg
theorem OwnB.addr {w : World} {base : Nat} {e : TypeId} {a : Option Addr} {n c : Nat} {l : List UInt8} (h : OwnB w base e (.slice a n c) l) (ad : Addr) (ha : a = some ad) : base ≤ ad.block ∧ ad.block < w.heap.size := by
  subst ha
  rcases h.2 with ⟨e1, -⟩ | ⟨g, cap', cur, e1, hb, hgl, -⟩
  · simp only [Value.slice.injEq] at e1
    cases e1.1
  · simp only [Value.slice.injEq] at e1
    cases e1.1
    exact ⟨hb, (Array.getElem?_eq_some_iff.1 hgl).1⟩
theorem gl_batches {b0 : Nat} {W : World} {T : Nat → Prop} {lb d size n : Nat} {x : LX} (h : GLog b0 W T lb d size n x) (hn : x.bs.length ≤ 1000000) (hs : ∀ b ∈ x.bs, b.length ≤ 100000000) :
    Calls Try.prog 28 #[.pointer (some ⟨lb, 0, none⟩)] W fun e w' => (∃ g v, e = .returned (.func (.func 59) #[] #[.pointer (some ⟨g, 0, none⟩)]) ∧ W.heap.size ≤ g ∧ RowAt w' g 94 #[v] ∧ Bats w' W.heap.size v x.bs) ∧ Below W.heap.size W w' := by
  obtain ⟨S, allv, h⟩ := h
  exact batches_any W lb d 0 n x.run x.base allv x.used x.ld x.bs h.lg.row h.lg.bats.toB hn hs
/-- All batches put. -/
def PutsR (n : Nat) (room : Int) : List (List UInt8) → LX → LX → Prop
  | [], x, x' => x' = x
  | b :: l, x, x' => ∃ x1, PutR n room (ents b) 0 x x1 ∧ PutsR n room l x1 x'
theorem PutsR.snoc {n : Nat} {room : Int} : ∀ {l : List (List UInt8)} {b : List UInt8} {x x1 x2 : LX}, PutsR n room l x x1 → PutR n room (ents b) 0 x1 x2 → PutsR n room (l ++ [b]) x x2
  | [], b, x, x1, x2, h, h2 => by
    have : x1 = x := h
    subst this
    exact ⟨x2, h2, rfl⟩
  | c :: l, b, x, x1, x2, h, h2 => by
    obtain ⟨x0, h0, h⟩ := h
    exact ⟨x0, h0, PutsR.snoc h h2⟩
theorem PutR.zero {n : Nat} {room : Int} : ∀ {l : List (Nat × List UInt8)} {er : Int} {x x' : LX}, PutR n room l er x x' → x.fz = 0 → er = 0
  | [], er, x, x', h, _ => h.1
  | e :: l, er, x, x', h, h0 => by
    unfold PutR at h
    split at h
    · obtain ⟨e1, x1, ⟨k, q1, q2, q3, q4⟩, hc⟩ := h
      obtain ⟨-, rfl⟩ := q2 h0
      rcases hc with ⟨hne, -⟩ | ⟨-, h⟩
      · exact absurd rfl hne
      · exact h.zero (by rw [q4]; exact h0)
    · exact h.zero h0
theorem lookP_fine {L : Int → List UInt8} {from_ : Int} {n run base used : Nat} {bs : List (List UInt8)} (h : lookP L from_ n = some (run, base, used, bs)) : (∀ b ∈ bs, b.length ≤ n * 488) ∧ bs.length ≤ n + 1 := by
  unfold lookP at h
  split at h
  · cases h
  · split at h
    · cases h
    · simp only [Option.some.injEq, Prod.mk.injEq] at h
      have := parse_small (BY := bodyP L from_ n) (n := n) (base := (headsP L from_ 2).2) (run := (headsP L from_ 2).1) (n + 1) 0 (headsP L from_ 2).2 [] (fun b hb => by cases hb)
      rw [h.2.2] at this
      simpa using this
/-- Two cells as results. -/
theorem results_box2 {P : Program} {fn : Func} {p q : Tmp} {ty ty2 : TypeId} (h : fn.results = #[.cell p ty, .cell q ty2]) {tmps : Array Value} {w : World} {b c : Nat} {v u : Value} {d d2 : TypeDesc}
    (hp : tmps.getD p undef = .pointer (some ⟨b, 0, none⟩)) (hq : tmps.getD q undef = .pointer (some ⟨c, 0, none⟩)) (hb : w.cell? ⟨b, 0, none⟩ = some v) (hc : w.cell? ⟨c, 0, none⟩ = some u)
    (hd : (match d with | .struct _ | .array _ _ => true | _ => false) = false) (hu : P.underlying ty = some d) (hd2 : (match d2 with | .struct _ | .array _ _ => true | _ => false) = false) (hu2 : P.underlying ty2 = some d2) : (results fn tmps).run P w = .ok (.tuple #[v, u]) w := by
  have hp' : tmps[p]?.getD undef = .pointer (some ⟨b, 0, none⟩) := by simpa using hp
  have hq' : tmps[q]?.getD undef = .pointer (some ⟨c, 0, none⟩) := by simpa using hq
  have hagg : (isAgg ty).run P w = .ok false w := by
    unfold isAgg
    rw [Sem.run_bind, run_underlying hu w]
    cases d <;> simp_all
  have hagg2 : (isAgg ty2).run P w = .ok false w := by
    unfold isAgg
    rw [Sem.run_bind, run_underlying hu2 w]
    cases d2 <;> simp_all
  simp [results, h, hp', hq', asAddr, loadVar, Sem.run_bind, hagg, hagg2, hb, hc]
/-- Synced, and the log emptied. -/
def SyRe (er : Int) (x x' : LX) : Prop := ∃ e0 xa, SyncR e0 x xa ∧ ((e0 ≠ 0 ∧ er = e0 ∧ x' = xa) ∨ (e0 = 0 ∧ ResetR er xa x'))
set_option maxRecDepth 100000 in
set_option maxHeartbeats 4000000 in
theorem syre_any (b0 : Nat) (W : World) (T : Nat → Prop) (lb d size n : Nat) (x : LX) (h : GLog b0 W T lb d size n x) (hld : x.ld = false) (hb0 : b0 ≤ W.heap.size) (hq : x.D.pcs.length ≤ 700000) (hrun : x.run < 9223372036854775800)
    (sb cap : Nat) (hsb : ¬ T sb) (hrow : RowAt W sb 29 #[.func (.func 7) #[.pointer (some ⟨d, 0, none⟩)] #[], .func (.func 31) #[.pointer (some ⟨lb, 0, none⟩)] #[]]) :
    Calls Try.prog 30 #[.slice (some ⟨sb, 0, none⟩) 2 cap] W fun e w' => ∃ er x', e = .returned (.int .i64 er) ∧ SyRe er x x' ∧ GL b0 W w' T lb d size n x' := by
  have hsl := hrow.lt
  have hkeep : ∀ w' x', GL b0 W w' T lb d size n x' → w'.heap[sb]? = W.heap[sb]? := fun w' x' g => by
    obtain ⟨_, _, _, k⟩ := g
    exact k.same sb hsl fun e => e.elim hsb fun e => by omega
  refine (steps_any sb (fun er w' => ∃ x', SyRe er x x' ∧ GL b0 W w' T lb d size n x') [.func (.func 7) #[.pointer (some ⟨d, 0, none⟩)] #[], .func (.func 31) #[.pointer (some ⟨lb, 0, none⟩)] #[]] W 2 cap rfl (by omega) hrow ?_).mono ?_
  · refine ⟨_, _, _, rfl, enters_of Try.func7 (by kernel_rfl) rfl, (G_sync (GL.refl h) hb0 (by omega)).mono ?_⟩
    rintro e w1 ⟨e1, x1, rfl, h1, g1⟩
    have m1 := h1.more
    refine ⟨e1, rfl, hkeep _ _ g1, ?_⟩
    by_cases he1 : e1 = 0
    · subst he1
      refine .inr ⟨rfl, _, _, _, rfl, enters_of Try.func31 (by kernel_rfl) rfl, (G_reset g1 (by rw [m1.2.2.2.2.2.1]; exact hld) hb0 (by have := m1.2.2.1; omega) (by rw [m1.2.2.2.2.1]; omega)).mono ?_⟩
      rintro e w2 ⟨e2, x2, rfl, h2, g2⟩
      refine ⟨e2, rfl, (hkeep _ _ g2).trans (hkeep _ _ g1).symm, ?_⟩
      have hR : ∃ x', SyRe e2 x x' ∧ GL b0 W w2 T lb d size n x' := ⟨x2, ⟨0, x1, h1, .inr ⟨rfl, h2⟩⟩, g2⟩
      by_cases he2 : e2 = 0
      · subst he2
        exact .inr ⟨rfl, hR⟩
      · exact .inl ⟨he2, hR⟩
    · exact .inl ⟨he1, x1, ⟨e1, x1, h1, .inl ⟨he1, rfl, rfl⟩⟩, g1⟩
  · rintro e w' ⟨er, rfl, x', h1, h2⟩
    exact ⟨er, x', rfl, h1, h2⟩
theorem SyncR.zero {er : Int} {x x' : LX} (h : SyncR er x x') (h0 : x.fz = 0) : er = 0 ∧ x'.fz = 0 := by
  obtain ⟨k, q1, q2, q3, rfl⟩ := h
  exact ⟨(q2 h0).2, h0⟩
theorem ResetR.zero {er : Int} {x x' : LX} (h : ResetR er x x') (h0 : x.fz = 0) : er = 0 := by
  obtain ⟨D', hw, -⟩ := h
  rw [h0] at hw
  exact hw.1 rfl
theorem SyRe.zero {er : Int} {x x' : LX} (h : SyRe er x x') (h0 : x.fz = 0) : er = 0 := by
  obtain ⟨e0, xa, h1, hc⟩ := h
  obtain ⟨rfl, hz⟩ := h1.zero h0
  rcases hc with ⟨hne, -⟩ | ⟨-, h2⟩
  · exact absurd rfl hne
  · exact h2.zero hz
theorem SyRe.more {x x' : LX} (h : SyRe 0 x x') : x'.D.pcs = [] ∧ x'.ld = x.ld ∧ x'.D.size = x.D.size := by
  obtain ⟨e0, xa, h1, hc⟩ := h
  have m1 := h1.more
  rcases hc with ⟨hne, e, -⟩ | ⟨-, h2⟩
  · exact absurd e.symm hne
  · have m2 := h2.more
    exact ⟨(m2.2.2.2.2.2 rfl).2, (m2.2.2.2.2.2 rfl).1.trans m1.2.2.2.2.2.1, m2.2.1.trans m1.2.1⟩
theorem WriteR.det {at_ : Int} {B : List UInt8} {er er' : Int} {x a b : LX} (h : WriteR at_ B er x a) (h' : WriteR at_ B er' x b) (h0 : x.fz = 0) : a = b ∧ er = 0 ∧ er' = 0 := by
  obtain ⟨k, -, q2, -, rfl⟩ := h
  obtain ⟨k', -, q2', -, rfl⟩ := h'
  obtain ⟨rfl, rfl⟩ := q2 h0
  obtain ⟨rfl, rfl⟩ := q2' h0
  exact ⟨rfl, rfl, rfl⟩
theorem WriteR.fz {at_ : Int} {B : List UInt8} {er : Int} {x a : LX} (h : WriteR at_ B er x a) : a.fz = x.fz := by
  obtain ⟨k, -, q2, -, rfl⟩ := h
  rfl
theorem PutR.det {n : Nat} {room : Int} : ∀ {l : List (Nat × List UInt8)} {er er' : Int} {x a b : LX}, PutR n room l er x a → PutR n room l er' x b → x.fz = 0 → a = b
  | [], er, er', x, a, b, h, h', _ => h.2.trans h'.2.symm
  | e :: l, er, er', x, a, b, h, h', h0 => by
    unfold PutR at h h'
    split at h
    · rename_i hr
      rw [if_pos hr] at h'
      obtain ⟨e1, x1, hw, hc⟩ := h
      obtain ⟨e1', x1', hw', hc'⟩ := h'
      obtain ⟨rfl, rfl, rfl⟩ := hw.det hw' h0
      rcases hc with ⟨hne, -⟩ | ⟨-, h⟩
      · exact absurd rfl hne
      · rcases hc' with ⟨hne, -⟩ | ⟨-, h'⟩
        · exact absurd rfl hne
        · exact h.det h' (hw.fz.trans h0)
    · rename_i hr
      rw [if_neg hr] at h'
      exact h.det h' h0
theorem PutR.fz {n : Nat} {room : Int} : ∀ {l : List (Nat × List UInt8)} {er : Int} {x a : LX}, PutR n room l er x a → a.fz = x.fz
  | [], er, x, a, h => by rw [h.2]
  | e :: l, er, x, a, h => by
    unfold PutR at h
    split at h
    · obtain ⟨e1, x1, hw, hc⟩ := h
      rcases hc with ⟨-, -, rfl⟩ | ⟨-, h⟩
      · exact hw.fz
      · exact h.fz.trans hw.fz
    · exact h.fz
theorem PutsR.det {n : Nat} {room : Int} : ∀ {l : List (List UInt8)} {x a b : LX}, PutsR n room l x a → PutsR n room l x b → x.fz = 0 → a = b ∧ a.fz = 0
  | [], x, a, b, h, h', h0 => by
    have h : a = x := h
    have h' : b = x := h'
    exact ⟨h.trans h'.symm, by rw [h]; exact h0⟩
  | c :: l, x, a, b, ⟨x1, h1, h2⟩, ⟨x1', h1', h2'⟩, h0 => by
    obtain rfl := h1.det h1' h0
    exact h2.det h2' (h1.fz.trans h0)
theorem SyRe.det {er er' : Int} {x a b : LX} (h : SyRe er x a) (h' : SyRe er' x b) (h0 : x.fz = 0) : a = b := by
  obtain ⟨e0, xa, h1, hc⟩ := h
  obtain ⟨e0', xa', h1', hc'⟩ := h'
  obtain ⟨rfl, hz⟩ := h1.zero h0
  obtain ⟨rfl, -⟩ := h1'.zero h0
  have hx : xa = xa' := by
    obtain ⟨k, -, q2, -, rfl⟩ := h1
    obtain ⟨k', -, q2', -, rfl⟩ := h1'
    obtain ⟨rfl, -⟩ := q2 h0
    obtain ⟨rfl, -⟩ := q2' h0
    rfl
  subst hx
  rcases hc with ⟨hne, -⟩ | ⟨-, h2⟩
  · exact absurd rfl hne
  · rcases hc' with ⟨hne, -⟩ | ⟨-, h2'⟩
    · exact absurd rfl hne
    · obtain rfl := h2.zero hz
      obtain rfl := h2'.zero hz
      obtain ⟨D1, hw, hc⟩ := h2
      obtain ⟨D2, hw', hc'⟩ := h2'
      have hd := hw.ok rfl
      have hd' := hw'.ok rfl
      rcases hc with ⟨-, rfl⟩ | ⟨hne, -⟩
      · rcases hc' with ⟨-, rfl⟩ | ⟨hne, -⟩
        · rw [hd, hd']
        · exact absurd rfl hne
      · exact absurd rfl hne
end Go.Proofs.Ytagipfkgnobjlaa
