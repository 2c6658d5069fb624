/- A disk as a set of blocks: what a mutator leaves alone. -/
import Derived.Test.YtmbpacpkabbcgaaDkCopy
import Derived.Test.YtmbpacpkabbcgaaDkWrite
namespace Go.Proofs.Ytmbpacpkabbcgaa
open Go.RowKit

/-- A disk whose blocks are all among S. -/
def DkS (w : World) (S : Nat → Prop) (b : Nat) (D : DK) (F : Nat) : Prop :=
  ∃ m pv fv fl st, DkAt w 0 b D m pv fv fl st ∧ fl.length ≤ F ∧ S b ∧ S m ∧ (∀ g, pv.ownBlock = some g → S g) ∧ ∀ g, slB fv = some g → S g
/-- What was made in between. -/
def Span (w w' : World) : Nat → Prop := fun x => w.heap.size ≤ x ∧ x < w'.heap.size
def Plus (S T : Nat → Prop) : Nat → Prop := fun x => S x ∨ T x
theorem DkAt.zero {w : World} {base b : Nat} {D : DK} {m : Nat} {pv fv : Value} {fl : List Ft} {st : Int} (h : DkAt w base b D m pv fv fl st) : DkAt w 0 b D m pv fv fl st :=
  ⟨h.hd, Nat.zero_le _, Nat.zero_le _, h.mb, h.map, own_low h.pcs (Nat.zero_le _), h.pb, h.fts.low (Nat.zero_le _), h.fb, h.size, h.sec, h.psec⟩
theorem DkAt.mlt {w : World} {base b : Nat} {D : DK} {m : Nat} {pv fv : Value} {fl : List Ft} {st : Int} (h : DkAt w base b D m pv fv fl st) : m < w.heap.size := by
  obtain ⟨es, cl, hm, _⟩ := h.map
  exact (Array.getElem?_eq_some_iff.1 hm).1
theorem IsDk.toS {w : World} {base b : Nat} {D : DK} {F : Nat} (h : IsDk w base b D F) : DkS w (fun x => base ≤ x ∧ x < w.heap.size) b D F := by
  obtain ⟨m, pv, fv, fl, st, h, hF⟩ := h
  exact ⟨m, pv, fv, fl, st, h.zero, hF, ⟨h.hb, h.hd.lt⟩, ⟨h.hm, h.mlt⟩, fun g hg => h.pcs.lt g hg, fun g hg => h.fts.blk hg⟩
theorem DkS.isDk {w : World} {S : Nat → Prop} {b : Nat} {D : DK} {F : Nat} (h : DkS w S b D F) : IsDk w 0 b D F := by
  obtain ⟨m, pv, fv, fl, st, h, hF, _⟩ := h
  exact ⟨m, pv, fv, fl, st, h, hF⟩
theorem DkS.mono {w : World} {S T : Nat → Prop} {b : Nat} {D : DK} {F : Nat} (h : DkS w S b D F) (hs : ∀ x, S x → T x) : DkS w T b D F := by
  obtain ⟨m, pv, fv, fl, st, h, hF, h1, h2, h3, h4⟩ := h
  exact ⟨m, pv, fv, fl, st, h, hF, hs _ h1, hs _ h2, fun g hg => hs _ (h3 g hg), fun g hg => hs _ (h4 g hg)⟩
theorem DkS.keep {w w' : World} {S X : Nat → Prop} {b : Nat} {D : DK} {F : Nat} (h : DkS w S b D F) (hk : KeepA X w w') (hx : ∀ x, S x → ¬ X x) : DkS w' S b D F := by
  obtain ⟨m, pv, fv, fl, st, h, hF, h1, h2, h3, h4⟩ := h
  obtain ⟨es, cl, q1, q2⟩ := h.map
  exact ⟨m, pv, fv, fl, st, ⟨row_keepS hk h.hd (hx _ h1), h.hb, h.hm, h.mb, ⟨es, cl, (hk.same m (Array.getElem?_eq_some_iff.1 q1).1 (hx _ h2)).trans q1, q2⟩, own_keep hk h.pcs fun g hg => hx _ (h3 g hg), h.pb, h.fts.keep hk fun g hg => hx _ (h4 g hg), h.fb, h.size, h.sec, h.psec⟩, hF, h1, h2, h3, h4⟩
theorem DkS.later {w w' : World} {S : Nat → Prop} {b : Nat} {D : DK} {F : Nat} (hb : Below w.heap.size w w') (h : DkS w S b D F) : DkS w' S b D F := h.keep (KeepA.of_below (X := fun _ => False) hb) fun _ _ h => h
theorem DkS.sizes {w : World} {S : Nat → Prop} {b : Nat} {D : DK} {F : Nat} (h : DkS w S b D F) : 0 < D.size ∧ D.size ≤ 65536 := by
  obtain ⟨m, pv, fv, fl, st, h, _⟩ := h
  exact h.size
theorem DkS.sec {w : World} {S : Nat → Prop} {b : Nat} {D : DK} {F : Nat} (h : DkS w S b D F) : ∀ k, (D.last k).length = 512 := by
  obtain ⟨m, pv, fv, fl, st, h, _⟩ := h
  exact h.sec
theorem DkS.psec {w : World} {S : Nat → Prop} {b : Nat} {D : DK} {F : Nat} (h : DkS w S b D F) : ∀ p ∈ D.pcs, 0 ≤ p.1 ∧ p.1 < D.size ∧ p.2.length = 512 := by
  obtain ⟨m, pv, fv, fl, st, h, _⟩ := h
  exact h.psec
theorem DkS.blt {w : World} {S : Nat → Prop} {b : Nat} {D : DK} {F : Nat} (h : DkS w S b D F) : b < w.heap.size ∧ S b := by
  obtain ⟨m, pv, fv, fl, st, h, _, h1, _⟩ := h
  exact ⟨h.hd.lt, h1⟩
theorem write_s (w : World) (S : Nat → Prop) (b : Nat) (D : DK) (F : Nat) (at_ : Int) (a : Option Addr) (B : List UInt8) (nb cap : Nat) (h : DkS w S b D F) (hn : nb = B.length) (hcap : nb ≤ cap) (hB : RdB w a B)
    (hsep : B ≠ [] → ∀ ad, a = some ad → ¬ S ad.block) (hsz : D.pcs.length + B.length / 512 ≤ 1000000) (hnb : B.length ≤ 100000000) :
    Calls Try.prog 27 #[.pointer (some ⟨b, 0, none⟩), .int .i64 at_, .slice a nb cap] w fun e w' =>
      (∃ (k : Nat) (er : Int), k ≤ B.length / 512 ∧ (k ≠ 0 → 0 ≤ at_ ∧ at_ + ((B.length / 512 : Nat) : Int) ≤ D.size) ∧ (F = 0 → B.length % 512 = 0 → 0 ≤ at_ → at_ + ((B.length / 512 : Nat) : Int) ≤ D.size → k = B.length / 512 ∧ er = 0) ∧ (B.length % 512 = 0 → 0 ≤ at_ → at_ + ((B.length / 512 : Nat) : Int) ≤ D.size → Fine er k (B.length / 512)) ∧
        e = .returned (.int .i64 er) ∧ DkS w' (Plus S (Span w w')) b ⟨D.size, D.last, D.pcs ++ wps at_ B k⟩ F) ∧ KeepA S w w' := by
  obtain ⟨m, pv, fv, fl, st, h, hF, h1, h2, h3, h4⟩ := h
  refine (write_at w 0 b D F m pv fv fl st at_ a B nb cap h hF (Nat.zero_le _) hn hcap hB (fun hne ad ha => ⟨fun e => hsep hne ad ha (by rw [e]; exact h1), fun e => hsep hne ad ha (h3 _ e)⟩) hsz hnb).mono ?_
  rintro e w' ⟨⟨k, er, q1, q2, q3, q4, q5, pv', fv', fl', st', q6, q7, q8, q9⟩, q10⟩
  refine ⟨⟨k, er, q1, q2, q3, q4, q5, m, pv', fv', fl', st', q6, q7, .inl h1, .inl h2, fun g hg => ?_, fun g hg => .inl (h4 g (q9 g hg))⟩, q10.mono ?_⟩
  · rcases q8 g hg with e | e
    · exact .inl (h3 g e)
    · exact .inr ⟨e, (q6.pcs.lt g hg).2⟩
  · rintro x (rfl | e)
    · exact h1
    · exact h3 _ e
theorem sync_s (w : World) (S : Nat → Prop) (b : Nat) (D : DK) (F : Nat) (h : DkS w S b D F) (hp : D.pcs.length ≤ 1000000) :
    Calls Try.prog 28 #[.pointer (some ⟨b, 0, none⟩)] w fun e w' => (∃ k, k ≤ D.pcs.length ∧ ∃ er : Int, (F = 0 → k = D.pcs.length ∧ er = 0) ∧ Fine er k D.pcs.length ∧ e = .returned (.int .i64 er) ∧ DkS w' (Plus S (Span w w')) b ⟨D.size, laid D.last (D.pcs.take k), D.pcs.drop k⟩ F) ∧ KeepA S w w' := by
  obtain ⟨m, pv, fv, fl, st, h, hF, h1, h2, h3, h4⟩ := h
  refine (sync_at w 0 b D F m pv fv fl st h hF (Nat.zero_le _) hp).mono ?_
  rintro e w' ⟨⟨k, q1, er, q2, q3, q4, pv', fv', fl', st', q5, q6, q7, q8⟩, q9⟩
  refine ⟨⟨k, q1, er, q2, q3, q4, m, pv', fv', fl', st', q5, q6, .inl h1, .inl h2, fun g hg => .inr ⟨q7 g hg, (q5.pcs.lt g hg).2⟩, fun g hg => .inl (h4 g (q8 g hg))⟩, q9.mono ?_⟩
  rintro x (rfl | rfl)
  · exact h2
  · exact h1
theorem feed_s (w : World) (S : Nat → Prop) (b : Nat) (D : DK) (F : Nat) (h : DkS w S b D F) (a : Option Addr) (l : List Ft) (n cap : Nat) (hn : n = l.length) (hl : RdFt w a l) (hsz : F + n ≤ 1000000) :
    Calls Try.prog 21 #[.pointer (some ⟨b, 0, none⟩), .slice a n cap] w fun e w' => (∃ er : Int, e = .returned (.int .i64 er)) ∧ DkS w' (Plus S (Span w w')) b D (F + n) ∧ KeepA S w w' := by
  obtain ⟨m, pv, fv, fl, st, h, hF, h1, h2, h3, h4⟩ := h
  refine (feed_at w 0 b D F m pv fv fl st h hF (Nat.zero_le _) a l n cap hn hl hsz).mono ?_
  rintro e w' ⟨q1, ⟨fv', fl', st', q2, q3, q4⟩, q5⟩
  refine ⟨q1, ⟨m, pv, fv', fl', st', q2, q3, .inl h1, .inl h2, fun g hg => .inl (h3 g hg), fun g hg => ?_⟩, q5.mono ?_⟩
  · rcases q4 g hg with e | e
    · exact .inl (h4 g e)
    · exact .inr ⟨e, (q2.fts.blk hg).2⟩
  · rintro x (e | rfl)
    · exact h4 _ e
    · exact h1
end Go.Proofs.Ytmbpacpkabbcgaa
