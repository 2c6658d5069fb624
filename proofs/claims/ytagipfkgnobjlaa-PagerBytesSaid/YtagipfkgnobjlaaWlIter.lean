/- wal.Log.Batches: the iterator over a log's batches, and its contract. -/
import Derived.Test.YtagipfkgnobjlaaWlMid
import Derived.Test.YtagipfkgnobjlaaWlRnd
import Derived.Test.YtagipfkgnobjlaaRound
namespace Go.Proofs.Ytagipfkgnobjlaa
open Go.RowKit

attribute [local go_sem] Oper.semAt_some
theorem Bats.at2 {w : World} {base : Nat} {v : Value} {bs : List (List UInt8)} (h : Bats w base v bs) : ∃ a cp, v = .slice a bs.length cp ∧ ∀ j (hj : j < bs.length), ∃ hb ho xa xc, a = some ⟨hb, ho, none⟩ ∧ base ≤ hb ∧ hb < w.heap.size ∧ w.cell? ⟨hb, ho + j, none⟩ = some (.slice xa bs[j].length xc) ∧ RdB w xa bs[j] ∧ ∀ ad, xa = some ad → base ≤ ad.block ∧ ad.block < w.heap.size := by
  obtain ⟨a, cp, hv, -, hat⟩ := h.at
  have hlt := h.lt
  obtain ⟨xs, h1, h2, h3⟩ := h
  subst h1
  refine ⟨a, cp, hv, fun j hj => ?_⟩
  obtain ⟨hb, ho, xa, xc, ha, hl, hc, hr⟩ := hat j hj
  have hj0 : j < xs.length := by simpa using hj
  refine ⟨hb, ho, xa, xc, ha, (hlt hb (by rw [hv, ha]; rfl)).1, hl, hc, hr, fun ad he => ?_⟩
  obtain ⟨a2, cp2, hv2, -, hrd⟩ := Rd.of_own h2
  rw [hv, ha] at hv2
  have hxa : xa = (xs[j]).1 := by
    rcases hrd with h | ⟨hb2, ho2, ha2, hlt2, hc2⟩
    · have : xs.length = 0 := by have := congrArg List.length h; simpa using this
      omega
    · rw [ha2] at hv2
      simp only [Value.slice.injEq, Option.some.injEq, Addr.mk.injEq, and_true] at hv2
      have := hc2 j (by simpa using hj0)
      rw [← hv2.1.1, ← hv2.1.2, hc] at this
      simp at this
      exact this.1
  rw [hxa] at he
  exact ⟨((h3 _ (List.getElem_mem hj0)).2 ad he).1, ((h3 _ (List.getElem_mem hj0)).2 ad he).2.1⟩
set_option maxRecDepth 100000 in
set_option maxHeartbeats 2000000 in
theorem batches_any (w : World) (lb d : Nat) (from_ : Int) (n run base : Nat) (allv : Value) (used : Nat) (dead : Bool) (bs : List (List UInt8)) (h : LgRow w lb d from_ n run base allv used dead)
    (hB : Bats w 0 allv bs) (hn : bs.length ≤ 1000000) (hs : ∀ b ∈ bs, b.length ≤ 100000000) :
    Calls Try.prog 28 #[.pointer (some ⟨lb, 0, none⟩)] w fun e w' => (∃ g v, e = .returned (.func (.func 59) #[] #[.pointer (some ⟨g, 0, none⟩)]) ∧ w.heap.size ≤ g ∧ RowAt w' g 94 #[v] ∧ Bats w' w.heap.size v bs) ∧ Below w.heap.size w w' := by
  have HN := Lib.hid (wnone_any w lb d from_ n run base _ used dead h)
  have HC := Lib.hid (copied_any w 0 allv bs hB hn hs)
  have h5 := h.cells.2.2.2.2.2.1
  clear h hB hn hs
  go_enter Try.func28, Try.ntmps28
  go_wp2_with fail
  refine HN.out.mono ?_
  rintro _ w1 ⟨rfl, rfl⟩
  go_wp2_with fail
  refine HC.out.mono ?_
  rintro _ w2 ⟨⟨v, rfl, hv⟩, hb2⟩
  obtain ⟨av, cv, rfl, -⟩ := hv.at2
  have HV := Lib.hid hv
  have HB2 := Lib.hid hb2
  clear hv hb2
  obtain ⟨W3, hW3⟩ : ∃ y, w2.alloc (.cells #[.slice av bs.length cv] 94) = y := ⟨_, rfl⟩
  have hb3 : Below w2.heap.size w2 W3 := by rw [← hW3]; exact below_alloc _
  have HR3 : Hid (RowAt W3 w2.heap.size 94 #[.slice av bs.length cv]) := by rw [← hW3]; exact RowAt.new _ _ _
  have HV3 := Lib.hid (HV.out.later hb3)
  have HB3 := Lib.hid (HB2.out.trans (hb3.mono HB2.out.size))
  clear hb3
  go_wp2
  go_ret
  exact ⟨⟨_, _, rfl, HB2.out.size, HR3.out, HV3.out⟩, HB3.out⟩
end Go.Proofs.Ytagipfkgnobjlaa
