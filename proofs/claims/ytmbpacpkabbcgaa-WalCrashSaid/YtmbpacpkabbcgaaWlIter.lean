/- wal.Log.Batches: the iterator over a log's batches, and its contract. -/
import Derived.Test.YtmbpacpkabbcgaaWlMid
import Derived.Test.YtmbpacpkabbcgaaWlRnd
import Derived.Test.YtmbpacpkabbcgaaRound
namespace Go.Proofs.Ytmbpacpkabbcgaa
open Go.RowKit

attribute [local go_sem] Oper.semAt_some
theorem Bats.at2 {w : World} {base : Nat} {v : Value} {bs : List (List UInt8)} (h : Bats w base v bs) : ∃ a cp, v = .slice a bs.length cp ∧ ∀ j (hj : j < bs.length), ∃ hb ho xa xc, a = some ⟨hb, ho, none⟩ ∧ base ≤ hb ∧ hb < w.heap.size ∧ w.cell? ⟨hb, ho + j, none⟩ = some (.slice xa bs[j].length xc) ∧ RdB w xa bs[j] ∧ ∀ ad, xa = some ad → base ≤ ad.block ∧ ad.block < w.heap.size := by
  obtain ⟨a, cp, hv, -, hat⟩ := h.at
  have hlt := h.lt
  obtain ⟨xs, h1, h2, h3⟩ := h
  subst h1
  refine ⟨a, cp, hv, fun j hj => ?_⟩
  obtain ⟨hb, ho, xa, xc, ha, hl, hc, hr⟩ := hat j hj
  have hj0 : j < xs.length := by simpa using hj
  refine ⟨hb, ho, xa, xc, ha, (hlt hb (by rw [hv, ha]; rfl)).1, hl, hc, hr, fun ad he => ?_⟩
  obtain ⟨a2, cp2, hv2, -, hrd⟩ := Rd.of_own h2
  rw [hv, ha] at hv2
  have hxa : xa = (xs[j]).1 := by
    rcases hrd with h | ⟨hb2, ho2, ha2, hlt2, hc2⟩
    · have : xs.length = 0 := by have := congrArg List.length h; simpa using this
      omega
    · rw [ha2] at hv2
      simp only [Value.slice.injEq, Option.some.injEq, Addr.mk.injEq, and_true] at hv2
      have := hc2 j (by simpa using hj0)
      rw [← hv2.1.1, ← hv2.1.2, hc] at this
      simp at this
      exact this.1
  rw [hxa] at he
  exact ⟨((h3 _ (List.getElem_mem hj0)).2 ad he).1, ((h3 _ (List.getElem_mem hj0)).2 ad he).2.1⟩
set_option maxRecDepth 100000 in
set_option maxHeartbeats 2000000 in
theorem batches_any (w : World) (lb d : Nat) (from_ : Int) (n run base : Nat) (allv : Value) (used : Nat) (dead : Bool) (bs : List (List UInt8)) (h : LgRow w lb d from_ n run base allv used dead)
    (hB : Bats w 0 allv bs) (hn : bs.length ≤ 1000000) (hs : ∀ b ∈ bs, b.length ≤ 100000000) :
    Calls Try.prog 42 #[.pointer (some ⟨lb, 0, none⟩)] w fun e w' => (∃ g v, e = .returned (.func (.func 57) #[] #[.pointer (some ⟨g, 0, none⟩)]) ∧ w.heap.size ≤ g ∧ RowAt w' g 36 #[v] ∧ Bats w' w.heap.size v bs) ∧ Below w.heap.size w w' := by
  have HN := Lib.hid (wnone_any w lb d from_ n run base _ used dead h)
  have HC := Lib.hid (copied_any w 0 allv bs hB hn hs)
  have h5 := h.cells.2.2.2.2.2.1
  clear h hB hn hs
  go_enter Try.func42, Try.ntmps42
  go_wp2_with fail
  refine HN.out.mono ?_
  rintro _ w1 ⟨rfl, rfl⟩
  go_wp2_with fail
  refine HC.out.mono ?_
  rintro _ w2 ⟨⟨v, rfl, hv⟩, hb2⟩
  obtain ⟨av, cv, rfl, -⟩ := hv.at2
  have HV := Lib.hid hv
  have HB2 := Lib.hid hb2
  clear hv hb2
  obtain ⟨W3, hW3⟩ : ∃ y, w2.alloc (.cells #[.slice av bs.length cv] 36) = y := ⟨_, rfl⟩
  have hb3 : Below w2.heap.size w2 W3 := by rw [← hW3]; exact below_alloc _
  have HR3 : Hid (RowAt W3 w2.heap.size 36 #[.slice av bs.length cv]) := by rw [← hW3]; exact RowAt.new _ _ _
  have HV3 := Lib.hid (HV.out.later hb3)
  have HB3 := Lib.hid (HB2.out.trans (hb3.mono HB2.out.size))
  clear hb3
  go_wp2
  go_ret
  exact ⟨⟨_, _, rfl, HB2.out.size, HR3.out, HV3.out⟩, HB3.out⟩
set_option maxRecDepth 100000 in
set_option maxHeartbeats 4000000 in
theorem batches_stops (w0 w : World) (hw0 : Below w0.heap.size w0 w) (B : Nat) (v : Value) (bs : List (List UInt8)) (base : Nat) (hbox : w.cell? ⟨B, 0, none⟩ = some v) (hB : Bats w0 base v bs) (hn : bs.length ≤ 1000000) (hs : ∀ b ∈ bs, b.length ≤ 100000000)
    (X : Nat → Prop) (hX : ∀ x, X x → w0.heap.size ≤ x ∨ x < base) :
    StopsY Try.prog 57 #[.pointer (some ⟨B, 0, none⟩)] X (fun k args W => ∃ b v, bs[k]? = some b ∧ args = #[.int .i64 k, v] ∧ OwnB W (w.heap.size + 2) 5 v b) bs.length w := by
  intro lp J Jx W hW hWs hJ hJx hY h0
  refine callsIn_of_wp Try.func57 rfl trivial ?_ rfl
  simp only [Try.ntmps57, List.size_toArray, List.length_cons, List.length_nil, Nat.reduceAdd, Nat.reduceSub, Array.replicate_succ, Array.replicate_zero, List.push_toArray, List.append_toArray, List.nil_append, List.cons_append]
  have hbl : B < w.heap.size := World.block_lt_of_cell? w _ hbox
  have hbox1 : W.cell? ⟨B, 0, none⟩ = some v := (hW.cell (p := ⟨B, 0, none⟩) hbl).trans hbox
  have hW0 : Below w0.heap.size w0 W := hw0.trans (hW.mono hw0.size)
  obtain ⟨a, cp, rfl, hat⟩ := hB.at2
  have HAT : Hid (∀ W1, KeepC X W W1 → ∀ j (hj : j < bs.length), ∃ hb ho xa xc, a = some ⟨hb, ho, none⟩ ∧ W1.cell? ⟨hb, ho + j, none⟩ = some (.slice xa bs[j].length xc) ∧ RdB W1 xa bs[j]) := fun W1 hk j hj => by
    obtain ⟨hb, ho, xa, xc, ha, q1, q2, hc, hr, q3⟩ := hat j hj
    refine ⟨hb, ho, xa, xc, ha, hk.cell (cell_later hW0 q2 hc) (fun hx => by rcases hX _ hx with h | h <;> (dsimp only at h; omega)), Rd.keepC (hr.mono hW0) hk (fun b off he _ hx => ?_)⟩
    have := q3 _ he
    rcases hX _ hx with h | h <;> (dsimp only at this; omega)
  obtain ⟨m, hm⟩ : ∃ m, bs.length = m := ⟨_, rfl⟩
  rw [hm] at hbox1 hn hY ⊢
  have HM := Lib.hid hm
  have HS := Lib.hid hs
  have HJ := Lib.hid hJ
  have HY := Lib.hid hY
  have H0 := Lib.hid h0
  have HWS := Lib.hid hWs
  clear hbl hbox hB hat hX hm hs hJ hJx hY h0 hW hWs hW0 hw0
  gi_wp2
  gi_loopw [7] (fun p wr => ∃ k : Nat, k ≤ m ∧ p = .int .i64 k ∧ J k wr ∧ KeepC X W wr) (fun p _ => m - (intOf p).toNat)
  case atStart => exact ⟨0, Nat.zero_le _, rfl, H0.out, KeepC.refl _ _⟩
  case round =>
    obtain ⟨k, hk, rfl, hJk, hkc⟩ := hrel
    have HJK := Lib.hid hJk
    have HKC := Lib.hid hkc
    clear hJk hkc hbox1
    by_cases hlt : k < m
    · have hkl : k < bs.length := by rw [HM.out]; exact hlt
      obtain ⟨hb, ho, xa, xc, rfl, c0, hr⟩ := HAT.out wr HKC.out k hkl
      obtain ⟨x, hx⟩ : ∃ x, bs[k] = x := ⟨_, rfl⟩
      have hxl : x.length ≤ 100000000 := by rw [← hx]; exact HS.out _ (List.getElem_mem hkl)
      rw [hx] at c0 hr
      have HX : Hid (bs[k]? = some x) := by rw [← hx]; exact List.getElem?_eq_getElem hkl
      have HC := Lib.hid (clone_any xa x x.length xc wr rfl hxl hr)
      obtain ⟨ll, hll⟩ : ∃ z, x.length = z := ⟨_, rfl⟩
      have HLL := Lib.hid hll
      rw [hll] at c0 HC
      have hb1 : (k : Int) < (m : Int) := by omega
      clear hx hxl hr hll
      gi_wp2_with fail
      refine ⟨trivial, (callsIn_wide.2 HC.out).mono ?_⟩
      rintro _ w2 ⟨v2, rfl, ho2, hb2⟩
      have HO2 := Lib.hid (ho2.mono (base' := w.heap.size + 2) (Nat.le_trans HWS.out HKC.out.size))
      have HK2 := Lib.hid (HKC.out.trans (KeepA.of_below (X := X) hb2).c)
      have HJ2 := Lib.hid (HJ.out k _ _ none HJK.out (grown_below none hb2 (Nat.le_refl _)) (by simp))
      obtain ⟨fn, tmps, assign, body, hy, hR⟩ := HY.out k #[.int .i64 k, v2] w2 hlt ⟨x, v2, HX.out, rfl, HO2.out⟩ HK2.out HJ2.out
      have HR := Lib.hid hR
      clear ho2 hb2 hR c0
      gi_wp2_with fail
      refine HR.out.mono ?_
      rintro e W3 (⟨rfl, hJ3, hk3⟩ | ⟨rfl, hJx3⟩)
      · have HJ3 := Lib.hid hJ3
        have HK3 := Lib.hid (HK2.out.trans hk3)
        clear hJ3 hk3 hy
        gi_wp2
        go_roundw
        case rel => exact ⟨k + 1, by omega, by go_num, HJ3.out, HK3.out⟩
        case measure => simp [intOf]; omega
      · have HJ3 := Lib.hid hJx3
        clear hJx3 hy
        gi_wp2
        exact bodyPost_ret (results_none rfl _ _ _) rfl ⟨⟨_, rfl⟩, .inr ⟨k, hlt, HJ3.out⟩⟩
    · obtain rfl : k = m := by omega
      gi_wp2
      go_end0
      exact ⟨⟨_, rfl⟩, .inl HJK.out⟩
end Go.Proofs.Ytmbpacpkabbcgaa
