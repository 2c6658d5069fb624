/- All$1 of the program's graph: the iterator's contract. -/
import Derived.Test.YtcakdjnnfonijaaRgAll
namespace Go.Proofs.Ytcakdjnnfonijaa
open Go.RowKit

attribute [local go_sem] Oper.semAt_some
theorem rowsLk_keep {W W' : World} {X : Nat → Prop} {a : Option Addr} {l : List Lk} (h : RowsAt W a 3 l (CellsAt W lkC)) (hk : KeepC X W W') (hx : ∀ b off, a = some ⟨b, off, none⟩ → 0 < l.length → ¬ X b) : RowsAt W' a 3 l (CellsAt W' lkC) := by
  by_cases h0 : 0 < l.length
  · rcases h with rfl | ⟨b, off, ha, hlt, hi⟩
    · exact .inl rfl
    · exact .inr ⟨b, off, ha, Nat.lt_of_lt_of_le hlt hk.size, fun i hi' j v hv => hk.cell (hi i hi' j v hv) (hx b off ha h0)⟩
  · exact .inl (List.eq_nil_of_length_eq_zero (by omega))
set_option maxRecDepth 100000 in
set_option maxHeartbeats 4000000 in
theorem all_stops (w : World) (B : Nat) (a : Option Addr) (n cap : Nat) (l : List Lk) (hn : Hid (n = l.length)) (hb : n ≤ 2000000) (hbox : w.cell? ⟨B, 0, none⟩ = some (.slice a n cap)) (hl : RowsAt w a 3 l (CellsAt w lkC))
    (X : Nat → Prop) (hXa : ∀ b off, a = some ⟨b, off, none⟩ → 0 < l.length → ¬ X b) :
    Stops Try.prog 57 #[.pointer (some ⟨B, 0, none⟩)] X (fun k args _ => ∃ x, l[k]? = some x ∧ args = #[.agg #[.string x.fr.1, .int .i64 x.fr.2], .int .i64 (x.ts.length : Int)]) l.length w := by
  intro lp J Jx W hW hJ hJx hY h0
  refine callsIn_of_wp Try.func57 rfl trivial ?_ rfl
  simp only [Try.ntmps57, List.size_toArray, List.length_cons, List.length_nil, Nat.reduceAdd, Nat.reduceSub, Array.replicate_succ, Array.replicate_zero, List.push_toArray, List.append_toArray, List.nil_append, List.cons_append]
  have hbl : B < w.heap.size := World.block_lt_of_cell? w _ hbox
  have hbox1 : W.cell? ⟨B, 0, none⟩ = some (.slice a n cap) := (hW.cell (p := ⟨B, 0, none⟩) hbl).trans hbox
  have HL : Hid (RowsAt W a 3 l (CellsAt W lkC)) := hl.imp hW.size fun _ _ _ hlt h => h.later hW hlt
  have HXA := Lib.hid hXa
  have HY := Lib.hid hY
  have H0 := Lib.hid h0
  have HJ := Lib.hid hJ
  clear hbl hXa hJ hJx hY hbox hl h0 hW
  gi_wp2
  gi_loopw [7] (fun p wr => ∃ k : Nat, k ≤ n ∧ p = .int .i64 k ∧ J k wr ∧ KeepC X W wr ∧ W.heap.size ≤ wr.heap.size) (fun p _ => n - (intOf p).toNat)
  case atStart => exact ⟨0, Nat.zero_le _, rfl, H0.out, KeepC.refl _ _, Nat.le_refl _⟩
  case round =>
    obtain ⟨k, hk, rfl, hJk, hkc, hsz⟩ := hrel
    have HJK := Lib.hid hJk
    have HKC := Lib.hid hkc
    clear hJk hkc hbox1
    by_cases hlt : k < n
    · have hkl : k < l.length := by rw [← hn.out]; exact hlt
      rcases rowsLk_keep HL.out HKC.out HXA.out with e | ⟨b2, off, rfl, hlt2, hcell⟩
      · rw [e] at hkl
        exact absurd hkl (by simp)
      · have c0 := hcell k hkl
        obtain ⟨x, hx⟩ : ∃ x, l[k] = x := ⟨_, rfl⟩
        rw [hx] at c0
        have d0 := c0 0 _ rfl
        have d1 := c0 1 _ rfl
        have d2 := c0 2 _ rfl
        rw [Nat.add_zero] at d0
        obtain ⟨g, hg⟩ : ∃ y, wr.heap.size = y := ⟨_, rfl⟩
        obtain ⟨w5, hw5⟩ : ∃ y, wr.alloc (.cells #[.string x.fr.1, .int .i64 x.fr.2, .slice x.ta x.ts.length x.tc] 28) = y := ⟨_, rfl⟩
        have hb5 : Below wr.heap.size wr w5 := by rw [← hw5]; exact below_alloc _
        have hr5 : RowAt w5 g 28 #[.string x.fr.1, .int .i64 x.fr.2, .slice x.ta x.ts.length x.tc] := by rw [← hw5, ← hg]; exact RowAt.new _ _ _
        have hk5 : KeepC X wr w5 := (KeepA.of_below (X := X) hb5).c
        have hj5 : J k w5 := HJ.out _ _ _ none HJK.out (grown_of_below hb5) (fun q e => by cases e)
        have e0 := hr5.cell 0
        have e1 := hr5.cell 1
        have e2 := hr5.cell 2
        obtain ⟨fn, tmps, assign, body, hy, hR⟩ := HY.out k #[.agg #[.string x.fr.1, .int .i64 x.fr.2], .int .i64 (x.ts.length : Int)] w5 (by rw [← hn.out]; exact hlt) ⟨x, by rw [← hx]; exact List.getElem?_eq_getElem hkl, rfl⟩ (HKC.out.trans hk5) hj5
        have HR := Lib.hid hR
        have HK5 := Lib.hid (HKC.out.trans hk5)
        have hsz5 := hb5.size
        have hb1 : (k : Int) < (n : Int) := by omega
        clear hcell hx hR hb5 hr5 hk5 hj5 c0
        gi_wp2_with fail
        refine HR.out.mono ?_
        rintro e W3 (⟨rfl, hJ3, hk3⟩ | ⟨rfl, hJx3⟩)
        · have HJ3 := Lib.hid hJ3
          have HK3 := Lib.hid (HK5.out.trans hk3)
          clear hJ3 hk3 hy
          gi_wp2
          go_roundw
          case rel => exact ⟨k + 1, by omega, by go_num, HJ3.out, HK3.out, HK3.out.size⟩
          case measure => simp [intOf]; omega
        · have HJ3 := Lib.hid hJx3
          clear hJx3 hy
          gi_wp2
          exact bodyPost_ret (results_none rfl _ _ _) rfl ⟨⟨_, rfl⟩, .inr ⟨k, by rw [← hn.out]; exact hlt, HJ3.out⟩⟩
    · obtain rfl : k = n := by omega
      gi_wp2
      go_end0
      exact ⟨⟨_, rfl⟩, .inl (hn.out ▸ HJK.out)⟩
end Go.Proofs.Ytcakdjnnfonijaa
