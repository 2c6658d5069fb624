/- slices.Values of ints: the iterator's contract. -/
import Derived.Test.YtchdipakekglmaaDkPieces
import Derived.Test.YtchdipakekglmaaRange
namespace Go.Proofs.Ytchdipakekglmaa
open Go.RowKit

attribute [local go_sem] Oper.semAt_some
theorem rdI_keep {W W' : World} {X : Nat → Prop} {a : Option Addr} {l : List Int} (h : RdI W a l) (hk : KeepC X W W') (hx : ∀ b off, a = some ⟨b, off, none⟩ → 0 < l.length → ¬ X b) : RdI W' a l := by
  by_cases h0 : 0 < l.length
  · exact Rd.keepC h hk (fun b off ha _ => hx b off ha h0)
  · exact .inl (by rw [List.eq_nil_of_length_eq_zero (by omega : l.length = 0)]; rfl)
set_option maxRecDepth 100000 in
set_option maxHeartbeats 4000000 in
theorem values_stops (w : World) (B : Nat) (a : Option Addr) (n cap : Nat) (l : List Int) (hn : Hid (n = l.length)) (hb : n ≤ 2000000) (hbox : w.cell? ⟨B, 0, none⟩ = some (.slice a n cap)) (hl : RdI w a l)
    (X : Nat → Prop) (hXa : ∀ b off, a = some ⟨b, off, none⟩ → 0 < l.length → ¬ X b) :
    Stops Try.prog 31 #[.pointer (some ⟨B, 0, none⟩)] X (fun k args _ => ∃ x, l[k]? = some x ∧ args = #[.int .i64 x]) l.length w := by
  intro lp J Jx W hW hJ hJx hY h0
  refine callsIn_of_wp Try.func31 rfl trivial ?_ rfl
  simp only [Try.ntmps31, List.size_toArray, List.length_cons, List.length_nil, Nat.reduceAdd, Nat.reduceSub, Array.replicate_succ, Array.replicate_zero, List.push_toArray, List.append_toArray, List.nil_append, List.cons_append]
  have hbl : B < w.heap.size := World.block_lt_of_cell? w _ hbox
  have hbox1 : W.cell? ⟨B, 0, none⟩ = some (.slice a n cap) := (hW.cell (p := ⟨B, 0, none⟩) hbl).trans hbox
  have HL := Lib.hid (hl.later hW)
  have HXA := Lib.hid hXa
  have HY := Lib.hid hY
  have H0 := Lib.hid h0
  clear hbl hXa hJ hJx hY hbox hl h0 hW
  gi_wp2
  gi_loopw [7] (fun p wr => ∃ k : Nat, k ≤ n ∧ p = .int .i64 k ∧ J k wr ∧ KeepC X W wr) (fun p _ => n - (intOf p).toNat)
  case atStart => exact ⟨0, Nat.zero_le _, rfl, H0.out, KeepC.refl _ _⟩
  case round =>
    obtain ⟨k, hk, rfl, hJk, hkc⟩ := hrel
    have HJK := Lib.hid hJk
    have HKC := Lib.hid hkc
    clear hJk hkc hbox1
    by_cases hlt : k < n
    · have hkl : k < l.length := by rw [← hn.out]; exact hlt
      obtain ⟨b2, off, rfl, hlt2, hcell⟩ := (rdI_keep HL.out HKC.out HXA.out).at (by omega)
      have c0 := hcell k hkl
      obtain ⟨x, hx⟩ : ∃ x, l[k] = x := ⟨_, rfl⟩
      rw [hx] at c0
      obtain ⟨fn, tmps, assign, body, hy, hR⟩ := HY.out k #[.int .i64 x] wr (by rw [← hn.out]; exact hlt) ⟨x, by rw [← hx]; exact List.getElem?_eq_getElem hkl, rfl⟩ HKC.out HJK.out
      have HR := Lib.hid hR
      have hb1 : (k : Int) < (n : Int) := by omega
      clear hcell hx hR
      gi_wp2_with fail
      refine HR.out.mono ?_
      rintro e W3 (⟨rfl, hJ3, hk3⟩ | ⟨rfl, hJx3⟩)
      · have HJ3 := Lib.hid hJ3
        have HK3 := Lib.hid (HKC.out.trans hk3)
        clear hJ3 hk3 c0 hy
        gi_wp2
        go_roundw
        case rel => exact ⟨k + 1, by omega, by go_num, HJ3.out, HK3.out⟩
        case measure => simp [intOf]; omega
      · have HJ3 := Lib.hid hJx3
        clear hJx3 c0 hy
        gi_wp2
        exact bodyPost_ret (results_none rfl _ _ _) rfl ⟨⟨_, rfl⟩, .inr ⟨k, by rw [← hn.out]; exact hlt, HJ3.out⟩⟩
    · obtain rfl : k = n := by omega
      gi_wp2
      go_end0
      exact ⟨⟨_, rfl⟩, .inl (hn.out ▸ HJK.out)⟩
end Go.Proofs.Ytchdipakekglmaa
