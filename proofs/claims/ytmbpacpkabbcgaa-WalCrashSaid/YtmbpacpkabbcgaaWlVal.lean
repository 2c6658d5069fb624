/- wal.value: a number out of bytes. -/
import Derived.Test.YtmbpacpkabbcgaaWlLow
namespace Go.Proofs.Ytmbpacpkabbcgaa
open Go.RowKit

attribute [local go_sem] Oper.semAt_some
theorem leB_drop (l : List UInt8) (q : Nat) (h : q < l.length) : leB (l.drop q) = l[q].toNat + 256 * leB (l.drop (q + 1)) := by
  rw [List.drop_eq_getElem_cons h]
  rfl
set_option maxRecDepth 100000 in
set_option maxHeartbeats 4000000 in
theorem value_any (w : World) (a : Option Addr) (l : List UInt8) (n cap : Nat) (hn : n = l.length) (hn8 : n ≤ 8) (hl : RdB w a l) :
    Calls Try.prog 52 #[.slice a n cap] w fun e w' => e = .returned (.int .u64 (leB l : Int)) ∧ Below w.heap.size w w' := by
  obtain ⟨g, hg⟩ : ∃ x, w.heap.size = x := ⟨_, rfl⟩
  have HL := Lib.hid hl
  have HN := Lib.hid hn
  rw [hg]
  obtain ⟨K, hK⟩ : ∃ K : Ending → World → Prop, (fun (e : Ending) (w' : World) => e = .returned (.int .u64 (leB l : Int)) ∧ Below g w w') = K := ⟨_, rfl⟩
  have HKT : Hid (∀ w', Below g w w' → K (.returned (.int .u64 (leB l : Int))) w') := fun w' h => by rw [← hK]; exact ⟨rfl, h⟩
  rw [hK]
  clear hK hl hn
  refine calls_of_wp_marks Try.func52 rfl ?_
  simp only [Try.ntmps52, List.size_toArray, List.length_cons, List.length_nil, Nat.reduceAdd, Nat.reduceSub, Array.replicate_succ, Array.replicate_zero, List.push_toArray, List.append_toArray, List.nil_append, List.cons_append]
  go_upto_region 2 with fail
  obtain ⟨W0, hW0⟩ : ∃ x, w.alloc (.cells #[.int .u64 0] 40) = x := ⟨_, rfl⟩
  have HB0 : Hid (Box W0 g 40 (.int .u64 0)) := by rw [← hW0, ← hg]; exact Box.new w _ _
  have HW0 : Hid (Below w.heap.size w W0) := by rw [← hW0]; exact below_alloc _
  have hWs : W0.heap.size = g + 1 := by rw [← hW0, ← hg]; simp
  rw [hW0]
  clear hW0
  go_wp2_with fail
  refine (backward_any _ _ _ _).mono ?_
  rintro _ w1 ⟨rfl, rfl⟩
  obtain ⟨W1, hW1⟩ : ∃ x, W0.alloc (.cells #[.slice a n cap] 41) = x := ⟨_, rfl⟩
  have HB1 : Hid (RowAt W1 (g + 1) 41 #[.slice a n cap]) := by rw [← hW1, ← hWs]; exact RowAt.new _ _ _
  have hb01 : Below W0.heap.size W0 W1 := by rw [← hW1]; exact below_alloc _
  have hW1s : W1.heap.size = g + 2 := by rw [← hW1, World.size_alloc, hWs]
  have HG1 : Hid (Box W1 g 40 (.int .u64 0)) := HB0.out.below hb01
  have HW1 : Hid (Below w.heap.size w W1) := below_trans HW0.out hb01
  have HBW : Hid (Below g w W1) := by have := HW1.out; rw [hg] at this; exact this
  have HL1 := Lib.hid (HL.out.mono HW1.out)
  rw [hWs, hW1]
  clear hW1 hb01
  go_wp2_with fail
  have hst := backward_stops W1 (g + 1) a n cap l HN (by omega) (HB1.out.cell 0) HL1.out (fun b => b = g) (by omega) (fun b off ha h1 hx => by
    rcases HL.out with h | ⟨b3, o3, h3, hlt3, _⟩
    · rw [List.map_eq_nil_iff.1 h] at h1; simp at h1
    · rw [ha] at h3; cases h3; omega)
  rw [← HN.out] at hst
  refine wp_range (gf := 61) (lb := #[.pointer (some ⟨g + 1, 0, none⟩)]) rfl (enters_of Try.func61 (by kernel_rfl) rfl) (fun b => b = g) (len := n) hst (fun k hk => by subst hk; omega) ?cps
    (fun k W => Box W g 40 (.int .u64 (leB (l.drop (n - k)) : Int))) (fun _ _ _ => False) ?cG ?cGx ?c0 ?cround ?cdone ?cstop
  case cps => rintro j args W ⟨x, _, rfl⟩; rfl
  case cG => exact fun j W W' h hs => h.stays hs
  case cGx => exact fun c j W W' h hs => h
  case c0 =>
    have h := HG1.out
    rw [Nat.sub_zero, List.drop_of_length_le (by rw [HN.out]; exact Nat.le_refl _)]
    exact h
  case cstop => exact fun D c k W _ _ _ h _ => h.elim
  case cround =>
    rintro lp k args W hk ⟨x, hget, rfl⟩ hkw hbx
    obtain ⟨q, hq⟩ : ∃ q : Nat, n - 1 - k = q := ⟨_, rfl⟩
    have hql : q < l.length := by rw [← HN.out]; omega
    have hxq : l[q] = x := by rw [hq, List.getElem?_eq_getElem hql] at hget; exact Option.some.inj hget
    have hst2 : leB (l.drop (n - (k + 1))) = x.toNat + 256 * leB (l.drop (n - k)) := by
      rw [show n - (k + 1) = q by omega, leB_drop l q hql, hxq, show q + 1 = n - k by omega]
    have hlt := leB_lt (l.drop (n - k))
    rw [List.length_drop, ← HN.out, show n - (n - k) = k by omega] at hlt
    have hlt7 : 256 ^ k ≤ 256 ^ 7 := Nat.pow_le_pow_right (by omega) (by omega)
    obtain ⟨y, hy⟩ : ∃ y, leB (l.drop (n - k)) = y := ⟨_, rfl⟩
    rw [hy] at hst2 hlt hbx
    have hy7 : y < 72057594037927936 := Nat.lt_of_lt_of_le hlt (by simpa using hlt7)
    obtain ⟨z, hz⟩ : ∃ z, x.toNat = z := ⟨_, rfl⟩
    have hz8 : z < 256 := by rw [← hz]; exact x.toNat_lt
    rw [hz] at hst2
    have HST := Lib.hid hst2
    have HBX := Lib.hid hbx
    rw [hz]
    clear hget hxq hst2 hlt hlt7 hy hbx hz hst hkw
    gi_wp2
    refine ⟨KeepA.refl _ _, fun W2 hs2 hk2 => ?_⟩
    have hb2 := HBX.out.stays hs2
    have hc := hb2.cell
    have hf := hb2.frozen
    clear hs2 hk2
    gi_wp2
    have hor : bits .or .u64 ((y : Int) * 256) (z : Int) = ((leB (l.drop (n - (k + 1))) : Nat) : Int) := by
      rw [HST.out]
      have h1 : ((y : Int) * 256) = ((y * 256 : Nat) : Int) := by omega
      rw [h1, bits_or_nat .u64 rfl (y * 256) z (by show y * 256 < 2 ^ 64; omega) (by show z < 2 ^ 64; omega)]
      have h2 := Nat.shiftLeft_add_eq_or_of_lt (i := 8) (show z < 2 ^ 8 by omega) y
      rw [Nat.shiftLeft_eq] at h2
      have h3 : y * 256 ||| z = y * 256 + z := h2.symm
      rw [h3]
      congr 1
      omega
    refine ⟨(KeepA.setCell (KeepA.setCell (KeepA.refl _ _) rfl) rfl), ?_⟩
    have := (hb2.set (.int .u64 ((y : Int) * 256))).set (.int .u64 (bits .or .u64 ((y : Int) * 256) (z : Int)))
    rw [hor] at this
    rw [hor]
    exact this
  case cdone =>
    rintro D W hD hkw hbx hdf
    rw [Nat.sub_self, List.drop_zero] at hbx
    have HDF := Lib.hid hdf
    have hBW : Below g w W := HBW.out.trans (hkw.below (by omega) (by rintro x rfl; exact Nat.le_refl _))
    have HBWW := Lib.hid hBW
    have hc := hbx.cell
    rw [hW1s] at hD
    clear hkw hdf hBW hbx hst
    go_wp2
    refine post_marks [D] rfl (by simp) (by intro x hx; simp at hx; rw [hx]; exact HDF.out) fun w' hk => ⟨.int .u64 (leB l : Int), (results_tmp (t := 2) rfl _ _ _).trans rfl, HKT.out _ ?_⟩
    exact HBWW.out.trans (hk.below (by have := HBWW.out.size; omega) (fun x hx => by simp at hx; subst hx; omega))
end Go.Proofs.Ytmbpacpkabbcgaa
