/- wal.head: a head's sector. -/
import Derived.Test.YtmbpacpkabbcgaaWlVal
namespace Go.Proofs.Ytmbpacpkabbcgaa
open Go.RowKit

def headB (run base : Nat) : List UInt8 := lowB run 8 ++ (lowB base 8 ++ (List.replicate 488 0 ++ lowB run 8))
theorem splice_mid {α : Type} (P Q R C : List α) (k : Nat) (hk : P.length = k) (h : C.length = Q.length) : splice (P ++ (Q ++ R)) k C = P ++ (C ++ R) := by
  subst hk
  unfold splice
  rw [List.take_left, h, ← List.length_append, ← List.append_assoc P Q R, List.drop_left]
theorem head_gen (A B : List UInt8) (a b m : Nat) (hA : A.length = a) (hB : B.length = b) : splice (splice (splice (List.replicate (a + (b + (m + a))) (0 : UInt8)) 0 A) a B) (a + b + m) A = A ++ (B ++ (List.replicate m 0 ++ A)) := by
  have e1 : splice (List.replicate (a + (b + (m + a))) (0 : UInt8)) 0 A = A ++ (List.replicate b 0 ++ (List.replicate m 0 ++ List.replicate a 0)) := by
    rw [← List.replicate_append_replicate, ← List.replicate_append_replicate, ← List.replicate_append_replicate]
    exact splice_mid [] (List.replicate a 0) _ A 0 rfl (by rw [hA, List.length_replicate])
  rw [e1, splice_mid A (List.replicate b 0) _ B a hA (by rw [hB, List.length_replicate])]
  have e3 := splice_mid (A ++ (B ++ List.replicate m (0 : UInt8))) (List.replicate a 0) [] A (a + b + m) (by simp [hA, hB]; omega) (by rw [hA, List.length_replicate])
  simp only [List.append_nil, List.append_assoc] at e3
  exact e3
theorem headB_len (run base : Nat) : (headB run base).length = 512 := by
  unfold headB
  rw [List.length_append, List.length_append, List.length_append, lowB_length, lowB_length, List.length_replicate]
theorem head_splice (run base : Nat) : splice (splice (splice (List.replicate 512 (0 : UInt8)) 0 (lowB run 8)) 8 (lowB base 8)) 504 (lowB run 8) = headB run base := head_gen (lowB run 8) (lowB base 8) 8 8 488 (lowB_length 8 run) (lowB_length 8 base)
theorem rd_src {w : World} {a : Option Addr} {l : List UInt8} {cs : List Value} (h : RdB w a l) (hcs : l.map bv = cs) : 0 < cs.length → ∃ ad, a = some ad ∧ ∀ j v, cs[j]? = some v → w.cell? (ad.add j) = some v := fun hl => by
  subst hcs
  obtain ⟨b, off, rfl, _, hc⟩ := h.at (by simpa using hl)
  refine ⟨_, rfl, fun j v hv => ?_⟩
  rw [Addr.add_mid]
  rw [List.getElem?_map] at hv
  cases hj : l[j]? with
  | none => rw [hj] at hv; cases hv
  | some y =>
    rw [hj] at hv
    cases hv
    obtain ⟨hlt, rfl⟩ := List.getElem?_eq_some_iff.1 hj
    exact hc j hlt
set_option maxRecDepth 100000 in
set_option maxHeartbeats 1000000 in
theorem head_any (run base : Nat) (hr : run < 18446744073709551616) (hb : base < 18446744073709551616) (w : World) : Calls Try.prog 26 #[.int .u64 (run : Int), .int .u64 (base : Int)] w (RetB 5 w (headB run base)) := by
  have HL1 := Lib.hid (low_any run 8 hr (by omega))
  have HL2 := Lib.hid (low_any base 8 hb (by omega))
  obtain ⟨g, hg⟩ : ∃ x, w.heap.size = x := ⟨_, rfl⟩
  obtain ⟨A, hA⟩ : ∃ A, lowB run 8 = A := ⟨_, rfl⟩
  obtain ⟨B, hB⟩ : ∃ B, lowB base 8 = B := ⟨_, rfl⟩
  have hAl : A.length = 8 := by rw [← hA]; exact lowB_length 8 run
  have hBl : B.length = 8 := by rw [← hB]; exact lowB_length 8 base
  have HEQ := Lib.hid (head_splice run base)
  rw [hA] at HL1 HEQ
  rw [hB] at HL2 HEQ
  obtain ⟨AV, hAV⟩ : ∃ x, A.map bv = x := ⟨_, rfl⟩
  obtain ⟨BV, hBV⟩ : ∃ x, B.map bv = x := ⟨_, rfl⟩
  have hAVl : AV.length = 8 := by rw [← hAV, List.length_map, hAl]
  have hBVl : BV.length = 8 := by rw [← hBV, List.length_map, hBl]
  have HA1 : Hid (∀ v ∈ AV, v.oneCell' = true) := by rw [← hAV]; exact bv_one _
  have HB1 : Hid (∀ v ∈ BV, v.oneCell' = true) := by rw [← hBV]; exact bv_one _
  obtain ⟨Z, hZ⟩ : ∃ x, (List.replicate 512 (0 : UInt8)).map bv = x := ⟨_, rfl⟩
  have hZl : Z.length = 512 := by rw [← hZ]; simp
  obtain ⟨Z1, hZ1⟩ : ∃ x, splice Z 0 AV = x := ⟨_, rfl⟩
  obtain ⟨Z2, hZ2⟩ : ∃ x, splice Z1 8 BV = x := ⟨_, rfl⟩
  obtain ⟨Z3, hZ3⟩ : ∃ x, splice Z2 504 AV = x := ⟨_, rfl⟩
  have hZ1l : Z1.length = 512 := by rw [← hZ1, length_splice _ _ _ (by omega)]; exact hZl
  have hZ2l : Z2.length = 512 := by rw [← hZ2, length_splice _ _ _ (by omega)]; exact hZ1l
  have HFIN : Hid (Z3 = (headB run base).map bv) := by
    show _ = _
    rw [← HEQ.out, ← hZ3, ← hZ2, ← hZ1, ← hZ, ← hAV, ← hBV, splice_map, splice_map, splice_map]
  have HAV := Lib.hid hAV
  have HBV := Lib.hid hBV
  have HZ := Lib.hid hZ
  have HZ1 := Lib.hid hZ1
  have HZ2 := Lib.hid hZ2
  have HZ3 := Lib.hid hZ3
  clear hA hB hAV hBV hZ hZ1 hZ2 hZ3
  unfold RetB
  rw [hg]
  go_enter Try.func26, Try.ntmps26
  go_wp2_with (refine step_makeB rfl (.const (.int .i64 512)) (.const (.int .i64 512)) rfl 512 rfl rfl (by omega) ?_; rw [hg]; intro w1 q1 q2)
  rw [HZ.out] at q1
  have hg1 : g < w1.heap.size := q1.lt
  have HR1 : Hid (w1.heap[g]? = some (.cells Z.toArray 5 (0, 0))) := q1
  have HB1' := Lib.hid q2
  clear q1 q2
  refine (HL1.out w1).mono ?_
  rintro _ w2 ⟨v, rfl, hv, hb2⟩
  obtain ⟨va, vc, hv2, hvc, hvr⟩ := OwnB.rd hv
  rw [hAl] at hv2
  subst hv2
  have HS := Lib.hid (rd_src hvr HAV.out)
  have HR2 : Hid (w2.heap[g]? = some (.cells Z.toArray 5 (0, 0))) := (hb2.block g hg1).trans HR1.out
  have HB2 := Lib.hid (HB1'.out.trans (hb2.mono (by omega)))
  clear hv hvr hvc hb2
  go_wp2_with (refine wpList_copy_splice rfl (.tmp 7) (.tmp 9) 41 41 rfl 5 Try.underlying41 (by kernel_rfl) _ _ _ _ _ _ rfl rfl g 0 Z 5 HR2.out AV (by rw [hAVl]; rfl) (fun h => ⟨rfl, HS.out h⟩) (by omega) HA1.out g w HB2.out (Nat.le_refl _) ?_; intro w3 q1 q2)
  rw [HZ1.out] at q1
  have hg3 : g < w3.heap.size := (Array.getElem?_eq_some_iff.1 q1.out).1
  have HC2 := Lib.hid (HL2.out w3.drew)
  have hsl1 : ¬ (512 : Nat) = 8 := by decide
  go_region_held_law (fun _ => True) (trivial) (first
    | (go_at_call 34; refine HC2.out.mono ?_; rintro e w4 ⟨v, rfl, hv, hb4⟩; have hv' := hv; obtain ⟨ua, uc, hu2, hx⟩ := OwnB.rd hv'; clear hv'; rw [hBl] at hu2; subst hu2; have HS4 := Lib.hid (rd_src hx.2 HBV.out); have HR4 : Hid (w4.heap[g]? = some (.cells Z1.toArray 5 (0, 0))) := (hb4.block g hg3).trans q1.out; have HB4 : Hid (Below g w w4) := (drewN_below q2 1).trans (hb4.mono (Nat.le_of_lt hg3)); clear hx hv hb4)
    | (refine step_copy_splice rfl (.tmp 12) (.tmp 14) 41 41 rfl 5 Try.underlying41 (by kernel_rfl) _ _ _ _ _ _ rfl rfl g 8 Z1 5 HR4.out BV (by rw [hBVl]; rfl) (fun h => ⟨rfl, HS4.out h⟩) (by omega) HB1.out g w HB4.out (Nat.le_refl _) ?_; intro w5 q3 q4))
  rw [HZ2.out] at q3
  have hg5 : g < w5.heap.size := (Array.getElem?_eq_some_iff.1 q3.out).1
  have HC3 := Lib.hid (HL1.out w5.drew)
  clear q1 q2
  go_wp2
  go_region_held_law (fun _ => True) (trivial) (first
    | (go_at_call 34; refine HC3.out.mono ?_; rintro e w6 ⟨v, rfl, hv, hb4⟩; have hv' := hv; obtain ⟨xa, xc, hu2, hx⟩ := OwnB.rd hv'; clear hv'; rw [hAl] at hu2; subst hu2; have HS6 := Lib.hid (rd_src hx.2 HAV.out); have HR6 : Hid (w6.heap[g]? = some (.cells Z2.toArray 5 (0, 0))) := (hb4.block g hg5).trans q3.out; have HB6 : Hid (Below g w w6) := (drewN_below q4 1).trans (hb4.mono (Nat.le_of_lt hg5)); clear hx hv hb4)
    | (refine step_copy_splice rfl (.tmp 17) (.tmp 19) 41 41 rfl 5 Try.underlying41 (by kernel_rfl) _ _ _ _ _ _ rfl rfl g 504 Z2 5 HR6.out AV (by rw [hAVl]; rfl) (fun h => ⟨rfl, HS6.out h⟩) (by omega) HA1.out g w HB6.out (Nat.le_refl _) ?_; intro w7 q5 q6))
  rw [HZ3.out, HFIN.out] at q5
  go_wp2
  go_ret
  exact ⟨_, rfl, own_of_row q5.out (headB_len run base) (by unfold maxLen; omega) (Nat.le_refl _), q6⟩
end Go.Proofs.Ytmbpacpkabbcgaa
