/- lexiconlaw01.known, the chapter's rows: it answers true. -/
import Derived.Test.YtiebcdobcnjmgaaCrcOpen
import Derived.Lib.SlBytesConst
namespace Go.Proofs.Ytiebcdobcnjmgaa
open Go.RowKit

set_option maxRecDepth 100000 in
set_option maxHeartbeats 400000 in
theorem known_any (w : World) : Calls Try.prog 6 #[] w fun e w' => e = .returned (.bool true) ∧ Below w.heap.size w w' := by
  have kc := fun (w : World) (C : Array Value) (n c : Nat) => Lib.run_convert_bytes_const (P := Try.prog) w 22 5 C n c Try.underlying22 Try.underlying5
  go_enter Try.func6, Try.ntmps6
  go_wp2_with fail
  refine (seal_any _ [97, 98] 2 2 _ rfl (by omega) (rdB_lit _ _ _ _ _ rfl)).mono ?_
  rintro e w1 ⟨v1, rfl, h1, h2⟩
  obtain ⟨a1, c1, rfl, hc1, h3⟩ := h1.rd
  go_wp2_with fail
  refine (open_any _ _ _ _ _ rfl (by rw [List.length_append, lowB_length]; simp) hc1 h3).mono ?_
  rintro e w2 ⟨v2, rfl, h4, h5⟩
  have ho : opened ([97, 98] ++ lowB (sum32 [97, 98]) 4) = ([97, 98], 0) := by decide +kernel
  rw [ho] at h4 ⊢
  obtain ⟨a2, c2, rfl, hc2, h6⟩ := h4.rd
  clear h1 h3 hc1 ho
  have HB := Lib.hid ((below_alloc (w := w) _).trans ((h2.mono (by simp)).trans (h5.mono (Nat.le_trans (by simp) h2.size))))
  clear h2 h5
  have H6 := Lib.hid h6
  clear h4 h6
  go_wp2_with fail
  refine (open_any _ [1, 0, 0, 0] 4 4 _ rfl (by omega) (Nat.le_refl _) (rdB_lit _ _ _ _ _ rfl)).mono ?_
  rintro e w3 ⟨v3, rfl, h1, h2⟩
  have ho : opened [1, 0, 0, 0] = ([], 110) := by decide +kernel
  rw [ho] at h1 ⊢
  obtain ⟨a3, c3, rfl, hc3, _⟩ := h1.rd
  have h3 := (below_alloc (w := w2) _).trans (h2.mono (by simp))
  have HB3 := Lib.hid (below_trans HB.out h3)
  have H7 := Lib.hid (H6.out.mono h3)
  clear h1 h2 h3 ho hc3 HB H6
  go_wp2_with fail
  refine (sum_any _ [49, 50, 51, 52, 53, 54, 55, 56, 57] 9 9 _ rfl (by omega) (rdB_lit _ _ _ _ _ rfl)).mono ?_
  rintro e w4 ⟨rfl, h2⟩
  have ho : sum32 [49, 50, 51, 52, 53, 54, 55, 56, 57] = 3421780262 := by decide +kernel
  rw [ho]
  have h3 := (below_alloc (w := w3) _).trans (h2.mono (by simp))
  have HB4 := Lib.hid (below_trans HB3.out h3)
  have H8 := Lib.hid (H7.out.mono h3)
  clear h2 h3 ho HB3 H7
  go_wp2_with fail
  refine (finger_any _ [34, 105, 110, 116, 34] 5 5 _ rfl (by omega) (rdB_lit _ _ _ _ _ rfl)).mono ?_
  rintro e w5 ⟨rfl, h2⟩
  have ho : finger64 [34, 105, 110, 116, 34] = 8247732601305521295 := by decide +kernel
  rw [ho]
  have h3 := (below_alloc (w := w4) _).trans (h2.mono (by simp))
  have HB5 := Lib.hid (below_trans HB4.out h3)
  have hs := run_str (P := Try.prog) w5 22 9 5 a2 2 c2 [97, 98] Try.underlying22 Try.underlying5 Try.underlying9 rfl (H8.out.mono h3)
  clear h2 h3 ho HB4 H8
  have he : str [97, 98] = { data := #[97, 98] } := rfl
  rw [he] at hs
  clear he
  go_wp2
  go_ret
  exact ⟨rfl, HB5.out⟩
end Go.Proofs.Ytiebcdobcnjmgaa
