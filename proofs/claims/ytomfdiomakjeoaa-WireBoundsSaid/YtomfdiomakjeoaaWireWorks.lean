/- lexiconlaw17.works answers true; nothing that was there is changed. -/
import Derived.Test.YtomfdiomakjeoaaWireAll
namespace Go.Proofs.Ytomfdiomakjeoaa
open Go.RowKit

theorem vput_300 : vput 300 = [172, 2] := by
  rw [vput_ge (by decide), vput_lt (by decide)]; rfl
theorem vtake_300 : vval [172, 2] = 300 ∧ vlen [172, 2] = 2 ∧ verr [172, 2] = 0 := ⟨by decide, by decide, by decide⟩
theorem told_1 : told ⟨1, 0, 150, []⟩ = [8, 150, 1] := by
  unfold told
  dsimp only
  rw [if_pos rfl, show (8 * (1 : Int).toNat + (0 : Int).toNat) = 8 from rfl, vput_lt (x := 8) (by decide), vput_ge (x := 150) (by decide), vput_lt (x := 150 / 128) (by decide)]
  rfl
theorem told_2 : told ⟨2, 2, 0, [104, 105]⟩ = [18, 2, 104, 105] := by
  unfold told
  dsimp only
  rw [if_neg (by decide), if_neg (by decide), show (8 * (2 : Int).toNat + (2 : Int).toNat) = 18 from rfl, vput_lt (x := 18) (by decide)]
  rw [show [(104 : UInt8), 105].length = 2 from rfl, vput_lt (x := 2) (by decide)]
  rfl
def worksL : List Fd := [⟨1, 0, 150, []⟩, ⟨2, 2, 0, [104, 105]⟩]
theorem tolds_works : tolds worksL = [8, 150, 1, 18, 2, 104, 105] := by
  unfold tolds worksL
  rw [List.flatMap_cons, List.flatMap_cons, List.flatMap_nil, told_1, told_2]
  rfl
theorem bytes_works : bytesOf worksL = ([8, 150, 1, 18, 2, 104, 105], 0) := by
  unfold bytesOf
  rw [tolds_works, if_pos (by decide), if_pos (by decide)]
theorem fields_works : fieldsOf [8, 150, 1, 18, 2, 104, 105] = (worksL, 0) := by decide
theorem fields_works2 : fieldsOf [11] = ([], 270) := by decide
theorem OwnF.some {w : World} {base : Nat} {v : Value} {fs : List Fd} (h : OwnF w base v fs) (hl : 0 < fs.length) : ∃ g cap, v = .slice (some ⟨g, 0, none⟩) fs.length cap ∧ base ≤ g ∧ g < w.heap.size ∧ fs.length ≤ cap ∧ cap ≤ maxLen ∧ RdF w (some ⟨g, 0, none⟩) fs := by
  obtain ⟨a, c, hv, hc, hr⟩ := h.rd
  rcases h.2 with ⟨rfl, h0⟩ | ⟨g, cap, cur, rfl, hbg, hg, hnc, hcm, hcs, htake⟩
  · omega
  · obtain ⟨rfl, _, rfl⟩ := by simpa using hv
    exact ⟨g, _, rfl, hbg, (Array.getElem?_eq_some_iff.1 hg).1, hnc, hcm, hr⟩
theorem run_equalIn_func_nil (w : World) (d : Nat) (f : Fn) (x y : Array Value) : (Op.equalIn (d + 1) 50 (.func f x y) .nilFunc).run Try.prog w = .ok false w := by
  simp [Op.equalIn, run_underlying Try.underlying50]
theorem run_neq_func_nil (w : World) (f : Fn) (x y : Array Value) : (binOp .neq 50 (.func f x y) .nilFunc).run Try.prog w = .ok (.bool true) w := by
  simp only [binOp]
  simp [Op.equal, Op.maxDepth, run_equalIn_func_nil w 9999 f x y]
set_option maxRecDepth 100000 in
set_option maxHeartbeats 1000000 in
theorem works_any (w : World) : Calls Try.prog 11 #[] w fun e w' => e = .returned (.bool true) ∧ Below w.heap.size w w' := by
  go_enter Try.func11, Try.ntmps11
  go_wp2_with fail
  refine (bytes_any _ worksL 2 2 _ (show (2 : Nat) = _ from rfl) (by decide) (show ∀ f ∈ worksL, f.Ok from ?_) (show _ ≤ _ by rw [tolds_works]; decide) (by decide) (rd_lit _ _ _ _ _ rfl)).mono ?_
  · intro f hf
    rcases List.mem_cons.1 hf with rfl | hf
    · exact ⟨by decide, by decide, by decide, by decide, by decide⟩
    · obtain rfl := List.mem_singleton.1 hf
      exact ⟨by decide, by decide, by decide, by decide, by decide⟩
  rintro e w1 ⟨v1, rfl, ho1, hb1⟩
  rw [bytes_works] at ho1 ⊢
  obtain ⟨g1, c1, rfl, hg1, hgs1, hc1, hcm1, hr1⟩ := ho1.some (by decide)
  have HB1 := Lib.hid (below_trans (below_alloc _) hb1)
  have HR1 := Lib.hid hr1
  clear ho1 hr1 hb1
  unfold maxLen at hcm1
  rw [show ([8, 150, 1, 18, 2, 104, 105] : List UInt8).length = 7 from rfl] at hc1 ⊢
  go_wp2_with fail
  refine (fields_any _ [8, 150, 1, 18, 2, 104, 105] 7 c1 _ (show (7 : Nat) = _ from rfl) hc1 hcm1 HR1.out).mono ?_
  rintro e w2 ⟨v2, rfl, ho2, hb2⟩
  rw [fields_works] at ho2 ⊢
  obtain ⟨g2, c2, rfl, hg2, hgs2, hc2, hcm2, hr2⟩ := ho2.some (by decide)
  rw [show worksL.length = 2 from rfl] at hc2 ⊢
  have hst := rd_add (a := ⟨g2, 0, none⟩) hr2 7 (.string ⟨#[104, 105]⟩) rfl
  have hst2 : w2.cell? ⟨g2, 7, none⟩ = some (.string ⟨#[104, 105]⟩) := hst
  have HB2 := Lib.hid (below_trans HB1.out hb2)
  have HR2 := Lib.hid (HR1.out.mono hb2)
  have HS2 := Lib.hid hst2
  clear ho2 hr2 hb2 HB1 HR1 hst hst2
  go_wp2_with fail
  refine (fields_any _ [11] 1 1 _ (show (1 : Nat) = _ from rfl) (by decide) (by decide) (rdB_lit _ _ _ _ _ rfl)).mono ?_
  rintro e w3 ⟨v3, rfl, ho3, hb3⟩
  rw [fields_works2]
  have hb3' := below_trans (below_alloc _) hb3
  have HB3 := Lib.hid (below_trans HB2.out hb3')
  have HR3 := Lib.hid (HR2.out.mono hb3')
  have HS3 : Hid (w3.cell? ⟨g2, 7, none⟩ = some (.string ⟨#[104, 105]⟩)) := (hb3'.cell (p := ⟨g2, 7, none⟩) hgs2).trans HS2.out
  have hgs3 := Nat.lt_of_lt_of_le hgs2 hb3'.size
  clear ho3 hb3 hb3' HB2 HR2 HS2
  go_wp2_with fail
  refine (varintx_any 300 (by decide) _).mono ?_
  rintro e w4 ⟨v4, rfl, ho4, hb4⟩
  rw [vput_300] at ho4
  obtain ⟨g4, c4, rfl, hg4, hgs4, hc4, hcm4, hr4⟩ := ho4.some (by decide)
  have HB4 := Lib.hid (below_trans HB3.out hb4)
  have HR4 := Lib.hid (HR3.out.mono hb4)
  have HS4 : Hid (w4.cell? ⟨g2, 7, none⟩ = some (.string ⟨#[104, 105]⟩)) := (hb4.cell (p := ⟨g2, 7, none⟩) hgs3).trans HS3.out
  have HV4 := Lib.hid hr4
  have hgs4 := Nat.lt_of_lt_of_le hgs3 hb4.size
  rw [show ([172, 2] : List UInt8).length = 2 from rfl] at hc4 ⊢
  unfold maxLen at hcm4
  clear ho4 hb4 hr4 HB3 HR3 HS3
  go_wp2_with fail
  refine (takevarint_any _ [172, 2] 2 c4 _ (show (2 : Nat) = _ from rfl) hc4 hcm4 HV4.out).mono ?_
  rw [vtake_300.1, vtake_300.2.1, vtake_300.2.2]
  rintro e _ ⟨rfl, rfl⟩
  have hs1 : (convert 23 9 (.slice (some ⟨g1, 0, none⟩) 7 c1)).run Try.prog w4 = .ok (.string ⟨#[8, 150, 1, 18, 2, 104, 105]⟩) w4 := run_str (P := Try.prog) w4 23 9 5 (some ⟨g1, 0, none⟩) 7 c1 [8, 150, 1, 18, 2, 104, 105] Try.underlying23 Try.underlying5 Try.underlying9 rfl HR4.out
  have hs2 := HS4.out
  have hneq := run_neq_func_nil
  go_wp2_with (first | (go_at_call 16; refine (num_any _ _).mono ?_; rintro e _ ⟨rfl, rfl⟩) | (go_at_call 21; refine (zigzag_any _ (by decide) (by decide) _).mono ?_; rintro e _ ⟨rfl, rfl⟩; rw [show zig (-3) = 5 from rfl]) | (go_at_call 19; refine (unzigzag_any 5 (by decide) _).mono ?_; rintro e _ ⟨rfl, rfl⟩; rw [show unzig 5 = -3 from rfl]) | (go_at_call 27; refine (all_any none [] 0 0 _ (show (0 : Nat) = _ from rfl) (show RdB _ _ _ from .inl rfl)).mono ?_; rintro e w5 ⟨b5, v5, rfl, _, _, _, hb5⟩))
  go_ret
  exact ⟨rfl, below_trans HB4.out hb5⟩
end Go.Proofs.Ytomfdiomakjeoaa
