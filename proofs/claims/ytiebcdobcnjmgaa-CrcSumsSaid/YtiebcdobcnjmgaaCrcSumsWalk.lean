/- lexiconlaw01.CrcSums answers true, whatever the bytes and the cut; nothing that was there is changed. -/
import Derived.Test.YtiebcdobcnjmgaaCrcKnown
namespace Go.Proofs.Ytiebcdobcnjmgaa
open Go.RowKit Go.BigFrame

set_option maxRecDepth 100000 in
set_option maxHeartbeats 1000000 in
theorem crcsums_any (a : Option Addr) (l : List UInt8) (n cap : Nat) (cut : Int) (w : World) (hn : n = l.length) (hc : n ≤ cap) (hl : RdB w a l) :
    Calls Try.prog 3 #[.slice a n cap, .int .i64 cut] w fun e w' => e = .returned (.bool true) ∧ Below w.heap.size w w' := by
  have HL := Lib.hid hl
  have HN := Lib.hid hn
  clear hl hn
  by_cases hbig : 20000 < n
  · go_enter Try.func3, Try.ntmps3
    go_wp2_with (go_at_call 6; refine (known_any _).mono ?_; rintro e w1 ⟨rfl, hb1⟩)
    go_ret
    exact ⟨rfl, hb1⟩
  · have hk1 : 0 < n → -(n : Int) < cut.tmod n ∧ cut.tmod n < n := fun h => ⟨by have := Int.lt_tmod_of_pos cut (b := (n : Int)) (by omega); omega, Int.tmod_lt_of_pos cut (by omega)⟩
    go_enter Try.func3, Try.ntmps3
    go_upto_if 17 with fail
    go_cut [5] (fun s wx => ∃ k : Nat, k ≤ n ∧ s = .int .i64 k ∧ wx = w)
    case first =>
      by_cases h0 : 0 < n
      · obtain ⟨h1, h2⟩ := hk1 h0
        clear hk1
        go_wp2
        go_meet
        exact ⟨((cut.tmod n + n) % n).toNat, by have := Int.emod_lt_of_pos (cut.tmod n + n) (b := (n : Int)) (by omega); omega, by rw [Int.toNat_of_nonneg (Int.emod_nonneg _ (by omega))], rfl⟩
      · go_wp2
        go_meet
        exact ⟨0, by omega, rfl, rfl⟩
    case rest =>
      obtain ⟨k, hk, rfl, rfl⟩ := hcut
      clear hk1
      go_wp2_with (first | (at_builtin; refine step_appendB rfl (.const (.slice none 0 0)) (.tmp 28) rfl eltB wc.heap.size _ [] rfl _ _ _ l rfl (OwnB.nil _ _ _) HN.out HL.out (by rw [← HN.out]; simp; omega) (Nat.le_refl _) ?_; intro v1 w1 h1 h2; have H1 := Lib.hid h1; have H2 := Lib.hid h2; clear h1 h2) | (at_builtin; refine step_appendB rfl (.tmp 29) (.tmp 30) rfl eltB wc.heap.size _ ([] ++ l) rfl _ _ _ [77] rfl (H1.out.kept (below_alloc _) (Nat.le_refl _)) rfl (rdB_lit _ _ _ _ _ rfl) (by rw [List.nil_append, ← HN.out]; simp; omega) (by have := H2.out.size; simp; omega) ?_; intro v2 w2 h1 h2; obtain ⟨a2, c2, rfl, hc2, hr2⟩ := h1.rd; have hl2 : ([] ++ l ++ [(77 : UInt8)]).length = n + 1 := (by rw [HN.out]; simp); rw [hl2] at hc2 h1; rw [hl2]; have HR := Lib.hid hr2; have H3 := Lib.hid ((H2.out.trans ((Below.refl _ w1).alloc H2.out.size _)).trans h2); clear h1 h2 hr2 hl2))
      have hnl := HN.out
      obtain ⟨b2, o2, rfl, hb2, hcell⟩ := HR.out.at (by simp)
      have h77 := hcell n (by simp; omega)
      have hx77 : ([] ++ l ++ [(77 : UInt8)])[n]'(by simp; omega) = 77 := by subst hnl; simp
      rw [hx77] at h77
      have HC := Lib.hid h77
      have HM : Hid (RdB w2 (some ⟨b2, o2, none⟩) l) := by
        have h := HR.out.take n
        have e : ([] ++ l ++ [(77 : UInt8)]).take n = l := by subst hnl; simp
        rwa [e] at h
      have hcell2 := hcell
      clear hcell hcell2 h77 hx77 HR hnl
      refine (sum_any _ l n c2 w2 HN (by omega) HM.out).mono ?_
      rintro e w3 ⟨rfl, hb3⟩
      go_wp2_with fail
      refine (finger_any _ l n c2 w3 HN (by omega) (HM.out.mono hb3)).mono ?_
      rintro e w4 ⟨rfl, hb4⟩
      have HB := Lib.hid (below_trans hb3 hb4)
      clear hb3 hb4
      have HM4 := Lib.hid (HM.out.mono HB.out)
      have HMt := Lib.hid (HM4.out.take k)
      have HMd := Lib.hid (HM4.out.skip k)
      have hlt : (l.take k).length = k := by rw [List.length_take, ← HN.out]; omega
      have hld : (l.drop k).length = n - k := by rw [List.length_drop, ← HN.out]
      have HLT := Lib.hid hlt.symm
      have HLD := Lib.hid hld.symm
      clear hlt hld
      have hS := sum32_lt (l.take k)
      have hF : finger64 (l.take k) < 18446744073709551616 := fins_lt _ _ (by decide)
      have eS := Lib.hid (more32_cut l k)
      have eF : Hid (fins (finger64 (l.take k)) (l.drop k) = finger64 l) := fins_two _ l k
      go_wp2_with fail
      haveI := Bel.here w4.heap.size w4
      refine wp_region_below w4.heap.size w4 (by kernel_rfl) (by kernel_rfl) (Below.refl _ _) ?_
      repeat (go_big_quiet_step (first
        | (go_at_call 7; refine Calls.bel rfl (sum_any _ (l.take k) k c2 _ HLT (by omega) (HMt.out.mono (Bel.below _))))
        | (go_at_call 9; refine Calls.bel rfl (more_any (sum32 (l.take k)) hS _ (l.drop k) (n - k) (c2 - k) _ HLD (by omega) (HMd.out.mono (Bel.below _))))
        | (go_at_call 8; refine Calls.bel rfl (finger_any _ (l.take k) k c2 _ HLT (by omega) (HMt.out.mono (Bel.below _))))
        | (go_at_call 10; refine Calls.bel rfl (morefinger_any (finger64 (l.take k)) hF _ (l.drop k) (n - k) (c2 - k) _ HLD (by omega) (HMd.out.mono (Bel.below _))))))
      refine wpQuiet_nil ?_
      rintro w5 ⟨⟨_, hb5⟩, rfl⟩
      rw [eS.out, eF.out]
      have hbw5 := below_trans H3.out (below_trans HB.out hb5)
      have HA := Lib.hid (HL.out.mono hbw5)
      have HM5 := Lib.hid (HM4.out.mono hb5)
      have HC5 : Hid (w5.cell? ⟨b2, o2 + n, none⟩ = some (.int .u8 77)) := (below_trans HB.out hb5).cell (p := ⟨b2, o2 + n, none⟩) hb2 |>.trans HC.out
      have HB5 := Lib.hid hbw5
      clear hbw5 hb5 eS eF hS hF HMt HMd HM4 HLT HLD HC HM HB H1 H2 H3 this
      go_wp2_with fail
      refine (refsum_any _ l n cap _ HN (by omega) HA.out).mono ?_
      rintro e _ ⟨rfl, rfl⟩
      go_wp2_with fail
      refine (reffinger_any _ l n cap _ HN (by omega) HA.out).mono ?_
      rintro e _ ⟨rfl, rfl⟩
      have hs1 := run_str (P := Try.prog) w5 22 9 5 a n cap l Try.underlying22 Try.underlying5 Try.underlying9 HN.out HA.out
      have hs2 := run_str (P := Try.prog) w5 22 9 5 (some ⟨b2, o2, none⟩) n c2 l Try.underlying22 Try.underlying5 Try.underlying9 HN.out HM5.out
      have hc5 := HC5.out
      go_wp2_with (go_at_call 6; refine (known_any _).mono ?_; rintro e w6 ⟨rfl, hb6⟩)
      go_ret
      exact ⟨rfl, below_trans HB5.out hb6⟩
end Go.Proofs.Ytiebcdobcnjmgaa
