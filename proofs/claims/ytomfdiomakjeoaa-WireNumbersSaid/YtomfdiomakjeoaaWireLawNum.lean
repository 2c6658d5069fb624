/- lexiconlaw17.WireNumbers answers true, whatever the number and the bytes; nothing that was there is changed. -/
import Derived.Test.YtomfdiomakjeoaaWireWorks
import Derived.Test.YtomfdiomakjeoaaWireRefTake
import Derived.Deep.RegionHeld
namespace Go.Proofs.Ytomfdiomakjeoaa
open Go.RowKit

set_option maxRecDepth 100000 in
set_option maxHeartbeats 4000000 in
theorem numbers_any (x : Nat) (hx : x < 18446744073709551616) (a : Option Addr) (l : List UInt8) (n cap : Nat) (w : World) (hn : Hid (n = l.length)) (hc : n ≤ cap) (hl : RdB w a l) :
    Calls Try.prog 3 #[.int .u64 (x : Int), .slice a n cap] w fun e w' => e = .returned (.bool true) ∧ Below w.heap.size w w' := by
  have HL := Lib.hid hl
  clear hl
  by_cases hbig : 20000 < n
  · go_enter Try.func3, Try.ntmps3
    go_wp2_with (go_at_call 11; refine (works_any _).mono ?_; rintro e w1 ⟨rfl, hb1⟩)
    go_ret
    exact ⟨rfl, hb1⟩
  · go_enter Try.func3, Try.ntmps3
    go_wp2_with fail
    refine (spare_any a l n cap _ hn hc (by omega) HL.out).mono ?_
    rintro e w1 ⟨b1, c1, rfl, hc1, hcm1, hg1, hgs1, hr1, hb1⟩
    have HB1 := Lib.hid hb1
    have HR1 := Lib.hid hr1
    have HM1 : Hid (RdB w1 (some ⟨b1, 0, none⟩) l) := by
      have h := hr1.take n
      have e : (l ++ [(165 : UInt8)]).take n = l := by have := hn.out; subst this; simp
      rwa [e] at h
    have HL1 := Lib.hid (HL.out.mono hb1)
    clear hb1 hr1
    go_wp2_with fail
    refine (takevarint_any _ l n c1 _ hn (by omega) hcm1 HM1.out).mono ?_
    rintro e _ ⟨rfl, rfl⟩
    go_wp2_with fail
    have hrt := reftake_any a l n cap 0 w1 hn (by omega) (by omega) HL1.out
    rw [List.drop_zero, Nat.zero_add] at hrt
    refine Calls.mono hrt ?_
    rintro e _ ⟨rfl, rfl⟩
    have hve := verr_cases l
    obtain ⟨val, hval⟩ : ∃ x, vval l = x := ⟨_, rfl⟩
    obtain ⟨len, hlen⟩ : ∃ x, vlen l = x := ⟨_, rfl⟩
    obtain ⟨er, her⟩ : ∃ x, verr l = x := ⟨_, rfl⟩
    rw [hval, hlen, her] at hve ⊢
    clear hval hlen her hrt
    have hkept := fun w' (h : Below w1.heap.size w1 w') => kept_any (some ⟨b1, 0, none⟩) a l l n n c1 cap 165 w' hn hn (by omega) rfl (by omega) (HR1.out.mono h) (HL1.out.mono h)
    have hk : (decide (l = l) && decide ((165 : UInt8) = 165)) = true := by simp
    rw [hk] at hkept
    obtain ⟨s, hs⟩ : ∃ s, str (vput x) = s := ⟨_, rfl⟩
    have hz := unzig_in x hx
    have hZ : ∃ z : Int, -9223372036854775808 ≤ z ∧ z ≤ 9223372036854775807 ∧ IntKind.i64.wrap (x : Int) = z := ⟨_, by simp [IntKind.wrap, IntKind.bits, IntKind.signed]; omega, by simp [IntKind.wrap, IntKind.bits, IntKind.signed]; omega, rfl⟩
    obtain ⟨z, hz1, hz2, hzw⟩ := hZ
    have HK := Lib.hid hkept
    clear hkept hk
    obtain ⟨q, hq⟩ : ∃ q, (vput x).length = q := ⟨_, rfl⟩
    have hstr : ∀ w' a3 c3, RdB w' a3 (vput x) → (convert 23 9 (.slice a3 q c3)).run Try.prog w' = .ok (.string s) w' := fun w' a3 c3 h => by
      rw [← hs]
      exact run_str (P := Try.prog) w' 23 9 5 a3 q c3 (vput x) Try.underlying23 Try.underlying5 Try.underlying9 hq.symm h
    go_upto_if 32 with fail
    go_cut [9, 10, 12] (fun s9 s10 s12 wx => s9 = .int .u64 (val : Int) ∧ s10 = .int .i64 (len : Int) ∧ s12 = .int .i64 (er : Int) ∧ wx = w1)
    case first =>
      rcases hve with ⟨rfl, hlp⟩ | ⟨rfl, rfl, rfl⟩
      · go_wp2_with fail
        go_meet
        exact ⟨rfl, rfl, rfl, rfl⟩
      · go_wp2_with fail
        go_meet
        exact ⟨rfl, rfl, rfl, rfl⟩
    case rest =>
      obtain ⟨rfl, rfl, rfl, hw⟩ := hcut
      have hw' : w1 = wc := hw.symm
      clear hw
      subst hw'
      clear hve
      go_wp2_with fail
      go_region_held (fun w' => Below w1.heap.size w1 w') (first | assumption | exact (Below.refl _ _).drew) (first
        | (go_at_call 15; refine (HK.out _ (by assumption)).mono ?_; rintro e _ ⟨rfl, rfl⟩)
        | (go_at_call 16; refine (num_any _ _).mono ?_; rintro e _ ⟨rfl, rfl⟩)
        | (go_at_call 17; refine (varintx_any x hx _).mono ?_; rintro e w2 ⟨v2, rfl, h3, h4⟩; obtain ⟨a3, c3, rfl, hc3, h5⟩ := h3.rd; have hcv := fun w' (h : Below w2.heap.size w2 w') => hstr w' a3 c3 (h5.mono h); have hcv2 := hcv w2 (Below.refl _ _); have hk2 : Below w1.heap.size w1 w2 := below_trans (by assumption) h4; have HCV := Lib.hid hcv; clear h3 h4 h5 hc3 hcv; rw [hq])
        | (go_at_call 18; refine (refvarint_any x hx _).mono ?_; rintro e w3 ⟨v3, rfl, h3, h4⟩; obtain ⟨a4, c4, rfl, hc4, h5⟩ := h3.rd; have hcv3 := HCV.out _ h4; have hcv4 := hstr w3 a4 c4 h5; have hk3 : Below w1.heap.size w1 w3 := below_trans (by assumption) h4; clear h3 h4 h5 hc4; rw [hq])
        | (go_at_call 19; refine (unzigzag_any x hx _).mono ?_; rintro e _ ⟨rfl, rfl⟩)
        | (go_at_call 20; refine (refunzigzag_any x hx _).mono ?_; rintro e _ ⟨rfl, rfl⟩)
        | (go_at_call 21; refine (zigzag_any z hz1 hz2 _).mono ?_; rintro e _ ⟨rfl, rfl⟩)
        | (go_at_call 22; refine (refzigzag_any z hz1 hz2 _).mono ?_; rintro e _ ⟨rfl, rfl⟩)
        | (go_at_call 11; refine (works_any _).mono ?_; rintro e w5 ⟨rfl, hb5⟩; have hk5 : Below w1.heap.size w1 w5 := below_trans (by assumption) hb5; clear hb5))
      all_goals go_wp2
      all_goals go_ret
      all_goals exact ⟨rfl, below_trans HB1.out (by assumption)⟩
end Go.Proofs.Ytomfdiomakjeoaa
