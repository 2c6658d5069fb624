/- lexiconlaw17.WirePacked answers true, whatever the type, the words and the bytes; nothing that was there is changed. -/
import Derived.Test.YtomfdiomakjeoaaWireRefPack
namespace Go.Proofs.Ytomfdiomakjeoaa
open Go.RowKit

theorem OwnU.some {w : World} {base : Nat} {v : Value} {l : List Nat} (h : OwnU w base v l) (hl : 0 < l.length) : ∃ g cap, v = .slice (some ⟨g, 0, none⟩) l.length cap ∧ base ≤ g ∧ g < w.heap.size ∧ l.length ≤ cap ∧ RdU w (some ⟨g, 0, none⟩) l := by
  obtain ⟨a, c, hv, hc, hr⟩ := h.rd
  rcases h.2 with ⟨rfl, h0⟩ | ⟨g, cap, cur, rfl, hbg, hg, hnc, hcm, hcs, htake⟩
  · omega
  · obtain ⟨rfl, _, rfl⟩ := by simpa using hv
    exact ⟨g, _, rfl, hbg, (Array.getElem?_eq_some_iff.1 hg).1, hnc, hr⟩
theorem RdU.take {w : World} {a : Option Addr} {l : List Nat} (h : RdU w a l) (k : Nat) : RdU w a (l.take k) := by
  rcases h with h | ⟨b, off, ha, hlt, hc⟩
  · exact .inl (by rw [List.map_eq_nil_iff.1 h, List.take_nil]; rfl)
  · exact .inr ⟨b, off, ha, hlt, fun j hj => by simp only [List.map_take, List.getElem_take]; exact hc j (by simp at hj ⊢; omega)⟩

set_option maxRecDepth 100000 in
set_option maxHeartbeats 4000000 in
theorem packed_any (t : Int) (a a2 : Option Addr) (l : List Nat) (l2 : List UInt8) (n n2 cap cap2 : Nat) (w : World) (hn : Hid (n = l.length)) (hn2 : Hid (n2 = l2.length)) (hc : n ≤ cap) (hc2 : n2 ≤ cap2)
    (hwf : Hid (∀ x ∈ l, x < 18446744073709551616)) (hl : RdU w a l) (hl2 : RdB w a2 l2) :
    Calls Try.prog 8 #[.int .i64 t, .slice a n cap, .slice a2 n2 cap2] w fun e w' => e = .returned (.bool true) ∧ Below w.heap.size w w' := by
  have HL := Lib.hid hl
  have HL2 := Lib.hid hl2
  clear hl hl2
  by_cases hbig : 2000 < n
  · go_enter Try.func8, Try.ntmps8
    go_wp2_with (go_at_call 11; refine (works_any _).mono ?_; rintro e w1 ⟨rfl, hb1⟩)
    go_ret
    exact ⟨rfl, hb1⟩
  · by_cases hbig2 : 20000 < n2
    · go_enter Try.func8, Try.ntmps8
      go_wp2_with (go_at_call 11; refine (works_any _).mono ?_; rintro e w1 ⟨rfl, hb1⟩)
      go_ret
      exact ⟨rfl, hb1⟩
    · go_enter Try.func8, Try.ntmps8
      go_wp2_with (first
        | (at_builtin; refine step_appendB8 rfl (.tmp 26) (.tmp 27) rfl eltU w.heap.size _ [] rfl _ _ _ l rfl (own_empty w _ _ 1 (Nat.le_refl _)) hn.out (HL.out.mono (below_alloc _)) (by rw [← hn.out]; simp; omega) (by simp) ?_; intro v1 w1 h1 h2; have H1 := Lib.hid h1; have H2 := Lib.hid ((below_alloc _).trans h2); clear h1 h2)
        | (at_builtin; refine step_appendB8 rfl (.tmp 28) (.tmp 29) rfl eltU w.heap.size _ ([] ++ l) rfl _ _ _ [77] rfl (OwnU.kept H1.out (below_alloc _) (Nat.le_refl _)) rfl (rd_lit _ _ _ _ _ rfl) (by rw [List.nil_append, ← hn.out]; simp; omega) (by have := H2.out.size; simp; omega) ?_; intro v2 w2 h1 h2; obtain ⟨g2, c2, rfl, hg2, hgs, hc2', hr2⟩ := OwnU.some h1 (by simp); have hl2' : ([] ++ l ++ [77]).length = n + 1 := (by rw [hn.out]; simp); rw [hl2'] at hc2'; rw [hl2']; have HR := Lib.hid hr2; have H3 := Lib.hid ((H2.out.trans ((Below.refl _ w1).alloc H2.out.size _)).trans h2); clear h1 h2 hr2 hl2'))
      have HM2 : Hid (RdU w2 (some ⟨g2, 0, none⟩) l) := by
        have h := HR.out.take n
        have e : ([] ++ l ++ [77]).take n = l := by have := hn.out; subst this; simp
        rwa [e] at h
      have HA2 : Hid (RdU w2 (some ⟨g2, 0, none⟩) (l ++ [77])) := HR.out
      clear HR H1 H2
      have hcell := HM2
      refine (pack_any t _ l n c2 w2 hn (by omega) (by omega) hwf HM2.out).mono ?_
      rintro e w3 ⟨v3, rfl, ho3, hb3⟩
      obtain ⟨a3, c3, rfl, hc3, hr3⟩ := ho3.rd
      have HB3 := Lib.hid (below_trans H3.out hb3)
      have HA3 := Lib.hid (HA2.out.mono hb3)
      have HR33 := Lib.hid hr3
      obtain ⟨pl, hpl⟩ : ∃ pl, (packOf t l).1 = pl := ⟨_, rfl⟩
      obtain ⟨pe, hpe⟩ : ∃ pe, (packOf t l).2 = pe := ⟨_, rfl⟩
      rw [hpl] at HR33 ⊢
      rw [hpe]
      clear ho3 hb3 hr3 hc3 HM2 HA2 hcell
      go_wp2_with fail
      refine (refpack_any t a l n cap _ hn hc (by omega) hwf (HL.out.mono HB3.out)).mono ?_
      rw [hpl, hpe]
      rintro e w4 ⟨v4, rfl, ho4, hb4⟩
      obtain ⟨a4, c4, rfl, hc4, hr4⟩ := ho4.rd
      have HB4 := Lib.hid (below_trans HB3.out hb4)
      have HA4 := Lib.hid (HA3.out.mono hb4)
      have HR34 := Lib.hid (HR33.out.mono hb4)
      have HR44 := Lib.hid hr4
      clear ho4 hb4 hr4 hc4 HB3 HA3 HR33 hpl hpe H3
      obtain ⟨q, hq⟩ : ∃ q, pl.length = q := ⟨_, rfl⟩
      rw [hq]
      have HQ := Lib.hid hq
      clear hq
      go_wp2_with fail
      refine (spare_any a2 l2 n2 cap2 _ hn2 hc2 (by omega) (HL2.out.mono HB4.out)).mono ?_
      rintro e w5 ⟨b5, c5, rfl, hc5, hcm5, hg5, hgs5, hr5, hb5⟩
      have HB5 := Lib.hid (below_trans HB4.out hb5)
      have HA5 := Lib.hid (HA4.out.mono hb5)
      have HR35 := Lib.hid (HR34.out.mono hb5)
      have HR45 := Lib.hid (HR44.out.mono hb5)
      have HC5 := Lib.hid hr5
      have HM5 : Hid (RdB w5 (some ⟨b5, 0, none⟩) l2) := by
        have h := hr5.take n2
        have e : (l2 ++ [(165 : UInt8)]).take n2 = l2 := by have := hn2.out; subst this; simp
        rwa [e] at h
      clear hb5 hr5 HB4 HA4 HR34 HR44
      go_wp2_with fail
      refine (unpack_any t _ l2 n2 c5 _ hn2 (by omega) hcm5 HM5.out).mono ?_
      rintro e w6 ⟨v6, rfl, ho6, hb6⟩
      obtain ⟨a6, c6, rfl, hc6, hr6⟩ := ho6.rd
      obtain ⟨ul, hul⟩ : ∃ ul, (unpackOf t l2).1 = ul := ⟨_, rfl⟩
      obtain ⟨ue, hue⟩ : ∃ ue, (unpackOf t l2).2 = ue := ⟨_, rfl⟩
      have hulen := unpackOf_len t l2
      rw [hul] at hulen hr6 ⊢
      rw [hue]
      have HB6 := Lib.hid (below_trans HB5.out hb6)
      have HA6 := Lib.hid (HA5.out.mono hb6)
      have HR36 := Lib.hid (HR35.out.mono hb6)
      have HR46 := Lib.hid (HR45.out.mono hb6)
      have HC6 := Lib.hid (HC5.out.mono hb6)
      have HR66 := Lib.hid hr6
      clear ho6 hb6 hr6 hc6 HB5 HA5 HR35 HR45 HC5 HM5
      go_wp2_with fail
      refine (refunpack_any t a2 l2 n2 cap2 _ hn2 hc2 (by omega) (HL2.out.mono HB6.out)).mono ?_
      rw [hul, hue]
      rintro e w7 ⟨v7, rfl, ho7, hb7⟩
      obtain ⟨a7, c7, rfl, hc7, hr7⟩ := ho7.rd
      have HB7 := Lib.hid (below_trans HB6.out hb7)
      have HA7 := Lib.hid (HA6.out.mono hb7)
      have HR37 := Lib.hid (HR36.out.mono hb7)
      have HR47 := Lib.hid (HR46.out.mono hb7)
      have HC7 := Lib.hid (HC6.out.mono hb7)
      have HR67 := Lib.hid (HR66.out.mono hb7)
      have HR77 := Lib.hid hr7
      obtain ⟨m, hm⟩ : ∃ m, ul.length = m := ⟨_, rfl⟩
      rw [hm]
      have hm2 : m ≤ n2 := by rw [hn2.out, ← hm]; exact hulen
      have HMM : Hid (m = ul.length) := hm.symm
      clear ho7 hb7 hr7 hc7 HB6 HA6 HR36 HR46 HC6 HR66 hul hue hulen hm
      have HM7 : Hid (RdU w7 (some ⟨g2, 0, none⟩) l) := by
        have h := HA7.out.take n
        have e : (l ++ [77]).take n = l := by have := hn.out; subst this; simp
        rwa [e] at h
      go_wp2_with fail
      refine (same_any _ a l l n n c2 cap _ hn hn (by omega) (by omega) HM7.out (HL.out.mono HB7.out)).mono ?_
      rw [decide_eq_true (rfl : l = l)]
      rintro e w8 ⟨rfl, hb8⟩
      have HB8 := Lib.hid (below_trans HB7.out hb8)
      obtain ⟨bx, ox, hbx, hltx, hcellx⟩ := (HA7.out.mono hb8).at (by simp)
      simp only [Option.some.injEq, Addr.mk.injEq, and_true] at hbx
      obtain ⟨rfl, rfl⟩ := hbx
      have h77 := hcellx n (by rw [hn.out]; simp)
      have hx77 : (l ++ [77])[n]'(by rw [hn.out]; simp) = 77 := by have := hn.out; subst this; simp
      rw [hx77, Nat.zero_add] at h77
      have h77' : w8.cell? ⟨g2, n, none⟩ = Option.some (.int .u64 77) := h77
      clear h77
      have hkept := kept_any _ a2 l2 l2 n2 n2 c5 cap2 165 w8 hn2 hn2 (by omega) rfl (by omega) (HC7.out.mono hb8) (HL2.out.mono HB8.out)
      rw [show (decide (l2 = l2) && decide ((165 : UInt8) = 165)) = true by simp] at hkept
      have HK := Lib.hid hkept
      have hs3 := run_str (P := Try.prog) w8 23 9 5 a3 q c3 pl Try.underlying23 Try.underlying5 Try.underlying9 HQ.out.symm (HR37.out.mono hb8)
      have hs4 := run_str (P := Try.prog) w8 23 9 5 a4 q c4 pl Try.underlying23 Try.underlying5 Try.underlying9 HQ.out.symm (HR47.out.mono hb8)
      have HR68 := Lib.hid (HR67.out.mono hb8)
      have HR78 := Lib.hid (HR77.out.mono hb8)
      obtain ⟨s, hs⟩ : ∃ s, str pl = s := ⟨_, rfl⟩
      rw [hs] at hs3 hs4
      clear hcellx hx77 hkept hb8 HB7 HA7 HR37 HR47 HC7 HR67 HR77 HM7 hs
      go_wp2_with (first
        | (go_at_call 15; refine HK.out.mono ?_; rintro e _ ⟨rfl, rfl⟩)
        | (go_at_call 16; refine (num_any _ _).mono ?_; rintro e _ ⟨rfl, rfl⟩)
        | (go_at_call 35; refine (same_any a6 a7 ul ul m m c6 c7 _ HMM HMM (by omega) (by omega) HR68.out HR78.out).mono ?_; rw [decide_eq_true (rfl : ul = ul)]; rintro e w9 ⟨rfl, hb9⟩; have HB9 := Lib.hid (below_trans HB8.out hb9); clear hb9)
        | (go_at_call 11; refine (works_any _).mono ?_; rintro e w10 ⟨rfl, hb10⟩; have HB10 := Lib.hid (below_trans HB9.out hb10); clear hb10))
      go_ret
      exact ⟨rfl, HB10.out⟩
end Go.Proofs.Ytomfdiomakjeoaa
