/- TablesKeys answers true, whatever the table's name, the keys, the bytes; nothing that was there is changed. -/
import Derived.Test.YtlchnfjbcefkoaaGreatTabFacts
import Derived.Test.YtlchnfjbcefkoaaGreatTabCompare
import Derived.Test.YtlchnfjbcefkoaaGreatTabLong
import Derived.Test.YtlchnfjbcefkoaaGreatTabSame
import Derived.Test.YtlchnfjbcefkoaaGreatTabKnown
namespace Go.Proofs.YtlchnfjbcefkoaaGreat
open Go.RowKit

set_option maxRecDepth 100000 in
set_option maxHeartbeats 40000000 in
theorem tableskeys_any (t : List UInt8) (T : ByteArray) (hT : str t = T) (a a2 a3 : Option Addr) (ps qs : List Pt) (b : List UInt8) (n cap n2 cap2 n3 cap3 : Nat) (w : World) (hn : Hid (n = ps.length)) (hn2 : Hid (n2 = qs.length)) (hn3 : Hid (n3 = b.length)) (hc : n ≤ cap) (hc2 : n2 ≤ cap2) (hc3 : n3 ≤ cap3)
    (hok : Hid (∀ p ∈ ps, p.Ok)) (hok2 : Hid (∀ p ∈ qs, p.Ok)) (hl : RdP w a ps) (hl2 : RdP w a2 qs) (hl3 : RdB w a3 b) :
    Calls Tryz.prog 3 #[.agg #[.string T, .slice a n cap, .slice a2 n2 cap2, .slice a3 n3 cap3]] w fun e w' => e = .returned (.bool true) ∧ Below w.heap.size w w' := by
  obtain ⟨tl, htl⟩ : ∃ tl, T.size = tl := ⟨_, rfl⟩
  have HTL : Hid (tl = t.length) := by show _ = _; rw [← htl, ← hT]; simp [str, ByteArray.size]
  have HT := Lib.hid hT
  have HL := Lib.hid hl
  have HL2 := Lib.hid hl2
  have HL3 := Lib.hid hl3
  have hbox : Below w.heap.size w (w.alloc (.cells #[.string T, .slice a n cap, .slice a2 n2 cap2, .slice a3 n3 cap3] 25)) := below_alloc _
  clear hT hl hl2 hl3
  obtain ⟨K, hK⟩ : ∃ K, (fun (e : Ending) (w' : World) => e = .returned (.bool true) ∧ Below w.heap.size w w') = K := ⟨_, rfl⟩
  have HKT : Hid (∀ w', Below w.heap.size w w' → K (.returned (.bool true)) w') := by show ∀ _, _; intro w' h; rw [← hK]; exact ⟨rfl, h⟩
  rw [hK]
  clear hK
  go_enter Tryz.func3, Tryz.ntmps3
  go_wp2_with fail
  go_quiet (fail)
  have HB := drewN_below hbox nq
  clear hbox
  generalize (w.alloc (.cells #[.string T, .slice a n cap, .slice a2 n2 cap2, .slice a3 n3 cap3] 25)).drewN nq = w2 at HB ⊢
  have HB2 := Lib.hid HB
  clear HB
  by_cases ht : 1000 < tl
  · go_wp2_with (first | (go_at_call 5; refine (known_any _).mono ?_; rintro e w9 ⟨rfl, hb9⟩; have HB9 := Lib.hid (HB2.out.trans (hb9.mono HB2.out.size)); clear hb9))
    exact HKT.out _ HB9.out
  · go_wp2_with fail
    have hb3 := HB2.out.alloc HB2.out.size (.cells #[.string ⟨#[]⟩, .slice a n cap, .slice none 0 0, .bool false, .string ⟨#[]⟩, .slice a2 n2 cap2, .slice none 0 0, .bool false] 28)
    refine (long_any _ a a2 ps qs n cap n2 cap2 _ hn hn2 (HL.out.mono hb3) (HL2.out.mono hb3) (RowAt.new _ _ _)).mono ?_
    rintro e _ ⟨rfl | ⟨rfl, hs1, hs2⟩, rfl⟩
    · have HB3 := Lib.hid hb3
      clear hb3
      go_wp2_with (first | (go_at_call 5; refine (known_any _).mono ?_; rintro e w9 ⟨rfl, hb9⟩; have HB9 := Lib.hid (HB3.out.trans (hb9.mono HB3.out.size)); clear hb9))
      exact HKT.out _ HB9.out
    · generalize w2.alloc (.cells #[.string ⟨#[]⟩, .slice a n cap, .slice none 0 0, .bool false, .string ⟨#[]⟩, .slice a2 n2 cap2, .slice none 0 0, .bool false] 28) = W3 at hb3 ⊢
      have HB3 := Lib.hid hb3
      clear hb3
      by_cases hlong : 1000 < n3
      · clear hs1 hs2
        go_wp2_with (first | (go_at_call 5; refine (known_any _).mono ?_; rintro e w9 ⟨rfl, hb9⟩; have HB9 := Lib.hid (HB3.out.trans (hb9.mono HB3.out.size)); clear hb9))
        exact HKT.out _ HB9.out
      · have h20 := hs1.1
        have h20' := hs2.1
        have HPL : Hid (∀ p ∈ ps, p.s.length ≤ 1000000) := fun p hp => by have := hs1.2 p hp; omega
        have HPL2 : Hid (∀ p ∈ qs, p.s.length ≤ 1000000) := fun p hp => by have := hs2.2 p hp; omega
        have HTM : Hid (t.length ≤ 1000000) := by show _ ≤ _; rw [← HTL.out]; omega
        clear hs1 hs2
        obtain ⟨Q, hQ⟩ : ∃ Q, cmpK ps qs = Q := ⟨_, rfl⟩
        have hq1 : -1 ≤ Q := by have := cmpK_in ps qs; omega
        have hq2 : Q ≤ 1 := by have := cmpK_in ps qs; omega
        have HRC : Hid (∀ W, Below w.heap.size w W → Calls Tryz.prog 8 #[.slice a n cap, .slice a2 n2 cap2] W fun e w' => e = .returned (.int .i64 Q) ∧ Below W.heap.size W w') := fun W hW => by
          have := refcompare_any a a2 ps qs n cap n2 cap2 W hn hn2 hc hc2 (by omega) (by omega) (HL.out.mono hW) (HL2.out.mono hW)
          rwa [hQ] at this
        have HPC : Hid (∀ W, Below w.heap.size w W → Calls Tryz.prog 9 #[.slice a n cap, .slice a2 n2 cap2] W fun e w' => e = .returned (.int .i64 Q) ∧ Below W.heap.size W w') := fun W hW => by
          have := compare_any a a2 ps qs n cap n2 cap2 W hn hn2 (by omega) (by omega) (HL.out.mono hW) (HL2.out.mono hW)
          rwa [hQ] at this
        have HPC2 : Hid (∀ W, Below w.heap.size w W → Calls Tryz.prog 9 #[.slice a2 n2 cap2, .slice a n cap] W fun e w' => e = .returned (.int .i64 (-Q)) ∧ Below W.heap.size W w') := fun W hW => by
          have := compare_any a2 a qs ps n2 cap2 n cap W hn2 hn (by omega) (by omega) (HL2.out.mono hW) (HL.out.mono hW)
          rwa [cmpK_neg ps qs, hQ] at this
        have HQ := Lib.hid hQ
        obtain ⟨KX, hKX⟩ : ∃ k, encs (tab t :: ps) = k := ⟨_, rfl⟩
        obtain ⟨KY, hKY⟩ : ∃ k, encs (tab t :: qs) = k := ⟨_, rfl⟩
        obtain ⟨SX, hSX⟩ : ∃ s, str KX = s := ⟨_, rfl⟩
        obtain ⟨SY, hSY⟩ : ∃ s, str KY = s := ⟨_, rfl⟩
        obtain ⟨LX, hLX⟩ : ∃ l, KX.length = l := ⟨_, rfl⟩
        obtain ⟨LY, hLY⟩ : ∃ l, KY.length = l := ⟨_, rfl⟩
        have HKX := Lib.hid hKX
        have HKY := Lib.hid hKY
        have HSX := Lib.hid hSX
        have HSY := Lib.hid hSY
        have HLX : Hid (LX = KX.length) := hLX.symm
        have HLY : Hid (LY = KY.length) := hLY.symm
        cases hk1 : keyOk t ps with
        | true =>
          cases hk2 : keyOk t qs with
          | true =>
            have HK1 : Hid (∀ W, Below w.heap.size w W → Calls Tryz.prog 6 #[.string T, .slice a n cap] W fun e w' => Below W.heap.size W w' ∧ ∃ x c, e = .returned (.tuple #[.slice x LX c, .int .i64 0]) ∧ LX ≤ c ∧ RdB w' x KX) := fun W hW => by
              have := key_t HT.out hn hc (by omega) hok HPL HTM hk1 W (HL.out.mono hW)
              rwa [hKX, hLX] at this
            have HR1 : Hid (∀ W, Below w.heap.size w W → Calls Tryz.prog 7 #[.string T, .slice a n cap] W fun e w' => Below W.heap.size W w' ∧ ∃ x c, e = .returned (.tuple #[.slice x LX c, .bool true]) ∧ LX ≤ c ∧ RdB w' x KX) := fun W hW => by
              have := refkey_t HT.out hn hc (by omega) hok HPL HTM hk1 W (HL.out.mono hW)
              rwa [hKX, hLX] at this
            have HK2 : Hid (∀ W, Below w.heap.size w W → Calls Tryz.prog 6 #[.string T, .slice a2 n2 cap2] W fun e w' => Below W.heap.size W w' ∧ ∃ x c, e = .returned (.tuple #[.slice x LY c, .int .i64 0]) ∧ LY ≤ c ∧ RdB w' x KY) := fun W hW => by
              have := key_t HT.out hn2 hc2 (by omega) hok2 HPL2 HTM hk2 W (HL2.out.mono hW)
              rwa [hKY, hLY] at this
            have HR2 : Hid (∀ W, Below w.heap.size w W → Calls Tryz.prog 7 #[.string T, .slice a2 n2 cap2] W fun e w' => Below W.heap.size W w' ∧ ∃ x c, e = .returned (.tuple #[.slice x LY c, .bool true]) ∧ LY ≤ c ∧ RdB w' x KY) := fun W hW => by
              have := refkey_t HT.out hn2 hc2 (by omega) hok2 HPL2 HTM hk2 W (HL2.out.mono hW)
              rwa [hKY, hLY] at this
            have HQ1 := Lib.hid hk1
            have HQ2 := Lib.hid hk2
            clear hk1 hk2 hQ hKX hKY hSX hSY hLX hLY
            go_wp2_with fail
            refine (HK1.out W3 HB3.out).mono ?_
            rintro e W4 ⟨hb, x1, cx1, rfl, hxx1, hr⟩
            have HB4 := Lib.hid (HB3.out.trans (hb.mono HB3.out.size))
            have Hx1 := Lib.hid hr
            clear hr
            clear hb
            go_wp2_with fail
            refine (HK2.out W4 HB4.out).mono ?_
            rintro e W5 ⟨hb, x2, cx2, rfl, hxx2, hr⟩
            have HB5 := Lib.hid (HB4.out.trans (hb.mono HB4.out.size))
            have Hx1 := Lib.hid (Hx1.out.mono hb)
            have Hx2 := Lib.hid hr
            clear hr
            clear hb
            go_wp2_with fail
            refine (HR1.out W5 HB5.out).mono ?_
            rintro e W6 ⟨hb, u1, cu1, rfl, hxu1, hr⟩
            have HB6 := Lib.hid (HB5.out.trans (hb.mono HB5.out.size))
            have Hx1 := Lib.hid (Hx1.out.mono hb)
            have Hx2 := Lib.hid (Hx2.out.mono hb)
            have Hu1 := Lib.hid hr
            clear hr
            clear hb
            go_wp2_with fail
            refine (HR2.out W6 HB6.out).mono ?_
            rintro e W7 ⟨hb, u2, cu2, rfl, hxu2, hr⟩
            have HB7 := Lib.hid (HB6.out.trans (hb.mono HB6.out.size))
            have Hx1 := Lib.hid (Hx1.out.mono hb)
            have Hx2 := Lib.hid (Hx2.out.mono hb)
            have Hu1 := Lib.hid (Hu1.out.mono hb)
            have Hu2 := Lib.hid hr
            clear hr
            clear hb
            go_wp2_with fail
            refine (HRC.out W7 HB7.out).mono ?_
            rintro e W8 ⟨rfl, hb⟩
            have HB8 := Lib.hid (HB7.out.trans (hb.mono HB7.out.size))
            have Hx1 := Lib.hid (Hx1.out.mono hb)
            have Hx2 := Lib.hid (Hx2.out.mono hb)
            have Hu1 := Lib.hid (Hu1.out.mono hb)
            have Hu2 := Lib.hid (Hu2.out.mono hb)
            clear hb
            have hcx := conv_any x1 KX LX cx1 SX HLX.out HSX.out W8 Hx1.out
            have hcu := conv_any u1 KX LX cu1 SX HLX.out HSX.out W8 Hu1.out
            have hcy := conv_any x2 KY LY cx2 SY HLY.out HSY.out W8 Hx2.out
            have hcv := conv_any u2 KY LY cu2 SY HLY.out HSY.out W8 Hu2.out
            go_wp2_with fail
            refine (HPC.out W8 HB8.out).mono ?_
            rintro e W9 ⟨rfl, hb⟩
            have HB9 := Lib.hid (HB8.out.trans (hb.mono HB8.out.size))
            have Hx1 := Lib.hid (Hx1.out.mono hb)
            have Hx2 := Lib.hid (Hx2.out.mono hb)
            have Hu1 := Lib.hid (Hu1.out.mono hb)
            have Hu2 := Lib.hid (Hu2.out.mono hb)
            clear hb
            go_wp2_with fail
            refine (HPC2.out W9 HB9.out).mono ?_
            rintro e W10 ⟨rfl, hb⟩
            have HB10 := Lib.hid (HB9.out.trans (hb.mono HB9.out.size))
            have Hx1 := Lib.hid (Hx1.out.mono hb)
            have Hx2 := Lib.hid (Hx2.out.mono hb)
            have Hu1 := Lib.hid (Hu1.out.mono hb)
            have Hu2 := Lib.hid (Hu2.out.mono hb)
            clear hb
            have hcx2 := conv_any x1 KX LX cx1 SX HLX.out HSX.out W10 Hx1.out
            have hcy2 := conv_any x2 KY LY cx2 SY HLY.out HSY.out W10 Hx2.out
            clear hcx hcu hcy hcv
            have hord : cmpL KX KY = Q := by rw [← HKX.out, ← HKY.out, keys_order HQ1.out HQ2.out hok.out hok2.out, HQ.out]
            have hSXL : SX.toList = KX := by rw [← HSX.out, str_toList]
            have hSYL : SY.toList = KY := by rw [← HSY.out, str_toList]
            rcases cmpL_in KX KY with ⟨hv, hlt⟩ | ⟨hv, he⟩ | ⟨hv, hgt⟩
            · obtain rfl : -1 = Q := hv.symm.trans hord
              have hl1 : Op.bytesLess SX.toList SY.toList = true := by rw [hSXL, hSYL]; exact hlt
              clear hord hSXL hSYL hv hlt
              go_wp2_with fail
              refine (parts_any x1 KX LX cx1 W10 HLX hxx1 Hx1.out).mono ?_
              rintro e W11 ⟨hb11, ⟨t1, l1, v1, hp1, rfl, ho1⟩ | ⟨hp1, _⟩⟩
              · have HB11 := Lib.hid (HB10.out.trans (hb11.mono HB10.out.size))
                rw [← HKX.out, partsOf_key HQ1.out hok.out] at hp1
                obtain ⟨rfl, rfl⟩ := Prod.mk.inj (Option.some.inj hp1)
                obtain ⟨a9, c9, rfl, hc9, hr9⟩ := Rd.of_own ho1
                rw [HT.out, ← hn.out]
                have HSK := Lib.hid (samekey_any a9 a ps ps n c9 n cap W11 hn hn (by omega) hr9 (HL.out.mono HB11.out) true ⟨fun _ => rfl, fun _ => rfl⟩)
                clear hb11 hp1 ho1 hr9 hc9
                go_wp2_with fail
                refine HSK.out.mono ?_
                rintro e W12 ⟨rfl, hb12⟩
                have HB12 := Lib.hid (HB11.out.trans (hb12.mono HB11.out.size))
                clear hb12
                go_wp2_with fail
                refine (parts_any a3 b n3 cap3 W12 hn3 hc3 (HL3.out.mono HB12.out)).mono ?_
                rintro e W20 ⟨hb20, ⟨t1, l1, v1, hp1, rfl, ho1⟩ | ⟨hp1, rfl⟩⟩
                · have HB20 := Lib.hid (HB12.out.trans (hb20.mono HB12.out.size))
                  obtain ⟨hkk, hbb, hok1, hlen1, htl1, hl8⟩ := partsOf_fine hp1
                  obtain ⟨a9, c9, rfl, hc9, hr9⟩ := Rd.of_own ho1
                  obtain ⟨T1, hT1⟩ : ∃ s, str t1 = s := ⟨_, rfl⟩
                  rw [hT1]
                  obtain ⟨SB, hSB⟩ : ∃ s, str b = s := ⟨_, rfl⟩
                  have hcall := refkey_t (a := a9) (cap := c9) hT1 (show Hid (l1.length = l1.length) from rfl) hc9 (by omega) hok1 hlen1 htl1 hkk W20 hr9
                  rw [hbb, ← hn3.out] at hcall
                  have HC := Lib.hid hcall
                  obtain ⟨m1, hm1⟩ : ∃ m, l1.length = m := ⟨_, rfl⟩
                  rw [hm1] at HC ⊢
                  have HSB := Lib.hid hSB
                  clear hb20 hp1 hkk hbb hok1 hlen1 ho1 hr9 hT1 hcall hSB hm1 hc9 htl1 hl8
                  go_wp2_with fail
                  refine HC.out.mono ?_
                  rintro e W21 ⟨hb21, y1, d1, rfl, hy1, hr21⟩
                  have HB21 := Lib.hid (HB20.out.trans (hb21.mono HB20.out.size))
                  have hcv1 := conv_any y1 b n3 d1 SB hn3.out HSB.out W21 hr21
                  have hcv2 := conv_any a3 b n3 cap3 SB hn3.out HSB.out W21 (HL3.out.mono HB21.out)
                  clear hb21 hr21
                  go_wp2_with (first | (go_at_call 5; refine (known_any _).mono ?_; rintro e w9 ⟨rfl, hb9⟩; have HB9 := Lib.hid (HB21.out.trans (hb9.mono HB21.out.size)); clear hb9))
                  exact HKT.out _ HB9.out
                · have HB20 := Lib.hid (HB12.out.trans (hb20.mono HB12.out.size))
                  clear hb20 hp1
                  go_wp2_with (first | (go_at_call 5; refine (known_any _).mono ?_; rintro e w9 ⟨rfl, hb9⟩; have HB9 := Lib.hid (HB20.out.trans (hb9.mono HB20.out.size)); clear hb9))
                  exact HKT.out _ HB9.out
              · rw [← HKX.out, partsOf_key HQ1.out hok.out] at hp1
                cases hp1
            · obtain rfl : 0 = Q := hv.symm.trans hord
              have hl1 : Op.bytesLess SX.toList SY.toList = false := by rw [hSXL, hSYL, he]; exact bl_irrefl _
              have hl2 : (SX.toList == SY.toList) = true := by rw [hSXL, hSYL, he]; simp
              clear hord hSXL hSYL hv he
              go_wp2_with fail
              refine (parts_any x1 KX LX cx1 W10 HLX hxx1 Hx1.out).mono ?_
              rintro e W11 ⟨hb11, ⟨t1, l1, v1, hp1, rfl, ho1⟩ | ⟨hp1, _⟩⟩
              · have HB11 := Lib.hid (HB10.out.trans (hb11.mono HB10.out.size))
                rw [← HKX.out, partsOf_key HQ1.out hok.out] at hp1
                obtain ⟨rfl, rfl⟩ := Prod.mk.inj (Option.some.inj hp1)
                obtain ⟨a9, c9, rfl, hc9, hr9⟩ := Rd.of_own ho1
                rw [HT.out, ← hn.out]
                have HSK := Lib.hid (samekey_any a9 a ps ps n c9 n cap W11 hn hn (by omega) hr9 (HL.out.mono HB11.out) true ⟨fun _ => rfl, fun _ => rfl⟩)
                clear hb11 hp1 ho1 hr9 hc9
                go_wp2_with fail
                refine HSK.out.mono ?_
                rintro e W12 ⟨rfl, hb12⟩
                have HB12 := Lib.hid (HB11.out.trans (hb12.mono HB11.out.size))
                clear hb12
                go_wp2_with fail
                refine (parts_any a3 b n3 cap3 W12 hn3 hc3 (HL3.out.mono HB12.out)).mono ?_
                rintro e W20 ⟨hb20, ⟨t1, l1, v1, hp1, rfl, ho1⟩ | ⟨hp1, rfl⟩⟩
                · have HB20 := Lib.hid (HB12.out.trans (hb20.mono HB12.out.size))
                  obtain ⟨hkk, hbb, hok1, hlen1, htl1, hl8⟩ := partsOf_fine hp1
                  obtain ⟨a9, c9, rfl, hc9, hr9⟩ := Rd.of_own ho1
                  obtain ⟨T1, hT1⟩ : ∃ s, str t1 = s := ⟨_, rfl⟩
                  rw [hT1]
                  obtain ⟨SB, hSB⟩ : ∃ s, str b = s := ⟨_, rfl⟩
                  have hcall := refkey_t (a := a9) (cap := c9) hT1 (show Hid (l1.length = l1.length) from rfl) hc9 (by omega) hok1 hlen1 htl1 hkk W20 hr9
                  rw [hbb, ← hn3.out] at hcall
                  have HC := Lib.hid hcall
                  obtain ⟨m1, hm1⟩ : ∃ m, l1.length = m := ⟨_, rfl⟩
                  rw [hm1] at HC ⊢
                  have HSB := Lib.hid hSB
                  clear hb20 hp1 hkk hbb hok1 hlen1 ho1 hr9 hT1 hcall hSB hm1 hc9 htl1 hl8
                  go_wp2_with fail
                  refine HC.out.mono ?_
                  rintro e W21 ⟨hb21, y1, d1, rfl, hy1, hr21⟩
                  have HB21 := Lib.hid (HB20.out.trans (hb21.mono HB20.out.size))
                  have hcv1 := conv_any y1 b n3 d1 SB hn3.out HSB.out W21 hr21
                  have hcv2 := conv_any a3 b n3 cap3 SB hn3.out HSB.out W21 (HL3.out.mono HB21.out)
                  clear hb21 hr21
                  go_wp2_with (first | (go_at_call 5; refine (known_any _).mono ?_; rintro e w9 ⟨rfl, hb9⟩; have HB9 := Lib.hid (HB21.out.trans (hb9.mono HB21.out.size)); clear hb9))
                  exact HKT.out _ HB9.out
                · have HB20 := Lib.hid (HB12.out.trans (hb20.mono HB12.out.size))
                  clear hb20 hp1
                  go_wp2_with (first | (go_at_call 5; refine (known_any _).mono ?_; rintro e w9 ⟨rfl, hb9⟩; have HB9 := Lib.hid (HB20.out.trans (hb9.mono HB20.out.size)); clear hb9))
                  exact HKT.out _ HB9.out
              · rw [← HKX.out, partsOf_key HQ1.out hok.out] at hp1
                cases hp1
            · obtain rfl : 1 = Q := hv.symm.trans hord
              have hl1 : Op.bytesLess SX.toList SY.toList = false := by rw [hSXL, hSYL]; exact bl_asymm _ _ hgt
              have hl2 : (SX.toList == SY.toList) = false := by
                rw [hSXL, hSYL]
                have hne : KX ≠ KY := fun e => by rw [e, bl_irrefl] at hgt; cases hgt
                simp [hne]
              clear hord hSXL hSYL hv hgt
              go_wp2_with fail
              refine (parts_any x1 KX LX cx1 W10 HLX hxx1 Hx1.out).mono ?_
              rintro e W11 ⟨hb11, ⟨t1, l1, v1, hp1, rfl, ho1⟩ | ⟨hp1, _⟩⟩
              · have HB11 := Lib.hid (HB10.out.trans (hb11.mono HB10.out.size))
                rw [← HKX.out, partsOf_key HQ1.out hok.out] at hp1
                obtain ⟨rfl, rfl⟩ := Prod.mk.inj (Option.some.inj hp1)
                obtain ⟨a9, c9, rfl, hc9, hr9⟩ := Rd.of_own ho1
                rw [HT.out, ← hn.out]
                have HSK := Lib.hid (samekey_any a9 a ps ps n c9 n cap W11 hn hn (by omega) hr9 (HL.out.mono HB11.out) true ⟨fun _ => rfl, fun _ => rfl⟩)
                clear hb11 hp1 ho1 hr9 hc9
                go_wp2_with fail
                refine HSK.out.mono ?_
                rintro e W12 ⟨rfl, hb12⟩
                have HB12 := Lib.hid (HB11.out.trans (hb12.mono HB11.out.size))
                clear hb12
                go_wp2_with fail
                refine (parts_any a3 b n3 cap3 W12 hn3 hc3 (HL3.out.mono HB12.out)).mono ?_
                rintro e W20 ⟨hb20, ⟨t1, l1, v1, hp1, rfl, ho1⟩ | ⟨hp1, rfl⟩⟩
                · have HB20 := Lib.hid (HB12.out.trans (hb20.mono HB12.out.size))
                  obtain ⟨hkk, hbb, hok1, hlen1, htl1, hl8⟩ := partsOf_fine hp1
                  obtain ⟨a9, c9, rfl, hc9, hr9⟩ := Rd.of_own ho1
                  obtain ⟨T1, hT1⟩ : ∃ s, str t1 = s := ⟨_, rfl⟩
                  rw [hT1]
                  obtain ⟨SB, hSB⟩ : ∃ s, str b = s := ⟨_, rfl⟩
                  have hcall := refkey_t (a := a9) (cap := c9) hT1 (show Hid (l1.length = l1.length) from rfl) hc9 (by omega) hok1 hlen1 htl1 hkk W20 hr9
                  rw [hbb, ← hn3.out] at hcall
                  have HC := Lib.hid hcall
                  obtain ⟨m1, hm1⟩ : ∃ m, l1.length = m := ⟨_, rfl⟩
                  rw [hm1] at HC ⊢
                  have HSB := Lib.hid hSB
                  clear hb20 hp1 hkk hbb hok1 hlen1 ho1 hr9 hT1 hcall hSB hm1 hc9 htl1 hl8
                  go_wp2_with fail
                  refine HC.out.mono ?_
                  rintro e W21 ⟨hb21, y1, d1, rfl, hy1, hr21⟩
                  have HB21 := Lib.hid (HB20.out.trans (hb21.mono HB20.out.size))
                  have hcv1 := conv_any y1 b n3 d1 SB hn3.out HSB.out W21 hr21
                  have hcv2 := conv_any a3 b n3 cap3 SB hn3.out HSB.out W21 (HL3.out.mono HB21.out)
                  clear hb21 hr21
                  go_wp2_with (first | (go_at_call 5; refine (known_any _).mono ?_; rintro e w9 ⟨rfl, hb9⟩; have HB9 := Lib.hid (HB21.out.trans (hb9.mono HB21.out.size)); clear hb9))
                  exact HKT.out _ HB9.out
                · have HB20 := Lib.hid (HB12.out.trans (hb20.mono HB12.out.size))
                  clear hb20 hp1
                  go_wp2_with (first | (go_at_call 5; refine (known_any _).mono ?_; rintro e w9 ⟨rfl, hb9⟩; have HB9 := Lib.hid (HB20.out.trans (hb9.mono HB20.out.size)); clear hb9))
                  exact HKT.out _ HB9.out
              · rw [← HKX.out, partsOf_key HQ1.out hok.out] at hp1
                cases hp1
          | false =>
            have HK1 : Hid (∀ W, Below w.heap.size w W → Calls Tryz.prog 6 #[.string T, .slice a n cap] W fun e w' => Below W.heap.size W w' ∧ ∃ x c, e = .returned (.tuple #[.slice x LX c, .int .i64 0]) ∧ LX ≤ c ∧ RdB w' x KX) := fun W hW => by
              have := key_t HT.out hn hc (by omega) hok HPL HTM hk1 W (HL.out.mono hW)
              rwa [hKX, hLX] at this
            have HR1 : Hid (∀ W, Below w.heap.size w W → Calls Tryz.prog 7 #[.string T, .slice a n cap] W fun e w' => Below W.heap.size W w' ∧ ∃ x c, e = .returned (.tuple #[.slice x LX c, .bool true]) ∧ LX ≤ c ∧ RdB w' x KX) := fun W hW => by
              have := refkey_t HT.out hn hc (by omega) hok HPL HTM hk1 W (HL.out.mono hW)
              rwa [hKX, hLX] at this
            have HK2 : Hid (∀ W, Below w.heap.size w W → Calls Tryz.prog 6 #[.string T, .slice a2 n2 cap2] W fun e w' => Below W.heap.size W w' ∧ e = .returned (.tuple #[.slice none 0 0, .int .i64 2])) := fun W hW =>
              key_f HT.out hn2 hc2 (by omega) hok2 HPL2 HTM hk2 W (HL2.out.mono hW)
            have HR2 : Hid (∀ W, Below w.heap.size w W → Calls Tryz.prog 7 #[.string T, .slice a2 n2 cap2] W fun e w' => Below W.heap.size W w' ∧ e = .returned (.tuple #[.slice none 0 0, .bool false])) := fun W hW =>
              refkey_f HT.out hn2 hc2 (by omega) hok2 HPL2 HTM hk2 W (HL2.out.mono hW)
            have HQ1 := Lib.hid hk1
            have HQ2 := Lib.hid hk2
            clear hk1 hk2 hQ hKX hKY hSX hSY hLX hLY
            go_wp2_with fail
            refine (HK1.out W3 HB3.out).mono ?_
            rintro e W4 ⟨hb, x1, cx1, rfl, hxx1, hr⟩
            have HB4 := Lib.hid (HB3.out.trans (hb.mono HB3.out.size))
            have Hx1 := Lib.hid hr
            clear hr
            clear hb
            go_wp2_with fail
            refine (HK2.out W4 HB4.out).mono ?_
            rintro e W5 ⟨hb, rfl⟩
            have HB5 := Lib.hid (HB4.out.trans (hb.mono HB4.out.size))
            have Hx1 := Lib.hid (Hx1.out.mono hb)
            clear hb
            go_wp2_with fail
            refine (HR1.out W5 HB5.out).mono ?_
            rintro e W6 ⟨hb, u1, cu1, rfl, hxu1, hr⟩
            have HB6 := Lib.hid (HB5.out.trans (hb.mono HB5.out.size))
            have Hx1 := Lib.hid (Hx1.out.mono hb)
            have Hu1 := Lib.hid hr
            clear hr
            clear hb
            go_wp2_with fail
            refine (HR2.out W6 HB6.out).mono ?_
            rintro e W7 ⟨hb, rfl⟩
            have HB7 := Lib.hid (HB6.out.trans (hb.mono HB6.out.size))
            have Hx1 := Lib.hid (Hx1.out.mono hb)
            have Hu1 := Lib.hid (Hu1.out.mono hb)
            clear hb
            go_wp2_with fail
            refine (HRC.out W7 HB7.out).mono ?_
            rintro e W8 ⟨rfl, hb⟩
            have HB8 := Lib.hid (HB7.out.trans (hb.mono HB7.out.size))
            have Hx1 := Lib.hid (Hx1.out.mono hb)
            have Hu1 := Lib.hid (Hu1.out.mono hb)
            clear hb
            have hcx := conv_any x1 KX LX cx1 SX HLX.out HSX.out W8 Hx1.out
            have hcu := conv_any u1 KX LX cu1 SX HLX.out HSX.out W8 Hu1.out
            have hcn := conv_any none [] 0 0 ⟨#[]⟩ rfl rfl W8 (.inl rfl)
            go_wp2_with fail
            refine (HPC.out W8 HB8.out).mono ?_
            rintro e W9 ⟨rfl, hb⟩
            have HB9 := Lib.hid (HB8.out.trans (hb.mono HB8.out.size))
            have Hx1 := Lib.hid (Hx1.out.mono hb)
            have Hu1 := Lib.hid (Hu1.out.mono hb)
            clear hb
            go_wp2_with fail
            refine (HPC2.out W9 HB9.out).mono ?_
            rintro e W10 ⟨rfl, hb⟩
            have HB10 := Lib.hid (HB9.out.trans (hb.mono HB9.out.size))
            have Hx1 := Lib.hid (Hx1.out.mono hb)
            have Hu1 := Lib.hid (Hu1.out.mono hb)
            clear hb
            clear hcn hcx hcu
            go_wp2_with fail
            refine (parts_any x1 KX LX cx1 W10 HLX hxx1 Hx1.out).mono ?_
            rintro e W11 ⟨hb11, ⟨t1, l1, v1, hp1, rfl, ho1⟩ | ⟨hp1, _⟩⟩
            · have HB11 := Lib.hid (HB10.out.trans (hb11.mono HB10.out.size))
              rw [← HKX.out, partsOf_key HQ1.out hok.out] at hp1
              obtain ⟨rfl, rfl⟩ := Prod.mk.inj (Option.some.inj hp1)
              obtain ⟨a9, c9, rfl, hc9, hr9⟩ := Rd.of_own ho1
              rw [HT.out, ← hn.out]
              have HSK := Lib.hid (samekey_any a9 a ps ps n c9 n cap W11 hn hn (by omega) hr9 (HL.out.mono HB11.out) true ⟨fun _ => rfl, fun _ => rfl⟩)
              clear hb11 hp1 ho1 hr9 hc9
              go_wp2_with fail
              refine HSK.out.mono ?_
              rintro e W12 ⟨rfl, hb12⟩
              have HB12 := Lib.hid (HB11.out.trans (hb12.mono HB11.out.size))
              clear hb12
              go_wp2_with fail
              refine (parts_any a3 b n3 cap3 W12 hn3 hc3 (HL3.out.mono HB12.out)).mono ?_
              rintro e W20 ⟨hb20, ⟨t1, l1, v1, hp1, rfl, ho1⟩ | ⟨hp1, rfl⟩⟩
              · have HB20 := Lib.hid (HB12.out.trans (hb20.mono HB12.out.size))
                obtain ⟨hkk, hbb, hok1, hlen1, htl1, hl8⟩ := partsOf_fine hp1
                obtain ⟨a9, c9, rfl, hc9, hr9⟩ := Rd.of_own ho1
                obtain ⟨T1, hT1⟩ : ∃ s, str t1 = s := ⟨_, rfl⟩
                rw [hT1]
                obtain ⟨SB, hSB⟩ : ∃ s, str b = s := ⟨_, rfl⟩
                have hcall := refkey_t (a := a9) (cap := c9) hT1 (show Hid (l1.length = l1.length) from rfl) hc9 (by omega) hok1 hlen1 htl1 hkk W20 hr9
                rw [hbb, ← hn3.out] at hcall
                have HC := Lib.hid hcall
                obtain ⟨m1, hm1⟩ : ∃ m, l1.length = m := ⟨_, rfl⟩
                rw [hm1] at HC ⊢
                have HSB := Lib.hid hSB
                clear hb20 hp1 hkk hbb hok1 hlen1 ho1 hr9 hT1 hcall hSB hm1 hc9 htl1 hl8
                go_wp2_with fail
                refine HC.out.mono ?_
                rintro e W21 ⟨hb21, y1, d1, rfl, hy1, hr21⟩
                have HB21 := Lib.hid (HB20.out.trans (hb21.mono HB20.out.size))
                have hcv1 := conv_any y1 b n3 d1 SB hn3.out HSB.out W21 hr21
                have hcv2 := conv_any a3 b n3 cap3 SB hn3.out HSB.out W21 (HL3.out.mono HB21.out)
                clear hb21 hr21
                go_wp2_with (first | (go_at_call 5; refine (known_any _).mono ?_; rintro e w9 ⟨rfl, hb9⟩; have HB9 := Lib.hid (HB21.out.trans (hb9.mono HB21.out.size)); clear hb9))
                exact HKT.out _ HB9.out
              · have HB20 := Lib.hid (HB12.out.trans (hb20.mono HB12.out.size))
                clear hb20 hp1
                go_wp2_with (first | (go_at_call 5; refine (known_any _).mono ?_; rintro e w9 ⟨rfl, hb9⟩; have HB9 := Lib.hid (HB20.out.trans (hb9.mono HB20.out.size)); clear hb9))
                exact HKT.out _ HB9.out
            · rw [← HKX.out, partsOf_key HQ1.out hok.out] at hp1
              cases hp1
        | false =>
          cases hk2 : keyOk t qs with
          | true =>
            have HK1 : Hid (∀ W, Below w.heap.size w W → Calls Tryz.prog 6 #[.string T, .slice a n cap] W fun e w' => Below W.heap.size W w' ∧ e = .returned (.tuple #[.slice none 0 0, .int .i64 2])) := fun W hW =>
              key_f HT.out hn hc (by omega) hok HPL HTM hk1 W (HL.out.mono hW)
            have HR1 : Hid (∀ W, Below w.heap.size w W → Calls Tryz.prog 7 #[.string T, .slice a n cap] W fun e w' => Below W.heap.size W w' ∧ e = .returned (.tuple #[.slice none 0 0, .bool false])) := fun W hW =>
              refkey_f HT.out hn hc (by omega) hok HPL HTM hk1 W (HL.out.mono hW)
            have HK2 : Hid (∀ W, Below w.heap.size w W → Calls Tryz.prog 6 #[.string T, .slice a2 n2 cap2] W fun e w' => Below W.heap.size W w' ∧ ∃ x c, e = .returned (.tuple #[.slice x LY c, .int .i64 0]) ∧ LY ≤ c ∧ RdB w' x KY) := fun W hW => by
              have := key_t HT.out hn2 hc2 (by omega) hok2 HPL2 HTM hk2 W (HL2.out.mono hW)
              rwa [hKY, hLY] at this
            have HR2 : Hid (∀ W, Below w.heap.size w W → Calls Tryz.prog 7 #[.string T, .slice a2 n2 cap2] W fun e w' => Below W.heap.size W w' ∧ ∃ x c, e = .returned (.tuple #[.slice x LY c, .bool true]) ∧ LY ≤ c ∧ RdB w' x KY) := fun W hW => by
              have := refkey_t HT.out hn2 hc2 (by omega) hok2 HPL2 HTM hk2 W (HL2.out.mono hW)
              rwa [hKY, hLY] at this
            have HQ1 := Lib.hid hk1
            have HQ2 := Lib.hid hk2
            clear hk1 hk2 hQ hKX hKY hSX hSY hLX hLY
            go_wp2_with fail
            refine (HK1.out W3 HB3.out).mono ?_
            rintro e W4 ⟨hb, rfl⟩
            have HB4 := Lib.hid (HB3.out.trans (hb.mono HB3.out.size))
            clear hb
            go_wp2_with fail
            refine (HK2.out W4 HB4.out).mono ?_
            rintro e W5 ⟨hb, x2, cx2, rfl, hxx2, hr⟩
            have HB5 := Lib.hid (HB4.out.trans (hb.mono HB4.out.size))
            have Hx2 := Lib.hid hr
            clear hr
            clear hb
            go_wp2_with fail
            refine (HR1.out W5 HB5.out).mono ?_
            rintro e W6 ⟨hb, rfl⟩
            have HB6 := Lib.hid (HB5.out.trans (hb.mono HB5.out.size))
            have Hx2 := Lib.hid (Hx2.out.mono hb)
            clear hb
            go_wp2_with fail
            refine (HR2.out W6 HB6.out).mono ?_
            rintro e W7 ⟨hb, u2, cu2, rfl, hxu2, hr⟩
            have HB7 := Lib.hid (HB6.out.trans (hb.mono HB6.out.size))
            have Hx2 := Lib.hid (Hx2.out.mono hb)
            have Hu2 := Lib.hid hr
            clear hr
            clear hb
            go_wp2_with fail
            refine (HRC.out W7 HB7.out).mono ?_
            rintro e W8 ⟨rfl, hb⟩
            have HB8 := Lib.hid (HB7.out.trans (hb.mono HB7.out.size))
            have Hx2 := Lib.hid (Hx2.out.mono hb)
            have Hu2 := Lib.hid (Hu2.out.mono hb)
            clear hb
            have hcy := conv_any x2 KY LY cx2 SY HLY.out HSY.out W8 Hx2.out
            have hcv := conv_any u2 KY LY cu2 SY HLY.out HSY.out W8 Hu2.out
            have hcn := conv_any none [] 0 0 ⟨#[]⟩ rfl rfl W8 (.inl rfl)
            go_wp2_with fail
            refine (HPC.out W8 HB8.out).mono ?_
            rintro e W9 ⟨rfl, hb⟩
            have HB9 := Lib.hid (HB8.out.trans (hb.mono HB8.out.size))
            have Hx2 := Lib.hid (Hx2.out.mono hb)
            have Hu2 := Lib.hid (Hu2.out.mono hb)
            clear hb
            go_wp2_with fail
            refine (HPC2.out W9 HB9.out).mono ?_
            rintro e W10 ⟨rfl, hb⟩
            have HB10 := Lib.hid (HB9.out.trans (hb.mono HB9.out.size))
            have Hx2 := Lib.hid (Hx2.out.mono hb)
            have Hu2 := Lib.hid (Hu2.out.mono hb)
            clear hb
            clear hcn hcy hcv
            go_wp2_with fail
            refine (parts_any a3 b n3 cap3 W10 hn3 hc3 (HL3.out.mono HB10.out)).mono ?_
            rintro e W20 ⟨hb20, ⟨t1, l1, v1, hp1, rfl, ho1⟩ | ⟨hp1, rfl⟩⟩
            · have HB20 := Lib.hid (HB10.out.trans (hb20.mono HB10.out.size))
              obtain ⟨hkk, hbb, hok1, hlen1, htl1, hl8⟩ := partsOf_fine hp1
              obtain ⟨a9, c9, rfl, hc9, hr9⟩ := Rd.of_own ho1
              obtain ⟨T1, hT1⟩ : ∃ s, str t1 = s := ⟨_, rfl⟩
              rw [hT1]
              obtain ⟨SB, hSB⟩ : ∃ s, str b = s := ⟨_, rfl⟩
              have hcall := refkey_t (a := a9) (cap := c9) hT1 (show Hid (l1.length = l1.length) from rfl) hc9 (by omega) hok1 hlen1 htl1 hkk W20 hr9
              rw [hbb, ← hn3.out] at hcall
              have HC := Lib.hid hcall
              obtain ⟨m1, hm1⟩ : ∃ m, l1.length = m := ⟨_, rfl⟩
              rw [hm1] at HC ⊢
              have HSB := Lib.hid hSB
              clear hb20 hp1 hkk hbb hok1 hlen1 ho1 hr9 hT1 hcall hSB hm1 hc9 htl1 hl8
              go_wp2_with fail
              refine HC.out.mono ?_
              rintro e W21 ⟨hb21, y1, d1, rfl, hy1, hr21⟩
              have HB21 := Lib.hid (HB20.out.trans (hb21.mono HB20.out.size))
              have hcv1 := conv_any y1 b n3 d1 SB hn3.out HSB.out W21 hr21
              have hcv2 := conv_any a3 b n3 cap3 SB hn3.out HSB.out W21 (HL3.out.mono HB21.out)
              clear hb21 hr21
              go_wp2_with (first | (go_at_call 5; refine (known_any _).mono ?_; rintro e w9 ⟨rfl, hb9⟩; have HB9 := Lib.hid (HB21.out.trans (hb9.mono HB21.out.size)); clear hb9))
              exact HKT.out _ HB9.out
            · have HB20 := Lib.hid (HB10.out.trans (hb20.mono HB10.out.size))
              clear hb20 hp1
              go_wp2_with (first | (go_at_call 5; refine (known_any _).mono ?_; rintro e w9 ⟨rfl, hb9⟩; have HB9 := Lib.hid (HB20.out.trans (hb9.mono HB20.out.size)); clear hb9))
              exact HKT.out _ HB9.out
          | false =>
            have HK1 : Hid (∀ W, Below w.heap.size w W → Calls Tryz.prog 6 #[.string T, .slice a n cap] W fun e w' => Below W.heap.size W w' ∧ e = .returned (.tuple #[.slice none 0 0, .int .i64 2])) := fun W hW =>
              key_f HT.out hn hc (by omega) hok HPL HTM hk1 W (HL.out.mono hW)
            have HR1 : Hid (∀ W, Below w.heap.size w W → Calls Tryz.prog 7 #[.string T, .slice a n cap] W fun e w' => Below W.heap.size W w' ∧ e = .returned (.tuple #[.slice none 0 0, .bool false])) := fun W hW =>
              refkey_f HT.out hn hc (by omega) hok HPL HTM hk1 W (HL.out.mono hW)
            have HK2 : Hid (∀ W, Below w.heap.size w W → Calls Tryz.prog 6 #[.string T, .slice a2 n2 cap2] W fun e w' => Below W.heap.size W w' ∧ e = .returned (.tuple #[.slice none 0 0, .int .i64 2])) := fun W hW =>
              key_f HT.out hn2 hc2 (by omega) hok2 HPL2 HTM hk2 W (HL2.out.mono hW)
            have HR2 : Hid (∀ W, Below w.heap.size w W → Calls Tryz.prog 7 #[.string T, .slice a2 n2 cap2] W fun e w' => Below W.heap.size W w' ∧ e = .returned (.tuple #[.slice none 0 0, .bool false])) := fun W hW =>
              refkey_f HT.out hn2 hc2 (by omega) hok2 HPL2 HTM hk2 W (HL2.out.mono hW)
            have HQ1 := Lib.hid hk1
            have HQ2 := Lib.hid hk2
            clear hk1 hk2 hQ hKX hKY hSX hSY hLX hLY
            go_wp2_with fail
            refine (HK1.out W3 HB3.out).mono ?_
            rintro e W4 ⟨hb, rfl⟩
            have HB4 := Lib.hid (HB3.out.trans (hb.mono HB3.out.size))
            clear hb
            go_wp2_with fail
            refine (HK2.out W4 HB4.out).mono ?_
            rintro e W5 ⟨hb, rfl⟩
            have HB5 := Lib.hid (HB4.out.trans (hb.mono HB4.out.size))
            clear hb
            go_wp2_with fail
            refine (HR1.out W5 HB5.out).mono ?_
            rintro e W6 ⟨hb, rfl⟩
            have HB6 := Lib.hid (HB5.out.trans (hb.mono HB5.out.size))
            clear hb
            go_wp2_with fail
            refine (HR2.out W6 HB6.out).mono ?_
            rintro e W7 ⟨hb, rfl⟩
            have HB7 := Lib.hid (HB6.out.trans (hb.mono HB6.out.size))
            clear hb
            go_wp2_with fail
            refine (HRC.out W7 HB7.out).mono ?_
            rintro e W8 ⟨rfl, hb⟩
            have HB8 := Lib.hid (HB7.out.trans (hb.mono HB7.out.size))
            clear hb
            have hcn := conv_any none [] 0 0 ⟨#[]⟩ rfl rfl W8 (.inl rfl)
            go_wp2_with fail
            refine (HPC.out W8 HB8.out).mono ?_
            rintro e W9 ⟨rfl, hb⟩
            have HB9 := Lib.hid (HB8.out.trans (hb.mono HB8.out.size))
            clear hb
            go_wp2_with fail
            refine (HPC2.out W9 HB9.out).mono ?_
            rintro e W10 ⟨rfl, hb⟩
            have HB10 := Lib.hid (HB9.out.trans (hb.mono HB9.out.size))
            clear hb
            clear hcn
            go_wp2_with fail
            refine (parts_any a3 b n3 cap3 W10 hn3 hc3 (HL3.out.mono HB10.out)).mono ?_
            rintro e W20 ⟨hb20, ⟨t1, l1, v1, hp1, rfl, ho1⟩ | ⟨hp1, rfl⟩⟩
            · have HB20 := Lib.hid (HB10.out.trans (hb20.mono HB10.out.size))
              obtain ⟨hkk, hbb, hok1, hlen1, htl1, hl8⟩ := partsOf_fine hp1
              obtain ⟨a9, c9, rfl, hc9, hr9⟩ := Rd.of_own ho1
              obtain ⟨T1, hT1⟩ : ∃ s, str t1 = s := ⟨_, rfl⟩
              rw [hT1]
              obtain ⟨SB, hSB⟩ : ∃ s, str b = s := ⟨_, rfl⟩
              have hcall := refkey_t (a := a9) (cap := c9) hT1 (show Hid (l1.length = l1.length) from rfl) hc9 (by omega) hok1 hlen1 htl1 hkk W20 hr9
              rw [hbb, ← hn3.out] at hcall
              have HC := Lib.hid hcall
              obtain ⟨m1, hm1⟩ : ∃ m, l1.length = m := ⟨_, rfl⟩
              rw [hm1] at HC ⊢
              have HSB := Lib.hid hSB
              clear hb20 hp1 hkk hbb hok1 hlen1 ho1 hr9 hT1 hcall hSB hm1 hc9 htl1 hl8
              go_wp2_with fail
              refine HC.out.mono ?_
              rintro e W21 ⟨hb21, y1, d1, rfl, hy1, hr21⟩
              have HB21 := Lib.hid (HB20.out.trans (hb21.mono HB20.out.size))
              have hcv1 := conv_any y1 b n3 d1 SB hn3.out HSB.out W21 hr21
              have hcv2 := conv_any a3 b n3 cap3 SB hn3.out HSB.out W21 (HL3.out.mono HB21.out)
              clear hb21 hr21
              go_wp2_with (first | (go_at_call 5; refine (known_any _).mono ?_; rintro e w9 ⟨rfl, hb9⟩; have HB9 := Lib.hid (HB21.out.trans (hb9.mono HB21.out.size)); clear hb9))
              exact HKT.out _ HB9.out
            · have HB20 := Lib.hid (HB10.out.trans (hb20.mono HB10.out.size))
              clear hb20 hp1
              go_wp2_with (first | (go_at_call 5; refine (known_any _).mono ?_; rintro e w9 ⟨rfl, hb9⟩; have HB9 := Lib.hid (HB20.out.trans (hb9.mono HB20.out.size)); clear hb9))
              exact HKT.out _ HB9.out
end Go.Proofs.YtlchnfjbcefkoaaGreat
