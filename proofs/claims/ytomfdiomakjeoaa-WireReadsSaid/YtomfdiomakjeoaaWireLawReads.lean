/- lexiconlaw17.WireReads answers true, whatever the bytes and the turn at which the going over is left; nothing that was there is changed. -/
import Derived.Test.YtomfdiomakjeoaaWireGoes
import Derived.Test.YtomfdiomakjeoaaWireRefBytes
import Derived.Test.YtomfdiomakjeoaaWireWorks
namespace Go.Proofs.Ytomfdiomakjeoaa
open Go.RowKit

set_option maxRecDepth 100000 in
theorem spare_own (a : Option Addr) (l : List UInt8) (n cap : Nat) (w : World) (hn : Hid (n = l.length)) (hn2 : n ≤ 140737488355000) (hl : RdB w a l) :
    Calls Try.prog 12 #[.slice a n cap] w fun e w' =>
      ∃ b c, e = .returned (.slice (some ⟨b, 0, none⟩) n c) ∧ n + 1 ≤ c ∧ c ≤ 9223372036854775807 ∧ w.heap.size ≤ b ∧ b < w'.heap.size ∧ OwnB w' w.heap.size 5 (.slice (some ⟨b, 0, none⟩) (n + 1) c) (l ++ [165]) ∧ Below w.heap.size w w' := by
  have HL := Lib.hid hl
  clear hl
  go_enter Try.func12, Try.ntmps12
  go_wp2_with (first
    | (at_builtin; refine step_appendB rfl (.tmp 3) (.tmp 4) rfl eltB w.heap.size _ [] rfl _ _ _ l rfl (OwnB.empty w _ _ (Nat.le_refl _)) hn.out (HL.out.mono (below_alloc _)) (by rw [← hn.out]; simp; omega) (by simp) ?_; intro v1 w1 h1 h2; have H1 := Lib.hid h1; have H2 := Lib.hid ((below_alloc _).trans h2); clear h1 h2)
    | (at_builtin; refine step_appendB rfl (.tmp 5) (.tmp 6) rfl eltB w.heap.size _ ([] ++ l) rfl _ _ _ [165] rfl (H1.out.kept (below_alloc _) (Nat.le_refl _)) rfl (rdB_lit _ _ _ _ _ rfl) (by rw [List.nil_append, ← hn.out]; simp; omega) (by have := H2.out.size; simp; omega) ?_; intro v2 w2 h1 h2; obtain ⟨g2, c2, rfl, hg2, hgs, hc2, hcm, hr2⟩ := h1.some (by simp); have hl2 : ([] ++ l ++ [(165 : UInt8)]).length = n + 1 := (by rw [hn.out]; simp); rw [hl2] at hc2 h1; rw [hl2]; have HR := Lib.hid h1; have H3 := Lib.hid ((H2.out.trans ((Below.refl _ w1).alloc H2.out.size _)).trans h2); clear h1 h2 hr2 hl2))
  go_ret
  exact ⟨_, _, rfl, hc2, by unfold maxLen at hcm; omega, hg2, hgs, HR.out, H3.out⟩
set_option maxRecDepth 100000 in
set_option maxHeartbeats 1000000 in
theorem reads_any (a : Option Addr) (l : List UInt8) (n cap : Nat) (leave : Int) (w : World) (hn : Hid (n = l.length)) (hc : n ≤ cap) (hl : RdB w a l) :
    Calls Try.prog 5 #[.slice a n cap, .int .i64 leave] w fun e w' => e = .returned (.bool true) ∧ Below w.heap.size w w' := by
  have HL := Lib.hid hl
  clear hl
  by_cases hbig : 20000 < n
  · go_enter Try.func5, Try.ntmps5
    go_wp2_with (go_at_call 11; refine (works_any _).mono ?_; rintro e w1 ⟨rfl, hb1⟩)
    go_ret
    exact ⟨rfl, hb1⟩
  · go_enter Try.func5, Try.ntmps5
    go_wp2_with fail
    refine (spare_own a l n cap w hn (by omega) HL.out).mono ?_
    rintro e w1 ⟨b, c, rfl, hcb, hcm, hgb, hbl, ho1, hb1⟩
    have hwm := OwnW.of_own ho1
    obtain ⟨am, km, hvm, _, hrm⟩ := ho1.rd
    obtain ⟨rfl, hx1, hx2⟩ := by simpa using hvm
    have HM1 : Hid (RdB w1 (some ⟨b, 0, none⟩) l) := by
      have h := hrm.take n
      have e : (l ++ [(165 : UInt8)]).take n = l := by have := hn.out; subst this; simp
      rwa [e] at h
    have HA1 := Lib.hid hrm
    have HW1 := Lib.hid hwm
    have HB1 := Lib.hid hb1
    clear ho1 hwm hrm hb1 hvm hx1 hx2
    go_wp2_with fail
    refine (fields_any _ l n c w1 hn (by omega) hcm HM1.out).mono ?_
    rintro e w2 ⟨v, rfl, ho2, hb2⟩
    obtain ⟨fs, hfs⟩ : ∃ fs, (fieldsOf l).1 = fs := ⟨_, rfl⟩
    obtain ⟨fe, hfe⟩ : ∃ fe, (fieldsOf l).2 = fe := ⟨_, rfl⟩
    rw [hfs] at ho2
    rw [hfe]
    have HO2 := Lib.hid ho2
    have HM2 := Lib.hid (HM1.out.mono hb2)
    have HA2 := Lib.hid (HA1.out.mono hb2)
    have HW2 := Lib.hid (HW1.out.kept hb2 (Nat.le_refl _))
    have HB2 := Lib.hid (below_trans HB1.out hb2)
    have hs2 := hb2.size
    clear ho2 hb2 HM1 HA1 HW1
    go_wp2_with fail
    refine (all_any _ l n c w2 hn HM2.out).mono ?_
    rintro e w3 ⟨B, v3, rfl, hB, hbox, ho3, hb3⟩
    rw [if_neg (by rw [← hn.out]; omega)] at ho3
    obtain ⟨aa, cc, rfl, hcc, hccm, hraa⟩ := own_rdm ho3
    rw [← hn.out] at hcc hbox
    have HO3 := Lib.hid (HO2.out.kept hb3 (Nat.le_refl _))
    have HOA := Lib.hid ho3
    have HX := Lib.hid hbox
    have HA3 := Lib.hid (HA2.out.mono hb3)
    have HW3 := Lib.hid (HW2.out.kept hb3 (Nat.le_refl _))
    have HB3 := Lib.hid (below_trans HB2.out hb3)
    have hs3 := hb3.size
    have hs1 := HB1.out.size
    clear ho3 hb3 hbox HO2 HM2 HA2 HW2 HB2 hraa
    go_wp2_with fail
    refine (kept_any (some ⟨b, 0, none⟩) a l l n n c cap 165 w3 hn hn hcb rfl (by omega) HA3.out (HL.out.mono HB3.out)).mono ?_
    rintro e _ ⟨rfl, rfl⟩
    rw [decide_eq_true (rfl : l = l), decide_eq_true (rfl : (165 : UInt8) = 165)]
    have hvb : Value.ownBlock v ≠ some b := fun e => by have := (World.ownsRow.lt HO3.out b e).1; omega
    have HVB := Lib.hid hvb
    clear hvb HA3
    go_wp2_with fail
    have HBB : Hid (B ≠ b) := by show _ ≠ _; omega
    go_loopw [9] (fun i wr => ∃ k : Nat, ∃ lx : List UInt8, k ≤ n ∧ i = .int .i64 k ∧ lx.length = n + 1 ∧ OwnW wr w.heap.size (.slice (some ⟨b, 0, none⟩) (n + 1) c) (lx.map bv) ∧ w3.grownBy wr (some b)) (fun i _ => n - (intOf i).toNat)
    case atStart => exact ⟨0, l ++ [165], by omega, rfl, by rw [hn.out]; simp, HW3.out, World.grownBy.refl _ _⟩
    case round =>
      obtain ⟨k, lx, hk, rfl, hlx, hxo, hgr⟩ := hrel
      have HLX := Lib.hid hlx
      have HXO := Lib.hid hxo
      have HGR := Lib.hid hgr
      clear hlx hxo hgr
      by_cases hlt : k < n
      · have hkx : k < lx.length := by rw [HLX.out]; omega
        obtain ⟨g, off, cap', he, hbg, hgl, hcell, hfro, hset⟩ := HXO.out.open k (by rw [List.length_map]; exact hkx)
        simp only [Value.slice.injEq, Option.some.injEq, Addr.mk.injEq, and_true] at he
        obtain ⟨⟨rfl, rfl⟩, hx1, rfl⟩ := he
        clear hx1
        obtain ⟨y, hy⟩ : ∃ y, lx[k].toNat = y := ⟨_, rfl⟩
        have hyl : y < 256 := by rw [← hy]; exact byte_lt _
        have hxy : bits .xor .u8 (y : Int) 255 = ((y ^^^ 255 : Nat) : Int) := bits_xor_nat .u8 rfl y 255 hyl (by decide)
        have hz : y ^^^ 255 < 256 := Nat.xor_lt_two_pow (n := 8) hyl (by decide)
        obtain ⟨z, hzz⟩ : ∃ z, y ^^^ 255 = z := ⟨_, rfl⟩
        rw [hzz] at hxy hz
        obtain ⟨hs1', hs2'⟩ := hset (bv (UInt8.ofNat z))
        rw [← List.map_set] at hs1'
        rw [bv_ofNat z hz] at hs1' hs2'
        have HS1 := Lib.hid hs1'
        have HS2 := Lib.hid (grown_trans HGR.out hs2')
        have HLS : Hid ((lx.set k (UInt8.ofNat z)).length = n + 1) := by show _ = _; rw [List.length_set]; exact HLX.out
        have hcell' : wr.cell? ⟨b, 0 + k, none⟩ = some (.int .u8 (y : Int)) := by rw [hcell]; simp [bv, hy]
        rw [Nat.zero_add] at hcell' hfro HS1 HS2
        clear hcell hs1' hs2' hset hzz hy
        generalize lx.set k (UInt8.ofNat z) = lx' at *
        go_wp2
        go_roundw
        case rel => exact ⟨k + 1, lx', by omega, by go_num, HLS.out, HS1.out, HS2.out⟩
        case measure => simp [intOf]; omega
      · obtain rfl : n = k := by omega
        have hb4 : Below w.heap.size w wr := HB3.out.grown HGR.out HB3.out.size (fun g hg => by obtain rfl := Option.some.inj hg; exact hgb)
        have HO4 := Lib.hid (HO3.out.grown HGR.out (fun g hg => by obtain rfl := Option.some.inj hg; exact HVB.out))
        have HOA4 := Lib.hid (OwnB.grown HOA.out HGR.out (fun g hg e => by obtain rfl := Option.some.inj hg; have := (World.ownsRow.lt HOA.out _ e).1; omega))
        have HX4 : Hid (Box wr B 23 (.slice aa n cc)) := (HGR.out.block B HX.out.lt (fun e => HBB.out (Option.some.inj e))).trans HX.out
        have HL4 := Lib.hid (HL.out.mono hb4)
        have HB4 := Lib.hid hb4
        clear hb4 HO3 HOA HX HL HB3 HW3 HXO HGR HLX HVB HB1
        go_wp2_with fail
        refine (reffields_any a l n cap wr hn hc (by omega) HL4.out).mono ?_
        rintro e w5 ⟨v5, rfl, ho5, hb5⟩
        rw [hfs] at ho5
        rw [hfe]
        have HO5 := Lib.hid ho5
        have HB5 := Lib.hid hb5
        have HL5 := Lib.hid (HL4.out.mono hb5)
        clear ho5 hb5
        go_wp2_with fail
        refine (refsome_any a l n cap w5 hn hc (by omega) HL5.out).mono ?_
        rintro e w6 ⟨v6, v7, rfl, ho6, ho7, hb6⟩
        obtain ⟨af, cf, rfl, hcf, hrf⟩ := HO4.out.rd
        obtain ⟨a5, c5, rfl, hc5, hr5⟩ := HO5.out.rd
        obtain ⟨a6, c6, rfl, hc6, hr6⟩ := ho6.rd
        obtain ⟨a7, c7, rfl, hc7, hr7⟩ := ho7.rd
        have HB6 := Lib.hid (below_trans HB5.out hb6)
        obtain ⟨m, hm⟩ : ∃ m, (somes l).length = m := ⟨_, rfl⟩
        rw [List.length_map, hm] at hc6 hc7
        rw [List.length_map, List.length_map, hm]
        obtain ⟨q, hq⟩ : ∃ q, fs.length = q := ⟨_, rfl⟩
        rw [hq] at hcf hc5 ⊢
        have hqn : q ≤ n := by
          rw [← hq, ← hfs, fieldsOf_somes (by rw [← hn.out]; omega)]
          have := rdSome_len (l.length + 1) 0 l
          unfold somes
          split
          · rw [List.length_map, hn.out]; exact this
          · simp
        have HQ := Lib.hid hq
        have HM := Lib.hid hm
        have HF6 := Lib.hid (hrf.mono HB6.out)
        have HF5 := Lib.hid (hr5.mono hb6)
        have HR6 := Lib.hid hr6
        have HR7 := Lib.hid hr7
        have HX6 := Lib.hid (HX4.out.below HB6.out)
        obtain ⟨aa', cc', hva, _, hra6⟩ := (HOA4.out.kept HB6.out (Nat.le_refl _)).rd
        simp only [Value.slice.injEq] at hva
        obtain ⟨rfl, hx1, rfl⟩ := hva
        clear hx1
        have HRA := Lib.hid hra6
        have HBW := Lib.hid (below_trans HB4.out HB6.out)
        clear hrf hr5 hr6 hr7 ho6 ho7 hb6 hra6 hq hm HOA4 HO4 HO5 HX4 HB4 HB5 HB6 HL4 HL5 hfs hfe
        go_wp2_with fail
        refine (refsame_any _ _ fs q _ _ w6 HQ.out.symm (by omega) HF6.out HF5.out).mono ?_
        rintro e w7 ⟨rfl, hb7⟩
        have HX7 := Lib.hid (HX6.out.below hb7)
        have HRA7 := Lib.hid (HRA.out.mono hb7)
        have HR67 := Lib.hid (HR6.out.mono hb7)
        have HR77 := Lib.hid (HR7.out.mono hb7)
        have HB7 := Lib.hid (below_trans HBW.out hb7)
        clear hb7 HX6 HRA HR6 HR7 HBW HF6 HF5
        go_wp2_with (first | (go_at_call 16; refine (num_any _ _).mono ?_; rintro e _ ⟨rfl, rfl⟩))
        refine (goes_any B aa n cc l w7 hn hcc hccm (by omega) HX7.out.cell HRA7.out a6 a7 m c6 c7 HM.out.symm HR67.out HR77.out leave).mono ?_
        rintro e w8 ⟨rfl, hb8⟩
        have HX8 := Lib.hid (HX7.out.below hb8)
        have HRA8 := Lib.hid (HRA7.out.mono hb8)
        have HR68 := Lib.hid (HR67.out.mono hb8)
        have HR78 := Lib.hid (HR77.out.mono hb8)
        have HB8 := Lib.hid (below_trans HB7.out hb8)
        clear hb8 HX7 HRA7 HR67 HR77 HB7
        go_wp2_with fail
        refine (goes_any B aa n cc l w8 hn hcc hccm (by omega) HX8.out.cell HRA8.out a6 a7 m c6 c7 HM.out.symm HR68.out HR78.out 0).mono ?_
        rintro e w9 ⟨rfl, hb9⟩
        have HB9 := Lib.hid (below_trans HB8.out hb9)
        clear hb9 HX8 HRA8 HR68 HR78 HB8
        go_wp2_with (go_at_call 11; refine (works_any _).mono ?_; rintro e w10 ⟨rfl, hb10⟩; have HB10 := Lib.hid (below_trans HB9.out hb10); clear hb10)
        go_ret
        exact ⟨rfl, HB10.out⟩
end Go.Proofs.Ytomfdiomakjeoaa
