/- lexiconlaw17.WireShort answers true, whatever the bytes; nothing that was there is changed. -/
import Derived.Test.YtomfdiomakjeoaaWireRows
import Derived.Laws.StructEq
namespace Go.Proofs.Ytomfdiomakjeoaa
open Go.RowKit

theorem fieldsOf_some {l : List UInt8} (h : (fieldsOf l).2 = 0) : l.length ≤ 1048576 ∧ rdAll (l.length + 1) l = some (fieldsOf l).1 := by
  unfold fieldsOf at h ⊢
  by_cases hb : 1048576 < l.length
  · rw [if_pos hb] at h; cases h
  · rw [if_neg hb] at h ⊢
    refine ⟨by omega, ?_⟩
    cases hr : rdAll (l.length + 1) l with
    | none => rw [hr] at h; cases h
    | some fs => rfl
theorem fieldsOf_of {l : List UInt8} {fs : List Fd} (hl : l.length ≤ 1048576) (h : rdAll (l.length + 1) l = some fs) : fieldsOf l = (fs, 0) := by
  unfold fieldsOf
  rw [if_neg (by omega), h]
/-- All that the law wants of two rows of fields. -/
theorem short_facts {l l2 : List UInt8} (hl : l.length ≤ 20000) (hl2 : l2.length ≤ 20000) (h : (fieldsOf l).2 = 0) (h2 : (fieldsOf l2).2 = 0) :
    (∀ f ∈ (fieldsOf l).1, f.Ok) ∧ (tolds (fieldsOf l).1).length ≤ l.length ∧ (fieldsOf l).1.length ≤ l.length ∧ bytesOf (fieldsOf l).1 = (tolds (fieldsOf l).1, 0) ∧
    fieldsOf (tolds (fieldsOf l).1) = ((fieldsOf l).1, 0) ∧ fieldsOf (l ++ l2) = ((fieldsOf l).1 ++ (fieldsOf l2).1, 0) ∧ (fieldsOf l2).1.length ≤ l2.length := by
  obtain ⟨_, hr⟩ := fieldsOf_some h
  obtain ⟨_, hr2⟩ := fieldsOf_some h2
  obtain ⟨p1, p2, p3, p4⟩ := rdAll_short _ _ _ hr
  obtain ⟨_, _, _, q4⟩ := rdAll_short _ _ _ hr2
  refine ⟨p2, p3, p4, ?_, ?_, ?_, q4⟩
  · unfold bytesOf; rw [if_pos p1, if_pos (by omega)]
  · exact fieldsOf_of (by omega) (rdAll_tolds _ _ (by omega) (by omega) p2 p1)
  · refine fieldsOf_of (by rw [List.length_append]; omega) ?_
    rw [rdAll_append _ l l2 _ _ hr (by omega), hr2]
    rfl
theorem neq_fd (f : Fd) (s : ByteArray) (w : World) : (binOp .neq 40 (.agg #[.int .i64 f.num, .int .i64 f.typ, .int .u64 (f.word : Int), .string s]) (.agg #[.int .i64 f.num, .int .i64 f.typ, .int .u64 (f.word : Int), .string s])).run Try.prog w = .ok (.bool false) w := by
  have hS : Try.prog.underlying 40 = some (.struct (Try.prog.fieldsOf 40)) := by kernel_rfl
  have hp : Try.prog.stoodInHeld 40 = false := by kernel_rfl
  rw [run_neq_struct, show (10000 : Nat) = 9999 + 1 from rfl, run_equalIn_agg w 9999 _ _ _ hS hp]
  have u3 := Try.underlying3
  have u38 := Try.underlying38
  have u22 := Try.underlying22
  have u9 := Try.underlying9
  simp only [Program.fieldsOf, Try.underlying40]
  go_simp
/-- The cells of one field of some. -/
theorem fd_cells {w : World} {a : Option Addr} {fs : List Fd} (h : RdF w a fs) (hp : 0 < fs.length) :
    ∃ b off, a = some ⟨b, off, none⟩ ∧ b < w.heap.size ∧ ∀ k (hk : k < fs.length), w.cell? ⟨b, off + k * 4, none⟩ = some (.int .i64 fs[k].num) ∧ w.cell? ⟨b, off + k * 4 + 1, none⟩ = some (.int .i64 fs[k].typ) ∧
      w.cell? ⟨b, off + k * 4 + 2, none⟩ = some (.int .u64 (fs[k].word : Int)) ∧ w.cell? ⟨b, off + k * 4 + 3, none⟩ = some (.string (str fs[k].bytes)) := by
  obtain ⟨b, off, he, hlt, hc⟩ := h.at hp
  refine ⟨b, off, he, hlt, fun k hk => ?_⟩
  have hadd : ∀ j, (⟨b, off + k * 4, none⟩ : Addr).add j = ⟨b, off + k * 4 + j, none⟩ := fun j => by unfold Addr.add; split <;> simp_all
  have h0 := hc k hk 0 _ rfl
  have h1 := hc k hk 1 _ rfl
  have h2 := hc k hk 2 _ rfl
  have h3 := hc k hk 3 _ rfl
  rw [hadd] at h0 h1 h2 h3
  exact ⟨h0, h1, h2, h3⟩
theorem own_rdm {w : World} {base : Nat} {e : TypeId} {v : Value} {l : List UInt8} (h : OwnB w base e v l) : ∃ a cap, v = .slice a l.length cap ∧ l.length ≤ cap ∧ cap ≤ 9223372036854775807 ∧ RdB w a l := by
  obtain ⟨a, c, hv, hc, hr⟩ := h.rd
  rcases h.2 with ⟨rfl, h0⟩ | ⟨g, cap, cur, rfl, hbg, hg, hnc, hcm, hcs, htake⟩
  · obtain ⟨rfl, _, rfl⟩ := by simpa using hv
    exact ⟨none, 0, by rw [h0], by omega, by decide, hr⟩
  · obtain ⟨rfl, _, rfl⟩ := by simpa using hv
    exact ⟨_, _, rfl, hnc, by unfold maxLen at hcm; omega, hr⟩
set_option maxRecDepth 100000 in
set_option maxHeartbeats 4000000 in
theorem short_any (a a2 : Option Addr) (l l2 : List UInt8) (n n2 cap cap2 : Nat) (w : World) (hn : Hid (n = l.length)) (hn2 : Hid (n2 = l2.length)) (hc : n ≤ cap) (hc2 : n2 ≤ cap2) (hcm : cap ≤ 9223372036854775807) (hcm2 : cap2 ≤ 9223372036854775807)
    (hl : RdB w a l) (hl2 : RdB w a2 l2) :
    Calls Try.prog 7 #[.slice a n cap, .slice a2 n2 cap2] w fun e w' => e = .returned (.bool true) ∧ Below w.heap.size w w' := by
  have HL := Lib.hid hl
  have HL2 := Lib.hid hl2
  clear hl hl2
  by_cases hbig : 20000 < n
  · go_enter Try.func7, Try.ntmps7
    go_wp2_with (go_at_call 11; refine (works_any _).mono ?_; rintro e w1 ⟨rfl, hb1⟩)
    go_ret
    exact ⟨rfl, hb1⟩
  · by_cases hbig2 : 20000 < n2
    · go_enter Try.func7, Try.ntmps7
      go_wp2_with (go_at_call 11; refine (works_any _).mono ?_; rintro e w1 ⟨rfl, hb1⟩)
      go_ret
      exact ⟨rfl, hb1⟩
    · have hfacts := short_facts (l := l) (l2 := l2) (by rw [← hn.out]; omega) (by rw [← hn2.out]; omega)
      obtain ⟨fs, hfs⟩ : ∃ fs, (fieldsOf l).1 = fs := ⟨_, rfl⟩
      obtain ⟨fe, hfe⟩ : ∃ fe, (fieldsOf l).2 = fe := ⟨_, rfl⟩
      obtain ⟨ks, hks⟩ : ∃ ks, (fieldsOf l2).1 = ks := ⟨_, rfl⟩
      obtain ⟨ke, hke⟩ : ∃ ke, (fieldsOf l2).2 = ke := ⟨_, rfl⟩
      have hF1 := fields_any a l n cap w hn hc hcm HL.out
      rw [hfs, hfe] at hF1
      have hF2 := fun w' (h : Below w.heap.size w w') => fields_any a2 l2 n2 cap2 w' hn2 hc2 hcm2 (HL2.out.mono h)
      rw [hks, hke] at hF2
      rw [hfs, hfe, hks, hke, ← hn.out, ← hn2.out] at hfacts
      have HF1 := Lib.hid hF1
      have HF2 := Lib.hid hF2
      have HFA := Lib.hid hfacts
      clear hF1 hF2 hfacts hfs hfe hks hke
      go_enter Try.func7, Try.ntmps7
      go_wp2_with fail
      refine HF1.out.mono ?_
      rintro e w1 ⟨v1, rfl, ho1, hb1⟩
      obtain ⟨a3, c3, rfl, hc3, hr3⟩ := ho1.rd
      have HB1 := Lib.hid hb1
      have HR1 := Lib.hid hr3
      clear ho1 hb1 hr3
      go_wp2_with fail
      refine (HF2.out w1 HB1.out).mono ?_
      rintro e w2 ⟨v2, rfl, ho2, hb2⟩
      obtain ⟨a4, c4, rfl, hc4, hr4⟩ := ho2.rd
      have HB2 := Lib.hid (below_trans HB1.out hb2)
      have HR2 := Lib.hid (HR1.out.mono hb2)
      have HK2 := Lib.hid hr4
      obtain ⟨m, hm⟩ : ∃ m, fs.length = m := ⟨_, rfl⟩
      obtain ⟨m2, hm2⟩ : ∃ m2, ks.length = m2 := ⟨_, rfl⟩
      rw [hm] at hc3 ⊢
      rw [hm2] at hc4 ⊢
      have HM := Lib.hid hm
      have HM2 := Lib.hid hm2
      clear ho2 hb2 hr4 HF1 HF2 HB1 HR1 hm hm2
      by_cases hfe0 : fe = 0
      · by_cases hke0 : ke = 0
        · subst hfe0 hke0
          obtain ⟨hok, htl, hfl, hbo, hfo, hfa, hkl⟩ := HFA.out rfl rfl
          rw [HM.out] at hfl
          rw [HM2.out] at hkl
          have HOK := Lib.hid hok
          have HTL := Lib.hid htl
          have hby := fun w' (h : RdF w' a3 fs) => bytes_any a3 fs m c3 w' HM.out.symm hc3 HOK.out (by show _ ≤ _; have := HTL.out; omega) (by omega) h
          rw [hbo] at hby
          obtain ⟨tl, htle⟩ : ∃ tl, tolds fs = tl := ⟨_, rfl⟩
          rw [htle] at hby hfo htl
          obtain ⟨q, hq⟩ : ∃ q, tl.length = q := ⟨_, rfl⟩
          rw [hq] at htl
          have HBY := Lib.hid hby
          have HQ := Lib.hid hq
          have HFO := Lib.hid hfo
          have HFAB := Lib.hid hfa
          clear hok hbo hfo hfa hby htle hq HFA HTL
          go_wp2_with (first | (go_at_call 16; refine (num_any _ _).mono ?_; rintro e _ ⟨rfl, rfl⟩))
          refine (HBY.out _ HR2.out).mono ?_
          rintro e w3 ⟨v3, rfl, ho3, hb3⟩
          obtain ⟨a5, c5, rfl, hc5, hcm5, hr5⟩ := own_rdm ho3
          rw [HQ.out] at hc5 ⊢
          have HB3 := Lib.hid (below_trans HB2.out hb3)
          have HR3 := Lib.hid (HR2.out.mono hb3)
          have HK3 := Lib.hid (HK2.out.mono hb3)
          have HC3 := Lib.hid hr5
          clear ho3 hb3 hr5
          go_wp2_with fail
          refine (fields_any a5 tl q c5 _ HQ.out.symm hc5 hcm5 HC3.out).mono ?_
          rw [HFO.out]
          rintro e w4 ⟨v4, rfl, ho4, hb4⟩
          obtain ⟨a6, c6, rfl, hc6, hr6⟩ := ho4.rd
          rw [HM.out] at hc6 ⊢
          have HB4 := Lib.hid (below_trans HB3.out hb4)
          have HR4 := Lib.hid (HR3.out.mono hb4)
          have HK4 := Lib.hid (HK3.out.mono hb4)
          have HG4 := Lib.hid hr6
          clear ho4 hb4 hr6 HB3 HR3 HK3 HC3
          go_wp2_with (first
            | (at_builtin; refine step_appendB rfl (.tmp 55) (.tmp 56) rfl eltB w4.heap.size _ [] rfl _ _ _ l rfl (OwnB.empty w4 _ _ (Nat.le_refl _)) hn.out ((HL.out.mono HB4.out).mono (below_alloc _)) (by rw [← hn.out]; simp; omega) (by simp) ?_; intro v5 w5 h1 h2; have H1 := Lib.hid h1; have H2 := Lib.hid ((below_alloc _).trans h2); clear h1 h2)
            | (at_builtin; refine step_appendB rfl (.tmp 57) (.tmp 58) rfl eltB w4.heap.size _ ([] ++ l) rfl _ _ _ l2 rfl H1.out hn2.out (HL2.out.mono (below_trans HB4.out H2.out)) (by rw [List.nil_append, ← hn.out, ← hn2.out]; omega) H2.out.size ?_; intro v6 w6 h1 h2; obtain ⟨a7, c7, rfl, hc7, hcm7, hr7⟩ := own_rdm h1; have hln : ([] ++ l ++ l2).length = n + n2 := (by rw [hn.out, hn2.out]; simp); rw [hln] at hc7; rw [hln]; have H3 := Lib.hid (H2.out.trans h2); have HV := Lib.hid hr7; clear h1 h2 hr7 hln))
          refine (fields_any a7 ([] ++ l ++ l2) (n + n2) c7 _ (by show _ = _; rw [hn.out, hn2.out]; simp) hc7 hcm7 HV.out).mono ?_
          rw [List.nil_append, HFAB.out]
          rintro e w9 ⟨v9, rfl, ho9, hb9⟩
          obtain ⟨a8, c8, rfl, hc8, hr8⟩ := ho9.rd
          have hlen8 : (fs ++ ks).length = m + m2 := by rw [List.length_append, HM.out, HM2.out]
          rw [hlen8] at hc8 ⊢
          have hb49 := below_trans H3.out hb9
          have HB9 := Lib.hid (below_trans HB4.out hb49)
          have HR9 := Lib.hid (HR4.out.mono hb49)
          have HK9 := Lib.hid (HK4.out.mono hb49)
          have HG9 := Lib.hid (HG4.out.mono hb49)
          have HA9 := Lib.hid hr8
          clear ho9 hb9 hr8 hb49 H1 H2 H3 HV HB4 HR4 HK4 HG4 HBY HFO HFAB hlen8 HOK HR2 HK2 HB2 HQ
          go_wp2_with (first | (go_at_call 16; refine (num_any _ _).mono ?_; rintro e _ ⟨rfl, rfl⟩))
          go_loopw [15] (fun i wr => Below w9.heap.size w9 wr ∧ ∃ k : Nat, k ≤ m + m2 ∧ i = .int .i64 k) (fun i _ => m + m2 - (intOf i).toNat)
          case atStart => exact ⟨Below.refl _ _, 0, Nat.zero_le _, rfl⟩
          case round =>
            obtain ⟨hb, k, hk, rfl⟩ := hrel
            have HB := Lib.hid hb
            clear hb
            by_cases hkn : k < m + m2
            · by_cases hkm : k < m
              · have hkl : k < fs.length := by rw [HM.out]; exact hkm
                obtain ⟨b3, o3, rfl, _, hx3⟩ := fd_cells (HR9.out.mono HB.out) (by omega)
                obtain ⟨b6, o6, rfl, _, hx6⟩ := fd_cells (HG9.out.mono HB.out) (by omega)
                obtain ⟨b8, o8, rfl, _, hx8⟩ := fd_cells (HA9.out.mono HB.out) (by rw [List.length_append]; omega)
                obtain ⟨x0, x1, x2, x3⟩ := hx3 k hkl
                obtain ⟨y0, y1, y2, y3⟩ := hx6 k hkl
                obtain ⟨z0, z1, z2, z3⟩ := hx8 k (by rw [List.length_append]; omega)
                rw [List.getElem_append_left hkl] at z0 z1 z2 z3
                obtain ⟨f, hf⟩ : ∃ f, fs[k] = f := ⟨_, rfl⟩
                rw [hf] at x0 x1 x2 x3 y0 y1 y2 y3 z0 z1 z2 z3
                obtain ⟨s, hs⟩ : ∃ s, str f.bytes = s := ⟨_, rfl⟩
                rw [hs] at x3 y3 z3
                have hneq := neq_fd f s
                have hge : decide ((m : Int) ≤ (k : Int)) = false := decide_eq_false (by omega)
                have hlt : decide ((k : Int) < (m : Int)) = true := decide_eq_true (by omega)
                have hge2 : decide (m ≤ k) = false := decide_eq_false (by omega)
                have hge3 : ¬ (m ≤ k) := by omega
                clear hx3 hx6 hx8 hf hs
                go_wp2_with fail
                go_quiet (fail)
                go_wp2
                exact ⟨⟨drewN_below HB.out _, k + 1, by omega, by go_num⟩, by simp [intOf]; omega⟩
              · have hkl : k - m < ks.length := by rw [HM2.out]; omega
                obtain ⟨b4, o4, rfl, _, hx4⟩ := fd_cells (HK9.out.mono HB.out) (by omega)
                obtain ⟨b8, o8, rfl, _, hx8⟩ := fd_cells (HA9.out.mono HB.out) (by rw [List.length_append]; omega)
                obtain ⟨x0, x1, x2, x3⟩ := hx4 (k - m) hkl
                obtain ⟨z0, z1, z2, z3⟩ := hx8 k (by rw [List.length_append, HM.out]; omega)
                rw [List.getElem_append_right (by rw [HM.out]; omega)] at z0 z1 z2 z3
                simp only [HM.out] at z0 z1 z2 z3
                obtain ⟨f, hf⟩ : ∃ f, ks[k - m] = f := ⟨_, rfl⟩
                rw [hf] at x0 x1 x2 x3 z0 z1 z2 z3
                obtain ⟨s, hs⟩ : ∃ s, str f.bytes = s := ⟨_, rfl⟩
                rw [hs] at x3 z3
                have hneq := neq_fd f s
                have hge : decide (m ≤ k) = true := decide_eq_true (by omega)
                have hlt : decide (k < m) = false := decide_eq_false (by omega)
                obtain ⟨j, hj⟩ : ∃ j, k - m = j := ⟨_, rfl⟩
                rw [hj] at x0 x1 x2 x3
                have hj1 : (k : Int) - (m : Int) = (j : Int) := by omega
                have hj2 : j < m2 := by omega
                clear hx4 hx8 hf hs hj hkl
                go_wp2_with fail
                go_quiet (fail)
                go_wp2
                exact ⟨⟨drewN_below HB.out _, k + 1, by omega, by go_num⟩, by simp [intOf]; omega⟩
            · obtain rfl : k = m + m2 := by omega
              go_wp2_with (go_at_call 11; refine (works_any _).mono ?_; rintro e w10 ⟨rfl, hb10⟩; have HB10 := Lib.hid (below_trans HB9.out (below_trans HB.out hb10)); clear hb10)
              go_ret
              exact ⟨rfl, HB10.out⟩
        · have hkeb : ((ke : Int) != 0) = true := by simp; omega
          subst hfe0
          clear HFA hke0
          go_wp2_with (first | (go_at_call 16; refine (num_any _ _).mono ?_; rintro e _ ⟨rfl, rfl⟩) | (go_at_call 11; refine (works_any _).mono ?_; rintro e w8 ⟨rfl, hb8⟩; have HB8 := Lib.hid (below_trans HB2.out hb8); clear hb8))
          go_ret
          exact ⟨rfl, HB8.out⟩
      · have hfeb : ((fe : Int) != 0) = true := by simp; omega
        clear HFA hfe0
        go_wp2_with (first | (go_at_call 16; refine (num_any _ _).mono ?_; rintro e _ ⟨rfl, rfl⟩) | (go_at_call 11; refine (works_any _).mono ?_; rintro e w8 ⟨rfl, hb8⟩; have HB8 := Lib.hid (below_trans HB2.out hb8); clear hb8))
        go_ret
        exact ⟨rfl, HB8.out⟩
end Go.Proofs.Ytomfdiomakjeoaa
