/- lexiconlaw17.WireBack answers true, whatever the number, the bytes and the fields; nothing that was there is changed. -/
import Derived.Test.YtomfdiomakjeoaaWireShort
namespace Go.Proofs.Ytomfdiomakjeoaa
open Go.RowKit

theorem told_len (f : Fd) (h : f.Ok) (hb : f.bytes.length ≤ 20000) : (told f).length ≤ 20030 := by
  have h1 := h.n1
  have h2 := h.t1
  have hw := vput_len10 h.w1
  have ht : (vput (8 * f.num.toNat + f.typ.toNat)).length ≤ 10 := vput_len 9 _ (by omega)
  have hl : (vput f.bytes.length).length ≤ 10 := vput_len10 (by omega)
  unfold told
  rw [List.length_append]
  split
  · omega
  · split
    · rw [lowB_length]; split <;> omega
    · rw [List.length_append]; omega
theorem tolds_len (fs : List Fd) (h : ∀ f ∈ fs, f.Ok) (hb : ∀ f ∈ fs, f.bytes.length ≤ 20000) : (tolds fs).length ≤ 20030 * fs.length := by
  induction fs with
  | nil => simp [tolds]
  | cons f r ih =>
    have h1 := told_len f (h f (by simp)) (hb f (by simp))
    have h2 := ih (fun g hg => h g (by simp [hg])) (fun g hg => hb g (by simp [hg]))
    show (told f ++ tolds r).length ≤ _
    rw [List.length_append, List.length_cons]
    omega
theorem bytesOf_err {fs : List Fd} (h : (bytesOf fs).2 ≠ 0) : (bytesOf fs).1 = [] := by
  unfold bytesOf at h ⊢
  split at h
  · rename_i h1
    rw [if_pos h1]
    split at h
    · exact absurd rfl h
    · rename_i h2; rw [if_neg h2]
  · rename_i h1; rw [if_neg h1]
theorem bytesOf_back {fs : List Fd} (hok : ∀ f ∈ fs, f.Ok) (h : (bytesOf fs).2 = 0) : fieldsOf (bytesOf fs).1 = (fs, 0) := by
  unfold bytesOf at h ⊢
  by_cases h1 : fs.all mayB = true
  · rw [if_pos h1] at h ⊢
    by_cases h2 : (tolds fs).length ≤ 1048576
    · rw [if_pos h2]
      show fieldsOf (tolds fs) = _
      exact fieldsOf_of h2 (rdAll_tolds _ _ (by omega) (by omega) hok h1)
    · rw [if_neg h2] at h; cases h
  · rw [if_neg h1] at h; cases h

set_option maxRecDepth 100000 in
set_option maxHeartbeats 4000000 in
theorem back_any (x : Nat) (hx : x < 18446744073709551616) (a a2 : Option Addr) (l : List UInt8) (fs : List Fd) (n m cap cap2 : Nat) (w : World) (hn : Hid (n = l.length)) (hm : Hid (m = fs.length)) (hc : n ≤ cap) (hc2 : m ≤ cap2)
    (hok : Hid (∀ f ∈ fs, f.Ok)) (hl : RdB w a l) (hl2 : RdF w a2 fs) :
    Calls Try.prog 6 #[.int .u64 (x : Int), .slice a n cap, .slice a2 m cap2] w fun e w' => e = .returned (.bool true) ∧ Below w.heap.size w w' := by
  have HL := Lib.hid hl
  have HL2 := Lib.hid hl2
  clear hl hl2
  by_cases hbig : 20000 < n
  · go_enter Try.func6, Try.ntmps6
    go_wp2_with (go_at_call 11; refine (works_any _).mono ?_; rintro e w1 ⟨rfl, hb1⟩)
    go_ret
    exact ⟨rfl, hb1⟩
  · by_cases hbig2 : 300 < m
    · go_enter Try.func6, Try.ntmps6
      go_wp2_with (go_at_call 11; refine (works_any _).mono ?_; rintro e w1 ⟨rfl, hb1⟩)
      go_ret
      exact ⟨rfl, hb1⟩
    · go_enter Try.func6, Try.ntmps6
      go_wp2
      go_loopw [7] (fun i wr => w = wr ∧ ∃ k : Nat, k ≤ m ∧ i = .int .i64 k ∧ (∀ f ∈ fs.take k, f.bytes.length ≤ 20000)) (fun i _ => m - (intOf i).toNat)
      case atStart => exact ⟨rfl, 0, Nat.zero_le _, rfl, by simp⟩
      case round =>
        obtain ⟨rfl, k, hk, rfl, hall⟩ := hrel
        have HA := Lib.hid hall
        clear hall
        by_cases hkm : k < m
        · have hkl : k < fs.length := by rw [← hm.out]; exact hkm
          have HS1 := Lib.hid (List.take_succ_eq_append_getElem hkl)
          obtain ⟨b3, o3, rfl, _, hx3⟩ := fd_cells HL2.out (by omega)
          obtain ⟨_, _, _, x3⟩ := hx3 k hkl
          obtain ⟨f, hf⟩ : ∃ f, fs[k] = f := ⟨_, rfl⟩
          rw [hf] at x3
          have HFF := Lib.hid hf
          obtain ⟨s, hs⟩ : ∃ s, str f.bytes = s := ⟨_, rfl⟩
          rw [hs] at x3
          have hsz : s.size = f.bytes.length := by rw [← hs]; simp [str, ByteArray.size]
          obtain ⟨q, hq⟩ : ∃ q, f.bytes.length = q := ⟨_, rfl⟩
          rw [hq] at hsz
          have HQ := Lib.hid hq
          clear hx3 hf hs hq
          by_cases hq2 : 20000 < q
          · go_wp2_with (go_at_call 11; refine (works_any _).mono ?_; rintro e w10 ⟨rfl, hb10⟩; have HB10 := Lib.hid hb10; clear hb10)
            go_ret
            exact ⟨rfl, HB10.out⟩
          · go_wp2
            refine ⟨⟨trivial, k + 1, by omega, by go_num, ?_⟩, by simp [intOf]; omega⟩
            rw [HS1.out, HFF.out]
            intro g hg
            rcases List.mem_append.1 hg with hg | hg
            · exact HA.out g hg
            · rw [List.mem_singleton.1 hg, HQ.out]; omega
        · obtain rfl : m = k := by omega
          have he : fs.take m = fs := by rw [hm.out, List.take_length]
          rw [he] at HA
          have htl := tolds_len fs hok.out HA.out
          rw [← hm.out] at htl
          have hby := fun w' (h : RdF w' a2 fs) => bytes_any a2 fs m cap2 w' hm hc2 hok (by show _ ≤ _; omega) (by omega) h
          have herr := bytesOf_err (fs := fs)
          have hback := bytesOf_back hok.out
          obtain ⟨be, hbe⟩ : ∃ be, (bytesOf fs).2 = be := ⟨_, rfl⟩
          obtain ⟨bl, hbl⟩ : ∃ bl, (bytesOf fs).1 = bl := ⟨_, rfl⟩
          rw [hbe, hbl] at hby herr hback
          have HBY := Lib.hid hby
          have HER := Lib.hid herr
          have HBK := Lib.hid hback
          have htv := vtake_some (vtake_vput x hx l)
          have htc := fun w' a' c' (h1 : (vput x).length + n ≤ c') (h2 : c' ≤ 9223372036854775807) (h : RdB w' a' ([] ++ vput x ++ l)) => takevarint_any a' (vput x ++ l) ((vput x).length + n) c' w' (by show _ = _; rw [hn.out, List.length_append]) h1 h2 h
          rw [htv.1, htv.2.1, htv.2.2] at htc
          have hvl := vput_len10 hx
          obtain ⟨q, hq⟩ : ∃ q, (vput x).length = q := ⟨_, rfl⟩
          rw [hq] at htc hvl
          have HQ := Lib.hid hq
          have HTC := Lib.hid htc
          have hu := unzig_in x hx
          have hzu := zig_unzig x
          obtain ⟨u, huu⟩ : ∃ u, unzig x = u := ⟨_, rfl⟩
          have hunz := fun w' => unzigzag_any x hx w'
          rw [huu] at hu hzu hunz
          have hzg := fun w' => zigzag_any u hu.1 hu.2 w'
          rw [hzu] at hzg
          obtain ⟨z, hz1, hz2, hzw⟩ : ∃ z : Int, -9223372036854775808 ≤ z ∧ z ≤ 9223372036854775807 ∧ IntKind.i64.wrap (x : Int) = z := ⟨_, by simp [IntKind.wrap, IntKind.bits, IntKind.signed]; omega, by simp [IntKind.wrap, IntKind.bits, IntKind.signed]; omega, rfl⟩
          have hzz := fun w' => zigzag_any z hz1 hz2 w'
          have hzl := zig_lt z hz1 hz2
          have hzb := unzig_zig z
          obtain ⟨y, hy⟩ : ∃ y, zig z = y := ⟨_, rfl⟩
          rw [hy] at hzz hzl hzb
          have hyy := fun w' => unzigzag_any y hzl w'
          rw [hzb] at hyy
          have HUN := Lib.hid hunz
          have HZG := Lib.hid hzg
          have HZZ := Lib.hid hzz
          have HYY := Lib.hid hyy
          clear hunz hzg hzz hyy hzu hzb hy huu htv htc hq hby herr hback hbe hbl htl he hu hz1 hz2
          go_wp2_with fail
          refine (varintx_any x hx _).mono ?_
          rintro e w1 ⟨v1, rfl, ho1, hb1⟩
          obtain ⟨a3, c3, rfl, hc3, hr3⟩ := ho1.rd
          rw [HQ.out]
          have HB1 := Lib.hid hb1
          have HV1 := Lib.hid hr3
          clear ho1 hb1 hr3
          have hq0 : 0 < q := by
            have := HQ.out
            have h2 : 0 < (vput x).length := by
              by_cases hx2 : x < 128
              · rw [vput_lt hx2]; simp
              · rw [vput_ge hx2]; simp
            omega
          go_wp2_with (first
            | (at_builtin; refine step_appendB rfl (.tmp 43) (.tmp 44) rfl eltB w1.heap.size _ [] rfl _ _ _ (vput x) rfl (OwnB.empty w1 _ _ (Nat.le_refl _)) HQ.out.symm (HV1.out.mono (below_alloc _)) (by rw [HQ.out]; simp; omega) (by simp) ?_; intro v5 w5 h1 h2; have H1 := Lib.hid h1; have H2 := Lib.hid ((below_alloc _).trans h2); clear h1 h2)
            | (at_builtin; refine step_appendB rfl (.tmp 45) (.tmp 46) rfl eltB w1.heap.size _ ([] ++ vput x) rfl _ _ _ l rfl H1.out hn.out (HL.out.mono (below_trans HB1.out H2.out)) (by rw [List.nil_append, HQ.out, ← hn.out]; omega) H2.out.size ?_; intro v6 w6 h1 h2; obtain ⟨a7, c7, rfl, hc7, hcm7, hr7⟩ := own_rdm h1; have hln : ([] ++ vput x ++ l).length = q + n := (by rw [List.nil_append, List.length_append, HQ.out, hn.out]); rw [hln] at hc7; rw [hln]; have H3 := Lib.hid (H2.out.trans h2); have HV := Lib.hid hr7; clear h1 h2 hr7 hln)
            | (go_at_call 13; refine (HTC.out w6 a7 c7 hc7 hcm7 HV.out).mono ?_; rintro e _ ⟨rfl, rfl⟩)
            | (go_at_call 16; refine (num_any _ _).mono ?_; rintro e _ ⟨rfl, rfl⟩))
          refine (HUN.out _).mono ?_
          rintro e _ ⟨rfl, rfl⟩
          go_wp2_with fail
          refine (HZG.out _).mono ?_
          rintro e _ ⟨rfl, rfl⟩
          go_wp2_with fail
          refine (HZZ.out _).mono ?_
          rintro e _ ⟨rfl, rfl⟩
          go_wp2_with fail
          refine (HYY.out _).mono ?_
          rintro e _ ⟨rfl, rfl⟩
          go_wp2_with fail
          have HB6 := Lib.hid (below_trans HB1.out H3.out)
          refine (HBY.out _ (HL2.out.mono HB6.out)).mono ?_
          rintro e w8 ⟨v8, rfl, ho8, hb8⟩
          obtain ⟨a8, c8, rfl, hc8, hcm8, hr8⟩ := own_rdm ho8
          have HB8 := Lib.hid (below_trans HB6.out hb8)
          have HR8 := Lib.hid hr8
          clear ho8 hb8 hr8 H1 H2 H3 HV HBY HUN HYY HZG HZZ HTC HV1 HB1 HB6
          obtain ⟨p, hp⟩ : ∃ p, bl.length = p := ⟨_, rfl⟩
          rw [hp] at hc8 ⊢
          have HP := Lib.hid hp
          clear hp
          by_cases hbe0 : be = 0
          · subst hbe0
            have hbk := HBK.out rfl
            have hff := fields_any a8 bl p c8 w8 HP.out.symm hc8 hcm8 HR8.out
            rw [hbk] at hff
            have HFF := Lib.hid hff
            clear hbk hff HBK HER
            go_wp2_with (first
              | (go_at_call 16; refine (num_any _ _).mono ?_; rintro e _ ⟨rfl, rfl⟩)
              | (go_at_call 26; refine HFF.out.mono ?_; rintro e w9 ⟨v9, rfl, ho9, hb9⟩; obtain ⟨a9, c9, rfl, hc9, hr9⟩ := ho9.rd; rw [← hm.out]; have HB9 := Lib.hid (below_trans HB8.out hb9); have HR9 := Lib.hid hr9; clear ho9 hb9 hr9 hc9))
            go_loopw [16] (fun i wr => Below w9.heap.size w9 wr ∧ ∃ k : Nat, k ≤ m ∧ i = .int .i64 k) (fun i _ => m - (intOf i).toNat)
            case atStart => exact ⟨Below.refl _ _, 0, Nat.zero_le _, rfl⟩
            case round =>
              obtain ⟨hb, k, hk, rfl⟩ := hrel
              have HB := Lib.hid hb
              clear hb
              by_cases hkm2 : k < m
              · have hkl : k < fs.length := by rw [← hm.out]; exact hkm2
                obtain ⟨b3, o3, rfl, _, hx3⟩ := fd_cells (HL2.out.mono (below_trans HB9.out HB.out)) (by omega)
                obtain ⟨b9, o9, rfl, _, hx9⟩ := fd_cells (HR9.out.mono HB.out) (by omega)
                obtain ⟨x0, x1, x2, x3⟩ := hx3 k hkl
                obtain ⟨z0, z1, z2, z3⟩ := hx9 k hkl
                obtain ⟨f, hf⟩ : ∃ f, fs[k] = f := ⟨_, rfl⟩
                rw [hf] at x0 x1 x2 x3 z0 z1 z2 z3
                obtain ⟨s, hs⟩ : ∃ s, str f.bytes = s := ⟨_, rfl⟩
                rw [hs] at x3 z3
                have hneq := neq_fd f s
                clear hx3 hx9 hf hs
                go_wp2_with fail
                go_quiet (fail)
                go_wp2
                exact ⟨⟨drewN_below HB.out _, k + 1, by omega, by go_num⟩, by simp [intOf]; omega⟩
              · obtain rfl : m = k := by omega
                go_wp2_with (go_at_call 11; refine (works_any _).mono ?_; rintro e w10 ⟨rfl, hb10⟩; have HB10 := Lib.hid (below_trans HB9.out (below_trans HB.out hb10)); clear hb10)
                go_ret
                exact ⟨rfl, HB10.out⟩
          · have hbl0 := HER.out hbe0
            rw [hbl0] at HP
            have hp0 : p = 0 := HP.out.symm
            subst hp0
            have hbeb : ((be : Int) != 0) = true := by simp; omega
            clear HBK HER hbe0 hbl0
            go_wp2_with (first | (go_at_call 16; refine (num_any _ _).mono ?_; rintro e _ ⟨rfl, rfl⟩) | (go_at_call 11; refine (works_any _).mono ?_; rintro e w10 ⟨rfl, hb10⟩; have HB10 := Lib.hid (below_trans HB8.out hb10); clear hb10))
            go_ret
            exact ⟨rfl, HB10.out⟩
end Go.Proofs.Ytomfdiomakjeoaa
