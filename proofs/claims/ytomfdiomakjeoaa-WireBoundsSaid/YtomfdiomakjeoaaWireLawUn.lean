/- lexiconlaw17.WireUnpacked answers true, whatever the type, the words and the bytes; nothing that was there is changed. -/
import Derived.Test.YtomfdiomakjeoaaWireUnPlain
namespace Go.Proofs.Ytomfdiomakjeoaa
open Go.RowKit

theorem wordsB_ge (t : Int) (l : List Nat) : l.length ≤ (wordsB t l).length := by
  induction l with
  | nil => simp
  | cons x r ih =>
    have := wordB_pos t x
    show _ ≤ (wordB t x ++ wordsB t r).length
    rw [List.length_append, List.length_cons]
    omega
theorem unpackOf_len (t : Int) (b : List UInt8) : (unpackOf t b).1.length ≤ b.length := by
  unfold unpackOf
  split
  · simp
  · split
    · rename_i ht
      split
      · simp
      · rename_i k hk
        exact Nat.le_trans (wordsB_ge t k) (unAll_short ht _ _ _ hk).2.2
    · simp
theorem OwnB.rdm {w : World} {base : Nat} {e : TypeId} {v : Value} {l : List UInt8} (h : OwnB w base e v l) : ∃ a cap, v = .slice a l.length cap ∧ l.length ≤ cap ∧ cap ≤ 9223372036854775807 ∧ RdB w a l := by
  obtain ⟨a, c, hv, hc, hr⟩ := h.rd
  rcases h.2 with ⟨rfl, h0⟩ | ⟨g, cap, cur, rfl, hbg, hg, hnc, hcm, hcs, htake⟩
  · obtain ⟨rfl, _, rfl⟩ := by simpa using hv
    exact ⟨none, 0, by rw [h0], by omega, by decide, hr⟩
  · obtain ⟨rfl, _, rfl⟩ := by simpa using hv
    exact ⟨_, _, rfl, hnc, by unfold maxLen at hcm; omega, hr⟩

theorem rows_u64 {w : World} {a : Option Addr} {len cap : Nat} {zs : List Int}
    (h : (a = none ∧ len = 0 ∧ cap = 0 ∧ zs = []) ∨ ∃ x, a = some x ∧ len ≤ cap ∧ cap ≤ maxLen ∧ zs.length = cap ∧ (∀ i, i < zs.length → w.cell? (x.add i) = some (.int .u64 (zs.getD i 0))) ∧ ∀ n ∈ zs, (Lit.int .u64 n).wf = true) :
    ∃ l : List Nat, len = l.length ∧ len ≤ cap ∧ (∀ x ∈ l, x < 18446744073709551616) ∧ RdU w a l := by
  obtain ⟨h1, h2, _, h4, h5⟩ := rows_ints h
  have hz : ∀ z ∈ zs.take len, 0 ≤ z ∧ z ≤ 18446744073709551615 := fun z hz => by
    have := h5 z hz
    simpa [Lit.wf, IntKind.min, IntKind.max, IntKind.bits, IntKind.signed] using this
  refine ⟨(zs.take len).map fun z => z.toNat, by rw [List.length_map]; exact h1, h2, ?_, ?_⟩
  · intro x hx
    obtain ⟨z, hzm, rfl⟩ := List.mem_map.1 hx
    have := hz z hzm
    omega
  · unfold RdU
    rw [List.map_map]
    have e : (zs.take len).map (uv ∘ fun z => z.toNat) = (zs.take len).map (Value.int .u64) := by
      apply List.map_congr_left
      intro z hzm
      show Value.int .u64 ((z.toNat : Nat) : Int) = _
      rw [Int.toNat_of_nonneg (hz z hzm).1]
    rw [e]
    exact h4
set_option maxRecDepth 100000 in
set_option maxHeartbeats 2000000 in
theorem unpacked_any (t : Int) (a a2 : Option Addr) (l : List Nat) (l2 : List UInt8) (n n2 cap cap2 : Nat) (w : World) (hn : Hid (n = l.length)) (hn2 : Hid (n2 = l2.length)) (hc : n ≤ cap) (hc2 : n2 ≤ cap2) (hcm2 : cap2 ≤ 9223372036854775807)
    (hwf : Hid (∀ x ∈ l, x < 18446744073709551616)) (hl : RdU w a l) (hl2 : RdB w a2 l2) :
    Calls Try.prog 10 #[.int .i64 t, .slice a n cap, .slice a2 n2 cap2] w fun e w' => e = .returned (.bool true) ∧ Below w.heap.size w w' := by
  have HL := Lib.hid hl
  have HL2 := Lib.hid hl2
  clear hl hl2
  by_cases hbig : 2000 < n
  · go_enter Try.func10, Try.ntmps10
    go_wp2_with (go_at_call 11; refine (works_any _).mono ?_; rintro e w1 ⟨rfl, hb1⟩)
    go_ret
    exact ⟨rfl, hb1⟩
  · by_cases hbig2 : 20000 < n2
    · go_enter Try.func10, Try.ntmps10
      go_wp2_with (go_at_call 11; refine (works_any _).mono ?_; rintro e w1 ⟨rfl, hb1⟩)
      go_ret
      exact ⟨rfl, hb1⟩
    · have hback := packed_back (t := t) (l := l) hwf.out
      have herr := packOf_err (t := t) (l := l)
      have herr2 := unpackOf_err (t := t) (l := l2)
      have hshort := unpacked_short (t := t) (b := l2)
      have hulen := unpackOf_len t l2
      have hback2 := packed_back (t := t) (l := (unpackOf t l2).1)
      have HBK := Lib.hid hback
      have HE1 := Lib.hid herr
      have HE2 := Lib.hid herr2
      have HSH := Lib.hid hshort
      have HBK2 := Lib.hid hback2
      clear hback herr herr2 hshort hback2
      go_enter Try.func10, Try.ntmps10
      go_wp2_with fail
      refine (pack_any t a l n cap _ hn hc (by omega) hwf HL.out).mono ?_
      rintro e w1 ⟨v1, rfl, ho1, hb1⟩
      obtain ⟨a3, c3, rfl, hc3, hcm3, hr3⟩ := ho1.rdm
      have HB1 := Lib.hid hb1
      have HR3 := Lib.hid hr3
      clear ho1 hb1 hr3
      obtain ⟨pe, hpe⟩ : ∃ pe, (packOf t l).2 = pe := ⟨_, rfl⟩
      obtain ⟨pl, hpl⟩ : ∃ pl, (packOf t l).1 = pl := ⟨_, rfl⟩
      obtain ⟨q, hq⟩ : ∃ q, pl.length = q := ⟨_, rfl⟩
      rw [hpe, hpl] at HBK HE1
      rw [hpl] at HR3 hc3 ⊢
      rw [hpe]
      rw [hq] at hc3 ⊢
      have HQ := Lib.hid hq
      clear hpe hpl hq
      go_upto_if 34 with (first | (go_at_call 16; refine (num_any _ _).mono ?_; rintro e _ ⟨rfl, rfl⟩))
      go_cut [] (fun wx => Below w.heap.size w wx)
      case first =>
        by_cases hpe0 : pe = 0
        · subst hpe0
          have hbk := HBK.out rfl
          have hua := unpack_any t a3 pl q c3 w1 HQ.out.symm hc3 hcm3 HR3.out
          rw [hbk] at hua
          have HUA := Lib.hid hua
          clear hua hbk
          go_wp2_with (first | (go_at_call 16; refine (num_any _ _).mono ?_; rintro e _ ⟨rfl, rfl⟩) | (go_at_call 33; refine HUA.out.mono ?_; rintro e w2 ⟨v2, rfl, ho2, hb2⟩; obtain ⟨a4, c4, rfl, hc4, hr4⟩ := ho2.rd; have hn4 := hn.out; rw [← hn4]; have HR4 := Lib.hid hr4; have HB2 := Lib.hid (below_trans HB1.out hb2); clear ho2 hb2 hr4 hn4) | (go_at_call 35; refine (same_any a4 a l l n n c4 cap _ hn hn (by omega) (by omega) HR4.out (HL.out.mono HB2.out)).mono ?_; rw [decide_eq_true (rfl : l = l)]; rintro e w3 ⟨rfl, hb3⟩; have HB3 := Lib.hid (below_trans HB2.out hb3); clear hb3))
          go_meet
          exact HB3.out
        · have hpl0 := HE1.out hpe0
          rw [hpl0] at HQ
          have hq0 : q = 0 := HQ.out.symm
          subst hq0
          have hpeb : ((pe : Int) == 0) = false := by simp; omega
          go_wp2_with (first | (go_at_call 16; refine (num_any _ _).mono ?_; rintro e _ ⟨rfl, rfl⟩))
          go_meet
          exact HB1.out
      case rest =>
        have HBC := Lib.hid hcut
        clear hcut HBK HE1 HB1 HR3 HQ
        go_wp2_with fail
        refine (unpack_any t a2 l2 n2 cap2 _ hn2 hc2 hcm2 (HL2.out.mono HBC.out)).mono ?_
        rintro e w4 ⟨v4, rfl, ho4, hb4⟩
        obtain ⟨a4, c4, rfl, hc4, hr4⟩ := ho4.rd
        have HB4 := Lib.hid (below_trans HBC.out hb4)
        have HR4 := Lib.hid hr4
        clear ho4 hb4 hr4
        obtain ⟨ue, hue⟩ : ∃ ue, (unpackOf t l2).2 = ue := ⟨_, rfl⟩
        obtain ⟨ul, hul⟩ : ∃ ul, (unpackOf t l2).1 = ul := ⟨_, rfl⟩
        obtain ⟨m, hm⟩ : ∃ m, ul.length = m := ⟨_, rfl⟩
        rw [hue, hul] at HE2 HSH
        rw [hul] at HBK2 HR4 hc4 hulen ⊢
        rw [hue]
        rw [hm] at hc4 hulen ⊢
        have hm2 : m ≤ n2 := by rw [hn2.out]; exact hulen
        have HM := Lib.hid hm
        clear hue hul hm hulen
        by_cases hue0 : ue = 0
        · subst hue0
          obtain ⟨hwf2, hp0, hplen⟩ := HSH.out rfl
          have hbk2 := HBK2.out hwf2 hp0
          have hpk := pack_any t a4 ul m c4 w4 HM.out.symm hc4 (by omega) hwf2 HR4.out
          rw [hp0] at hpk
          obtain ⟨ql, hql⟩ : ∃ ql, (packOf t ul).1 = ql := ⟨_, rfl⟩
          rw [hql] at hpk hbk2 hplen
          obtain ⟨r, hr⟩ : ∃ r, ql.length = r := ⟨_, rfl⟩
          have hr2 : r ≤ n2 := by rw [hn2.out, ← hr]; exact hplen
          have HPK := Lib.hid hpk
          have HBK3 := Lib.hid hbk2
          have HRL := Lib.hid hr
          clear hpk hbk2 hplen hr hql HBK2 HSH HE2
          go_wp2_with (first
            | (go_at_call 16; refine (num_any _ _).mono ?_; rintro e _ ⟨rfl, rfl⟩)
            | (go_at_call 31; refine HPK.out.mono ?_; rintro e w5 ⟨v5, rfl, ho5, hb5⟩; obtain ⟨a5, c5, rfl, hc5, hcm5, hr5⟩ := ho5.rdm; rw [HRL.out] at hc5; rw [HRL.out]; have HR5 := Lib.hid hr5; have HB5 := Lib.hid (below_trans HB4.out hb5); have HR45 := Lib.hid (HR4.out.mono hb5); clear ho5 hb5 hr5)
            | (go_at_call 33; refine (unpack_any t a5 ql r c5 _ HRL.out.symm hc5 hcm5 HR5.out).mono ?_; rw [HBK3.out]; rintro e w6 ⟨v6, rfl, ho6, hb6⟩; obtain ⟨a6, c6, rfl, hc6, hr6⟩ := ho6.rd; rw [HM.out]; have HR6 := Lib.hid hr6; have HB6 := Lib.hid (below_trans HB5.out hb6); have HR46 := Lib.hid (HR45.out.mono hb6); clear ho6 hb6 hr6 hc6)
            | (go_at_call 35; refine (same_any a6 a4 ul ul m m c6 c4 _ HM.out.symm HM.out.symm (by omega) (by omega) HR6.out HR46.out).mono ?_; rw [decide_eq_true (rfl : ul = ul)]; rintro e w7 ⟨rfl, hb7⟩; have HB7 := Lib.hid (below_trans HB6.out hb7); clear hb7)
            | (go_at_call 11; refine (works_any _).mono ?_; rintro e w8 ⟨rfl, hb8⟩; have HB8 := Lib.hid (below_trans HB7.out hb8); clear hb8))
          go_ret
          exact ⟨rfl, HB8.out⟩
        · have hul0 := HE2.out hue0
          rw [hul0] at HM
          have hm0 : m = 0 := HM.out.symm
          subst hm0
          have hueb : ((ue : Int) != 0) = true := by simp; omega
          go_wp2_with (first | (go_at_call 16; refine (num_any _ _).mono ?_; rintro e _ ⟨rfl, rfl⟩) | (go_at_call 11; refine (works_any _).mono ?_; rintro e w8 ⟨rfl, hb8⟩; have HB8 := Lib.hid (below_trans HB4.out hb8); clear hb8))
          go_ret
          exact ⟨rfl, HB8.out⟩
end Go.Proofs.Ytomfdiomakjeoaa
