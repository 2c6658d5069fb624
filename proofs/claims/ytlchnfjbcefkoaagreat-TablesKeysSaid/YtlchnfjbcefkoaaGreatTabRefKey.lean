/- The document's Key: a row's bytes. -/
import Derived.Test.YtlchnfjbcefkoaaGreatTabKey
namespace Go.Proofs.YtlchnfjbcefkoaaGreat
open Go.RowKit

set_option maxRecDepth 100000 in
set_option maxHeartbeats 800000 in
theorem refkey_any (t : List UInt8) (T : ByteArray) (hT : str t = T) (a : Option Addr) (ps : List Pt) (n cap : Nat) (w : World) (hn : Hid (n = ps.length)) (hc : n ≤ cap) (hn2 : n ≤ 1000000) (hok : Hid (∀ p ∈ ps, p.Ok)) (hlen : Hid (∀ p ∈ ps, p.s.length ≤ 1000000)) (ht : Hid (t.length ≤ 1000000)) (hl : RdP w a ps) :
    Calls Tryz.prog 7 #[.string T, .slice a n cap] w fun e w' => Below w.heap.size w w' ∧
      (keyOk t ps = true ∧ (∃ v, e = .returned (.tuple #[v, .bool true]) ∧ OwnB w' w.heap.size 5 v (encs (tab t :: ps))) ∨ keyOk t ps = false ∧ e = .returned (.tuple #[.slice none 0 0, .bool false])) := by
  have HL := Lib.hid hl
  obtain ⟨tl, htl⟩ : ∃ tl, T.size = tl := ⟨_, rfl⟩
  have HTL : Hid (tl = t.length) := by show _ = _; rw [← htl, ← hT]; simp [str, ByteArray.size]
  have HT := Lib.hid hT
  have htl2 : tl ≤ 1000000 := by rw [HTL.out]; exact ht.out
  clear hl hT
  by_cases hgood : 1 ≤ tl ∧ tl ≤ 32 ∧ 1 ≤ n ∧ n ≤ 8
  · obtain ⟨g1, g2, g3, g4⟩ := hgood
    go_enter Tryz.func7, Tryz.ntmps7
    have hB0 : (enc ⟨t, 0, false⟩).length ≤ 140737488355328 := by
      have h1 := enc_le ⟨t, 0, false⟩
      have h2 := HTL.out
      dsimp only at h1
      omega
    have hE0 : enc ⟨t, 0, false⟩ = encs (tab t :: ps.take 0) := by simp [encs, tab]
    go_wp2_with fail
    refine (refpart_at t 0 false T HT.out (by decide) (by decide) _ hB0).mono ?_
    rintro e w1 ⟨v1, rfl, h1, h2⟩
    rw [hE0] at h1
    have H1 := Lib.hid h1
    have H2 := Lib.hid h2
    clear h1 h2 hE0 hB0
    go_wp2
    go_loopw [6, 7] (fun u i wr => ∃ k : Nat, k ≤ n ∧ i = .int .i64 (k : Int) ∧ OwnB wr w.heap.size 5 u (encs (tab t :: ps.take k)) ∧ Below w.heap.size w wr ∧ (ps.take k).all fineP = true) (fun _ i _ => n - (intOf i).toNat)
    case atStart => exact ⟨0, Nat.zero_le _, rfl, H1.out, H2.out, rfl⟩
    case round =>
      obtain ⟨k, hk, rfl, ho, hb, hf⟩ := hrel
      have HO := Lib.hid ho
      have HB := Lib.hid hb
      have HF := Lib.hid hf
      clear ho hb hf H1 H2
      by_cases hkn : k < n
      · have hkl : k < ps.length := by rw [← hn.out]; exact hkn
        obtain ⟨b2, off, rfl, hlt, hcell⟩ := HL.out.at (by omega)
        obtain ⟨⟨s, x, is⟩, hp⟩ : ∃ p, ps[k] = p := ⟨_, rfl⟩
        obtain ⟨S, hS⟩ : ∃ S, str s = S := ⟨_, rfl⟩
        have hmem : (⟨s, x, is⟩ : Pt) ∈ ps := by rw [← hp]; exact List.getElem_mem hkl
        have hx := hok.out _ hmem
        have hsl := hlen.out _ hmem
        dsimp only at hsl
        obtain ⟨N, hN⟩ : ∃ N, S.size = N := ⟨_, rfl⟩
        have HN : Hid (N = s.length) := by show _ = _; rw [← hN, ← hS]; simp [str, ByteArray.size]
        have HC : Hid (∀ (j : Nat) (v : Value), [Value.string S, Value.int .i64 x, Value.bool is][j]? = some v → wr.cell? ((⟨b2, off + k * 3, none⟩ : Addr).add j) = some v) := fun j v h =>
          (HB.out.cell (p := (⟨b2, off + k * 3, none⟩ : Addr).add j) (by unfold Addr.add; split <;> exact hlt)).trans (hcell k hkl j v (by rw [hp]; show [Value.string (str s), Value.int .i64 x, Value.bool is][j]? = _; rw [hS]; exact h))
        have HSTR : Hid (str s = S) := hS
        have HM := Lib.hid hmem
        have HNX : Hid (encs (tab t :: ps.take (k + 1)) = encs (tab t :: ps.take k) ++ enc ⟨s, x, is⟩) := by have := encs_next t ps k hkl; rwa [hp] at this
        have HFN : Hid ((ps.take (k + 1)).all fineP = ((ps.take k).all fineP && fineP ⟨s, x, is⟩)) := by show _ = _; rw [List.take_succ_eq_append_getElem hkl, hp, List.all_append]; simp
        clear hcell hp hS hmem hkl
        have HE9 : Hid ((encs (tab t :: ps.take k)).length ≤ 100000000) := by
          have h := encs_le 1000000 (tab t :: ps.take k) (fun q hq => by
            rcases List.mem_cons.1 hq with rfl | hq
            · exact ht.out
            · exact hlen.out q (List.mem_of_mem_take hq))
          have h2 : (tab t :: ps.take k).length ≤ 9 := by simp; omega
          have h3 := Nat.mul_le_mul_right (2 * 1000000 + 9) h2
          show _ ≤ _
          omega
        have hSL : S.toList = s := by rw [← HSTR.out, str_toList]
        have hA : ∀ j, (⟨b2, off + k * 3, none⟩ : Addr).add j = ⟨b2, off + k * 3 + j, none⟩ := fun j => by unfold Addr.add; split <;> simp_all
        have hc0 : wr.cell? ⟨b2, off + k * 3, none⟩ = some (.string S) := by have := HC.out 0 _ rfl; rwa [hA] at this
        have hc1 : wr.cell? ⟨b2, off + k * 3 + 1, none⟩ = some (.int .i64 x) := by have := HC.out 1 _ rfl; rwa [hA] at this
        have hc2 : wr.cell? ⟨b2, off + k * 3 + 2, none⟩ = some (.bool is) := by have := HC.out 2 _ rfl; rwa [hA] at this
        clear hA
        cases is with
        | true =>
          by_cases hs0 : s = []
          · subst hs0
            have HBD : Hid ((encs (tab t :: ps.take k)).length + (enc ⟨[], x, true⟩).length ≤ 140737488355328) := by
              have h1 := enc_le ⟨[], x, true⟩
              have h2 := HE9.out
              show _ ≤ _
              dsimp only at h1
              try simp only [List.length_nil] at h1
              omega
            go_wp2_with (first | (refine step_loadCells rfl 42 (.tmp 67) rfl ⟨b2, off + k * 3, none⟩ rfl [Value.string S, Value.int .i64 x, Value.bool true] aggP HC.out ?_))
            refine (refpart_at [] x true S HSTR.out hx.1 hx.2 _ (by have := HBD.out; omega)).mono ?_
            rintro e w2 ⟨v2, rfl, h1, h2⟩
            obtain ⟨a2, c2, rfl, hc2, hrd⟩ := h1.rd
            have H5 := Lib.hid (HO.out.kept h2 (Nat.le_refl _))
            have H6 := Lib.hid hrd
            have H7 := Lib.hid (HB.out.trans (h2.mono HB.out.size))
            clear h1 h2 hrd
            go_wp2_with (at_builtin; refine step_appendB rfl (.tmp 64) (.tmp 69) rfl eltB w.heap.size _ (encs (tab t :: ps.take k)) rfl _ _ _ (enc ⟨[], x, true⟩) rfl H5.out rfl H6.out HBD.out H7.out.size ?_; intro v3 w3 h1 h2; rw [← HNX.out] at h1; have h4 := H7.out.trans h2; have hf := HFN.out; rw [HF.out] at hf; have H8 := Lib.hid h1; have H9 := Lib.hid h4; have HF9 := Lib.hid hf; clear h1 h2 h4 hf)
            go_roundw
            case rel => exact ⟨k + 1, by omega, by go_num, H8.out, H9.out, by rw [HF9.out]; rfl⟩
            case measure => simp [intOf]; omega
          · have hf0 : fineP ⟨s, x, true⟩ = false := by
              unfold fineP
              cases s with
              | nil => exact absurd rfl hs0
              | cons c r => rfl
            have HK : Hid (keyOk t ps = false) := keyOk_bad HM.out (.inl hf0)
            go_wp2
            go_ret2
            exact ⟨HB.out, .inr ⟨HK.out, rfl⟩⟩
        | false =>
          by_cases hx0 : x = 0
          · subst hx0
            have HBD : Hid ((encs (tab t :: ps.take k)).length + (enc ⟨s, 0, false⟩).length ≤ 140737488355328) := by
              have h1 := enc_le ⟨s, 0, false⟩
              have h2 := HE9.out
              show _ ≤ _
              dsimp only at h1
              try simp only [List.length_nil] at h1
              omega
            go_wp2_with (first | (refine step_loadCells rfl 42 (.tmp 67) rfl ⟨b2, off + k * 3, none⟩ rfl [Value.string S, Value.int .i64 0, Value.bool false] aggP HC.out ?_))
            refine (refpart_at s 0 false S HSTR.out hx.1 hx.2 _ (by have := HBD.out; omega)).mono ?_
            rintro e w2 ⟨v2, rfl, h1, h2⟩
            obtain ⟨a2, c2, rfl, hc2, hrd⟩ := h1.rd
            have H5 := Lib.hid (HO.out.kept h2 (Nat.le_refl _))
            have H6 := Lib.hid hrd
            have H7 := Lib.hid (HB.out.trans (h2.mono HB.out.size))
            clear h1 h2 hrd
            go_wp2_with (at_builtin; refine step_appendB rfl (.tmp 64) (.tmp 69) rfl eltB w.heap.size _ (encs (tab t :: ps.take k)) rfl _ _ _ (enc ⟨s, 0, false⟩) rfl H5.out rfl H6.out HBD.out H7.out.size ?_; intro v3 w3 h1 h2; rw [← HNX.out] at h1; have h4 := H7.out.trans h2; have hf := HFN.out; rw [HF.out] at hf; have H8 := Lib.hid h1; have H9 := Lib.hid h4; have HF9 := Lib.hid hf; clear h1 h2 h4 hf)
            go_roundw
            case rel => exact ⟨k + 1, by omega, by go_num, H8.out, H9.out, by rw [HF9.out]; rfl⟩
            case measure => simp [intOf]; omega
          · have hf0 : fineP ⟨s, x, false⟩ = false := by
              unfold fineP
              simpa using hx0
            have HK : Hid (keyOk t ps = false) := keyOk_bad HM.out (.inl hf0)
            go_wp2
            go_ret2
            exact ⟨HB.out, .inr ⟨HK.out, rfl⟩⟩
      · have hkn2 : k = n := by omega
        subst hkn2
        have hE : ps.take k = ps := by rw [hn.out, List.take_length]
        rw [hE] at HO HF
        have HE := Lib.hid (keyOk_end (t := t) (ps := ps) (by rw [← HTL.out, ← hn.out]; exact ⟨g1, g2, g3, g4⟩) HF.out)
        obtain ⟨a9, c9, rfl, hc9, _⟩ := HO.out.rd
        obtain ⟨L, hL⟩ : ∃ L, (encs (tab t :: ps)).length = L := ⟨_, rfl⟩
        rw [hL] at HE hc9
        by_cases hL3 : L ≤ 300
        · rw [decide_eq_true hL3] at HE
          rw [hL] at HO ⊢
          go_wp2
          go_ret2
          exact ⟨HB.out, .inl ⟨HE.out, _, rfl, HO.out⟩⟩
        · rw [decide_eq_false hL3] at HE
          rw [hL] at HO ⊢
          go_wp2
          go_ret2
          exact ⟨HB.out, .inr ⟨HE.out, rfl⟩⟩
  · have HK : Hid (keyOk t ps = false) := keyOk_len (by rw [← HTL.out, ← hn.out]; exact hgood)
    go_enter Tryz.func7, Tryz.ntmps7
    rcases (by omega : tl < 1 ∨ (1 ≤ tl ∧ 32 < tl) ∨ (1 ≤ tl ∧ tl ≤ 32 ∧ n < 1) ∨ (1 ≤ tl ∧ tl ≤ 32 ∧ 1 ≤ n ∧ 8 < n)) with h | h | h | h
    all_goals
      go_wp2
      go_ret2
      exact ⟨Below.refl _ _, .inr ⟨HK.out, rfl⟩⟩
end Go.Proofs.YtlchnfjbcefkoaaGreat
