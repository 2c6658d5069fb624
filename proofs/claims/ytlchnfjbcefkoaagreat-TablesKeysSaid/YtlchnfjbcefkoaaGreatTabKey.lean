/- tables.Key: a row's bytes. -/
import Derived.Test.YtlchnfjbcefkoaaGreatTabRefPart
namespace Go.Proofs.YtlchnfjbcefkoaaGreat
open Go.RowKit

/-- The cells of some parts. -/
def ptsC (ps : List Pt) : List Value := ps.flatMap ptC
theorem ptsC_length (ps : List Pt) : (ptsC ps).length = 3 * ps.length := by
  induction ps with
  | nil => rfl
  | cons f r ih =>
    show (ptC f ++ ptsC r).length = _
    rw [List.length_append, ih, List.length_cons]
    show 3 + _ = _
    omega
theorem ptsC_get (ps : List Pt) : ∀ (k : Nat) (hk : k < ps.length) (j : Nat) (v : Value), (ptC ps[k])[j]? = some v → (ptsC ps)[3 * k + j]? = some v := by
  induction ps with
  | nil => intro k hk; simp at hk
  | cons f r ih =>
    intro k hk j v h
    show (ptC f ++ ptsC r)[3 * k + j]? = some v
    have hj : j < 3 := by
      obtain ⟨hj, _⟩ := List.getElem?_eq_some_iff.1 h
      exact hj
    cases k with
    | zero => rw [List.getElem?_append_left (by show 3 * 0 + j < 3; omega)]; simpa using h
    | succ k =>
      rw [List.getElem?_append_right (by show 3 ≤ _; omega)]
      have := ih k (by simpa using hk) j v (by simpa using h)
      rw [show 3 * (k + 1) + j - (ptC f).length = 3 * k + j by show 3 * (k + 1) + j - 3 = _; omega]
      exact this
/-- Some parts can be read at an address. -/
def RdP (w : World) (a : Option Addr) (ps : List Pt) : Prop := Rd w a (ptsC ps)
theorem RdP.mono {w w' : World} {a : Option Addr} {ps : List Pt} (h : RdP w a ps) (hb : Below w.heap.size w w') : RdP w' a ps := Rd.mono h hb
theorem RdP.at {w : World} {a : Option Addr} {ps : List Pt} (h : RdP w a ps) (hl : 0 < ps.length) :
    ∃ b off, a = some ⟨b, off, none⟩ ∧ b < w.heap.size ∧ ∀ k (hk : k < ps.length) j v, (ptC ps[k])[j]? = some v → w.cell? ((⟨b, off + k * 3, none⟩ : Addr).add j) = some v := by
  rcases h with h | ⟨b, off, ha, hlt, hc⟩
  · have := ptsC_length ps
    rw [h] at this
    simp at this
    omega
  · refine ⟨b, off, ha, hlt, fun k hk j v hv => ?_⟩
    obtain ⟨hj, he⟩ := List.getElem?_eq_some_iff.1 (ptsC_get ps k hk j v hv)
    have hadd : (⟨b, off + k * 3, none⟩ : Addr).add j = ⟨b, off + (3 * k + j), none⟩ := by unfold Addr.add; split <;> simp_all; omega
    rw [hadd, hc _ hj, he]
theorem put_at (s : List UInt8) (n : Int) (is : Bool) (S : ByteArray) (hS : str s = S) (h0 : -9223372036854775808 ≤ n) (h1 : n ≤ 9223372036854775807) (v : Value) (l : List UInt8) (base : Nat) (w : World) (hv : OwnB w base 5 v l) (hbase : base ≤ w.heap.size) (hs : l.length + (enc ⟨s, n, is⟩).length ≤ 140737488355328) :
    Calls Tryz.prog 17 #[v, .agg #[.string S, .int .i64 n, .bool is]] w fun e w' => ∃ v', e = .returned v' ∧ OwnB w' base 5 v' (l ++ enc ⟨s, n, is⟩) ∧ Onto w v w' v' := by
  subst hS
  exact put_on ⟨s, n, is⟩ ⟨h0, h1⟩ v l base w hv hbase hs
theorem refpart_at (s : List UInt8) (n : Int) (is : Bool) (S : ByteArray) (hS : str s = S) (h0 : -9223372036854775808 ≤ n) (h1 : n ≤ 9223372036854775807) (w : World) (hs : (enc ⟨s, n, is⟩).length ≤ 140737488355328) :
    Calls Tryz.prog 18 #[.agg #[.string S, .int .i64 n, .bool is]] w (RetB 5 w (enc ⟨s, n, is⟩)) := by
  subst hS
  exact refpart_any ⟨s, n, is⟩ ⟨h0, h1⟩ w hs
theorem enc_le (p : Pt) : (enc p).length ≤ 2 * p.s.length + 9 := by
  have : ∀ s : List UInt8, (esc s).length ≤ 2 * s.length := by
    intro s
    induction s with
    | nil => simp [esc]
    | cons c s ih => simp only [esc, List.length_cons]; split <;> simp <;> omega
  have h := this p.s
  unfold enc
  split
  · show 9 ≤ _; omega
  · simp; omega
theorem encs_le (M : Nat) : ∀ l : List Pt, (∀ p ∈ l, p.s.length ≤ M) → (encs l).length ≤ l.length * (2 * M + 9)
  | [], _ => by simp [encs]
  | p :: l, h => by
    rw [encs_cons, List.length_append, List.length_cons, Nat.succ_mul]
    have := encs_le M l fun q hq => h q (by simp [hq])
    have h1 := enc_le p
    have h2 := h p (by simp)
    omega
theorem encs_app (a b : List Pt) : encs (a ++ b) = encs a ++ encs b := by simp [encs]
theorem encs_next (t : List UInt8) (ps : List Pt) (k : Nat) (h : k < ps.length) : encs (tab t :: ps.take (k + 1)) = encs (tab t :: ps.take k) ++ enc ps[k] := by
  rw [List.take_succ_eq_append_getElem h, ← List.cons_append, encs_app]
  simp [encs]
theorem encs_big {p : Pt} {l : List Pt} (hp : p ∈ l) (hf : fineP p = true) (h : 300 < p.s.length) : 300 < (encs l).length := by
  obtain ⟨a, b, rfl⟩ := List.append_of_mem hp
  rw [encs_app, encs_cons, List.length_append, List.length_append]
  have hi : p.is = false := by
    cases hi : p.is with
    | false => rfl
    | true => unfold fineP at hf; rw [hi] at hf; simp at hf; rw [hf] at h; simp at h
  have := esc_len p.s
  have : p.s.length < (enc p).length := by unfold enc; rw [hi]; simp; omega
  omega
theorem keyOk_len {t : List UInt8} {ps : List Pt} (h : ¬ (1 ≤ t.length ∧ t.length ≤ 32 ∧ 1 ≤ ps.length ∧ ps.length ≤ 8)) : keyOk t ps = false := by
  cases hk : keyOk t ps with
  | false => rfl
  | true =>
    unfold keyOk at hk
    simp only [Bool.and_eq_true, decide_eq_true_eq] at hk
    exact absurd ⟨hk.1.1.1.1.1, hk.1.1.1.1.2, hk.1.1.1.2, hk.1.1.2⟩ h
theorem keyOk_bad {t : List UInt8} {ps : List Pt} {p : Pt} (hp : p ∈ ps) (h : fineP p = false ∨ 300 < p.s.length) : keyOk t ps = false := by
  cases hk : keyOk t ps with
  | false => rfl
  | true =>
    unfold keyOk at hk
    simp only [Bool.and_eq_true, decide_eq_true_eq, List.all_eq_true] at hk
    have hf := hk.1.2 p hp
    rcases h with h | h
    · rw [h] at hf; cases hf
    · have := encs_big (l := tab t :: ps) (by simp [hp]) hf h
      omega
theorem keyOk_end {t : List UInt8} {ps : List Pt} (h : 1 ≤ t.length ∧ t.length ≤ 32 ∧ 1 ≤ ps.length ∧ ps.length ≤ 8) (hf : ps.all fineP = true) : keyOk t ps = decide ((encs (tab t :: ps)).length ≤ 300) := by
  unfold keyOk
  rw [hf, decide_eq_true h.1, decide_eq_true h.2.1, decide_eq_true h.2.2.1, decide_eq_true h.2.2.2]
  simp

set_option maxRecDepth 100000 in
set_option maxHeartbeats 800000 in
theorem key_any (t : List UInt8) (T : ByteArray) (hT : str t = T) (a : Option Addr) (ps : List Pt) (n cap : Nat) (w : World) (hn : Hid (n = ps.length)) (hc : n ≤ cap) (hn2 : n ≤ 1000000) (hok : Hid (∀ p ∈ ps, p.Ok)) (hlen : Hid (∀ p ∈ ps, p.s.length ≤ 1000000)) (ht : Hid (t.length ≤ 1000000)) (hl : RdP w a ps) :
    Calls Tryz.prog 6 #[.string T, .slice a n cap] w fun e w' => Below w.heap.size w w' ∧
      (keyOk t ps = true ∧ (∃ v, e = .returned (.tuple #[v, .int .i64 0]) ∧ OwnB w' w.heap.size 5 v (encs (tab t :: ps))) ∨ keyOk t ps = false ∧ e = .returned (.tuple #[.slice none 0 0, .int .i64 2])) := by
  have HL := Lib.hid hl
  obtain ⟨tl, htl⟩ : ∃ tl, T.size = tl := ⟨_, rfl⟩
  have HTL : Hid (tl = t.length) := by show _ = _; rw [← htl, ← hT]; simp [str, ByteArray.size]
  have HT := Lib.hid hT
  have htl2 : tl ≤ 1000000 := by rw [HTL.out]; exact ht.out
  clear hl hT
  by_cases hgood : 1 ≤ tl ∧ tl ≤ 32 ∧ 1 ≤ n ∧ n ≤ 8
  · obtain ⟨g1, g2, g3, g4⟩ := hgood
    go_enter Tryz.func6, Tryz.ntmps6
    have hB0 : ([] : List UInt8).length + (enc ⟨t, 0, false⟩).length ≤ 140737488355328 := by
      have h1 := enc_le ⟨t, 0, false⟩
      have h2 := HTL.out
      simp only [List.length_nil] at h1 ⊢
      omega
    have hE0 : [] ++ enc ⟨t, 0, false⟩ = encs (tab t :: ps.take 0) := by simp [encs, tab]
    go_wp2_with fail
    refine (put_at t 0 false T HT.out (by decide) (by decide) _ [] w.heap.size w (OwnB.nil _ _ _) (Nat.le_refl _) hB0).mono ?_
    rintro e w1 ⟨v1, rfl, h1, h2⟩
    rw [hE0] at h1
    have H1 := Lib.hid h1
    have H2 := Lib.hid (h2.down (OwnB.nil w w.heap.size 5) (Nat.le_refl _))
    clear h1 h2 hE0 hB0
    go_wp2
    go_loopw [6, 32] (fun u i wr => ∃ k : Nat, k ≤ n ∧ i = .int .i64 (k : Int) ∧ OwnB wr w.heap.size 5 u (encs (tab t :: ps.take k)) ∧ Below w.heap.size w wr ∧ (ps.take k).all fineP = true) (fun _ i _ => n - (intOf i).toNat)
    case atStart => exact ⟨0, Nat.zero_le _, rfl, H1.out, H2.out, rfl⟩
    case round =>
      obtain ⟨k, hk, rfl, ho, hb, hf⟩ := hrel
      have HO := Lib.hid ho
      have HB := Lib.hid hb
      have HF := Lib.hid hf
      clear ho hb hf H1 H2
      by_cases hkn : k < n
      · have hkl : k < ps.length := by rw [← hn.out]; exact hkn
        obtain ⟨b2, off, rfl, hlt, hcell⟩ := HL.out.at (by omega)
        obtain ⟨⟨s, x, is⟩, hp⟩ : ∃ p, ps[k] = p := ⟨_, rfl⟩
        obtain ⟨S, hS⟩ : ∃ S, str s = S := ⟨_, rfl⟩
        have hmem : (⟨s, x, is⟩ : Pt) ∈ ps := by rw [← hp]; exact List.getElem_mem hkl
        have hx := hok.out _ hmem
        have hsl := hlen.out _ hmem
        dsimp only at hsl
        obtain ⟨N, hN⟩ : ∃ N, S.size = N := ⟨_, rfl⟩
        have HN : Hid (N = s.length) := by show _ = _; rw [← hN, ← hS]; simp [str, ByteArray.size]
        have HC : Hid (∀ (j : Nat) (v : Value), [Value.string S, Value.int .i64 x, Value.bool is][j]? = some v → wr.cell? ((⟨b2, off + k * 3, none⟩ : Addr).add j) = some v) := fun j v h =>
          (HB.out.cell (p := (⟨b2, off + k * 3, none⟩ : Addr).add j) (by unfold Addr.add; split <;> exact hlt)).trans (hcell k hkl j v (by rw [hp]; show [Value.string (str s), Value.int .i64 x, Value.bool is][j]? = _; rw [hS]; exact h))
        have HSTR : Hid (str s = S) := hS
        have HM := Lib.hid hmem
        have HNX : Hid (encs (tab t :: ps.take (k + 1)) = encs (tab t :: ps.take k) ++ enc ⟨s, x, is⟩) := by have := encs_next t ps k hkl; rwa [hp] at this
        have HFN : Hid ((ps.take (k + 1)).all fineP = ((ps.take k).all fineP && fineP ⟨s, x, is⟩)) := by show _ = _; rw [List.take_succ_eq_append_getElem hkl, hp, List.all_append]; simp
        clear hcell hp hS hmem hkl
        have HE9 : Hid ((encs (tab t :: ps.take k)).length ≤ 100000000) := by
          have h := encs_le 1000000 (tab t :: ps.take k) (fun q hq => by
            rcases List.mem_cons.1 hq with rfl | hq
            · exact ht.out
            · exact hlen.out q (List.mem_of_mem_take hq))
          have h2 : (tab t :: ps.take k).length ≤ 9 := by simp; omega
          have h3 := Nat.mul_le_mul_right (2 * 1000000 + 9) h2
          show _ ≤ _
          omega
        have hSL : S.toList = s := by rw [← HSTR.out, str_toList]
        cases is with
        | true =>
          by_cases hs0 : s = []
          · subst hs0
            have hN0 : N = 0 := HN.out
            have HBD : Hid ((encs (tab t :: ps.take k)).length + (enc ⟨[], x, true⟩).length ≤ 140737488355328) := by
              have h1 := enc_le ⟨[], x, true⟩
              have h2 := HE9.out
              show _ ≤ _
              dsimp only at h1
              simp only [List.length_nil] at h1
              omega
            go_wp2_with (first | (refine step_loadCells rfl 42 (.tmp 34) rfl ⟨b2, off + k * 3, none⟩ rfl [Value.string S, Value.int .i64 x, Value.bool true] aggP HC.out ?_))
            refine (put_at [] x true S HSTR.out hx.1 hx.2 _ (encs (tab t :: ps.take k)) w.heap.size _ (HO.out.kept (below_alloc _) (Nat.le_refl _)) (by have := HB.out.size; rw [World.size_alloc]; omega) HBD.out).mono ?_
            rintro e w2 ⟨v2, rfl, h1, h2⟩
            rw [← HNX.out] at h1
            have h3 := h2.down (HO.out.kept (below_alloc _) (Nat.le_refl _)) (by have := HB.out.size; rw [World.size_alloc]; omega)
            have h4 := HB.out.trans (((Below.refl _ wr).alloc HB.out.size _).trans h3)
            have hf := HFN.out
            rw [HF.out] at hf
            have H5 := Lib.hid h1
            have H6 := Lib.hid h4
            have H7 := Lib.hid hf
            clear h1 h2 h3 h4 hf
            go_wp2
            go_roundw
            case rel => exact ⟨k + 1, by omega, by go_num, H5.out, H6.out, by rw [H7.out]; rfl⟩
            case measure => simp [intOf]; omega
          · have hf0 : fineP ⟨s, x, true⟩ = false := by
              unfold fineP
              cases s with
              | nil => exact absurd rfl hs0
              | cons c r => rfl
            have HK : Hid (keyOk t ps = false) := keyOk_bad HM.out (.inl hf0)
            have HBB := Lib.hid (HB.out.trans ((Below.refl _ wr).alloc HB.out.size (.cells #[.string S, .int .i64 x, .bool true] 42)))
            go_wp2_with (first | (refine step_loadCells rfl 42 (.tmp 34) rfl ⟨b2, off + k * 3, none⟩ rfl [Value.string S, Value.int .i64 x, Value.bool true] aggP HC.out ?_))
            go_ret2
            exact ⟨HBB.out, .inr ⟨HK.out, rfl⟩⟩
        | false =>
          by_cases hx0 : x = 0
          · by_cases hN3 : N ≤ 300
            · subst hx0
              have HBD : Hid ((encs (tab t :: ps.take k)).length + (enc ⟨s, 0, false⟩).length ≤ 140737488355328) := by
                have h1 := enc_le ⟨s, 0, false⟩
                have h2 := HE9.out
                show _ ≤ _
                dsimp only at h1
                omega
              go_wp2_with (first | (refine step_loadCells rfl 42 (.tmp 34) rfl ⟨b2, off + k * 3, none⟩ rfl [Value.string S, Value.int .i64 0, Value.bool false] aggP HC.out ?_))
              refine (put_at s 0 false S HSTR.out hx.1 hx.2 _ (encs (tab t :: ps.take k)) w.heap.size _ (HO.out.kept (below_alloc _) (Nat.le_refl _)) (by have := HB.out.size; rw [World.size_alloc]; omega) HBD.out).mono ?_
              rintro e w2 ⟨v2, rfl, h1, h2⟩
              rw [← HNX.out] at h1
              have h3 := h2.down (HO.out.kept (below_alloc _) (Nat.le_refl _)) (by have := HB.out.size; rw [World.size_alloc]; omega)
              have h4 := HB.out.trans (((Below.refl _ wr).alloc HB.out.size _).trans h3)
              have hf := HFN.out
              rw [HF.out] at hf
              have H5 := Lib.hid h1
              have H6 := Lib.hid h4
              have H7 := Lib.hid hf
              clear h1 h2 h3 h4 hf
              go_wp2
              go_roundw
              case rel => exact ⟨k + 1, by omega, by go_num, H5.out, H6.out, by rw [H7.out]; rfl⟩
              case measure => simp [intOf]; omega
            · subst hx0
              have HK : Hid (keyOk t ps = false) := keyOk_bad HM.out (.inr (by rw [← HN.out]; omega))
              have HBB := Lib.hid (HB.out.trans ((Below.refl _ wr).alloc HB.out.size (.cells #[.string S, .int .i64 0, .bool false] 42)))
              go_wp2_with (first | (refine step_loadCells rfl 42 (.tmp 34) rfl ⟨b2, off + k * 3, none⟩ rfl [Value.string S, Value.int .i64 0, Value.bool false] aggP HC.out ?_))
              go_ret2
              exact ⟨HBB.out, .inr ⟨HK.out, rfl⟩⟩
          · have hf0 : fineP ⟨s, x, false⟩ = false := by
              unfold fineP
              simpa using hx0
            have HK : Hid (keyOk t ps = false) := keyOk_bad HM.out (.inl hf0)
            have HBB := Lib.hid (HB.out.trans ((Below.refl _ wr).alloc HB.out.size (.cells #[.string S, .int .i64 x, .bool false] 42)))
            go_wp2_with (first | (refine step_loadCells rfl 42 (.tmp 34) rfl ⟨b2, off + k * 3, none⟩ rfl [Value.string S, Value.int .i64 x, Value.bool false] aggP HC.out ?_))
            go_ret2
            exact ⟨HBB.out, .inr ⟨HK.out, rfl⟩⟩
      · have hkn2 : k = n := by omega
        subst hkn2
        have hE : ps.take k = ps := by rw [hn.out, List.take_length]
        rw [hE] at HO HF
        have HE := Lib.hid (keyOk_end (t := t) (ps := ps) (by rw [← HTL.out, ← hn.out]; exact ⟨g1, g2, g3, g4⟩) HF.out)
        obtain ⟨a9, c9, rfl, hc9, _⟩ := HO.out.rd
        obtain ⟨L, hL⟩ : ∃ L, (encs (tab t :: ps)).length = L := ⟨_, rfl⟩
        rw [hL] at HE hc9
        by_cases hL3 : L ≤ 300
        · rw [decide_eq_true hL3] at HE
          rw [hL] at HO ⊢
          go_wp2
          go_ret2
          exact ⟨HB.out, .inl ⟨HE.out, _, rfl, HO.out⟩⟩
        · rw [decide_eq_false hL3] at HE
          rw [hL] at HO ⊢
          go_wp2
          go_ret2
          exact ⟨HB.out, .inr ⟨HE.out, rfl⟩⟩
  · have HK : Hid (keyOk t ps = false) := keyOk_len (by rw [← HTL.out, ← hn.out]; exact hgood)
    go_enter Tryz.func6, Tryz.ntmps6
    rcases (by omega : tl < 1 ∨ (1 ≤ tl ∧ 32 < tl) ∨ (1 ≤ tl ∧ tl ≤ 32 ∧ n < 1) ∨ (1 ≤ tl ∧ tl ≤ 32 ∧ 1 ≤ n ∧ 8 < n)) with h | h | h | h
    all_goals
      go_wp2
      go_ret2
      exact ⟨Below.refl _ _, .inr ⟨HK.out, rfl⟩⟩
end Go.Proofs.YtlchnfjbcefkoaaGreat
