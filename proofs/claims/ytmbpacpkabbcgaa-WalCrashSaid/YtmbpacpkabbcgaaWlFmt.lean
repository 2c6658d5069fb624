/- wal.Format. -/
import Derived.Test.YtmbpacpkabbcgaaWlPut
namespace Go.Proofs.Ytmbpacpkabbcgaa
open Go.RowKit

/-- An empty log's bytes. -/
def fmtB (n : Nat) : List UInt8 := splice (List.replicate (n * 512) 0) 512 (headB 1 1)
theorem fmtB_len {n : Nat} (h : 2 ≤ n) : (fmtB n).length = n * 512 := by
  unfold fmtB
  rw [length_splice _ _ _ (by rw [headB_len, List.length_replicate]; omega), List.length_replicate]
set_option maxRecDepth 100000 in
theorem format_no (w : World) (S : Nat → Prop) (b : Nat) (D : DK) (F : Nat) (from_ n : Int) (h : DkS w S b D F) (hno : ¬ askW D.size from_ n = 0) :
    Calls Try.prog 9 #[.pointer (some ⟨b, 0, none⟩), .int .i64 from_, .int .i64 n] w fun e w' => e = .returned (.int .i64 (askW D.size from_ n)) ∧ w' = w := by
  have HA := Lib.hid (asked_s w S b D F from_ n h)
  obtain ⟨r, hr⟩ : ∃ r, askW D.size from_ n = r := ⟨_, rfl⟩
  rw [hr] at HA hno ⊢
  have hb : (r != 0) = true := by simpa using hno
  clear h hr
  go_enter Try.func9, Try.ntmps9
  go_wp2_with fail
  refine HA.out.mono ?_
  rintro _ w0 ⟨rfl, rfl⟩
  go_wp2
  go_ret
  exact ⟨rfl, rfl⟩
set_option maxRecDepth 100000 in
set_option maxHeartbeats 1000000 in
theorem format_any (w : World) (S : Nat → Prop) (b : Nat) (D : DK) (F : Nat) (from_ : Int) (n : Nat) (h : DkS w S b D F) (hs : ∀ x, S x → x < w.heap.size) (hok : askW D.size from_ (n : Int) = 0) (hp : D.pcs.length ≤ 900000) :
    Calls Try.prog 9 #[.pointer (some ⟨b, 0, none⟩), .int .i64 from_, .int .i64 (n : Int)] w fun e w' => (∃ er D', e = .returned (.int .i64 er) ∧ WS F D from_ (fmtB n) er D' ∧ DkS w' (Plus S (Span w w')) b D' F) ∧ KeepA S w w' := by
  have HA := Lib.hid (asked_s w S b D F from_ n h)
  rw [hok] at HA
  have hz := h.sizes
  obtain ⟨hn4, hf0, hfs⟩ : 4 ≤ n ∧ 0 ≤ from_ ∧ from_ + (n : Int) ≤ D.size := by
    unfold askW at hok
    split at hok
    · cases hok
    · split at hok
      · cases hok
      · omega
  have HH := Lib.hid (head_any 1 1 (by omega) (by omega))
  have HD := Lib.hid h
  have HS := Lib.hid hs
  obtain ⟨HB', hHB⟩ : ∃ B, headB 1 1 = B := ⟨_, rfl⟩
  have hHl : HB'.length = 512 := by rw [← hHB]; exact headB_len 1 1
  rw [hHB] at HH
  obtain ⟨B, hB⟩ : ∃ B, fmtB n = B := ⟨_, rfl⟩
  have hBl : B.length = n * 512 := by rw [← hB]; exact fmtB_len (by omega)
  rw [hB]
  have HEQ : Hid (splice (List.replicate (n * 512) 0) 512 HB' = B) := by show _ = _; rw [← hB, ← hHB]; rfl
  have hq : B.length / 512 = n := by rw [hBl]; omega
  obtain ⟨g, hg⟩ : ∃ x, w.heap.size = x := ⟨_, rfl⟩
  obtain ⟨AV, hAV⟩ : ∃ x, HB'.map bv = x := ⟨_, rfl⟩
  have hAVl : AV.length = 512 := by rw [← hAV, List.length_map, hHl]
  have HA1 : Hid (∀ v ∈ AV, v.oneCell' = true) := by rw [← hAV]; exact bv_one _
  obtain ⟨Z, hZ⟩ : ∃ x, (List.replicate (n * 512) (0 : UInt8)).map bv = x := ⟨_, rfl⟩
  have hZl : Z.length = n * 512 := by rw [← hZ, List.length_map, List.length_replicate]
  have HFIN : Hid (splice Z 512 AV = B.map bv) := by show _ = _; rw [← HEQ.out, ← hZ, ← hAV, splice_map]
  have HAV := Lib.hid hAV
  have HZ := Lib.hid hZ
  have hw1 : IntKind.i64.wrap ((n : Int) * 512) = ((n * 512 : Nat) : Int) := by rw [IntWalk.i64_in _ (by omega)]; omega
  clear h hs hHB hB hAV hZ hok
  go_enter Try.func9, Try.ntmps9
  go_wp2_with fail
  refine HA.out.mono ?_
  rintro _ w0 ⟨rfl, rfl⟩
  go_wp2_with (refine step_makeB rfl (.tmp 18) (.tmp 18) rfl (n * 512) rfl rfl (by omega) ?_; rw [hg]; intro w1 q1 q2)
  rw [HZ.out] at q1
  have hg1 : g < w1.heap.size := q1.lt
  have HR1 := Lib.hid q1
  have HB1 := Lib.hid q2
  have HC := Lib.hid (HH.out w1.drew)
  have hn1 : ¬ n * 512 = 512 := by omega
  have hn2 : (512 : Int) ≤ ((n * 512 : Nat) : Int) := by omega
  have hn3 : 512 ≤ n * 512 := by omega
  clear q1 q2
  go_region_held_law (fun _ => True) (trivial) (first
    | (go_at_call 26; refine HC.out.mono ?_; rintro e w2 ⟨v, rfl, hv, hb2⟩; have hv' := hv; obtain ⟨ua, uc, hu2, hx⟩ := OwnB.rd hv'; clear hv'; rw [hHl] at hu2; subst hu2; have HS2 := Lib.hid (rd_src hx.2 HAV.out); have HR2 : Hid (w2.heap[g]? = some (.cells Z.toArray 5 (0, 0))) := (hb2.block g hg1).trans HR1.out; have HB2 : Hid (Below g w0 w2) := (drewN_below HB1.out 1).trans (hb2.mono (Nat.le_of_lt hg1)); clear hx hv hb2)
    | (refine step_copy_splice rfl (.tmp 21) (.tmp 22) 41 41 rfl 5 Try.underlying41 (by kernel_rfl) _ _ _ _ _ _ rfl rfl g 512 Z 5 HR2.out AV (by rw [hAVl]; exact (Nat.min_eq_left (by omega)).symm) (fun h => ⟨rfl, HS2.out h⟩) (by omega) HA1.out g w0 HB2.out (Nat.le_refl _) ?_; intro w3 q3 q4))
  all_goals
    rw [HFIN.out] at q3
    have hb3 : Below w0.heap.size w0 w3 := by rw [hg]; exact q4
    have hrow : RowAt w3 g 5 (B.map bv).toArray := q3.out
    have hown := own_of_row (base := g) hrow hBl (by unfold maxLen; omega) (Nat.le_refl _)
    obtain ⟨a', c', hv2, hc, hrd⟩ := OwnB.rd hown
    rw [hBl] at hv2 hc
    have hcc : c' = n * 512 ∧ a' = some ⟨g, 0, none⟩ := by cases hv2; exact ⟨rfl, rfl⟩
    obtain ⟨rfl, rfl⟩ := hcc
    have HB3 := Lib.hid hb3
    have HW := Lib.hid (write_s w3 S b D F from_ (some ⟨g, 0, none⟩) B (n * 512) (n * 512) (HD.out.later hb3) hBl.symm (Nat.le_refl _) hrd (fun _ ad had hsx => by cases had; have := HS.out _ hsx; dsimp only at this; omega) (by omega) (by omega))
    clear q3 q4 hb3 hrow hown hv2 hc hrd
    go_wp2_with fail
    refine HW.out.mono ?_
    rintro _ w4 ⟨⟨k, er, hk, -, hk0, hkf, rfl, hd2⟩, hk2⟩
    have hfine := hkf (by omega) (by omega) (by omega)
    have hall := fun h0 => hk0 h0 (by omega) (by omega) (by omega)
    have HD2 := Lib.hid hd2
    have HK2 := Lib.hid hk2
    have HFI := Lib.hid hfine
    have HAL := Lib.hid hall
    clear hk0 hkf hd2 hk2 hfine hall
    rcases HFI.out with ⟨rfl, hk1⟩ | rfl
    · subst hk1
      have HSY := Lib.hid (sync_s w4 _ b _ F HD2.out (by dsimp only; rw [List.length_append, wps_len]; omega))
      go_wp2_with fail
      refine HSY.out.mono ?_
      rintro _ w5 ⟨⟨k2, hk2, er, he0, hef, rfl, hd3⟩, hk3⟩
      have hl : (D.pcs ++ wps from_ B (B.length / 512)).length = D.pcs.length + B.length / 512 := by rw [List.length_append, wps_len]
      try dsimp only at hk2 hef
      rw [hl] at hk2 hef
      have HF3 := Lib.hid (ws_sync (F := F) (D := D) (at_ := from_) (B := B) hk2 (fun h => (he0 h).2) hef)
      have HD3 := Lib.hid (hd3.mono (plus_plus (w := w0) HB3.out.size HK2.out.size hk3.size))
      have HK3 := Lib.hid (keep_ws HB3.out HK2.out hk3)
      clear hd3 hk3 he0 hef
      go_wp2_with fail
      go_ret
      exact ⟨⟨_, _, rfl, HF3.out, HD3.out⟩, HK3.out⟩
    · have HD3 := Lib.hid (HD2.out.mono (plus_le (w := w0) HB3.out.size (Nat.le_refl _)))
      have HF3 := Lib.hid (ws_write (F := F) (D := D) (at_ := from_) (B := B) hk (fun h0 => by have := (HAL.out h0).2; omega))
      go_wp2_with fail
      go_ret
      exact ⟨⟨_, _, rfl, HF3.out, HD3.out⟩, keep_w HB3.out HK2.out⟩
end Go.Proofs.Ytmbpacpkabbcgaa
