/- wal.asked, wal.put, wal.Format. -/
import Derived.Test.YtmbpacpkabbcgaaWlHead
namespace Go.Proofs.Ytmbpacpkabbcgaa
open Go.RowKit

theorem size_any (w : World) (S : Nat → Prop) (b : Nat) (D : DK) (F : Nat) (h : DkS w S b D F) : Calls Try.prog 48 #[.pointer (some ⟨b, 0, none⟩)] w fun e w' => e = .returned (.int .i64 (D.size : Int)) ∧ w' = w := by
  obtain ⟨m, pv, fv, fl, st, h, -⟩ := h
  have HNO := Lib.hid (fun w hh => none_any w b D.size (.map (some m)) pv fv st hh h.size.1)
  have HD := Lib.hid h.hd
  obtain ⟨c0, _⟩ := DkHd.cells h.hd
  clear h
  go_enter Try.func48, Try.ntmps48
  go_wp2_with fail
  refine (HNO.out _ HD.out).mono ?_
  rintro _ w0 ⟨rfl, rfl⟩
  go_wp2
  go_ret
  exact ⟨rfl, rfl⟩
/-- May a log lie there? -/
def askW (size : Nat) (from_ n : Int) : Int := if n < 4 ∨ from_ < 0 then 2 else if (size : Int) < from_ ∨ (size : Int) - from_ < n then 4 else 0
set_option maxRecDepth 100000 in
theorem asked_s (w : World) (S : Nat → Prop) (b : Nat) (D : DK) (F : Nat) (from_ n : Int) (h : DkS w S b D F) : Calls Try.prog 25 #[.pointer (some ⟨b, 0, none⟩), .int .i64 from_, .int .i64 n] w fun e w' => e = .returned (.int .i64 (askW D.size from_ n)) ∧ w' = w := by
  have HS := Lib.hid (fun w h => size_any w S b D F h)
  have HZ := h.sizes
  have HH := Lib.hid h
  obtain ⟨s, hs⟩ : ∃ s, D.size = s := ⟨_, rfl⟩
  rw [hs] at HS HZ ⊢
  obtain ⟨hz1, hz2⟩ := HZ
  have hz3 : ((s : Int) == 0) = false := by simp; omega
  clear h hs
  by_cases h1 : n < 4
  · rw [show askW s from_ n = 2 by unfold askW; rw [if_pos (.inl h1)]]
    go_enter Try.func25, Try.ntmps25
    go_wp2_with fail
    refine (HS.out _ HH.out).mono ?_
    rintro _ w0 ⟨rfl, rfl⟩
    go_wp2
    go_ret
    exact ⟨rfl, rfl⟩
  by_cases h2 : from_ < 0
  · rw [show askW s from_ n = 2 by unfold askW; rw [if_pos (.inr h2)]]
    go_enter Try.func25, Try.ntmps25
    go_wp2_with fail
    refine (HS.out _ HH.out).mono ?_
    rintro _ w0 ⟨rfl, rfl⟩
    go_wp2
    go_ret
    exact ⟨rfl, rfl⟩
  by_cases h3 : (s : Int) < from_
  · rw [show askW s from_ n = 4 by unfold askW; rw [if_neg (by omega), if_pos (.inl h3)]]
    go_enter Try.func25, Try.ntmps25
    go_wp2_with fail
    refine (HS.out _ HH.out).mono ?_
    rintro _ w0 ⟨rfl, rfl⟩
    go_wp2
    go_ret
    exact ⟨rfl, rfl⟩
  have hw : IntKind.i64.wrap ((s : Int) - from_) = (s : Int) - from_ := IntWalk.i64_in _ (by omega)
  by_cases h4 : (s : Int) - from_ < n
  · rw [show askW s from_ n = 4 by unfold askW; rw [if_neg (by omega), if_pos (.inr h4)]]
    go_enter Try.func25, Try.ntmps25
    go_wp2_with fail
    refine (HS.out _ HH.out).mono ?_
    rintro _ w0 ⟨rfl, rfl⟩
    go_wp2
    go_ret
    exact ⟨rfl, rfl⟩
  · rw [show askW s from_ n = 0 by unfold askW; rw [if_neg (by omega), if_neg (by omega)]]
    go_enter Try.func25, Try.ntmps25
    go_wp2_with fail
    refine (HS.out _ HH.out).mono ?_
    rintro _ w0 ⟨rfl, rfl⟩
    go_wp2
    go_ret
    exact ⟨rfl, rfl⟩
/-- Written, and synced: what becomes of a disk. -/
def WS (F : Nat) (D : DK) (at_ : Int) (B : List UInt8) (er : Int) (D' : DK) : Prop :=
  (F = 0 → er = 0) ∧ ((er = 5 ∧ ∃ k, k ≤ B.length / 512 ∧ D' = ⟨D.size, D.last, D.pcs ++ wps at_ B k⟩) ∨
    ∃ k, k ≤ D.pcs.length + B.length / 512 ∧ Fine er k (D.pcs.length + B.length / 512) ∧ D' = ⟨D.size, laid D.last ((D.pcs ++ wps at_ B (B.length / 512)).take k), (D.pcs ++ wps at_ B (B.length / 512)).drop k⟩)
theorem wps_len (at_ : Int) (B : List UInt8) (k : Nat) : (wps at_ B k).length = k := by simp [wps]
theorem WS.ok {F : Nat} {D : DK} {at_ : Int} {B : List UInt8} {er : Int} {D' : DK} (h : WS F D at_ B er D') (he : er = 0) : D' = ⟨D.size, laid D.last (D.pcs ++ wps at_ B (B.length / 512)), []⟩ := by
  subst he
  rcases h.2 with ⟨h, _⟩ | ⟨k, hk, hf, rfl⟩
  · cases h
  · rcases hf with ⟨_, rfl⟩ | h
    · have hl : (D.pcs ++ wps at_ B (B.length / 512)).length = D.pcs.length + B.length / 512 := by rw [List.length_append, wps_len]
      rw [List.take_of_length_le (by omega), List.drop_of_length_le (by omega)]
    · cases h
theorem WS.size {F : Nat} {D : DK} {at_ : Int} {B : List UInt8} {er : Int} {D' : DK} (h : WS F D at_ B er D') : D'.size = D.size ∧ D'.pcs.length ≤ D.pcs.length + B.length / 512 := by
  rcases h.2 with ⟨_, k, hk, rfl⟩ | ⟨k, hk, hf, rfl⟩
  · exact ⟨rfl, by dsimp only; rw [List.length_append, wps_len]; omega⟩
  · exact ⟨rfl, by dsimp only; rw [List.length_drop, List.length_append, wps_len]; omega⟩
theorem plus_plus {S : Nat → Prop} {w w1 w2 w3 : World} (h1 : w.heap.size ≤ w1.heap.size) (h2 : w1.heap.size ≤ w2.heap.size) (h3 : w2.heap.size ≤ w3.heap.size) : ∀ x, Plus (Plus S (Span w1 w2)) (Span w2 w3) x → Plus S (Span w w3) x := by
  rintro x ((h | ⟨h, h'⟩) | ⟨h, h'⟩)
  · exact .inl h
  · exact .inr ⟨by omega, by omega⟩
  · exact .inr ⟨by omega, h'⟩
theorem plus_le {S : Nat → Prop} {w w1 w2 w3 : World} (h1 : w.heap.size ≤ w1.heap.size) (h3 : w2.heap.size ≤ w3.heap.size) : ∀ x, Plus S (Span w1 w2) x → Plus S (Span w w3) x := by
  rintro x (h | ⟨h, h'⟩)
  · exact .inl h
  · exact .inr ⟨by omega, by omega⟩
/-- A write, then a sync, seen from the world ahead. -/
theorem keep_ws {S : Nat → Prop} {w w1 w2 w3 : World} (hb : Below w.heap.size w w1) (k1 : KeepA S w1 w2) (k2 : KeepA (Plus S (Span w1 w2)) w2 w3) : KeepA S w w3 :=
  ((KeepA.of_below hb).trans k1).trans2 k2 fun x hx h => h.elim id fun h => by have := hb.size; have := h.1; omega
theorem keep_w {S : Nat → Prop} {w w1 w2 : World} (hb : Below w.heap.size w w1) (k1 : KeepA S w1 w2) : KeepA S w w2 := (KeepA.of_below hb).trans k1
theorem ws_write {F : Nat} {D : DK} {at_ : Int} {B : List UInt8} {k : Nat} (hk : k ≤ B.length / 512) (hF : F = 0 → False) : WS F D at_ B 5 ⟨D.size, D.last, D.pcs ++ wps at_ B k⟩ := ⟨fun h => (hF h).elim, .inl ⟨rfl, k, hk, rfl⟩⟩
theorem ws_sync {F : Nat} {D : DK} {at_ : Int} {B : List UInt8} {k : Nat} {er : Int} (hk : k ≤ D.pcs.length + B.length / 512) (hF : F = 0 → er = 0) (hf : Fine er k (D.pcs.length + B.length / 512)) :
    WS F D at_ B er ⟨D.size, laid D.last ((D.pcs ++ wps at_ B (B.length / 512)).take k), (D.pcs ++ wps at_ B (B.length / 512)).drop k⟩ := ⟨hF, .inr ⟨k, hk, hf, rfl⟩⟩
set_option maxRecDepth 100000 in
set_option maxHeartbeats 1000000 in
theorem put_any (w : World) (S : Nat → Prop) (b : Nat) (D : DK) (F : Nat) (from_ : Int) (run base : Nat) (h : DkS w S b D F) (hs : ∀ x, S x → x < w.heap.size) (hf0 : 0 ≤ from_) (hf1 : from_ + 2 ≤ D.size) (hr : run < 18446744073709551616) (hbs : base < 18446744073709551616) (hp : D.pcs.length ≤ 900000) :
    Calls Try.prog 30 #[.pointer (some ⟨b, 0, none⟩), .int .i64 from_, .int .u64 (run : Int), .int .u64 (base : Int)] w fun e w' => (∃ er D', e = .returned (.int .i64 er) ∧ WS F D (from_ + ((run % 2 : Nat) : Int)) (headB run base) er D' ∧ DkS w' (Plus S (Span w w')) b D' F) ∧ KeepA S w w' := by
  have HH := Lib.hid (head_any run base hr hbs)
  have HD := Lib.hid h
  have HS := Lib.hid hs
  have hz := h.sizes
  obtain ⟨B, hB⟩ : ∃ B, headB run base = B := ⟨_, rfl⟩
  have hBl : B.length = 512 := by rw [← hB]; exact headB_len run base
  rw [hB] at HH ⊢
  have hm : IntKind.i64.wrap (from_ + (run : Int) % 2) = from_ + ((run % 2 : Nat) : Int) := by rw [IntWalk.i64_in _ (by omega)]; omega
  have hq : B.length / 512 = 1 := by rw [hBl]
  clear h hs hB
  go_enter Try.func30, Try.ntmps30
  go_wp2_with fail
  refine (HH.out _).mono ?_
  rintro _ w1 ⟨v, rfl, hv, hb1⟩
  obtain ⟨a, c, hv2, hc, hrd⟩ := OwnB.rd hv
  rw [hBl] at hv2 hc
  have hab : ∀ ad, a = some ad → ¬ S ad.block := fun ad had hsx => by
    have h1 := HS.out _ hsx
    have h2 := (World.ownsRow.lt hv ad.block (by rw [hv2, had]; rfl)).1
    omega
  subst hv2
  have HB1 := Lib.hid hb1
  have HW := Lib.hid (write_s w1 S b D F (from_ + ((run % 2 : Nat) : Int)) a B 512 c (HD.out.later hb1) hBl.symm hc hrd (fun _ => hab) (by omega) (by omega))
  clear hv hb1 hrd hab
  go_wp2_with fail
  refine HW.out.mono ?_
  rintro _ w2 ⟨⟨k, er, hk, -, hk0, hkf, rfl, hd2⟩, hk2⟩
  have hfine := hkf (by omega) (by omega) (by omega)
  have hall := fun h0 => hk0 h0 (by omega) (by omega) (by omega)
  have HD2 := Lib.hid hd2
  have HK2 := Lib.hid hk2
  have HFI := Lib.hid hfine
  have HAL := Lib.hid hall
  clear hk0 hkf hd2 hk2 hfine hall
  rcases HFI.out with ⟨rfl, hk1⟩ | rfl
  · subst hk1
    have HSY := Lib.hid (sync_s w2 _ b _ F HD2.out (by dsimp only; rw [List.length_append, wps_len]; omega))
    go_wp2_with fail
    refine HSY.out.mono ?_
    rintro _ w3 ⟨⟨k2, hk2, er, he0, hef, rfl, hd3⟩, hk3⟩
    have hl : (D.pcs ++ wps (from_ + ((run % 2 : Nat) : Int)) B (B.length / 512)).length = D.pcs.length + B.length / 512 := by rw [List.length_append, wps_len]
    try dsimp only at hk2 hef
    rw [hl] at hk2 hef
    have HF3 := Lib.hid (ws_sync (F := F) (D := D) (at_ := from_ + ((run % 2 : Nat) : Int)) (B := B) hk2 (fun h => (he0 h).2) hef)
    have HD3 := Lib.hid (hd3.mono (plus_plus (w := w) HB1.out.size HK2.out.size hk3.size))
    have HK3 := Lib.hid (keep_ws HB1.out HK2.out hk3)
    clear hd3 hk3 he0 hef
    go_wp2_with fail
    go_ret
    exact ⟨⟨_, _, rfl, HF3.out, HD3.out⟩, HK3.out⟩
  · have HD3 := Lib.hid (HD2.out.mono (plus_le (w := w) HB1.out.size (Nat.le_refl _)))
    have HF3 := Lib.hid (ws_write (F := F) (D := D) (at_ := from_ + ((run % 2 : Nat) : Int)) (B := B) hk (fun h0 => by have := (HAL.out h0).2; omega))
    go_wp2_with fail
    go_ret
    exact ⟨⟨_, _, rfl, HF3.out, HD3.out⟩, keep_w HB1.out HK2.out⟩
end Go.Proofs.Ytmbpacpkabbcgaa
