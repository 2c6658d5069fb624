/- tables.put: a part's bytes behind others. -/
import Derived.Test.YtlchnfjbcefkoaaGreatProg
import Derived.Test.YtlchnfjbcefkoaaGreatTabPlain
import Derived.Test.YtlchnfjbcefkoaaGreatRange
import Derived.Test.YtlchnfjbcefkoaaGreatConv
namespace Go.Proofs.YtlchnfjbcefkoaaGreat
open Go.RowKit

theorem eltB : Elt Tryz.prog 23 5 1 1 (.int .u8 0) := ⟨Tryz.underlying23, by kernel_rfl, rfl, by decide⟩
/-- A part's cells. -/
def ptC (p : Pt) : List Value := [.string (str p.s), .int .i64 p.n, .bool p.is]
theorem aggP : Agg Tryz.prog 42 3 := ⟨⟨_, Tryz.underlying42⟩, by kernel_rfl⟩
theorem RowAt.cells3 {w : World} {b : Nat} {t : TypeId} {x0 x1 x2 : Value} (h : RowAt w b t #[x0, x1, x2]) :
    w.cell? ⟨b, 0, none⟩ = some x0 ∧ w.cell? ⟨b, 1, none⟩ = some x1 ∧ w.cell? ⟨b, 2, none⟩ = some x2 := ⟨h.cell 0, h.cell 1, h.cell 2⟩

set_option maxRecDepth 100000 in
set_option maxHeartbeats 400000 in
theorem put_on (p : Pt) (hp : p.Ok) (v : Value) (l : List UInt8) (base : Nat) (w : World) (hv : OwnB w base 5 v l) (hbase : base ≤ w.heap.size) (hs : l.length + (enc p).length ≤ 140737488355328) :
    Calls Tryz.prog 17 #[v, .agg (ptC p).toArray] w fun e w' => ∃ v', e = .returned v' ∧ OwnB w' base 5 v' (l ++ enc p) ∧ Onto w v w' v' := by
  obtain ⟨s, n, is⟩ := p
  obtain ⟨S, hS⟩ : ∃ S, str s = S := ⟨_, rfl⟩
  have HV := Lib.hid hv
  have HS := Lib.hid hs
  have H0 : RowAt (w.alloc (.cells #[.string S, .int .i64 n, .bool is] 42)) w.heap.size 42 #[.string S, .int .i64 n, .bool is] := RowAt.new _ _ _
  have HSEP := Lib.hid (hv.sep (Nat.le_refl w.heap.size))
  rw [show (ptC ⟨s, n, is⟩).toArray = #[.string S, .int .i64 n, .bool is] by rw [← hS]; rfl]
  clear hv hs
  cases is with
  | true =>
    have hflip := bits_flipw n hp.1 hp.2
    have HE : Hid (enc ⟨s, n, true⟩ = 1 :: beN 8 (up n)) := rfl
    obtain ⟨m, hm⟩ : ∃ m, up n = m := ⟨_, rfl⟩
    have hm64 : m < 18446744073709551616 := by have := up_lt (p := ⟨s, n, true⟩) hp; rw [← hm]; simpa using this
    rw [hm] at hflip HE
    go_enter Tryz.func17, Tryz.ntmps17
    have HC : Hid (RdB ((w.alloc (.cells #[.string S, .int .i64 n, .bool true] 42)).alloc (.cells #[.int .u8 1] 5)) (some ⟨w.heap.size + 1, 0, none⟩) [1]) := by
      have := rdB_lit (w.alloc (.cells #[.string S, .int .i64 n, .bool true] 42)) #[.int .u8 1] 5 (0, 0) [1] rfl
      rwa [show (w.alloc (.cells #[.string S, .int .i64 n, .bool true] 42)).heap.size = w.heap.size + 1 by simp] at this
    have HO : Hid (OwnB ((w.alloc (.cells #[.string S, .int .i64 n, .bool true] 42)).alloc (.cells #[.int .u8 1] 5)) base 5 v l) := (HV.out.kept (below_alloc _) (Nat.le_refl _)).kept (below_alloc _) (Nat.le_refl _)
    have HL : Hid (l.length + [(1 : UInt8)].length ≤ 140737488355328) := by have h := HS.out; rw [HE.out] at h; simp at h; show _ ≤ _; simp; omega
    have HB : Hid (base ≤ ((w.alloc (.cells #[.string S, .int .i64 n, .bool true] 42)).alloc (.cells #[.int .u8 1] 5)).heap.size) := by show _ ≤ _; simp; omega
    go_wp2_with (at_builtin; refine step_appendO rfl (.tmp 11) (.tmp 12) rfl eltB base _ l rfl _ _ _ [1] rfl HO.out rfl HC.out HL.out HB.out ?_; intro v1 w1 h1 h2; have h2 : Onto ((w.alloc (.cells #[.string S, .int .i64 n, .bool true] 42)).alloc (.cells #[.int .u8 1] 5)) v w1 v1 := h2; have hr := (H0.below (below_alloc _)).onto h2 HSEP.out; have hc1 := hr.cells3.2.1; have h3 := (((Onto.refl w v).alloc _).alloc _).trans h2; have H1 := Lib.hid h1; have H3 := Lib.hid h3; clear h1 h2 h3 hr)
    go_loopw [0, 6] (fun u i wr => ∃ k : Nat, k ≤ 8 ∧ i = .int .i64 (56 - 8 * (k : Int)) ∧ OwnB wr base 5 u (l ++ 1 :: (beN 8 m).take k) ∧ Onto w v wr u) (fun _ i _ => (intOf i + 8).toNat)
    case atStart => exact ⟨0, by decide, rfl, H1.out, H3.out⟩
    case round =>
      obtain ⟨k, hk, rfl, ho, hb⟩ := hrel
      have HO2 := Lib.hid ho
      have HB2 := Lib.hid hb
      clear ho hb HC HO HL HB
      rcases (by omega : k = 0 ∨ k = 1 ∨ k = 2 ∨ k = 3 ∨ k = 4 ∨ k = 5 ∨ k = 6 ∨ k = 7 ∨ k = 8) with rfl | rfl | rfl | rfl | rfl | rfl | rfl | rfl | rfl
      · have HC := Lib.hid (rd_byte (w := wr) (m / 72057594037927936) ((m : Int) / 72057594037927936) 5 (by omega))
        have HN : Hid ((l ++ 1 :: (beN 8 m).take 0) ++ [UInt8.ofNat (m / 72057594037927936)] = l ++ 1 :: (beN 8 m).take 1) := by show _ = _; rw [List.append_assoc]; rfl
        have HL : Hid ((l ++ 1 :: (beN 8 m).take 0).length + [UInt8.ofNat (m / 72057594037927936)].length ≤ 140737488355328) := by
          have h := HS.out
          rw [HE.out] at h
          have h9 : (1 :: beN 8 m).length = 9 := rfl
          rw [h9] at h
          show _ ≤ _
          have h8 : (1 :: (beN 8 m).take 0).length = 1 := rfl
          rw [List.length_append, h8, List.length_singleton]
          omega
        go_wp2_with (at_builtin; refine step_appendO rfl (.tmp 23) (.tmp 28) rfl eltB base _ (l ++ 1 :: (beN 8 m).take 0) rfl _ _ _ [UInt8.ofNat (m / 72057594037927936)] rfl (HO2.out.kept (below_alloc _) (Nat.le_refl _)) rfl HC.out HL.out (by have := HB2.out.grown.size; simp; omega) ?_; intro v2 w2 h1 h2; rw [HN.out] at h1; have h3 := (HB2.out.alloc _).trans h2; have H4 := Lib.hid h1; have H5 := Lib.hid h3; clear h1 h2 h3 HN HL HC)
        go_roundw
        case rel => exact ⟨1, by decide, rfl, H4.out, H5.out⟩
        case measure => first | decide | (simp [intOf])
      · have HC := Lib.hid (rd_byte (w := wr) (m / 281474976710656) ((m : Int) / 281474976710656 % 256) 5 (by omega))
        have HN : Hid ((l ++ 1 :: (beN 8 m).take 1) ++ [UInt8.ofNat (m / 281474976710656)] = l ++ 1 :: (beN 8 m).take 2) := by show _ = _; rw [List.append_assoc]; rfl
        have HL : Hid ((l ++ 1 :: (beN 8 m).take 1).length + [UInt8.ofNat (m / 281474976710656)].length ≤ 140737488355328) := by
          have h := HS.out
          rw [HE.out] at h
          have h9 : (1 :: beN 8 m).length = 9 := rfl
          rw [h9] at h
          show _ ≤ _
          have h8 : (1 :: (beN 8 m).take 1).length = 2 := rfl
          rw [List.length_append, h8, List.length_singleton]
          omega
        go_wp2_with (at_builtin; refine step_appendO rfl (.tmp 23) (.tmp 28) rfl eltB base _ (l ++ 1 :: (beN 8 m).take 1) rfl _ _ _ [UInt8.ofNat (m / 281474976710656)] rfl (HO2.out.kept (below_alloc _) (Nat.le_refl _)) rfl HC.out HL.out (by have := HB2.out.grown.size; simp; omega) ?_; intro v2 w2 h1 h2; rw [HN.out] at h1; have h3 := (HB2.out.alloc _).trans h2; have H4 := Lib.hid h1; have H5 := Lib.hid h3; clear h1 h2 h3 HN HL HC)
        go_roundw
        case rel => exact ⟨2, by decide, rfl, H4.out, H5.out⟩
        case measure => first | decide | (simp [intOf])
      · have HC := Lib.hid (rd_byte (w := wr) (m / 1099511627776) ((m : Int) / 1099511627776 % 256) 5 (by omega))
        have HN : Hid ((l ++ 1 :: (beN 8 m).take 2) ++ [UInt8.ofNat (m / 1099511627776)] = l ++ 1 :: (beN 8 m).take 3) := by show _ = _; rw [List.append_assoc]; rfl
        have HL : Hid ((l ++ 1 :: (beN 8 m).take 2).length + [UInt8.ofNat (m / 1099511627776)].length ≤ 140737488355328) := by
          have h := HS.out
          rw [HE.out] at h
          have h9 : (1 :: beN 8 m).length = 9 := rfl
          rw [h9] at h
          show _ ≤ _
          have h8 : (1 :: (beN 8 m).take 2).length = 3 := rfl
          rw [List.length_append, h8, List.length_singleton]
          omega
        go_wp2_with (at_builtin; refine step_appendO rfl (.tmp 23) (.tmp 28) rfl eltB base _ (l ++ 1 :: (beN 8 m).take 2) rfl _ _ _ [UInt8.ofNat (m / 1099511627776)] rfl (HO2.out.kept (below_alloc _) (Nat.le_refl _)) rfl HC.out HL.out (by have := HB2.out.grown.size; simp; omega) ?_; intro v2 w2 h1 h2; rw [HN.out] at h1; have h3 := (HB2.out.alloc _).trans h2; have H4 := Lib.hid h1; have H5 := Lib.hid h3; clear h1 h2 h3 HN HL HC)
        go_roundw
        case rel => exact ⟨3, by decide, rfl, H4.out, H5.out⟩
        case measure => first | decide | (simp [intOf])
      · have HC := Lib.hid (rd_byte (w := wr) (m / 4294967296) ((m : Int) / 4294967296 % 256) 5 (by omega))
        have HN : Hid ((l ++ 1 :: (beN 8 m).take 3) ++ [UInt8.ofNat (m / 4294967296)] = l ++ 1 :: (beN 8 m).take 4) := by show _ = _; rw [List.append_assoc]; rfl
        have HL : Hid ((l ++ 1 :: (beN 8 m).take 3).length + [UInt8.ofNat (m / 4294967296)].length ≤ 140737488355328) := by
          have h := HS.out
          rw [HE.out] at h
          have h9 : (1 :: beN 8 m).length = 9 := rfl
          rw [h9] at h
          show _ ≤ _
          have h8 : (1 :: (beN 8 m).take 3).length = 4 := rfl
          rw [List.length_append, h8, List.length_singleton]
          omega
        go_wp2_with (at_builtin; refine step_appendO rfl (.tmp 23) (.tmp 28) rfl eltB base _ (l ++ 1 :: (beN 8 m).take 3) rfl _ _ _ [UInt8.ofNat (m / 4294967296)] rfl (HO2.out.kept (below_alloc _) (Nat.le_refl _)) rfl HC.out HL.out (by have := HB2.out.grown.size; simp; omega) ?_; intro v2 w2 h1 h2; rw [HN.out] at h1; have h3 := (HB2.out.alloc _).trans h2; have H4 := Lib.hid h1; have H5 := Lib.hid h3; clear h1 h2 h3 HN HL HC)
        go_roundw
        case rel => exact ⟨4, by decide, rfl, H4.out, H5.out⟩
        case measure => first | decide | (simp [intOf])
      · have HC := Lib.hid (rd_byte (w := wr) (m / 16777216) ((m : Int) / 16777216 % 256) 5 (by omega))
        have HN : Hid ((l ++ 1 :: (beN 8 m).take 4) ++ [UInt8.ofNat (m / 16777216)] = l ++ 1 :: (beN 8 m).take 5) := by show _ = _; rw [List.append_assoc]; rfl
        have HL : Hid ((l ++ 1 :: (beN 8 m).take 4).length + [UInt8.ofNat (m / 16777216)].length ≤ 140737488355328) := by
          have h := HS.out
          rw [HE.out] at h
          have h9 : (1 :: beN 8 m).length = 9 := rfl
          rw [h9] at h
          show _ ≤ _
          have h8 : (1 :: (beN 8 m).take 4).length = 5 := rfl
          rw [List.length_append, h8, List.length_singleton]
          omega
        go_wp2_with (at_builtin; refine step_appendO rfl (.tmp 23) (.tmp 28) rfl eltB base _ (l ++ 1 :: (beN 8 m).take 4) rfl _ _ _ [UInt8.ofNat (m / 16777216)] rfl (HO2.out.kept (below_alloc _) (Nat.le_refl _)) rfl HC.out HL.out (by have := HB2.out.grown.size; simp; omega) ?_; intro v2 w2 h1 h2; rw [HN.out] at h1; have h3 := (HB2.out.alloc _).trans h2; have H4 := Lib.hid h1; have H5 := Lib.hid h3; clear h1 h2 h3 HN HL HC)
        go_roundw
        case rel => exact ⟨5, by decide, rfl, H4.out, H5.out⟩
        case measure => first | decide | (simp [intOf])
      · have HC := Lib.hid (rd_byte (w := wr) (m / 65536) ((m : Int) / 65536 % 256) 5 (by omega))
        have HN : Hid ((l ++ 1 :: (beN 8 m).take 5) ++ [UInt8.ofNat (m / 65536)] = l ++ 1 :: (beN 8 m).take 6) := by show _ = _; rw [List.append_assoc]; rfl
        have HL : Hid ((l ++ 1 :: (beN 8 m).take 5).length + [UInt8.ofNat (m / 65536)].length ≤ 140737488355328) := by
          have h := HS.out
          rw [HE.out] at h
          have h9 : (1 :: beN 8 m).length = 9 := rfl
          rw [h9] at h
          show _ ≤ _
          have h8 : (1 :: (beN 8 m).take 5).length = 6 := rfl
          rw [List.length_append, h8, List.length_singleton]
          omega
        go_wp2_with (at_builtin; refine step_appendO rfl (.tmp 23) (.tmp 28) rfl eltB base _ (l ++ 1 :: (beN 8 m).take 5) rfl _ _ _ [UInt8.ofNat (m / 65536)] rfl (HO2.out.kept (below_alloc _) (Nat.le_refl _)) rfl HC.out HL.out (by have := HB2.out.grown.size; simp; omega) ?_; intro v2 w2 h1 h2; rw [HN.out] at h1; have h3 := (HB2.out.alloc _).trans h2; have H4 := Lib.hid h1; have H5 := Lib.hid h3; clear h1 h2 h3 HN HL HC)
        go_roundw
        case rel => exact ⟨6, by decide, rfl, H4.out, H5.out⟩
        case measure => first | decide | (simp [intOf])
      · have HC := Lib.hid (rd_byte (w := wr) (m / 256) ((m : Int) / 256 % 256) 5 (by omega))
        have HN : Hid ((l ++ 1 :: (beN 8 m).take 6) ++ [UInt8.ofNat (m / 256)] = l ++ 1 :: (beN 8 m).take 7) := by show _ = _; rw [List.append_assoc]; rfl
        have HL : Hid ((l ++ 1 :: (beN 8 m).take 6).length + [UInt8.ofNat (m / 256)].length ≤ 140737488355328) := by
          have h := HS.out
          rw [HE.out] at h
          have h9 : (1 :: beN 8 m).length = 9 := rfl
          rw [h9] at h
          show _ ≤ _
          have h8 : (1 :: (beN 8 m).take 6).length = 7 := rfl
          rw [List.length_append, h8, List.length_singleton]
          omega
        go_wp2_with (at_builtin; refine step_appendO rfl (.tmp 23) (.tmp 28) rfl eltB base _ (l ++ 1 :: (beN 8 m).take 6) rfl _ _ _ [UInt8.ofNat (m / 256)] rfl (HO2.out.kept (below_alloc _) (Nat.le_refl _)) rfl HC.out HL.out (by have := HB2.out.grown.size; simp; omega) ?_; intro v2 w2 h1 h2; rw [HN.out] at h1; have h3 := (HB2.out.alloc _).trans h2; have H4 := Lib.hid h1; have H5 := Lib.hid h3; clear h1 h2 h3 HN HL HC)
        go_roundw
        case rel => exact ⟨7, by decide, rfl, H4.out, H5.out⟩
        case measure => first | decide | (simp [intOf])
      · have HC := Lib.hid (rd_byte (w := wr) (m / 1) ((m : Int) % 256) 5 (by omega))
        have HN : Hid ((l ++ 1 :: (beN 8 m).take 7) ++ [UInt8.ofNat (m / 1)] = l ++ 1 :: (beN 8 m).take 8) := by show _ = _; rw [List.append_assoc]; rfl
        have HL : Hid ((l ++ 1 :: (beN 8 m).take 7).length + [UInt8.ofNat (m / 1)].length ≤ 140737488355328) := by
          have h := HS.out
          rw [HE.out] at h
          have h9 : (1 :: beN 8 m).length = 9 := rfl
          rw [h9] at h
          show _ ≤ _
          have h8 : (1 :: (beN 8 m).take 7).length = 8 := rfl
          rw [List.length_append, h8, List.length_singleton]
          omega
        go_wp2_with (at_builtin; refine step_appendO rfl (.tmp 23) (.tmp 28) rfl eltB base _ (l ++ 1 :: (beN 8 m).take 7) rfl _ _ _ [UInt8.ofNat (m / 1)] rfl (HO2.out.kept (below_alloc _) (Nat.le_refl _)) rfl HC.out HL.out (by have := HB2.out.grown.size; simp; omega) ?_; intro v2 w2 h1 h2; rw [HN.out] at h1; have h3 := (HB2.out.alloc _).trans h2; have H4 := Lib.hid h1; have H5 := Lib.hid h3; clear h1 h2 h3 HN HL HC)
        go_roundw
        case rel => exact ⟨8, by decide, rfl, H4.out, H5.out⟩
        case measure => first | decide | (simp [intOf])
      · go_wp2
        go_ret
        have h1 := HO2.out
        rw [HE.out]
        exact ⟨_, rfl, h1, HB2.out⟩
  | false =>
    obtain ⟨N, hN⟩ : ∃ N, N = s.length := ⟨_, rfl⟩
    have HE : Hid (enc ⟨s, n, false⟩ = 2 :: (esc s ++ [0, 1])) := rfl
    have hN2 : N ≤ 140737488355328 := by
      have h := HS.out
      rw [HE.out] at h
      have h2 := esc_len s
      simp only [List.length_append, List.length_cons] at h
      omega
    have HLE : ∀ k, (esc (s.take k)).length ≤ (esc s).length := esc_take_le s
    have HK : Hid (l.length + (esc s).length + 3 ≤ 140737488355328) := by have h := HS.out; rw [HE.out] at h; simp at h; show _ ≤ _; omega
    have HC : Hid (RdB ((w.alloc (.cells #[.string S, .int .i64 n, .bool false] 42)).alloc (.cells #[.int .u8 2] 5)) (some ⟨w.heap.size + 1, 0, none⟩) [2]) := by
      have := rdB_lit (w.alloc (.cells #[.string S, .int .i64 n, .bool false] 42)) #[.int .u8 2] 5 (0, 0) [2] rfl
      rwa [show (w.alloc (.cells #[.string S, .int .i64 n, .bool false] 42)).heap.size = w.heap.size + 1 by simp] at this
    have HO : Hid (OwnB ((w.alloc (.cells #[.string S, .int .i64 n, .bool false] 42)).alloc (.cells #[.int .u8 2] 5)) base 5 v l) := (HV.out.kept (below_alloc _) (Nat.le_refl _)).kept (below_alloc _) (Nat.le_refl _)
    have HL : Hid (l.length + [(2 : UInt8)].length ≤ 140737488355328) := by have h := HK.out; show _ ≤ _; simp; omega
    have HB : Hid (base ≤ ((w.alloc (.cells #[.string S, .int .i64 n, .bool false] 42)).alloc (.cells #[.int .u8 2] 5)).heap.size) := by show _ ≤ _; simp; omega
    go_enter Tryz.func17, Tryz.ntmps17
    go_wp2_with (first
      | (at_builtin; refine step_appendO rfl (.tmp 31) (.tmp 32) rfl eltB base _ l rfl _ _ _ [2] rfl HO.out rfl HC.out HL.out HB.out ?_; intro v1 w1 h1 h2; have h2 : Onto ((w.alloc (.cells #[.string S, .int .i64 n, .bool false] 42)).alloc (.cells #[.int .u8 2] 5)) v w1 v1 := h2; have hr := (H0.below (below_alloc _)).onto h2 HSEP.out; have hc1 := hr.cells3.1; have h3 := (((Onto.refl w v).alloc _).alloc _).trans h2; have H1 := Lib.hid h1; have H3 := Lib.hid h3; clear h1 h2 h3 hr)
      | (refine step_toBytes rfl 9 23 5 (.tmp 35) rfl s S N hS hN rfl Tryz.underlying9 Tryz.underlying23 Tryz.underlying5 ?_; intro c w2 hcap h6 h7 h8; have H4 := Lib.hid (H1.out.kept h7 (Nat.le_refl _)); have H5 := Lib.hid (H3.out.below h7 (Nat.le_refl _)); have H6 := Lib.hid h6; have H7 := Lib.hid (H1.out.sep (Nat.le_refl _)); clear h6 h7))
    clear HC HO HL HB
    generalize w1.heap.size = B at *
    go_loopw [0, 38] (fun u i wr => ∃ k : Nat, k ≤ N ∧ i = .int .i64 (k : Int) ∧ OwnB wr base 5 u (l ++ 2 :: esc (s.take k)) ∧ Onto w v wr u ∧ RdB wr (some ⟨B, 0, none⟩) s ∧ u.ownBlock ≠ some B ∧ B < wr.heap.size) (fun _ i _ => N - (intOf i).toNat)
    case atStart => exact ⟨0, Nat.zero_le _, rfl, H4.out, H5.out, H6.out, H7.out, h8⟩
    case round =>
      obtain ⟨k, hk, rfl, ho, hb, hd, hq, hB⟩ := hrel
      have HO := Lib.hid ho
      have HB := Lib.hid hb
      have HD := Lib.hid hd
      have HQ := Lib.hid hq
      clear ho hb hd hq
      by_cases hkN : k < N
      · have hkl : k < s.length := hN ▸ hkN
        obtain ⟨x, hx⟩ : ∃ x, s[k] = x := ⟨_, rfl⟩
        have hcell : wr.cell? ⟨B, k, none⟩ = some (.int .u8 (x.toNat : Int)) := by have := HD.out.byte k hkl; rwa [hx, Nat.zero_add] at this
        have HX : Hid (esc (s.take (k + 1)) = esc (s.take k) ++ (if x = 0 then [0, 255] else [x])) := by have := esc_next s k hkl; rwa [hx] at this
        have HC := Lib.hid (rdB_lit wr #[.int .u8 (x.toNat : Int)] 5 (0, 0) [x] rfl)
        have HL : Hid ((l ++ 2 :: esc (s.take k)).length + [x].length ≤ 140737488355328) := by
          have h1 := HK.out
          have h2 := HLE k
          show _ ≤ _
          simp only [List.length_append, List.length_cons, List.length_nil]
          omega
        clear hx hkl
        by_cases hx0 : x = 0
        · subst hx0
          have hcell : wr.cell? ⟨B, k, none⟩ = some (.int .u8 0) := hcell
          have HC : Hid (RdB (wr.alloc (.cells #[.int .u8 0] 5)) (some ⟨wr.heap.size, 0, none⟩) [0]) := HC
          rw [if_pos rfl] at HX
          have HN : Hid (((l ++ 2 :: esc (s.take k)) ++ [0]) ++ [255] = l ++ 2 :: esc (s.take (k + 1))) := by show _ = _; rw [HX.out, List.append_assoc, List.append_assoc]; rfl
          have HL2 : Hid (((l ++ 2 :: esc (s.take k)) ++ [0]).length + [(255 : UInt8)].length ≤ 140737488355328) := by
            have h1 := HK.out
            have h2 := HLE (k + 1)
            rw [HX.out, List.length_append] at h2
            show _ ≤ _
            simp only [List.length_append, List.length_cons, List.length_nil] at h2 ⊢
            omega
          go_wp2_with (first
            | (at_builtin; refine step_appendO rfl (.tmp 42) (.tmp 44) rfl eltB base _ (l ++ 2 :: esc (s.take k)) rfl _ _ _ [0] rfl (HO.out.kept (below_alloc _) (Nat.le_refl _)) rfl HC.out HL.out (by have := HB.out.grown.size; simp; omega) ?_; intro v2 w2 h1 h2; have h3 := (HB.out.alloc _).trans h2; have h4 := (HD.out.mono (below_alloc _)).onto h2 HQ.out; have h5 := h2.sep (by rw [World.size_alloc]; omega) HQ.out; have h6 := h2.grown.size; have h9 : base ≤ w2.heap.size := (by have := HB.out.grown.size; rw [World.size_alloc] at h6; omega); have H4 := Lib.hid h1; have H5 := Lib.hid h3; have H6 := Lib.hid h4; have H7 := Lib.hid h5; have HC2 := Lib.hid (rdB_lit w2 #[.int .u8 255] 5 (0, 0) [255] rfl); clear h1 h2 h3 h4 h5 HC HL)
            | (at_builtin; refine step_appendO rfl (.tmp 48) (.tmp 49) rfl eltB base _ ((l ++ 2 :: esc (s.take k)) ++ [0]) rfl _ _ _ [255] rfl (H4.out.kept (below_alloc _) (Nat.le_refl _)) rfl HC2.out HL2.out (by rw [World.size_alloc]; omega) ?_; intro v3 w3 h1 h2; rw [HN.out] at h1; have h3 := (H5.out.alloc _).trans h2; have h4 := (H6.out.mono (below_alloc _)).onto h2 H7.out; have h5 := h2.sep (by rw [World.size_alloc] at h6 ⊢; omega) H7.out; have h10 := h2.grown.size; have H4 := Lib.hid h1; have H5 := Lib.hid h3; have H6 := Lib.hid h4; have H7 := Lib.hid h5; clear h1 h2 h3 h4 h5))
          go_roundw
          case rel => exact ⟨k + 1, by omega, by go_num, H4.out, H5.out, H6.out, H7.out, by rw [World.size_alloc] at h6 h10; omega⟩
          case measure => simp [intOf]; omega
        · have hxi : (x.toNat : Int) ≠ 0 := by
            intro e
            exact hx0 (UInt8.toNat_inj.1 (by have : x.toNat = 0 := by omega
                                             rw [this]; rfl))
          rw [if_neg hx0] at HX
          have HN : Hid ((l ++ 2 :: esc (s.take k)) ++ [x] = l ++ 2 :: esc (s.take (k + 1))) := by show _ = _; rw [HX.out, List.append_assoc]; rfl
          go_wp2_with (at_builtin; refine step_appendO rfl (.tmp 42) (.tmp 44) rfl eltB base _ (l ++ 2 :: esc (s.take k)) rfl _ _ _ [x] rfl (HO.out.kept (below_alloc _) (Nat.le_refl _)) rfl HC.out HL.out (by have := HB.out.grown.size; simp; omega) ?_; intro v2 w2 h1 h2; rw [HN.out] at h1; have h3 := (HB.out.alloc _).trans h2; have h4 := (HD.out.mono (below_alloc _)).onto h2 HQ.out; have h5 := h2.sep (by rw [World.size_alloc]; omega) HQ.out; have h6 := h2.grown.size; have H4 := Lib.hid h1; have H5 := Lib.hid h3; have H6 := Lib.hid h4; have H7 := Lib.hid h5; clear h1 h2 h3 h4 h5 HN HL HC)
          go_roundw
          case rel => exact ⟨k + 1, by omega, by go_num, H4.out, H5.out, H6.out, H7.out, by rw [World.size_alloc] at h6; omega⟩
          case measure => simp [intOf]; omega
      · have hkN2 : k = N := by omega
        subst hkN2
        have HC := Lib.hid (rdB_lit wr #[.int .u8 0, .int .u8 1] 5 (0, 0) [0, 1] rfl)
        have HN : Hid ((l ++ 2 :: esc (s.take k)) ++ [0, 1] = l ++ enc ⟨s, n, false⟩) := by
          show _ = _
          rw [HE.out, hN, List.take_of_length_le (Nat.le_refl _), List.append_assoc]
          rfl
        have HL : Hid ((l ++ 2 :: esc (s.take k)).length + [(0 : UInt8), 1].length ≤ 140737488355328) := by
          have h1 := HK.out
          have h2 := HLE k
          show _ ≤ _
          simp only [List.length_append, List.length_cons, List.length_nil]
          omega
        go_wp2_with (at_builtin; refine step_appendO rfl (.tmp 52) (.tmp 53) rfl eltB base _ (l ++ 2 :: esc (s.take k)) rfl _ _ _ [0, 1] rfl (HO.out.kept (below_alloc _) (Nat.le_refl _)) rfl HC.out HL.out (by have := HB.out.grown.size; simp; omega) ?_; intro v2 w2 h1 h2; rw [HN.out] at h1; have h3 := (HB.out.alloc _).trans h2; have H4 := Lib.hid h1; have H5 := Lib.hid h3; clear h1 h2 h3 HN HL HC)
        go_ret
        exact ⟨_, rfl, H4.out, H5.out⟩
end Go.Proofs.YtlchnfjbcefkoaaGreat
