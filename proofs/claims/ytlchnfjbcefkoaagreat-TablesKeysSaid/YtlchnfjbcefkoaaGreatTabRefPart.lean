/- The document's part: a part's bytes. -/
import Derived.Test.YtlchnfjbcefkoaaGreatTabPut
namespace Go.Proofs.YtlchnfjbcefkoaaGreat
open Go.RowKit

theorem OwnB.lit {w : World} {base : Nat} {e : TypeId} {C : Array Value} {l : List UInt8} {n : Nat} (hC : C.toList = l.map bv) (hn : n = l.length) (hm : n ≤ 140737488355328) (hb : base ≤ w.heap.size) : OwnB (w.alloc (.cells C e)) base e (.slice (some ⟨w.heap.size, 0, none⟩) n n) l := by
  subst hn
  refine ⟨by simp, .inr ⟨w.heap.size, l.length, C, rfl, hb, heap_alloc_new w _, Nat.le_refl _, by unfold maxLen; omega, ?_, ?_⟩⟩
  · rw [← Array.length_toList, hC]; simp
  · rw [hC, List.take_of_length_le (by simp)]
theorem bits_addw (n : Int) (h0 : -9223372036854775808 ≤ n) (h1 : n ≤ 9223372036854775807) : IntKind.u64.wrap (IntKind.u64.wrap n + 9223372036854775808) = ((up n : Nat) : Int) := by
  show (n % 18446744073709551616 + 9223372036854775808) % 18446744073709551616 = _
  unfold up
  omega

set_option maxRecDepth 100000 in
set_option maxHeartbeats 400000 in
theorem refpart_any (p : Pt) (hp : p.Ok) (w : World) (hs : (enc p).length ≤ 140737488355328) :
    Calls Tryz.prog 18 #[.agg (ptC p).toArray] w (RetB 5 w (enc p)) := by
  obtain ⟨s, n, is⟩ := p
  obtain ⟨S, hS⟩ : ∃ S, str s = S := ⟨_, rfl⟩
  have HS := Lib.hid hs
  have H0 : RowAt (w.alloc (.cells #[.string S, .int .i64 n, .bool is] 42)) w.heap.size 42 #[.string S, .int .i64 n, .bool is] := RowAt.new _ _ _
  have HB0 : Below w.heap.size w (w.alloc (.cells #[.string S, .int .i64 n, .bool is] 42)) := below_alloc _
  have hz : (w.alloc (.cells #[.string S, .int .i64 n, .bool is] 42)).heap.size = w.heap.size + 1 := by rw [World.size_alloc]
  rw [show (ptC ⟨s, n, is⟩).toArray = #[.string S, .int .i64 n, .bool is] by rw [← hS]; rfl]
  clear hs
  cases is with
  | true =>
    have hadd := bits_addw n hp.1 hp.2
    have HE : Hid (enc ⟨s, n, true⟩ = 1 :: beN 8 (up n)) := rfl
    obtain ⟨m, hm⟩ : ∃ m, up n = m := ⟨_, rfl⟩
    have hm64 : m < 18446744073709551616 := by have := up_lt (p := ⟨s, n, true⟩) hp; rw [← hm]; simpa using this
    rw [hm] at hadd HE
    have HO : Hid (OwnB ((w.alloc (.cells #[.string S, .int .i64 n, .bool true] 42)).alloc (.cells #[.int .u8 1] 5)) w.heap.size 5 (.slice (some ⟨w.heap.size + 1, 0, none⟩) 1 1) [1]) := by
      have := OwnB.lit (w := w.alloc (.cells #[.string S, .int .i64 n, .bool true] 42)) (base := w.heap.size) (e := 5) (C := #[.int .u8 1]) (l := [1]) (n := 1) rfl rfl (by decide) (by omega)
      rwa [hz] at this
    have HB1 := Lib.hid (HB0.trans ((below_alloc (w := w.alloc (.cells #[.string S, .int .i64 n, .bool true] 42)) (.cells #[.int .u8 1] 5)).mono (by omega)))
    go_enter Tryz.func18, Tryz.ntmps18
    go_wp2
    go_loopw [4, 5] (fun u i wr => ∃ k : Nat, k ≤ 8 ∧ i = .int .i64 (7 - (k : Int)) ∧ OwnB wr w.heap.size 5 u (1 :: (beN 8 m).take k) ∧ Below w.heap.size w wr) (fun _ i _ => (intOf i + 1).toNat)
    case atStart => exact ⟨0, by decide, rfl, HO.out, HB1.out⟩
    case round =>
      obtain ⟨k, hk, rfl, ho, hb⟩ := hrel
      have HO2 := Lib.hid ho
      have HB2 := Lib.hid hb
      clear ho hb HO HB1 HB0
      rcases (by omega : k = 0 ∨ k = 1 ∨ k = 2 ∨ k = 3 ∨ k = 4 ∨ k = 5 ∨ k = 6 ∨ k = 7 ∨ k = 8) with rfl | rfl | rfl | rfl | rfl | rfl | rfl | rfl | rfl
      · have HC := Lib.hid (rd_byte (w := wr) (m / 72057594037927936) ((m : Int) / 72057594037927936) 5 (by omega))
        have HN : Hid ((1 :: (beN 8 m).take 0) ++ [UInt8.ofNat (m / 72057594037927936)] = 1 :: (beN 8 m).take 1) := rfl
        have HL : Hid ((1 :: (beN 8 m).take 0).length + [UInt8.ofNat (m / 72057594037927936)].length ≤ 140737488355328) := by
          have h8 : (1 :: (beN 8 m).take 0).length = 1 := rfl
          show _ ≤ _
          rw [h8]
          simp
        go_wp2_with (at_builtin; refine step_appendB rfl (.tmp 19) (.tmp 25) rfl eltB w.heap.size _ (1 :: (beN 8 m).take 0) rfl _ _ _ [UInt8.ofNat (m / 72057594037927936)] rfl (HO2.out.kept (below_alloc _) (Nat.le_refl _)) rfl HC.out HL.out (by have := HB2.out.size; rw [World.size_alloc]; omega) ?_; intro v2 w2 h1 h2; rw [HN.out] at h1; have h3 := HB2.out.trans (((Below.refl _ wr).alloc HB2.out.size _).trans h2); have H4 := Lib.hid h1; have H5 := Lib.hid h3; clear h1 h2 h3 HN HL HC)
        go_roundw
        case rel => exact ⟨1, by decide, rfl, H4.out, H5.out⟩
        case measure => first | decide | (simp [intOf])
      · have HC := Lib.hid (rd_byte (w := wr) (m / 281474976710656) ((m : Int) / 281474976710656 % 256) 5 (by omega))
        have HN : Hid ((1 :: (beN 8 m).take 1) ++ [UInt8.ofNat (m / 281474976710656)] = 1 :: (beN 8 m).take 2) := rfl
        have HL : Hid ((1 :: (beN 8 m).take 1).length + [UInt8.ofNat (m / 281474976710656)].length ≤ 140737488355328) := by
          have h8 : (1 :: (beN 8 m).take 1).length = 2 := rfl
          show _ ≤ _
          rw [h8]
          simp
        go_wp2_with (at_builtin; refine step_appendB rfl (.tmp 19) (.tmp 25) rfl eltB w.heap.size _ (1 :: (beN 8 m).take 1) rfl _ _ _ [UInt8.ofNat (m / 281474976710656)] rfl (HO2.out.kept (below_alloc _) (Nat.le_refl _)) rfl HC.out HL.out (by have := HB2.out.size; rw [World.size_alloc]; omega) ?_; intro v2 w2 h1 h2; rw [HN.out] at h1; have h3 := HB2.out.trans (((Below.refl _ wr).alloc HB2.out.size _).trans h2); have H4 := Lib.hid h1; have H5 := Lib.hid h3; clear h1 h2 h3 HN HL HC)
        go_roundw
        case rel => exact ⟨2, by decide, rfl, H4.out, H5.out⟩
        case measure => first | decide | (simp [intOf])
      · have HC := Lib.hid (rd_byte (w := wr) (m / 1099511627776) ((m : Int) / 1099511627776 % 256) 5 (by omega))
        have HN : Hid ((1 :: (beN 8 m).take 2) ++ [UInt8.ofNat (m / 1099511627776)] = 1 :: (beN 8 m).take 3) := rfl
        have HL : Hid ((1 :: (beN 8 m).take 2).length + [UInt8.ofNat (m / 1099511627776)].length ≤ 140737488355328) := by
          have h8 : (1 :: (beN 8 m).take 2).length = 3 := rfl
          show _ ≤ _
          rw [h8]
          simp
        go_wp2_with (at_builtin; refine step_appendB rfl (.tmp 19) (.tmp 25) rfl eltB w.heap.size _ (1 :: (beN 8 m).take 2) rfl _ _ _ [UInt8.ofNat (m / 1099511627776)] rfl (HO2.out.kept (below_alloc _) (Nat.le_refl _)) rfl HC.out HL.out (by have := HB2.out.size; rw [World.size_alloc]; omega) ?_; intro v2 w2 h1 h2; rw [HN.out] at h1; have h3 := HB2.out.trans (((Below.refl _ wr).alloc HB2.out.size _).trans h2); have H4 := Lib.hid h1; have H5 := Lib.hid h3; clear h1 h2 h3 HN HL HC)
        go_roundw
        case rel => exact ⟨3, by decide, rfl, H4.out, H5.out⟩
        case measure => first | decide | (simp [intOf])
      · have HC := Lib.hid (rd_byte (w := wr) (m / 4294967296) ((m : Int) / 4294967296 % 256) 5 (by omega))
        have HN : Hid ((1 :: (beN 8 m).take 3) ++ [UInt8.ofNat (m / 4294967296)] = 1 :: (beN 8 m).take 4) := rfl
        have HL : Hid ((1 :: (beN 8 m).take 3).length + [UInt8.ofNat (m / 4294967296)].length ≤ 140737488355328) := by
          have h8 : (1 :: (beN 8 m).take 3).length = 4 := rfl
          show _ ≤ _
          rw [h8]
          simp
        go_wp2_with (at_builtin; refine step_appendB rfl (.tmp 19) (.tmp 25) rfl eltB w.heap.size _ (1 :: (beN 8 m).take 3) rfl _ _ _ [UInt8.ofNat (m / 4294967296)] rfl (HO2.out.kept (below_alloc _) (Nat.le_refl _)) rfl HC.out HL.out (by have := HB2.out.size; rw [World.size_alloc]; omega) ?_; intro v2 w2 h1 h2; rw [HN.out] at h1; have h3 := HB2.out.trans (((Below.refl _ wr).alloc HB2.out.size _).trans h2); have H4 := Lib.hid h1; have H5 := Lib.hid h3; clear h1 h2 h3 HN HL HC)
        go_roundw
        case rel => exact ⟨4, by decide, rfl, H4.out, H5.out⟩
        case measure => first | decide | (simp [intOf])
      · have HC := Lib.hid (rd_byte (w := wr) (m / 16777216) ((m : Int) / 16777216 % 256) 5 (by omega))
        have HN : Hid ((1 :: (beN 8 m).take 4) ++ [UInt8.ofNat (m / 16777216)] = 1 :: (beN 8 m).take 5) := rfl
        have HL : Hid ((1 :: (beN 8 m).take 4).length + [UInt8.ofNat (m / 16777216)].length ≤ 140737488355328) := by
          have h8 : (1 :: (beN 8 m).take 4).length = 5 := rfl
          show _ ≤ _
          rw [h8]
          simp
        go_wp2_with (at_builtin; refine step_appendB rfl (.tmp 19) (.tmp 25) rfl eltB w.heap.size _ (1 :: (beN 8 m).take 4) rfl _ _ _ [UInt8.ofNat (m / 16777216)] rfl (HO2.out.kept (below_alloc _) (Nat.le_refl _)) rfl HC.out HL.out (by have := HB2.out.size; rw [World.size_alloc]; omega) ?_; intro v2 w2 h1 h2; rw [HN.out] at h1; have h3 := HB2.out.trans (((Below.refl _ wr).alloc HB2.out.size _).trans h2); have H4 := Lib.hid h1; have H5 := Lib.hid h3; clear h1 h2 h3 HN HL HC)
        go_roundw
        case rel => exact ⟨5, by decide, rfl, H4.out, H5.out⟩
        case measure => first | decide | (simp [intOf])
      · have HC := Lib.hid (rd_byte (w := wr) (m / 65536) ((m : Int) / 65536 % 256) 5 (by omega))
        have HN : Hid ((1 :: (beN 8 m).take 5) ++ [UInt8.ofNat (m / 65536)] = 1 :: (beN 8 m).take 6) := rfl
        have HL : Hid ((1 :: (beN 8 m).take 5).length + [UInt8.ofNat (m / 65536)].length ≤ 140737488355328) := by
          have h8 : (1 :: (beN 8 m).take 5).length = 6 := rfl
          show _ ≤ _
          rw [h8]
          simp
        go_wp2_with (at_builtin; refine step_appendB rfl (.tmp 19) (.tmp 25) rfl eltB w.heap.size _ (1 :: (beN 8 m).take 5) rfl _ _ _ [UInt8.ofNat (m / 65536)] rfl (HO2.out.kept (below_alloc _) (Nat.le_refl _)) rfl HC.out HL.out (by have := HB2.out.size; rw [World.size_alloc]; omega) ?_; intro v2 w2 h1 h2; rw [HN.out] at h1; have h3 := HB2.out.trans (((Below.refl _ wr).alloc HB2.out.size _).trans h2); have H4 := Lib.hid h1; have H5 := Lib.hid h3; clear h1 h2 h3 HN HL HC)
        go_roundw
        case rel => exact ⟨6, by decide, rfl, H4.out, H5.out⟩
        case measure => first | decide | (simp [intOf])
      · have HC := Lib.hid (rd_byte (w := wr) (m / 256) ((m : Int) / 256 % 256) 5 (by omega))
        have HN : Hid ((1 :: (beN 8 m).take 6) ++ [UInt8.ofNat (m / 256)] = 1 :: (beN 8 m).take 7) := rfl
        have HL : Hid ((1 :: (beN 8 m).take 6).length + [UInt8.ofNat (m / 256)].length ≤ 140737488355328) := by
          have h8 : (1 :: (beN 8 m).take 6).length = 7 := rfl
          show _ ≤ _
          rw [h8]
          simp
        go_wp2_with (at_builtin; refine step_appendB rfl (.tmp 19) (.tmp 25) rfl eltB w.heap.size _ (1 :: (beN 8 m).take 6) rfl _ _ _ [UInt8.ofNat (m / 256)] rfl (HO2.out.kept (below_alloc _) (Nat.le_refl _)) rfl HC.out HL.out (by have := HB2.out.size; rw [World.size_alloc]; omega) ?_; intro v2 w2 h1 h2; rw [HN.out] at h1; have h3 := HB2.out.trans (((Below.refl _ wr).alloc HB2.out.size _).trans h2); have H4 := Lib.hid h1; have H5 := Lib.hid h3; clear h1 h2 h3 HN HL HC)
        go_roundw
        case rel => exact ⟨7, by decide, rfl, H4.out, H5.out⟩
        case measure => first | decide | (simp [intOf])
      · have HC := Lib.hid (rd_byte (w := wr) (m / 1) ((m : Int) % 256) 5 (by omega))
        have HN : Hid ((1 :: (beN 8 m).take 7) ++ [UInt8.ofNat (m / 1)] = 1 :: (beN 8 m).take 8) := rfl
        have HL : Hid ((1 :: (beN 8 m).take 7).length + [UInt8.ofNat (m / 1)].length ≤ 140737488355328) := by
          have h8 : (1 :: (beN 8 m).take 7).length = 8 := rfl
          show _ ≤ _
          rw [h8]
          simp
        go_wp2_with (at_builtin; refine step_appendB rfl (.tmp 19) (.tmp 25) rfl eltB w.heap.size _ (1 :: (beN 8 m).take 7) rfl _ _ _ [UInt8.ofNat (m / 1)] rfl (HO2.out.kept (below_alloc _) (Nat.le_refl _)) rfl HC.out HL.out (by have := HB2.out.size; rw [World.size_alloc]; omega) ?_; intro v2 w2 h1 h2; rw [HN.out] at h1; have h3 := HB2.out.trans (((Below.refl _ wr).alloc HB2.out.size _).trans h2); have H4 := Lib.hid h1; have H5 := Lib.hid h3; clear h1 h2 h3 HN HL HC)
        go_roundw
        case rel => exact ⟨8, by decide, rfl, H4.out, H5.out⟩
        case measure => first | decide | (simp [intOf])
      · go_wp2
        go_ret
        have h1 := HO2.out
        rw [HE.out]
        exact ⟨_, rfl, h1, HB2.out⟩
  | false =>
    obtain ⟨N, hN⟩ : ∃ N, N = s.length := ⟨_, rfl⟩
    have hSz : S.size = N := by rw [← hS, hN]; simp [str, ByteArray.size]
    have HE : Hid (enc ⟨s, n, false⟩ = 2 :: (esc s ++ [0, 1])) := rfl
    have hN2 : N ≤ 140737488355328 := by
      have h := HS.out
      rw [HE.out] at h
      have h2 := esc_len s
      simp only [List.length_append, List.length_cons] at h
      omega
    have HLE : ∀ k, (esc (s.take k)).length ≤ (esc s).length := esc_take_le s
    have HK : Hid ((esc s).length + 3 ≤ 140737488355328) := by have h := HS.out; rw [HE.out] at h; simp at h; show _ ≤ _; omega
    have HO : Hid (OwnB ((w.alloc (.cells #[.string S, .int .i64 n, .bool false] 42)).alloc (.cells #[.int .u8 2] 5)) (w.heap.size + 1) 5 (.slice (some ⟨w.heap.size + 1, 0, none⟩) 1 1) [2]) := by
      have := OwnB.lit (w := w.alloc (.cells #[.string S, .int .i64 n, .bool false] 42)) (base := w.heap.size + 1) (e := 5) (C := #[.int .u8 2]) (l := [2]) (n := 1) rfl rfl (by decide) (by omega)
      rwa [hz] at this
    have HB1 : Hid (Below (w.heap.size + 1) (w.alloc (.cells #[.string S, .int .i64 n, .bool false] 42)) ((w.alloc (.cells #[.string S, .int .i64 n, .bool false] 42)).alloc (.cells #[.int .u8 2] 5))) := by
      have := below_alloc (w := w.alloc (.cells #[.string S, .int .i64 n, .bool false] 42)) (.cells #[.int .u8 2] 5)
      rwa [hz] at this
    go_enter Tryz.func18, Tryz.ntmps18
    go_wp2
    obtain ⟨w1, hw1⟩ : ∃ w1, w.alloc (.cells #[.string S, .int .i64 n, .bool false] 42) = w1 := ⟨_, rfl⟩
    rw [hw1] at H0 HB0 hz HO HB1 ⊢
    clear hw1
    go_loopw [6, 7] (fun u i wr => ∃ k : Nat, k ≤ N ∧ i = .int .i64 (k : Int) ∧ OwnB wr (w.heap.size + 1) 5 u (2 :: esc (s.take k)) ∧ Below (w.heap.size + 1) w1 wr) (fun _ i _ => N - (intOf i).toNat)
    case atStart => exact ⟨0, Nat.zero_le _, rfl, HO.out, HB1.out⟩
    case round =>
      obtain ⟨k, hk, rfl, ho, hb⟩ := hrel
      have HO := Lib.hid ho
      have HB := Lib.hid hb
      have hc0 := (H0.mono hb (by omega)).cells3.1
      clear ho hb HB1
      by_cases hkN : k < N
      · have hkl : k < s.length := hN ▸ hkN
        obtain ⟨x, hx⟩ : ∃ x, s[k] = x := ⟨_, rfl⟩
        have hsx : ∀ h : k < S.size, S[k]'h = x := fun h => by subst hS; rw [← hx]; rfl
        have HX : Hid (esc (s.take (k + 1)) = esc (s.take k) ++ (if x = 0 then [0, 255] else [x])) := by have := esc_next s k hkl; rwa [hx] at this
        have HC := Lib.hid (rdB_lit wr #[.int .u8 (x.toNat : Int)] 5 (0, 0) [x] rfl)
        have HL : Hid ((2 :: esc (s.take k)).length + [x].length ≤ 140737488355328) := by
          have h1 := HK.out
          have h2 := HLE k
          show _ ≤ _
          simp only [List.length_cons, List.length_nil]
          omega
        clear hx hkl
        by_cases hx0 : x = 0
        · subst hx0
          have HC : Hid (RdB (wr.alloc (.cells #[.int .u8 0] 5)) (some ⟨wr.heap.size, 0, none⟩) [0]) := HC
          rw [if_pos rfl] at HX
          have HN : Hid (((2 :: esc (s.take k)) ++ [0]) ++ [255] = 2 :: esc (s.take (k + 1))) := by show _ = _; rw [HX.out, List.append_assoc]; rfl
          have HL2 : Hid (((2 :: esc (s.take k)) ++ [0]).length + [(255 : UInt8)].length ≤ 140737488355328) := by
            have h1 := HK.out
            have h2 := HLE (k + 1)
            rw [HX.out, List.length_append] at h2
            show _ ≤ _
            simp only [List.length_append, List.length_cons, List.length_nil] at h2 ⊢
            omega
          go_wp2_with (first
            | (at_builtin; refine step_appendB rfl (.tmp 36) (.tmp 41) rfl eltB (w.heap.size + 1) _ (2 :: esc (s.take k)) rfl _ _ _ [0] rfl (HO.out.kept (below_alloc _) (Nat.le_refl _)) rfl HC.out HL.out (by have := HB.out.size; rw [World.size_alloc]; omega) ?_; intro v2 w2 h1 h2; have h3 := HB.out.trans (((Below.refl _ wr).alloc (by have := HB.out.size; omega) _).trans h2); have hc2 := (H0.mono h3 (by omega)).cells3.1; have H4 := Lib.hid h1; have H5 := Lib.hid h3; have HC2 := Lib.hid (rdB_lit w2 #[.int .u8 255] 5 (0, 0) [255] rfl); clear h1 h2 h3 HC HL)
            | (at_builtin; refine step_appendB rfl (.tmp 48) (.tmp 49) rfl eltB (w.heap.size + 1) _ ((2 :: esc (s.take k)) ++ [0]) rfl _ _ _ [255] rfl (H4.out.kept (below_alloc _) (Nat.le_refl _)) rfl HC2.out HL2.out (by have := H5.out.size; rw [World.size_alloc]; omega) ?_; intro v3 w3 h1 h2; rw [HN.out] at h1; have h3 := H5.out.trans (((Below.refl _ w2).alloc (by have := H5.out.size; omega) _).trans h2); have H4 := Lib.hid h1; have H5 := Lib.hid h3; clear h1 h2 h3))
          go_roundw
          case rel => exact ⟨k + 1, by omega, by go_num, H4.out, H5.out⟩
          case measure => simp [intOf]; omega
        · have hxi : (x.toNat : Int) ≠ 0 := by
            intro e
            exact hx0 (UInt8.toNat_inj.1 (by have : x.toNat = 0 := by omega
                                             rw [this]; rfl))
          rw [if_neg hx0] at HX
          have HN : Hid ((2 :: esc (s.take k)) ++ [x] = 2 :: esc (s.take (k + 1))) := by show _ = _; rw [HX.out]; rfl
          go_wp2_with (at_builtin; refine step_appendB rfl (.tmp 36) (.tmp 41) rfl eltB (w.heap.size + 1) _ (2 :: esc (s.take k)) rfl _ _ _ [x] rfl (HO.out.kept (below_alloc _) (Nat.le_refl _)) rfl HC.out HL.out (by have := HB.out.size; rw [World.size_alloc]; omega) ?_; intro v2 w2 h1 h2; rw [HN.out] at h1; have h3 := HB.out.trans (((Below.refl _ wr).alloc (by have := HB.out.size; omega) _).trans h2); have hc2 := (H0.mono h3 (by omega)).cells3.1; have H4 := Lib.hid h1; have H5 := Lib.hid h3; clear h1 h2 h3 HN HL HC)
          go_roundw
          case rel => exact ⟨k + 1, by omega, by go_num, H4.out, H5.out⟩
          case measure => simp [intOf]; omega
      · have hkN2 : k = N := by omega
        subst hkN2
        have HC := Lib.hid (rdB_lit wr #[.int .u8 0, .int .u8 1] 5 (0, 0) [0, 1] rfl)
        have HN : Hid ((2 :: esc (s.take k)) ++ [0, 1] = enc ⟨s, n, false⟩) := by
          show _ = _
          rw [HE.out, hN, List.take_of_length_le (Nat.le_refl _)]
          rfl
        have HL : Hid ((2 :: esc (s.take k)).length + [(0 : UInt8), 1].length ≤ 140737488355328) := by
          have h1 := HK.out
          have h2 := HLE k
          show _ ≤ _
          simp only [List.length_cons, List.length_nil]
          omega
        go_wp2_with (at_builtin; refine step_appendB rfl (.tmp 51) (.tmp 52) rfl eltB (w.heap.size + 1) _ (2 :: esc (s.take k)) rfl _ _ _ [0, 1] rfl (HO.out.kept (below_alloc _) (Nat.le_refl _)) rfl HC.out HL.out (by have := HB.out.size; rw [World.size_alloc]; omega) ?_; intro v2 w2 h1 h2; rw [HN.out] at h1; have h3 := HB.out.trans (((Below.refl _ wr).alloc (by have := HB.out.size; omega) _).trans h2); have H4 := Lib.hid h1; have H5 := Lib.hid h3; clear h1 h2 h3 HN HL HC)
        go_ret
        exact ⟨_, rfl, H4.out.mono (by omega), HB0.trans (H5.out.mono (by omega))⟩
end Go.Proofs.YtlchnfjbcefkoaaGreat
