/- How numbers are put: wire.varint, wire.Varint and the document's Varint hand back the bytes vput; nothing that was there is changed. -/
import Derived.Test.YtomfdiomakjeoaaProg
import Derived.Test.YtomfdiomakjeoaaWirePlain
import Derived.Test.YtomfdiomakjeoaaHeap
import Derived.Test.YtomfdiomakjeoaaRange
import Derived.Test.YtomfdiomakjeoaaRow
namespace Go.Proofs.Ytomfdiomakjeoaa
open Go.RowKit

theorem eltB : Elt Try.prog 23 5 1 1 (.int .u8 0) := ⟨Try.underlying23, by kernel_rfl, rfl, by decide⟩
set_option maxRecDepth 10000 in
theorem or128 : ∀ m, m < 256 → m ||| 128 = 128 + m % 128 := by decide
theorem bits_or128 (y : Nat) : bits .or .u8 ((y : Int) % 256) 128 = ((128 + y % 128 : Nat) : Int) := by
  rw [show ((y : Int) % 256) = ((y % 256 : Nat) : Int) from rfl]
  refine (bits_or_nat .u8 rfl (y % 256) 128 (by show y % 256 < 256; omega) (by decide)).trans ?_
  rw [or128 _ (Nat.mod_lt _ (by decide)), Nat.mod_mod_of_dvd _ (by decide)]

set_option maxRecDepth 100000 in
set_option maxHeartbeats 400000 in
theorem varint_on (x : Nat) (hx : x < 18446744073709551616) (v : Value) (l : List UInt8) (base : Nat) (w : World) (hv : OwnB w base 5 v l) (hbase : base ≤ w.heap.size) (hs : l.length + 10 ≤ 140737488355328) :
    Calls Try.prog 36 #[v, .int .u64 (x : Int)] w fun e w' => ∃ v', e = .returned v' ∧ OwnB w' base 5 v' (l ++ vput x) ∧ Onto w v w' v' := by
  have HV := Lib.hid hv
  have hlen : (l ++ vput x).length ≤ l.length + 10 := by rw [List.length_append]; have := vput_len10 hx; omega
  have HLEN := Lib.hid (Nat.le_trans hlen hs)
  clear hv hlen hs
  go_enter Try.func36, Try.ntmps36
  go_wp2
  go_loopw [0, 1] (fun u s wr => ∃ y : Nat, ∃ pre : List UInt8, y < 18446744073709551616 ∧ s = .int .u64 y ∧ pre ++ vput y = l ++ vput x ∧ OwnB wr base 5 u pre ∧ Onto w v wr u) (fun _ s _ => (intOf s).toNat)
  case atStart => exact ⟨x, l, hx, rfl, rfl, HV.out, Onto.refl _ _⟩
  case round =>
    obtain ⟨y, pre, hy, rfl, he, ho, hb⟩ := hrel
    have HO := Lib.hid ho
    have HB := Lib.hid hb
    have HE := Lib.hid he
    clear ho hb he
    by_cases hlt : 127 < y
    · have hor := bits_or128 y
      have HC := Lib.hid (rd_byte (w := wr) (128 + y % 128) ((128 + y % 128 : Nat) : Int) 5 (by omega))
      have HN : Hid ((pre ++ [UInt8.ofNat (128 + y % 128)]) ++ vput (y / 128) = l ++ vput x) := by
        show _ = _; rw [← HE.out, vput_ge (x := y) (by omega)]; simp
      have HS : Hid (pre.length + 1 ≤ 140737488355328) := by
        show _ ≤ _
        have h := HLEN.out
        rw [← HN.out] at h; simp at h; omega
      go_wp2_with (at_builtin; refine step_appendO rfl (.tmp 9) (.tmp 13) rfl eltB base _ pre rfl _ _ _ [UInt8.ofNat (128 + y % 128)] rfl (HO.out.kept (below_alloc _) (Nat.le_refl _)) rfl HC.out (by simpa using HS.out) (by have := HB.out.grown.size; simp; omega) ?_; intro v' w' h1 h2)
      have h3 := (HB.out.alloc _).trans h2
      have H1 := Lib.hid h1
      have H3 := Lib.hid h3
      clear h1 h2 h3 hor
      go_wp2
      go_roundw
      case rel => exact ⟨y / 128, _, by omega, by go_num, HN.out, H1.out, H3.out⟩
      case measure => simp [intOf]; omega
    · have HC := Lib.hid (rd_byte (w := wr) y (y : Int) 5 (by omega))
      have HN : Hid (pre ++ [UInt8.ofNat y] = l ++ vput x) := by
        show _ = _; rw [← HE.out, vput_lt (x := y) (by omega)]
      have HS : Hid (pre.length + 1 ≤ 140737488355328) := by
        show _ ≤ _
        have h := HLEN.out
        rw [← HN.out] at h; simpa using h
      go_wp2_with (at_builtin; refine step_appendO rfl (.tmp 15) (.tmp 18) rfl eltB base _ pre rfl _ _ _ [UInt8.ofNat y] rfl (HO.out.kept (below_alloc _) (Nat.le_refl _)) rfl HC.out (by simpa using HS.out) (by have := HB.out.grown.size; simp; omega) ?_; intro v' w' h1 h2)
      have h3 := (HB.out.alloc _).trans h2
      rw [HN.out] at h1
      have H1 := Lib.hid h1
      have H3 := Lib.hid h3
      clear h1 h2 h3
      go_wp2
      go_ret
      exact ⟨_, rfl, H1.out, H3.out⟩

theorem varint_any (x : Nat) (hx : x < 18446744073709551616) (v : Value) (l : List UInt8) (base : Nat) (w : World) (hv : OwnB w base 5 v l) (hbase : base ≤ w.heap.size) (hs : l.length + 10 ≤ 140737488355328) :
    Calls Try.prog 36 #[v, .int .u64 (x : Int)] w fun e w' => ∃ v', e = .returned v' ∧ OwnB w' base 5 v' (l ++ vput x) ∧ Below base w w' := by
  refine (varint_on x hx v l base w hv hbase hs).mono ?_
  rintro e w' ⟨v', rfl, h1, h2⟩
  exact ⟨v', rfl, h1, h2.down hv hbase⟩

set_option maxRecDepth 100000 in
theorem varintx_any (x : Nat) (hx : x < 18446744073709551616) (w : World) :
    Calls Try.prog 17 #[.int .u64 (x : Int)] w (RetB 5 w (vput x)) := by
  go_enter Try.func17, Try.ntmps17
  go_wp2_with fail
  refine (varint_any x hx _ [] w.heap.size w (OwnB.nil _ _ _) (Nat.le_refl _) (by simp)).mono ?_
  rintro e w1 ⟨v', rfl, h1, h2⟩
  go_wp2
  go_ret
  exact ⟨_, rfl, h1, h2⟩

set_option maxRecDepth 100000 in
set_option maxHeartbeats 400000 in
theorem refvarint_any (x : Nat) (hx : x < 18446744073709551616) (w : World) :
    Calls Try.prog 18 #[.int .u64 (x : Int)] w (RetB 5 w (vput x)) := by
  have HLEN := Lib.hid (vput_len10 hx)
  go_enter Try.func18, Try.ntmps18
  go_wp2
  go_loopw [0, 3] (fun s v wr => ∃ y : Nat, ∃ pre : List UInt8, y < 18446744073709551616 ∧ s = .int .u64 y ∧ pre ++ vput y = vput x ∧ OwnB wr w.heap.size 5 v pre ∧ Below w.heap.size w wr) (fun s _ _ => (intOf s).toNat)
  case atStart => exact ⟨x, [], hx, rfl, rfl, OwnB.nil _ _ _, Below.refl _ _⟩
  case round =>
    obtain ⟨y, pre, hy, rfl, he, ho, hb⟩ := hrel
    have HO := Lib.hid ho
    have HB := Lib.hid hb
    have HE := Lib.hid he
    clear ho hb he
    by_cases hlt : 127 < y
    · have HC := Lib.hid (rd_byte (w := wr) (128 + y % 128) (128 + (y : Int) % 128) 5 (by omega))
      have HN : Hid ((pre ++ [UInt8.ofNat (128 + y % 128)]) ++ vput (y / 128) = vput x) := by
        show _ = _; rw [← HE.out, vput_ge (x := y) (by omega)]; simp
      have HS : Hid (pre.length + 1 ≤ 140737488355328) := by
        show _ ≤ _
        have h := HLEN.out
        rw [← HN.out] at h; simp at h; omega
      go_wp2_with (at_builtin; refine step_appendB rfl (.tmp 6) (.tmp 11) rfl eltB w.heap.size _ pre rfl _ _ _ [UInt8.ofNat (128 + y % 128)] rfl (HO.out.kept (below_alloc _) (Nat.le_refl _)) rfl HC.out (by simpa using HS.out) (by have := HB.out.size; simp; omega) ?_; intro v' w' h1 h2)
      have h3 := HB.out.trans (((Below.refl _ wr).alloc HB.out.size _).trans h2)
      have H1 := Lib.hid h1
      have H3 := Lib.hid h3
      clear h1 h2 h3
      go_wp2
      go_roundw
      case rel => exact ⟨y / 128, _, by omega, by go_num, HN.out, H1.out, H3.out⟩
      case measure => simp [intOf]; omega
    · have HC := Lib.hid (rd_byte (w := wr) y (y : Int) 5 (by omega))
      have HN : Hid (pre ++ [UInt8.ofNat y] = vput x) := by
        show _ = _; rw [← HE.out, vput_lt (x := y) (by omega)]
      have HS : Hid (pre.length + 1 ≤ 140737488355328) := by
        show _ ≤ _
        have h := HLEN.out
        rw [← HN.out] at h; simp at h; omega
      go_wp2_with (at_builtin; refine step_appendB rfl (.tmp 15) (.tmp 18) rfl eltB w.heap.size _ pre rfl _ _ _ [UInt8.ofNat y] rfl (HO.out.kept (below_alloc _) (Nat.le_refl _)) rfl HC.out (by simpa using HS.out) (by have := HB.out.size; simp; omega) ?_; intro v' w' h1 h2)
      have h3 := HB.out.trans (((Below.refl _ wr).alloc HB.out.size _).trans h2)
      rw [HN.out] at h1
      have H1 := Lib.hid h1
      have H3 := Lib.hid h3
      clear h1 h2 h3
      go_wp2
      go_ret
      exact ⟨_, rfl, H1.out, H3.out⟩
end Go.Proofs.Ytomfdiomakjeoaa
