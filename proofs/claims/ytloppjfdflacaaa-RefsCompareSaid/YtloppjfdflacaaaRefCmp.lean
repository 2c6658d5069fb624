/- cmp.Compare of texts and of numbers, cmp.Or of numbers: what they hand back; the world stays. -/
import Derived.Test.YtloppjfdflacaaaRange
import Derived.Test.YtloppjfdflacaaaRow
import Derived.Test.YtloppjfdflacaaaProg
namespace Go.Proofs.Ytloppjfdflacaaa
open Go.RowKit

/-- Texts held against each other, and numbers. -/
def cmpS (s t : ByteArray) : Int := if Op.bytesLess s.toList t.toList then -1 else if s.toList == t.toList then 0 else 1
def cmpI (a b : Int) : Int := if a < b then -1 else if b < a then 1 else 0
set_option maxRecDepth 100000 in
theorem nanS_any (s : ByteArray) (w : World) : Calls Try.prog 100 #[.string s] w fun e w' => e = .returned (.bool false) ∧ w = w' := by
  have hb : (!(s.toList == s.toList)) = false := by simp
  go_enter Try.func100, Try.ntmps100
  go_wp2
  go_ret
  exact ⟨by simp, rfl⟩
set_option maxRecDepth 100000 in
theorem nanI_any (s : Int) (w : World) : Calls Try.prog 101 #[.int .i64 s] w fun e w' => e = .returned (.bool false) ∧ w = w' := by
  go_enter Try.func101, Try.ntmps101
  go_wp2
  go_ret
  exact ⟨by simp, rfl⟩
set_option maxRecDepth 100000 in
theorem cmpS_any (s t : ByteArray) (w : World) : Calls Try.prog 47 #[.string s, .string t] w fun e w' => e = .returned (.int .i64 (cmpS s t)) ∧ w = w' := by
  obtain ⟨b1, h1⟩ : ∃ b, Op.bytesLess s.toList t.toList = b := ⟨_, rfl⟩
  obtain ⟨b2, h2⟩ : ∃ b, (s.toList == t.toList) = b := ⟨_, rfl⟩
  have hc : cmpS s t = if b1 then -1 else if b2 then 0 else 1 := by unfold cmpS; rw [h1, h2]
  rw [hc]
  clear hc
  go_enter Try.func47, Try.ntmps47
  cases b1 with
  | true =>
    go_wp2_with (first | (go_at_call 100; refine (nanS_any _ _).mono ?_; rintro e _ ⟨rfl, rfl⟩))
    go_ret
    exact ⟨rfl, rfl⟩
  | false =>
    cases b2 with
    | true =>
      have h3 : (!(Op.bytesLess s.toList t.toList || s.toList == t.toList)) = false := by rw [h1, h2]; rfl
      go_wp2_with (first | (go_at_call 100; refine (nanS_any _ _).mono ?_; rintro e _ ⟨rfl, rfl⟩))
      go_ret
      exact ⟨rfl, rfl⟩
    | false =>
      have h3 : (!(Op.bytesLess s.toList t.toList || s.toList == t.toList)) = true := by rw [h1, h2]; rfl
      go_wp2_with (first | (go_at_call 100; refine (nanS_any _ _).mono ?_; rintro e _ ⟨rfl, rfl⟩))
      go_ret
      exact ⟨rfl, rfl⟩
set_option maxRecDepth 100000 in
theorem cmpI_any (s t : Int) (w : World) : Calls Try.prog 48 #[.int .i64 s, .int .i64 t] w fun e w' => e = .returned (.int .i64 (cmpI s t)) ∧ w = w' := by
  go_enter Try.func48, Try.ntmps48
  by_cases h1 : s < t
  · have hc : cmpI s t = -1 := by unfold cmpI; rw [if_pos h1]
    rw [hc]
    clear hc
    go_wp2_with (first | (go_at_call 101; refine (nanI_any _ _).mono ?_; rintro e _ ⟨rfl, rfl⟩))
    go_ret
    exact ⟨rfl, rfl⟩
  · by_cases h2 : t < s
    · have hc : cmpI s t = 1 := by unfold cmpI; rw [if_neg h1, if_pos h2]
      rw [hc]
      clear hc
      go_wp2_with (first | (go_at_call 101; refine (nanI_any _ _).mono ?_; rintro e _ ⟨rfl, rfl⟩))
      go_ret
      exact ⟨rfl, rfl⟩
    · have hc : cmpI s t = 0 := by unfold cmpI; rw [if_neg h1, if_neg h2]
      rw [hc]
      clear hc
      go_wp2_with (first | (go_at_call 101; refine (nanI_any _ _).mono ?_; rintro e _ ⟨rfl, rfl⟩))
      go_ret
      exact ⟨rfl, rfl⟩
end Go.Proofs.Ytloppjfdflacaaa
