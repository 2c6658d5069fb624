/- cmp.Compare of texts and of numbers, cmp.Or of numbers: what they hand back; the world stays. -/
import Derived.Test.YtcakdjnnfonijaaRange
import Derived.Test.YtcakdjnnfonijaaRow
import Derived.Test.YtcakdjnnfonijaaProg
namespace Go.Proofs.Ytcakdjnnfonijaa
open Go.RowKit

/-- Texts held against each other, and numbers. -/
def cmpS (s t : ByteArray) : Int := if Op.bytesLess s.toList t.toList then -1 else if s.toList == t.toList then 0 else 1
def cmpI (a b : Int) : Int := if a < b then -1 else if b < a then 1 else 0
set_option maxRecDepth 100000 in
theorem nanS_any (s : ByteArray) (w : World) : Calls Try.prog 61 #[.string s] w fun e w' => e = .returned (.bool false) ∧ w = w' := by
  have hb : (!(s.toList == s.toList)) = false := by simp
  go_enter Try.func61, Try.ntmps61
  go_wp2
  go_ret
  exact ⟨by simp, rfl⟩
set_option maxRecDepth 100000 in
theorem nanI_any (s : Int) (w : World) : Calls Try.prog 62 #[.int .i64 s] w fun e w' => e = .returned (.bool false) ∧ w = w' := by
  go_enter Try.func62, Try.ntmps62
  go_wp2
  go_ret
  exact ⟨by simp, rfl⟩
set_option maxRecDepth 100000 in
theorem cmpS_any (s t : ByteArray) (w : World) : Calls Try.prog 53 #[.string s, .string t] w fun e w' => e = .returned (.int .i64 (cmpS s t)) ∧ w = w' := by
  obtain ⟨b1, h1⟩ : ∃ b, Op.bytesLess s.toList t.toList = b := ⟨_, rfl⟩
  obtain ⟨b2, h2⟩ : ∃ b, (s.toList == t.toList) = b := ⟨_, rfl⟩
  have hc : cmpS s t = if b1 then -1 else if b2 then 0 else 1 := by unfold cmpS; rw [h1, h2]
  rw [hc]
  clear hc
  go_enter Try.func53, Try.ntmps53
  cases b1 with
  | true =>
    go_wp2_with (first | (go_at_call 61; refine (nanS_any _ _).mono ?_; rintro e _ ⟨rfl, rfl⟩))
    go_ret
    exact ⟨rfl, rfl⟩
  | false =>
    cases b2 with
    | true =>
      have h3 : (!(Op.bytesLess s.toList t.toList || s.toList == t.toList)) = false := by rw [h1, h2]; rfl
      go_wp2_with (first | (go_at_call 61; refine (nanS_any _ _).mono ?_; rintro e _ ⟨rfl, rfl⟩))
      go_ret
      exact ⟨rfl, rfl⟩
    | false =>
      have h3 : (!(Op.bytesLess s.toList t.toList || s.toList == t.toList)) = true := by rw [h1, h2]; rfl
      go_wp2_with (first | (go_at_call 61; refine (nanS_any _ _).mono ?_; rintro e _ ⟨rfl, rfl⟩))
      go_ret
      exact ⟨rfl, rfl⟩
set_option maxRecDepth 100000 in
theorem cmpI_any (s t : Int) (w : World) : Calls Try.prog 54 #[.int .i64 s, .int .i64 t] w fun e w' => e = .returned (.int .i64 (cmpI s t)) ∧ w = w' := by
  go_enter Try.func54, Try.ntmps54
  by_cases h1 : s < t
  · have hc : cmpI s t = -1 := by unfold cmpI; rw [if_pos h1]
    rw [hc]
    clear hc
    go_wp2_with (first | (go_at_call 62; refine (nanI_any _ _).mono ?_; rintro e _ ⟨rfl, rfl⟩))
    go_ret
    exact ⟨rfl, rfl⟩
  · by_cases h2 : t < s
    · have hc : cmpI s t = 1 := by unfold cmpI; rw [if_neg h1, if_pos h2]
      rw [hc]
      clear hc
      go_wp2_with (first | (go_at_call 62; refine (nanI_any _ _).mono ?_; rintro e _ ⟨rfl, rfl⟩))
      go_ret
      exact ⟨rfl, rfl⟩
    · have hc : cmpI s t = 0 := by unfold cmpI; rw [if_neg h1, if_neg h2]
      rw [hc]
      clear hc
      go_wp2_with (first | (go_at_call 62; refine (nanI_any _ _).mono ?_; rintro e _ ⟨rfl, rfl⟩))
      go_ret
      exact ⟨rfl, rfl⟩
end Go.Proofs.Ytcakdjnnfonijaa
