/- tables.Compare of keys. -/
import Derived.Test.YtlchnfjbcefkoaaGreatTabRefCmp
import Derived.Test.YtlchnfjbcefkoaaGreatTabShelf
import Derived.Deep.RegionHeldLaw
import Derived.StillTailTactics
namespace Go.Proofs.YtlchnfjbcefkoaaGreat
open Go.RowKit

theorem compareBytes_eq : ∀ a b : List UInt8, Lib.compareBytes a b = cmpL a b
  | [], [] => rfl
  | [], _ :: _ => by simp [Lib.compareBytes, cmpL, Op.bytesLess]
  | _ :: _, [] => by simp [Lib.compareBytes, cmpL, Op.bytesLess]
  | a :: x, b :: y => by
    unfold Lib.compareBytes
    rw [compareBytes_eq x y]
    unfold cmpL
    by_cases h1 : a < b
    · simp [Op.bytesLess, h1]
    · by_cases h2 : b < a
      · have hne : a ≠ b := fun e => by subst e; rw [UInt8.lt_iff_toNat_lt] at h2; omega
        simp [Op.bytesLess, h1, h2, hne]
      · have he : a = b := UInt8.toNat_inj.1 (by rw [UInt8.lt_iff_toNat_lt] at h1 h2; omega)
        subst he
        simp [Op.bytesLess, h1]
set_option maxRecDepth 100000 in
theorem nanI_any (s : Int) (w : World) : Calls Tryz.prog 38 #[.int .i64 s] w fun e w' => e = .returned (.bool false) ∧ w = w' := by
  go_enter Tryz.func38, Tryz.ntmps38
  go_wp2
  go_ret
  exact ⟨by simp, rfl⟩
set_option maxRecDepth 100000 in
theorem nanL_any (s : Int) (w : World) : Calls Tryz.prog 39 #[.int .i64 s] w fun e w' => e = .returned (.bool false) ∧ w = w' := by
  go_enter Tryz.func39, Tryz.ntmps39
  go_wp2
  go_ret
  exact ⟨by simp, rfl⟩
set_option maxRecDepth 100000 in
theorem cmpI_any (s t : Int) (w : World) : Calls Tryz.prog 20 #[.int .i64 s, .int .i64 t] w fun e w' => e = .returned (.int .i64 (cmpN s t)) ∧ w' = w := by
  go_enter Tryz.func20, Tryz.ntmps20
  rcases cmpN_in s t with ⟨hv, h1⟩ | ⟨hv, rfl⟩ | ⟨hv, h1⟩
  all_goals
    rw [hv]
    clear hv
    go_wp2_with (first | (go_at_call 38; refine (nanI_any _ _).mono ?_; rintro e _ ⟨rfl, rfl⟩))
    go_ret
    exact ⟨rfl, rfl⟩
set_option maxRecDepth 100000 in
theorem cmpL_any (s t : Int) (w : World) : Calls Tryz.prog 21 #[.int .i64 s, .int .i64 t] w fun e w' => e = .returned (.int .i64 (cmpN s t)) ∧ w' = w := by
  go_enter Tryz.func21, Tryz.ntmps21
  rcases cmpN_in s t with ⟨hv, h1⟩ | ⟨hv, rfl⟩ | ⟨hv, h1⟩
  all_goals
    rw [hv]
    clear hv
    go_wp2_with (first | (go_at_call 39; refine (nanL_any _ _).mono ?_; rintro e _ ⟨rfl, rfl⟩))
    go_ret
    exact ⟨rfl, rfl⟩
theorem cmpS_any (s t : List UInt8) (S T : ByteArray) (hS : str s = S) (hT : str t = T) (w : World) : Calls Tryz.prog 22 #[.string S, .string T] w fun e w' => e = .returned (.int .i64 (cmpL s t)) ∧ w' = w := by
  refine (shelf_strings_Compare S T w).mono ?_
  rintro e w' ⟨rfl, rfl⟩
  subst hS hT
  refine ⟨?_, rfl⟩
  rw [compareBytes_eq]
  rfl
def cmpOr (x y : Int) : Int := if x = 0 then y else x
set_option maxRecDepth 100000 in
theorem or_any (b : Nat) (x y : Int) (w : World) (hr : RowAt w b 3 #[.int .i64 x, .int .i64 y]) :
    Calls Tryz.prog 23 #[.slice (some ⟨b, 0, none⟩) 2 2] w fun e w' => e = .returned (.int .i64 (cmpOr x y)) ∧ w = w' := by
  have h0 : w.cell? ⟨b, 0, none⟩ = some (.int .i64 x) := hr.cell 0
  have h1 : w.cell? ⟨b, 1, none⟩ = some (.int .i64 y) := hr.cell 1
  have H0 := Lib.hid h0
  have H1 := Lib.hid h1
  clear h0 h1 hr
  go_enter Tryz.func23, Tryz.ntmps23
  go_wp2
  go_loopw [8] (fun i wr => w = wr ∧ ∃ k : Nat, k ≤ 2 ∧ i = .int .i64 k ∧ (0 < k → x = 0) ∧ (1 < k → y = 0)) (fun i _ => 2 - (intOf i).toNat)
  case atStart => exact ⟨rfl, 0, by decide, rfl, fun h => by omega, fun h => by omega⟩
  case round =>
    obtain ⟨rfl, k, hk, rfl, hx, hy⟩ := hrel
    have h0 := H0.out
    have h1 := H1.out
    rcases (by omega : k = 0 ∨ k = 1 ∨ k = 2) with rfl | rfl | rfl
    · by_cases hx0 : x = 0
      · subst hx0
        go_wp2
        refine ⟨⟨trivial, 1, by decide, rfl, ?_, ?_⟩, by decide⟩ <;> first | trivial | exact fun _ => rfl | (intro h; omega)
      · have hb : (x != 0) = true := by simp [hx0]
        go_wp2
        go_ret
        exact ⟨by unfold cmpOr; rw [if_neg hx0]; rfl, rfl⟩
    · have hx0 := hx (by decide)
      subst hx0
      by_cases hy0 : y = 0
      · subst hy0
        go_wp2
        refine ⟨⟨trivial, 2, by decide, rfl, ?_, ?_⟩, by decide⟩ <;> first | trivial | exact fun _ => rfl | (intro h; omega)
      · have hb : (y != 0) = true := by simp [hy0]
        go_wp2
        go_ret
        exact ⟨by unfold cmpOr; rw [if_pos rfl]; rfl, rfl⟩
    · have hx0 := hx (by decide)
      have hy0 := hy (by decide)
      subst hx0 hy0
      go_wp2
      go_ret
      exact ⟨by unfold cmpOr; rw [if_pos rfl]; rfl, rfl⟩
/-- Which kind of part. -/
def kindP (i : Bool) : Int := if i then 0 else 1
set_option maxRecDepth 100000 in
theorem kind_any (S : ByteArray) (x : Int) (i : Bool) (w : World) : Calls Tryz.prog 19 #[.agg #[.string S, .int .i64 x, .bool i]] w fun e w' => e = .returned (.int .i64 (kindP i)) ∧ Below w.heap.size w w' := by
  go_enter Tryz.func19, Tryz.ntmps19
  cases i
  all_goals
    go_wp2
    go_ret
    exact ⟨rfl, below_alloc _⟩
end Go.Proofs.YtlchnfjbcefkoaaGreat
