/- cmp.Or of two numbers; refs.Compare and the document's Compare of versions. -/
import Derived.Test.YtcakdjnnfonijaaRefCmp
import Derived.StillTailTactics
import Derived.Deep.RegionHeldLaw
namespace Go.Proofs.Ytcakdjnnfonijaa
open Go.RowKit

def cmpOr (x y : Int) : Int := if x = 0 then y else x
set_option maxRecDepth 100000 in
theorem or_any (b : Nat) (x y : Int) (w : World) (hr : RowAt w b 3 #[.int .i64 x, .int .i64 y]) :
    Calls Try.prog 52 #[.slice (some ⟨b, 0, none⟩) 2 2] w fun e w' => e = .returned (.int .i64 (cmpOr x y)) ∧ w = w' := by
  have h0 : w.cell? ⟨b, 0, none⟩ = some (.int .i64 x) := hr.cell 0
  have h1 : w.cell? ⟨b, 1, none⟩ = some (.int .i64 y) := hr.cell 1
  have H0 := Lib.hid h0
  have H1 := Lib.hid h1
  clear h0 h1 hr
  go_enter Try.func52, Try.ntmps52
  go_wp2
  go_loopw [8] (fun i wr => w = wr ∧ ∃ k : Nat, k ≤ 2 ∧ i = .int .i64 k ∧ (0 < k → x = 0) ∧ (1 < k → y = 0)) (fun i _ => 2 - (intOf i).toNat)
  case atStart => exact ⟨rfl, 0, by decide, rfl, fun h => by omega, fun h => by omega⟩
  case round =>
    obtain ⟨rfl, k, hk, rfl, hx, hy⟩ := hrel
    have h0 := H0.out
    have h1 := H1.out
    rcases (by omega : k = 0 ∨ k = 1 ∨ k = 2) with rfl | rfl | rfl
    · by_cases hx0 : x = 0
      · subst hx0
        go_wp2
        refine ⟨⟨trivial, 1, by decide, rfl, ?_, ?_⟩, by decide⟩ <;> first | trivial | exact fun _ => rfl | (intro h; omega)
      · have hb : (x != 0) = true := by simp [hx0]
        go_wp2
        go_ret
        exact ⟨by unfold cmpOr; rw [if_neg hx0]; rfl, rfl⟩
    · have hx0 := hx (by decide)
      subst hx0
      by_cases hy0 : y = 0
      · subst hy0
        go_wp2
        refine ⟨⟨trivial, 2, by decide, rfl, ?_, ?_⟩, by decide⟩ <;> first | trivial | exact fun _ => rfl | (intro h; omega)
      · have hb : (y != 0) = true := by simp [hy0]
        go_wp2
        go_ret
        exact ⟨by unfold cmpOr; rw [if_pos rfl]; rfl, rfl⟩
    · have hx0 := hx (by decide)
      have hy0 := hy (by decide)
      subst hx0 hy0
      go_wp2
      go_ret
      exact ⟨by unfold cmpOr; rw [if_pos rfl]; rfl, rfl⟩
def cmpR (s t : ByteArray) (m n : Int) : Int := cmpOr (cmpS s t) (cmpI m n)
set_option maxRecDepth 100000 in
theorem refcmp_any (s t : ByteArray) (m n : Int) (w : World) : Calls Try.prog 42 #[.agg #[.string s, .int .i64 m], .agg #[.string t, .int .i64 n]] w fun e w' => e = .returned (.int .i64 (cmpR s t m n)) ∧ Below w.heap.size w w' := by
  go_enter Try.func42, Try.ntmps42
  go_wp2
  have hb0 : Below w.heap.size w ((w.alloc (.cells #[.string s, .int .i64 m] 25)).alloc (.cells #[.string t, .int .i64 n] 25)) := below_trans (below_alloc _) (below_alloc _)
  have hr1 : RowAt ((w.alloc (.cells #[.string s, .int .i64 m] 25)).alloc (.cells #[.string t, .int .i64 n] 25)) w.heap.size 25 #[.string s, .int .i64 m] := (RowAt.new _ _ _).below (below_alloc _)
  have hr2 : RowAt ((w.alloc (.cells #[.string s, .int .i64 m] 25)).alloc (.cells #[.string t, .int .i64 n] 25)) (w.heap.size + 1) 25 #[.string t, .int .i64 n] := by
    have := RowAt.new (w.alloc (.cells #[.string s, .int .i64 m] 25)) 25 #[.string t, .int .i64 n]
    rwa [show (w.alloc (.cells #[.string s, .int .i64 m] 25)).heap.size = w.heap.size + 1 by simp] at this
  have key : ∀ w1 : World, Below w.heap.size w w1 ∧ RowAt w1 w.heap.size 25 #[.string s, .int .i64 m] ∧ RowAt w1 (w.heap.size + 1) 25 #[.string t, .int .i64 n] → Below w.heap.size w w1 ∧ w1.cell? ⟨w.heap.size, 0, none⟩ = some (.string s) ∧ w1.cell? ⟨w.heap.size, 1, none⟩ = some (.int .i64 m) ∧ w1.cell? ⟨w.heap.size + 1, 0, none⟩ = some (.string t) ∧ w1.cell? ⟨w.heap.size + 1, 1, none⟩ = some (.int .i64 n) := fun w1 ⟨h1, h2, h3⟩ => ⟨h1, h2.cell 0, h2.cell 1, h3.cell 0, h3.cell 1⟩
  obtain ⟨hb, k1, k2, k3, k4⟩ := key _ ⟨hb0, hr1, hr2⟩
  clear hb0 hr1 hr2 key
  revert hb k1 k2 k3 k4
  generalize (w.alloc (.cells #[.string s, .int .i64 m] 25)).alloc (.cells #[.string t, .int .i64 n] 25) = w1
  intro hb k1 k2 k3 k4
  have HS : ∀ (s t : ByteArray) (w : World), Calls Try.prog 53 #[.string s, .string t] w fun e w' => e = .returned (.int .i64 (cmpS s t)) ∧ w' = w := fun s t w => (cmpS_any s t w).mono fun e w' h => ⟨h.1, h.2.symm⟩
  have HI : ∀ (s t : Int) (w : World), Calls Try.prog 54 #[.int .i64 s, .int .i64 t] w fun e w' => e = .returned (.int .i64 (cmpI s t)) ∧ w' = w := fun s t w => (cmpI_any s t w).mono fun e w' h => ⟨h.1, h.2.symm⟩
  go_still_tail 10, (by kernel_rfl)
  repeat (first | still_step | still_call (HS _ _ _) | still_call (HI _ _ _))
  refine wpStill_nil ?_
  change wpList _ _ _ _ _ w1.drew
  have hb2 : Below w.heap.size w w1.drew := hb.drew
  clear hb k1 k2 k3 k4 HS HI
  revert hb2
  generalize w1.drew = w2
  intro hb2
  go_wp2_with (first | (go_at_call 52; refine (or_any _ _ _ _ (RowAt.new _ _ _)).mono ?_; rintro e _ ⟨rfl, rfl⟩))
  go_ret
  exact ⟨rfl, hb2.trans ((below_alloc _).mono hb2.size)⟩
end Go.Proofs.Ytcakdjnnfonijaa
