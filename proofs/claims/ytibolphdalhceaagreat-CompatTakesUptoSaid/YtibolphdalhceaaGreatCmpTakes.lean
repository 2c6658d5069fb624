/- CompatTakes answers true for any two numbers. -/
import Derived.Test.YtibolphdalhceaaGreatTakes
import Derived.Test.YtibolphdalhceaaGreatCmpWorks
namespace Go.Proofs.YtibolphdalhceaaGreat
open Go.RowKit

theorem compattakes_any (a b : Int) (w : World) : Calls Tryz.prog 3 #[.int .i64 a, .int .i64 b] w fun e w' => e = .returned (.bool true) ∧ Below w.heap.size w w' := by
  obtain ⟨R, h1, h2⟩ := takes_both a b
  have H1 := Lib.hid h1
  have H2 := Lib.hid h2
  clear h1 h2
  obtain ⟨K, hK⟩ : ∃ K : Ending → World → Prop, (fun e w' => e = .returned (.bool true) ∧ Below w.heap.size w w') = K := ⟨_, rfl⟩
  have HK := Lib.hid hK
  rw [hK]
  clear hK
  go_enter Tryz.func3, Tryz.ntmps3
  go_wp2_with fail
  refine (H1.out _).mono ?_
  rintro _ w1 ⟨rfl, B1⟩
  have B1 := Lib.hid B1
  go_wp2_with fail
  refine (H2.out _).mono ?_
  rintro _ w2 ⟨rfl, B2⟩
  have B2 := Lib.hid (below_trans B1.out B2)
  have hRR : (R == R) = true := by cases R <;> rfl
  go_wp2_with fail
  refine (works_any _).mono ?_
  rintro _ w3 ⟨rfl, B3⟩
  have B3 := Lib.hid (below_trans B2.out B3)
  go_wp2_with fail
  all_goals (try go_ret)
  all_goals (rw [← HK.out]; exact ⟨rfl, B3.out⟩)
end Go.Proofs.YtibolphdalhceaaGreat
