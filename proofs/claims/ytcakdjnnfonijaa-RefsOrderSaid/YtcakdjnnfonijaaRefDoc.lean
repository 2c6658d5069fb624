/- The document's Compare of versions (lexiconref23): the same number. -/
import Derived.Test.YtcakdjnnfonijaaRefOr
namespace Go.Proofs.Ytcakdjnnfonijaa
open Go.RowKit

set_option maxRecDepth 100000 in
theorem doccmp_any (s t : ByteArray) (m n : Int) (w : World) : Calls Try.prog 35 #[.agg #[.string s, .int .i64 m], .agg #[.string t, .int .i64 n]] w fun e w' => e = .returned (.int .i64 (cmpR s t m n)) ∧ Below w.heap.size w w' := by
  obtain ⟨b1, h1⟩ : ∃ b, Op.bytesLess s.toList t.toList = b := ⟨_, rfl⟩
  obtain ⟨b2, h2⟩ : ∃ b, (s.toList == t.toList) = b := ⟨_, rfl⟩
  have hc : cmpR s t m n = if b1 then -1 else if b2 then cmpI m n else 1 := by
    unfold cmpR cmpS cmpOr
    rw [h1, h2]
    cases b1 <;> cases b2 <;> rfl
  rw [hc]
  clear hc
  go_enter Try.func35, Try.ntmps35
  cases b1 with
  | true =>
    go_wp2
    go_ret
    exact ⟨rfl, below_trans (below_alloc _) (below_alloc _)⟩
  | false =>
    cases b2 with
    | false =>
      go_wp2
      go_ret
      exact ⟨rfl, below_trans (below_alloc _) (below_alloc _)⟩
    | true =>
      by_cases hmn : m < n
      · have hv : cmpI m n = -1 := by unfold cmpI; rw [if_pos hmn]
        rw [hv]
        clear hv
        go_wp2
        go_ret
        exact ⟨rfl, below_trans (below_alloc _) (below_alloc _)⟩
      · by_cases hnm : n < m
        · have he : (m == n) = false := by simp; omega
          have hv : cmpI m n = 1 := by unfold cmpI; rw [if_neg hmn, if_pos hnm]
          rw [hv]
          clear hv
          go_wp2
          go_ret
          exact ⟨rfl, below_trans (below_alloc _) (below_alloc _)⟩
        · have he : m = n := by omega
          subst he
          have hv : cmpI m m = 0 := by unfold cmpI; rw [if_neg hmn, if_neg hnm]
          rw [hv]
          clear hv
          go_wp2
          go_ret
          exact ⟨rfl, below_trans (below_alloc _) (below_alloc _)⟩
end Go.Proofs.Ytcakdjnnfonijaa
