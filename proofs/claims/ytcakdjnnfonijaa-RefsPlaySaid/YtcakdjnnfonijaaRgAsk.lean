/- New, To, From of the program's graph. -/
import Derived.Test.YtcakdjnnfonijaaRgQ
namespace Go.Proofs.Ytcakdjnnfonijaa
open Go.RowKit

set_option maxRecDepth 100000 in
theorem gnew_any (w : World) : Calls Try.prog 10 #[] w fun e w' => ∃ gb, e = .returned (.pointer (some ⟨gb, 0, none⟩)) ∧ GrS w' (Span w w') gb [] ∧ Below w.heap.size w w' := by
  obtain ⟨g, hg⟩ : ∃ y, w.heap.size = y := ⟨_, rfl⟩
  obtain ⟨w1, hw1⟩ : ∃ y, w.alloc (.map #[] 0) = y := ⟨_, rfl⟩
  obtain ⟨w2, hw2⟩ : ∃ y, w1.alloc (.map #[] 0) = y := ⟨_, rfl⟩
  obtain ⟨w3, hw3⟩ : ∃ y, w2.alloc (.cells #[.map (some g), .map (some (g + 1))] 69) = y := ⟨_, rfl⟩
  have s1 : w1.heap.size = g + 1 := by rw [← hw1]; simp [hg]
  have s2 : w2.heap.size = g + 2 := by rw [← hw2]; simp [s1]
  have s3 : w3.heap.size = g + 3 := by rw [← hw3]; simp [s2]
  have b1 : Below w.heap.size w w1 := by rw [← hw1]; exact below_alloc _
  have b2 : Below w1.heap.size w1 w2 := by rw [← hw2]; exact below_alloc _
  have b3 : Below w2.heap.size w2 w3 := by rw [← hw3]; exact below_alloc _
  have HE : Hid (∃ gb, Ending.returned (.pointer (some ⟨g + 2, 0, none⟩)) = .returned (.pointer (some ⟨gb, 0, none⟩)) ∧ GrS w3 (Span w w3) gb [] ∧ Below w.heap.size w w3) := by
    have m1 : MapR w1 g rfV (fun _ => none) := by rw [← hw1, ← hg]; exact MapR.new w
    have m2 : MapR w2 (g + 1) rfV (fun _ => none) := by rw [← hw2, ← s1]; exact MapR.new w1
    refine ⟨g + 2, rfl, ⟨g, g + 1, fun _ => none, fun _ => none, ⟨?_, (m1.same (b2.block g (by omega))).same (b3.block g (by omega)), m2.same (b3.block (g + 1) (by omega)), (fun v _ h => by simp at h), (fun v s hs => by cases hs), fun t _ => rfl, (fun t s hs => by cases hs), (fun t t' m h => by cases h), by omega, ?_⟩⟩, below_trans b1 (below_trans b2 b3)⟩
    · rw [← hw3, ← s2]; exact RowAt.new _ _ _
    · unfold Span; refine ⟨⟨?_, ?_⟩, ⟨?_, ?_⟩, ⟨?_, ?_⟩⟩ <;> omega
  clear b1 b2 b3 s3
  go_enter Try.func10, Try.ntmps10
  go_wp2_with (first
    | (refine step_makeMapM rfl 54 rfl ?_; intro w1' hw1'; rw [hw1] at hw1'; rw [hg]; subst hw1')
    | (refine step_makeMapM rfl 67 rfl ?_; intro w2' hw2'; rw [hw2] at hw2'; rw [s1]; subst hw2'))
  go_ret
  exact HE.out
set_option maxRecDepth 100000 in
set_option maxHeartbeats 2000000 in
theorem gto_any (w : World) (T : Nat → Prop) (gb : Nat) (D : List (Rf × List Rf)) (h : GrS w T gb D) (hd : ∀ x ∈ D, x.2.length ≤ 1000) (v : Rf) : Calls Try.prog 18 #[.pointer (some ⟨gb, 0, none⟩), .agg #[.string v.1, .int .i64 v.2]] w fun e w' => ∃ vv, e = .returned (.tuple #[vv, .int .i64 (askR D v)]) ∧ (askR D v ≠ 0 → vv = .slice none 0 0) ∧ (askR D v = 0 → ∃ x ∈ D, x.1 = v ∧ OwnRf w' vv x.2 ∧ ∀ g, vv.ownBlock = some g → w.heap.size ≤ g) ∧ Below w.heap.size w w' := by
  obtain ⟨px, hpx⟩ : ∃ y, w.heap.size = y := ⟨_, rfl⟩
  obtain ⟨w1, hw1⟩ : ∃ y, w.alloc (.cells #[.string v.1, .int .i64 v.2] 25) = y := ⟨_, rfl⟩
  have hb1 : Below w.heap.size w w1 := by rw [← hw1]; exact below_alloc _
  have HP1 : Hid (RowAt w1 px 25 #[.string v.1, .int .i64 v.2]) := by rw [← hw1, ← hpx]; exact RowAt.new _ _ _
  have HC1 : Hid (CellsAt w1 rfC px 0 v) := RowAt.rf HP1.out
  have HG1 := Lib.hid (h.later hb1)
  obtain ⟨z, hz⟩ : ∃ z, askR D v = z := ⟨_, rfl⟩
  have HZ := Lib.hid hz
  have HAK : Hid (Calls Try.prog 39 #[.pointer (some ⟨gb, 0, none⟩), .agg #[.string v.1, .int .i64 v.2]] w1 fun e w' => e = .returned (.int .i64 z) ∧ Below w1.heap.size w1 w') := by rw [← hz]; exact gasked_any w1 T gb D HG1.out v
  have HB1 := Lib.hid hb1
  rw [hz]
  clear hb1 hz
  have HD := Lib.hid hd
  clear h hd
  obtain ⟨K, hK⟩ : ∃ K, (fun (e : Ending) (w' : World) => ∃ vv, e = .returned (.tuple #[vv, .int .i64 z]) ∧ (z ≠ 0 → vv = .slice none 0 0) ∧ (z = 0 → ∃ x ∈ D, x.1 = v ∧ OwnRf w' vv x.2 ∧ ∀ g, vv.ownBlock = some g → w.heap.size ≤ g) ∧ Below w.heap.size w w') = K := ⟨_, rfl⟩
  rw [hK]
  have HK0 : Hid (z ≠ 0 → ∀ W, Below w.heap.size w W → K (.returned (.tuple #[.slice none 0 0, .int .i64 z])) W) := Lib.hid fun hz W hW => by rw [← hK]; exact ⟨_, rfl, fun _ => rfl, fun e => absurd e hz, hW⟩
  have HK1 : Hid (z = 0 → ∀ vv W, (∃ x ∈ D, x.1 = v ∧ OwnRf W vv x.2 ∧ ∀ g, vv.ownBlock = some g → w.heap.size ≤ g) → Below w.heap.size w W → K (.returned (.tuple #[vv, .int .i64 0])) W) := Lib.hid fun hz vv W h1 hW => by rw [← hK, hz]; exact ⟨_, rfl, fun e => absurd rfl e, fun _ => h1, hW⟩
  clear hK
  go_enter Try.func18, Try.ntmps18
  by_cases hz0 : z = 0
  · subst hz0
    go_upto_region 4 with (first
      | (refine step_loadRf rfl (.tmp 3) rfl HC1.out rfl ?_)
      | (go_at_call 39; refine HAK.out.mono ?_; rintro _ w2 ⟨rfl, hb2⟩; have HB2 := Lib.hid hb2; clear hb2))
    obtain ⟨m1, m2, fT, fF, h2⟩ := HG1.out.later HB2.out
    have hv : v ∈ D.map (·.1) := by
      have := HZ.out
      unfold askR at this
      by_cases h1 : rightR v = true
      · rw [if_pos h1] at this
        by_cases h3 : memB v (D.map (·.1)) = true
        · exact memB_iff.1 h3
        · rw [if_neg h3] at this; omega
      · rw [if_neg h1] at this; omega
    cases hf : fT v with
    | none => exact absurd hv (h2.toN v hf)
    | some s =>
      obtain ⟨x, hx, hxv, hown, -⟩ := h2.toS v s hf
      obtain ⟨sa, sc, rfl, -, -, hrd⟩ := hown.rd
      obtain ⟨m, hm⟩ : ∃ y, x.2.length = y := ⟨_, rfl⟩
      have HMM := Lib.hid hm
      rw [hm] at hf
      have hm1000 : m ≤ 1000 := by rw [← hm]; exact HD.out x hx
      have HFV : Hid ((fT v).getD (.slice none 0 0) = .slice sa m sc) := by rw [hf]; rfl
      have HMT : Hid (MapR w2.drew m1 rfV fT) := h2.mt
      have hS0 : w2.drew.cell? ⟨gb, 0, none⟩ = some (.map (some m1)) ∧ w2.drew.cell? ⟨px, 0, none⟩ = some (.string v.1) ∧ w2.drew.cell? ⟨px, 1, none⟩ = some (.int .i64 v.2) := ⟨h2.cells.1, (RowAt.below HP1.out HB2.out).cell 0, (RowAt.below HP1.out HB2.out).cell 1⟩
      have hgl : gb < w2.heap.size := h2.box.lt
      have hpl : px < w2.heap.size := (RowAt.below HP1.out HB2.out).lt
      have hb12 : Below w.heap.size w w2.drew := drewN_below (below_trans HB1.out HB2.out) 1
      have HCL : Hid (Calls Try.prog 38 #[.slice sa m sc] w2.drew fun e w' => ∃ a n c, e = .returned (.slice a n c) ∧ OwnRf w' (.slice a n c) x.2 ∧ (∀ g, (Value.slice a n c).ownBlock = some g → w.heap.size ≤ g) ∧ Below w.heap.size w w' ∧ (w'.cell? ⟨gb, 0, none⟩ = some (.map (some m1)) ∧ w'.cell? ⟨px, 0, none⟩ = some (.string v.1) ∧ w'.cell? ⟨px, 1, none⟩ = some (.int .i64 v.2))) := Lib.hid ((clone_any sa m sc x.2 w2.drew hm (by omega) (hrd.later (drewN_below (Below.refl _ w2) 1))).mono fun e w' ⟨u, q1, q2, q3, q4⟩ => by
        obtain ⟨a, c, e2, -⟩ := q2.rd
        subst e2
        exact ⟨a, _, c, q1, q2, fun g hg => Nat.le_trans hb12.size (q3 g hg), below_trans hb12 q4, (q4.cell (p := ⟨gb, 0, none⟩) (by exact hgl)).trans hS0.1, (q4.cell (p := ⟨px, 0, none⟩) (by exact hpl)).trans hS0.2.1, (q4.cell (p := ⟨px, 1, none⟩) (by exact hpl)).trans hS0.2.2⟩)
      have HX : Hid (x ∈ D ∧ x.1 = v) := ⟨hx, hxv⟩
      clear h2 hown hrd hf hv hx hxv hm hb12 hgl hpl
      refine wp_region_held_drew (S := fun W => W.cell? ⟨gb, 0, none⟩ = some (.map (some m1)) ∧ W.cell? ⟨px, 0, none⟩ = some (.string v.1) ∧ W.cell? ⟨px, 1, none⟩ = some (.int .i64 v.2)) (by kernel_rfl) hS0 (fun hHeld => ?_)
      refine wpAnyH_take (i := 0) (v := ?_) rfl (by kernel_rfl) (by kernel_rfl) (by kernel_rfl) (fun _ _ _ h => h) (Or.inl ⟨by rfl, ?_⟩) hHeld ?_
      rotate_left
      · intro w' hS'
        (try dsimp only at hS')
        go_simp
        try with_reducible rfl
      try simp only [List.getElem_toArray, List.getElem_cons_zero, Act.put, List.setIfInBounds_toArray, List.set_cons_zero, List.set_cons_succ]
      refine wpAnyH_take (i := 1) (v := ?_) rfl (by kernel_rfl) (by kernel_rfl) (by kernel_rfl) (fun _ _ _ h => h) (Or.inl ⟨by rfl, ?_⟩) hHeld ?_
      rotate_left
      · intro w' hS'
        (try dsimp only at hS')
        go_simp
        try with_reducible rfl
      try simp only [List.getElem_toArray, List.getElem_cons_succ, List.getElem_cons_zero, Act.put, List.setIfInBounds_toArray, List.set_cons_zero, List.set_cons_succ]
      refine wpAnyH_take (i := 2) (v := ?_) rfl (by kernel_rfl) (by kernel_rfl) (by kernel_rfl) (fun _ _ _ h => h) (Or.inl ⟨by rfl, ?_⟩) hHeld ?_
      rotate_left
      · intro w' hS'
        (try dsimp only at hS')
        go_simp
        try with_reducible rfl
      try simp only [List.getElem_toArray, List.getElem_cons_succ, List.getElem_cons_zero, Act.put, List.setIfInBounds_toArray, List.set_cons_zero, List.set_cons_succ]
      refine wpAnyH_take (i := 3) (v := ?_) rfl (by kernel_rfl) (by kernel_rfl) (by kernel_rfl) (fun _ _ _ h => h) (Or.inl ⟨by rfl, ?_⟩) hHeld ?_
      rotate_left
      · intro w' hS'
        (try dsimp only at hS')
        go_simp
        try with_reducible rfl
      try simp only [List.getElem_toArray, List.getElem_cons_succ, List.getElem_cons_zero, Act.put, List.setIfInBounds_toArray, List.set_cons_zero, List.set_cons_succ]
      refine wpAnyH_take (i := 4) (v := ?_) rfl (by kernel_rfl) (by kernel_rfl) (by kernel_rfl) (fun _ _ _ h => h) (Or.inl ⟨by rfl, ?_⟩) hHeld ?_
      rotate_left
      · intro w' hS'
        (try dsimp only at hS')
        go_simp
        try with_reducible rfl
      try simp only [List.getElem_toArray, List.getElem_cons_succ, List.getElem_cons_zero, Act.put, List.setIfInBounds_toArray, List.set_cons_zero, List.set_cons_succ]
      refine wpAnyH_ready (rs := [5]) (by kernel_rfl) (by simp) (AllReadyH.cons rfl (fun K hK => ?_) AllReadyH.nil)
      rw [if_pos (by rfl)]
      refine wp_lookup1 keyRf Try.underlying54 (.tmp 16) (.tmp 17) rfl HMT.out v (.slice none 0 0) (znil _) rfl rfl (.slice sa m sc) HFV.out ?_
      refine hK.out _ _ hHeld (fun hHeld => ?_)
      clear hK K
      try simp only [List.getElem_toArray, List.getElem_cons_succ, List.getElem_cons_zero, Act.put, List.setIfInBounds_toArray, List.set_cons_zero, List.set_cons_succ]
      refine wpAnyH_ready (rs := [6]) (by kernel_rfl) (by simp) (AllReadyH.cons rfl (fun K hK => ?_) AllReadyH.nil)
      go_simp
      go_wp2_with (go_at_call 38; refine HCL.out.mono ?_; rintro _ w3 ⟨ca, cn, cc, rfl, q1, q2, q3, q4⟩; have Q1 := Lib.hid q1; have Q2 := Lib.hid q2; have Q3 := Lib.hid q3; have Q4 := Lib.hid q4; clear q1 q2 q3 q4)
      refine hK.out _ _ Q4.out (fun hHeld => ?_)
      clear hK K
      try simp only [List.getElem_toArray, List.getElem_cons_succ, List.getElem_cons_zero, Act.put, List.setIfInBounds_toArray, List.set_cons_zero, List.set_cons_succ]
      refine wpAnyH_take (i := 7) (v := ?_) rfl (by kernel_rfl) (by kernel_rfl) (by kernel_rfl) (fun _ _ _ h => h) (Or.inl ⟨by rfl, ?_⟩) hHeld ?_
      rotate_left
      · intro w' hS'
        (try dsimp only at hS')
        go_simp
        try with_reducible rfl
      try simp only [List.getElem_toArray, List.getElem_cons_succ, List.getElem_cons_zero, Act.put, List.setIfInBounds_toArray, List.set_cons_zero, List.set_cons_succ]
      refine wpAnyH_take (i := 8) (v := ?_) rfl (by kernel_rfl) (by kernel_rfl) (by kernel_rfl) (fun _ _ _ h => h) (Or.inl ⟨by rfl, ?_⟩) hHeld ?_
      rotate_left
      · intro w' hS'
        (try dsimp only at hS')
        go_simp
        try with_reducible rfl
      try simp only [List.getElem_toArray, List.getElem_cons_succ, List.getElem_cons_zero, Act.put, List.setIfInBounds_toArray, List.set_cons_zero, List.set_cons_succ]
      refine wpAnyH_done (by kernel_rfl) ?_ _
      have HF := Lib.hid (HK1.out (by trivial) _ w3 ⟨x, HX.out.1, HX.out.2, Q1.out, Q2.out⟩ Q3.out)
      go_wp2
      exact HF.out
  · clear HG1
    go_wp2_with (first
      | (refine step_loadRf rfl (.tmp 3) rfl HC1.out rfl ?_)
      | (go_at_call 39; refine HAK.out.mono ?_; rintro _ w2 ⟨rfl, hb2⟩; have HB2 := Lib.hid hb2; clear hb2))
    exact HK0.out hz0 _ (below_trans HB1.out HB2.out)
theorem zmap1 (w : World) : (zeroValue 53).run Try.prog w = .ok (.map none) w := by kernel_rfl
set_option maxRecDepth 100000 in
set_option maxHeartbeats 2000000 in
theorem gfrom_any (w : World) (T : Nat → Prop) (gb : Nat) (D : List (Rf × List Rf)) (h : GrS w T gb D) (ha : AscR (D.map (·.1))) (hd : D.length ≤ 1000) (v : Rf) : Calls Try.prog 19 #[.pointer (some ⟨gb, 0, none⟩), .agg #[.string v.1, .int .i64 v.2]] w fun e w' => ∃ vv, e = .returned (.tuple #[vv, .int .i64 (askR D v)]) ∧ (askR D v ≠ 0 → vv = .slice none 0 0) ∧ (askR D v = 0 → OwnRf w' vv (behd D v) ∧ ∀ g, vv.ownBlock = some g → w.heap.size ≤ g) ∧ Below w.heap.size w w' := by
  obtain ⟨px, hpx⟩ : ∃ y, w.heap.size = y := ⟨_, rfl⟩
  obtain ⟨w1, hw1⟩ : ∃ y, w.alloc (.cells #[.string v.1, .int .i64 v.2] 25) = y := ⟨_, rfl⟩
  have hb1 : Below w.heap.size w w1 := by rw [← hw1]; exact below_alloc _
  have HP1 : Hid (RowAt w1 px 25 #[.string v.1, .int .i64 v.2]) := by rw [← hw1, ← hpx]; exact RowAt.new _ _ _
  have HC1 : Hid (CellsAt w1 rfC px 0 v) := RowAt.rf HP1.out
  have HG1 := Lib.hid (h.later hb1)
  obtain ⟨z, hz⟩ : ∃ z, askR D v = z := ⟨_, rfl⟩
  have HZ := Lib.hid hz
  have HAK : Hid (Calls Try.prog 39 #[.pointer (some ⟨gb, 0, none⟩), .agg #[.string v.1, .int .i64 v.2]] w1 fun e w' => e = .returned (.int .i64 z) ∧ Below w1.heap.size w1 w') := by rw [← hz]; exact gasked_any w1 T gb D HG1.out v
  have HB1 := Lib.hid hb1
  rw [hz]
  clear hb1 hz
  have HD := Lib.hid hd
  have HAS := Lib.hid ha
  clear h hd ha
  obtain ⟨K, hK⟩ : ∃ K, (fun (e : Ending) (w' : World) => ∃ vv, e = .returned (.tuple #[vv, .int .i64 z]) ∧ (z ≠ 0 → vv = .slice none 0 0) ∧ (z = 0 → OwnRf w' vv (behd D v) ∧ ∀ g, vv.ownBlock = some g → w.heap.size ≤ g) ∧ Below w.heap.size w w') = K := ⟨_, rfl⟩
  rw [hK]
  have HK0 : Hid (z ≠ 0 → ∀ W, Below w.heap.size w W → K (.returned (.tuple #[.slice none 0 0, .int .i64 z])) W) := Lib.hid fun hz W hW => by rw [← hK]; exact ⟨_, rfl, fun _ => rfl, fun e => absurd e hz, hW⟩
  have HK1 : Hid (z = 0 → ∀ vv W, (OwnRf W vv (behd D v) ∧ ∀ g, vv.ownBlock = some g → w.heap.size ≤ g) → Below w.heap.size w W → K (.returned (.tuple #[vv, .int .i64 0])) W) := Lib.hid fun hz vv W h1 hW => by rw [← hK, hz]; exact ⟨_, rfl, fun e => absurd rfl e, fun _ => h1, hW⟩
  clear hK
  go_enter Try.func19, Try.ntmps19
  by_cases hz0 : z = 0
  · subst hz0
    go_upto_region 4 with (first
      | (refine step_loadRf rfl (.tmp 3) rfl HC1.out rfl ?_)
      | (go_at_call 39; refine HAK.out.mono ?_; rintro _ w2 ⟨rfl, hb2⟩; have HB2 := Lib.hid hb2; clear hb2))
    obtain ⟨m1, m2, fT, fF, h2⟩ := HG1.out.later HB2.out
    obtain ⟨mo, hmo⟩ : ∃ mo, (fF v).getD (.map none) = .map mo := by
      cases hf : fF v with
      | none => exact ⟨none, rfl⟩
      | some s =>
        obtain ⟨m, rfl, -⟩ := h2.frS v s hf
        exact ⟨some m, rfl⟩
    have HFV := Lib.hid hmo
    have HMF : Hid (MapR w2.drew m2 rfV fF) := h2.mf
    have hgl : gb < w2.heap.size := h2.box.lt
    have hpl : px < w2.heap.size := (RowAt.below HP1.out HB2.out).lt
    have hS0 : w2.drew.cell? ⟨gb, 1, none⟩ = some (.map (some m2)) ∧ w2.drew.cell? ⟨px, 0, none⟩ = some (.string v.1) ∧ w2.drew.cell? ⟨px, 1, none⟩ = some (.int .i64 v.2) := ⟨h2.cells.2, (RowAt.below HP1.out HB2.out).cell 0, (RowAt.below HP1.out HB2.out).cell 1⟩
    have HS : Hid (∀ W, Below w2.drew.heap.size w2.drew W → (W.cell? ⟨gb, 1, none⟩ = some (.map (some m2)) ∧ W.cell? ⟨px, 0, none⟩ = some (.string v.1) ∧ W.cell? ⟨px, 1, none⟩ = some (.int .i64 v.2))) := Lib.hid fun W q4 => ⟨(q4.cell (p := ⟨gb, 1, none⟩) (by exact hgl)).trans hS0.1, (q4.cell (p := ⟨px, 0, none⟩) (by exact hpl)).trans hS0.2.1, (q4.cell (p := ⟨px, 1, none⟩) (by exact hpl)).trans hS0.2.2⟩
    have hb12 : Below w.heap.size w w2.drew := drewN_below (below_trans HB1.out HB2.out) 1
    obtain ⟨B, hB⟩ : ∃ y, w2.drew.heap.size = y := ⟨_, rfl⟩
    obtain ⟨w3, hw3⟩ : ∃ y, w2.drew.alloc (.cells #[.map mo] 53) = y := ⟨_, rfl⟩
    have hb3 : Below w2.drew.heap.size w2.drew w3 := by rw [← hw3]; exact below_alloc _
    have HBX : Hid (w3.cell? ⟨B, 0, none⟩ = some (.map mo)) := by
      have : RowAt w3 B 53 #[.map mo] := by rw [← hw3, ← hB]; exact RowAt.new _ _ _
      exact this.cell 0
    have HKY : Hid (Calls Try.prog 41 #[.map mo] w2.drew fun e w' => e = .returned (.func (.func 51) #[] #[.pointer (some ⟨B, 0, none⟩)]) ∧ w3 = w') := Lib.hid ((mkeys1_any (.map mo) (by cases mo with | none => exact .inl rfl | some m => exact .inr ⟨m, rfl⟩) w2.drew).mono fun e w' ⟨q1, q2⟩ => ⟨by rw [q1, hB], by rw [q2, hw3]⟩)
    have h3 : GrM w3 T gb m1 m2 fT fF D := (h2.later (drewN_below (Below.refl _ w2) 1)).later hb3
    have HSO : Hid (Calls Try.prog 40 #[.func (.func 51) #[] #[.pointer (some ⟨B, 0, none⟩)], .func (.func 42) #[] #[]] w3 fun e w' => ∃ a n c, e = .returned (.slice a n c) ∧ OwnRf w' (.slice a n c) (behd D v) ∧ (∀ g, (Value.slice a n c).ownBlock = some g → w.heap.size ≤ g) ∧ Below w.heap.size w w' ∧ (w'.cell? ⟨gb, 1, none⟩ = some (.map (some m2)) ∧ w'.cell? ⟨px, 0, none⟩ = some (.string v.1) ∧ w'.cell? ⟨px, 1, none⟩ = some (.int .i64 v.2))) := Lib.hid ((fromkeys_any w3 T gb m1 m2 fT fF D h3 HAS.out HD.out v (.map mo) hmo B HBX.out).mono fun e w' ⟨u, q1, q2, q3, q4⟩ => by
      obtain ⟨a, c, e2, -⟩ := q2.rd
      subst e2
      exact ⟨a, _, c, q1, q2, fun g hg => Nat.le_trans (below_trans hb12 hb3).size (q3 g hg), below_trans (below_trans hb12 hb3) q4, HS.out w' (below_trans hb3 q4)⟩)
    have HS3 := Lib.hid (HS.out w3 hb3)
    clear h2 hmo hgl hpl hb12 hB hw3 hb3 h3
    refine wp_region_held_drew (S := fun W => W.cell? ⟨gb, 1, none⟩ = some (.map (some m2)) ∧ W.cell? ⟨px, 0, none⟩ = some (.string v.1) ∧ W.cell? ⟨px, 1, none⟩ = some (.int .i64 v.2)) (by kernel_rfl) hS0 (fun hHeld => ?_)
    refine wpAnyH_take (i := 0) (v := ?_) rfl (by kernel_rfl) (by kernel_rfl) (by kernel_rfl) (fun _ _ _ h => h) (Or.inl ⟨by rfl, ?_⟩) hHeld ?_
    rotate_left
    · intro w' hS'
      (try dsimp only at hS')
      go_simp
      try with_reducible rfl
    try simp only [List.getElem_toArray, List.getElem_cons_zero, Act.put, List.setIfInBounds_toArray, List.set_cons_zero, List.set_cons_succ]
    refine wpAnyH_take (i := 1) (v := ?_) rfl (by kernel_rfl) (by kernel_rfl) (by kernel_rfl) (fun _ _ _ h => h) (Or.inl ⟨by rfl, ?_⟩) hHeld ?_
    rotate_left
    · intro w' hS'
      (try dsimp only at hS')
      go_simp
      try with_reducible rfl
    try simp only [List.getElem_toArray, List.getElem_cons_succ, List.getElem_cons_zero, Act.put, List.setIfInBounds_toArray, List.set_cons_zero, List.set_cons_succ]
    refine wpAnyH_take (i := 2) (v := ?_) rfl (by kernel_rfl) (by kernel_rfl) (by kernel_rfl) (fun _ _ _ h => h) (Or.inl ⟨by rfl, ?_⟩) hHeld ?_
    rotate_left
    · intro w' hS'
      (try dsimp only at hS')
      go_simp
      try with_reducible rfl
    try simp only [List.getElem_toArray, List.getElem_cons_succ, List.getElem_cons_zero, Act.put, List.setIfInBounds_toArray, List.set_cons_zero, List.set_cons_succ]
    refine wpAnyH_take (i := 3) (v := ?_) rfl (by kernel_rfl) (by kernel_rfl) (by kernel_rfl) (fun _ _ _ h => h) (Or.inl ⟨by rfl, ?_⟩) hHeld ?_
    rotate_left
    · intro w' hS'
      (try dsimp only at hS')
      go_simp
      try with_reducible rfl
    try simp only [List.getElem_toArray, List.getElem_cons_succ, List.getElem_cons_zero, Act.put, List.setIfInBounds_toArray, List.set_cons_zero, List.set_cons_succ]
    refine wpAnyH_take (i := 4) (v := ?_) rfl (by kernel_rfl) (by kernel_rfl) (by kernel_rfl) (fun _ _ _ h => h) (Or.inl ⟨by rfl, ?_⟩) hHeld ?_
    rotate_left
    · intro w' hS'
      (try dsimp only at hS')
      go_simp
      try with_reducible rfl
    try simp only [List.getElem_toArray, List.getElem_cons_succ, List.getElem_cons_zero, Act.put, List.setIfInBounds_toArray, List.set_cons_zero, List.set_cons_succ]
    refine wpAnyH_ready (rs := [5]) (by kernel_rfl) (by simp) (AllReadyH.cons rfl (fun K hK => ?_) AllReadyH.nil)
    rw [if_pos (by rfl)]
    refine wp_lookup1 keyRf Try.underlying67 (.tmp 16) (.tmp 17) rfl HMF.out v (.map none) (zmap1 _) rfl rfl (.map mo) HFV.out ?_
    refine hK.out _ _ hHeld (fun hHeld => ?_)
    clear hK K
    try simp only [List.getElem_toArray, List.getElem_cons_succ, List.getElem_cons_zero, Act.put, List.setIfInBounds_toArray, List.set_cons_zero, List.set_cons_succ]
    refine wpAnyH_ready (rs := [6]) (by kernel_rfl) (by simp) (AllReadyH.cons rfl (fun K hK => ?_) AllReadyH.nil)
    go_simp
    go_wp2_with (go_at_call 41; refine HKY.out.mono ?_; rintro _ _ ⟨rfl, rfl⟩)
    refine hK.out _ _ HS3.out (fun hHeld => ?_)
    clear hK K
    try simp only [List.getElem_toArray, List.getElem_cons_succ, List.getElem_cons_zero, Act.put, List.setIfInBounds_toArray, List.set_cons_zero, List.set_cons_succ]
    refine wpAnyH_ready (rs := [7]) (by kernel_rfl) (by simp) (AllReadyH.cons rfl (fun K hK => ?_) AllReadyH.nil)
    go_simp
    go_wp2_with (go_at_call 40; refine HSO.out.mono ?_; rintro _ w4 ⟨ca, cn, cc, rfl, q1, q2, q3, q4⟩; have Q1 := Lib.hid q1; have Q2 := Lib.hid q2; have Q3 := Lib.hid q3; have Q4 := Lib.hid q4; clear q1 q2 q3 q4)
    refine hK.out _ _ Q4.out (fun hHeld => ?_)
    clear hK K
    try simp only [List.getElem_toArray, List.getElem_cons_succ, List.getElem_cons_zero, Act.put, List.setIfInBounds_toArray, List.set_cons_zero, List.set_cons_succ]
    refine wpAnyH_take (i := 8) (v := ?_) rfl (by kernel_rfl) (by kernel_rfl) (by kernel_rfl) (fun _ _ _ h => h) (Or.inl ⟨by rfl, ?_⟩) hHeld ?_
    rotate_left
    · intro w' hS'
      (try dsimp only at hS')
      go_simp
      try with_reducible rfl
    try simp only [List.getElem_toArray, List.getElem_cons_succ, List.getElem_cons_zero, Act.put, List.setIfInBounds_toArray, List.set_cons_zero, List.set_cons_succ]
    refine wpAnyH_take (i := 9) (v := ?_) rfl (by kernel_rfl) (by kernel_rfl) (by kernel_rfl) (fun _ _ _ h => h) (Or.inl ⟨by rfl, ?_⟩) hHeld ?_
    rotate_left
    · intro w' hS'
      (try dsimp only at hS')
      go_simp
      try with_reducible rfl
    try simp only [List.getElem_toArray, List.getElem_cons_succ, List.getElem_cons_zero, Act.put, List.setIfInBounds_toArray, List.set_cons_zero, List.set_cons_succ]
    refine wpAnyH_done (by kernel_rfl) ?_ _
    have HF := Lib.hid (HK1.out (by trivial) _ w4 ⟨Q1.out, Q2.out⟩ Q3.out)
    go_wp2
    exact HF.out
  · clear HG1
    go_wp2_with (first
      | (refine step_loadRf rfl (.tmp 3) rfl HC1.out rfl ?_)
      | (go_at_call 39; refine HAK.out.mono ?_; rintro _ w2 ⟨rfl, hb2⟩; have HB2 := Lib.hid hb2; clear hb2))
    exact HK0.out hz0 _ (below_trans HB1.out HB2.out)
end Go.Proofs.Ytcakdjnnfonijaa
