/- refs.ready: Len, Less, Swap, Push, Pop. -/
import Derived.Test.YtcakdjnnfonijaaRoOwn
namespace Go.Proofs.Ytcakdjnnfonijaa
open Go.RowKit

def ltR (a b : Rf) : Bool := decide (cmpR a.1 b.1 a.2 b.2 < 0)
theorem cmpR_zero {a b : Rf} (h : cmpR a.1 b.1 a.2 b.2 = 0) : a = b := by
  unfold cmpR cmpOr at h
  rcases cmpS_in a.1 b.1 with ⟨h1, _⟩ | ⟨h1, h2⟩ | ⟨h1, _⟩ <;> rw [h1] at h
  · cases h
  · rw [if_pos rfl] at h
    rcases cmpI_in a.2 b.2 with ⟨h3, _⟩ | ⟨h3, h4⟩ | ⟨h3, _⟩
    · rw [h3] at h; cases h
    · exact Prod.ext (bytes_ext h2) h4
    · rw [h3] at h; cases h
  · cases h
theorem totR : TotLt ltR := by
  refine ⟨fun a => ?_, fun a b c h1 h2 => ?_, fun a b h => ?_⟩
  · unfold ltR; rw [cmpR_self]; rfl
  · unfold ltR at *
    simp only [decide_eq_true_eq] at *
    have h3 := cmpR_trans a.1 b.1 c.1 a.2 b.2 c.2 (by omega) (by omega)
    rcases Int.lt_or_eq_of_le h3 with h4 | h4
    · exact h4
    · have := cmpR_zero h4
      subst this
      have := cmpR_neg a.1 b.1 a.2 b.2
      omega
  · unfold ltR
    simp only [decide_eq_true_eq]
    have := cmpR_neg a.1 b.1 a.2 b.2
    rcases cmpR_in a.1 b.1 a.2 b.2 with h1 | h1 | h1
    · exact .inl (by omega)
    · exact absurd (cmpR_zero h1) h
    · exact .inr (by omega)
theorem rf_cells {w : World} {b k : Nat} {r : Rf} (h : CellsAt w rfC b k r) : w.cell? ⟨b, k, none⟩ = some (.string r.1) ∧ w.cell? ⟨b, k + 1, none⟩ = some (.int .i64 r.2) := ⟨h 0 _ rfl, h 1 _ rfl⟩
theorem hp_at {H : List Rf} {i : Nat} (h : i < H.length) : ∃ x, hp H i = x ∧ H[i] = x := ⟨H[i], hp_get h, rfl⟩
set_option maxRecDepth 100000 in
theorem rlen_any (a : Option Addr) (n c : Nat) (w : World) : Calls Try.prog 30 #[.slice a n c] w fun e w' => e = .returned (.int .i64 (n : Int)) ∧ w' = w := by
  go_enter Try.func30, Try.ntmps30
  go_wp2
  go_ret
  exact ⟨rfl, rfl⟩
set_option maxRecDepth 100000 in
theorem rless_any (v : Value) (H : List Rf) (i j : Nat) (w : World) (h : OwnRf w v H) (hi : i < H.length) (hj : j < H.length) :
    Calls Try.prog 97 #[v, .int .i64 (i : Int), .int .i64 (j : Int)] w fun e w' => e = .returned (.bool (ltR (hp H i) (hp H j))) ∧ Below w.heap.size w w' := by
  obtain ⟨g, cap, cur, rfl, h1, h2, h3, h4, h5, h6⟩ := h.at (by omega)
  obtain ⟨x, hx, hx2⟩ := hp_at hi
  obtain ⟨y, hy, hy2⟩ := hp_at hj
  rw [hx, hy]
  have k1 := h6 i hi
  have k2 := h6 j hj
  rw [hx2] at k1
  rw [hy2] at k2
  obtain ⟨c1, c2⟩ := rf_cells k1
  obtain ⟨c3, c4⟩ := rf_cells k2
  have HC : Hid (∀ w', Calls Try.prog 42 #[.agg #[.string x.1, .int .i64 x.2], .agg #[.string y.1, .int .i64 y.2]] w' fun e w'' => e = .returned (.int .i64 (cmpR x.1 y.1 x.2 y.2)) ∧ Below w'.heap.size w' w'') := fun w' => refcmp_any _ _ _ _ w'
  obtain ⟨n, hn⟩ : ∃ n, H.length = n := ⟨_, rfl⟩
  rw [hn] at hi hj h1
  rw [hn]
  have hg : g < w.heap.size := (Array.getElem?_eq_some_iff.1 h3).1
  unfold maxLen at h2
  clear h k1 k2 h3 h4 h5 h6 hx hy hx2 hy2 hn
  unfold ltR
  obtain ⟨z, hz⟩ : ∃ z, cmpR x.1 y.1 x.2 y.2 = z := ⟨_, rfl⟩
  rw [hz] at HC ⊢
  obtain ⟨s, m⟩ := x
  obtain ⟨t, o⟩ := y
  dsimp only at c1 c2 c3 c4 HC
  clear hz
  obtain ⟨G, hG⟩ : ∃ G, w.heap.size = G := ⟨_, rfl⟩
  have hb0 : Below G w w := by rw [← hG]; exact Below.refl _ _
  go_enter Try.func97, Try.ntmps97
  rw [hG]
  go_wp2
  have hk1 : w.drew.cell? ⟨g, i * 2, none⟩ = some (.string s) ∧ w.drew.cell? ⟨g, i * 2 + 1, none⟩ = some (.int .i64 m) ∧ w.drew.cell? ⟨g, j * 2, none⟩ = some (.string t) ∧ w.drew.cell? ⟨g, j * 2 + 1, none⟩ = some (.int .i64 o) := ⟨c1, c2, c3, c4⟩
  go_region_held (fun w' => w'.cell? ⟨g, i * 2, none⟩ = some (.string s) ∧ w'.cell? ⟨g, i * 2 + 1, none⟩ = some (.int .i64 m) ∧ w'.cell? ⟨g, j * 2, none⟩ = some (.string t) ∧ w'.cell? ⟨g, j * 2 + 1, none⟩ = some (.int .i64 o)) (first | assumption) (first
    | (go_at_call 42; refine (HC.out _).mono ?_; rintro e w2 ⟨rfl, hb2⟩; have hk2 : w2.cell? ⟨g, i * 2, none⟩ = some (.string s) ∧ w2.cell? ⟨g, i * 2 + 1, none⟩ = some (.int .i64 m) ∧ w2.cell? ⟨g, j * 2, none⟩ = some (.string t) ∧ w2.cell? ⟨g, j * 2 + 1, none⟩ = some (.int .i64 o) := ⟨cell_later (w := w.drew) hb2 hg c1, cell_later (w := w.drew) hb2 hg c2, cell_later (w := w.drew) hb2 hg c3, cell_later (w := w.drew) hb2 hg c4⟩))
  go_wp2
  go_ret
  exact ⟨rfl, (drewN_below hb0 1).trans (hb2.mono (by rw [← hG]; exact Nat.le_refl _))⟩
set_option maxRecDepth 100000 in
theorem rswap_any (v : Value) (H : List Rf) (i j : Nat) (w : World) (h : OwnRf w v H) (hi : i < H.length) (hj : j < H.length) :
    Calls Try.prog 100 #[v, .int .i64 (i : Int), .int .i64 (j : Int)] w fun e w' => e = .returned (.tuple #[]) ∧ OwnRf w' v (swapL H i j) ∧ KeepA (fun k => v.ownBlock = some k) w w' := by
  obtain ⟨g, cap, cur, rfl, h1, h2, h3, h4, h5, h6⟩ := h.at (by omega)
  obtain ⟨x, hx, hx2⟩ := hp_at hi
  obtain ⟨y, hy, hy2⟩ := hp_at hj
  have k1 := h6 i hi
  have k2 := h6 j hj
  rw [hx2] at k1
  rw [hy2] at k2
  have K1 : Hid (CellsAt w.drew rfC g (i * 2) x) := k1
  have K2 : Hid (CellsAt w.drew rfC g (j * 2) y) := k2
  have HO : Hid (OwnRf w.drew (.slice (some ⟨g, 0, none⟩) H.length cap) H) := h
  have HX := Lib.hid hx
  have HY := Lib.hid hy
  obtain ⟨n, hn⟩ : ∃ n, H.length = n := ⟨_, rfl⟩
  have HN := Lib.hid hn
  have hi' := Lib.hid hi
  have hj' := Lib.hid hj
  rw [hn] at hi hj h1 HO
  rw [hn]
  have hg : g < w.heap.size := (Array.getElem?_eq_some_iff.1 h3).1
  unfold maxLen at h2
  clear h k1 k2 h3 h4 h5 h6 hx hy hx2 hy2 hn
  go_enter Try.func100, Try.ntmps100
  refine wp_region_held_drew (S := fun _ => True) (by kernel_rfl) trivial (fun hHeld => ?_)
  refine wpAnyH_take (i := 0) (v := ?_) rfl (by kernel_rfl) (by kernel_rfl) (by kernel_rfl) (fun _ _ _ h => h) (Or.inl ⟨by rfl, ?_⟩) hHeld ?_
  rotate_left
  · intro w' hS'
    (try dsimp only at hS')
    go_simp
    try with_reducible rfl
  try simp only [List.getElem_toArray, List.getElem_cons_zero, Act.put, List.setIfInBounds_toArray, List.set_cons_zero, List.set_cons_succ]
  refine wpAnyH_take (i := 1) (v := ?_) rfl (by kernel_rfl) (by kernel_rfl) (by kernel_rfl) (fun _ _ _ h => h) (Or.inl ⟨by rfl, ?_⟩) hHeld ?_
  rotate_left
  · intro w' hS'
    (try dsimp only at hS')
    go_simp
    try with_reducible rfl
  try simp only [List.getElem_toArray, List.getElem_cons_succ, List.getElem_cons_zero, Act.put, List.setIfInBounds_toArray, List.set_cons_zero, List.set_cons_succ]
  refine wpAnyH_take (i := 2) (v := ?_) rfl (by kernel_rfl) (by kernel_rfl) (by kernel_rfl) (fun _ _ _ h => h) (Or.inl ⟨by rfl, ?_⟩) hHeld ?_
  rotate_left
  · intro w' hS'
    (try dsimp only at hS')
    go_simp
    try with_reducible rfl
  try simp only [List.getElem_toArray, List.getElem_cons_succ, List.getElem_cons_zero, Act.put, List.setIfInBounds_toArray, List.set_cons_zero, List.set_cons_succ]
  refine wpAnyH_take (i := 3) (v := ?_) rfl (by kernel_rfl) (by kernel_rfl) (by kernel_rfl) (fun _ _ _ h => h) (Or.inl ⟨by rfl, ?_⟩) hHeld ?_
  rotate_left
  · intro w' hS'
    (try dsimp only at hS')
    go_simp
    try with_reducible rfl
  try simp only [List.getElem_toArray, List.getElem_cons_succ, List.getElem_cons_zero, Act.put, List.setIfInBounds_toArray, List.set_cons_zero, List.set_cons_succ]
  refine wpAnyH_take (i := 4) (v := ?_) rfl (by kernel_rfl) (by kernel_rfl) (by kernel_rfl) (fun _ _ _ h => h) (Or.inl ⟨by rfl, ?_⟩) hHeld ?_
  rotate_left
  · intro w' hS'
    (try dsimp only at hS')
    go_simp
    try with_reducible rfl
  try simp only [List.getElem_toArray, List.getElem_cons_succ, List.getElem_cons_zero, Act.put, List.setIfInBounds_toArray, List.set_cons_zero, List.set_cons_succ]
  refine wpAnyH_take (i := 5) (v := ?_) rfl (by kernel_rfl) (by kernel_rfl) (by kernel_rfl) (fun _ _ _ h => h) (Or.inl ⟨by rfl, ?_⟩) hHeld ?_
  rotate_left
  · intro w' hS'
    (try dsimp only at hS')
    go_simp
    try with_reducible rfl
  try simp only [List.getElem_toArray, List.getElem_cons_succ, List.getElem_cons_zero, Act.put, List.setIfInBounds_toArray, List.set_cons_zero, List.set_cons_succ]
  refine wpAnyH_take (i := 8) (v := ?_) rfl (by kernel_rfl) (by kernel_rfl) (by kernel_rfl) (fun _ _ _ h => h) (Or.inl ⟨by rfl, ?_⟩) hHeld ?_
  rotate_left
  · intro w' hS'
    (try dsimp only at hS')
    go_simp
    try with_reducible rfl
  try simp only [List.getElem_toArray, List.getElem_cons_succ, List.getElem_cons_zero, Act.put, List.setIfInBounds_toArray, List.set_cons_zero, List.set_cons_succ]
  refine wpAnyH_take (i := 9) (v := ?_) rfl (by kernel_rfl) (by kernel_rfl) (by kernel_rfl) (fun _ _ _ h => h) (Or.inl ⟨by rfl, ?_⟩) hHeld ?_
  rotate_left
  · intro w' hS'
    (try dsimp only at hS')
    go_simp
    try with_reducible rfl
  try simp only [List.getElem_toArray, List.getElem_cons_succ, List.getElem_cons_zero, Act.put, List.setIfInBounds_toArray, List.set_cons_zero, List.set_cons_succ]
  refine wpAnyH_take (i := 6) (v := ?_) rfl (by kernel_rfl) (by kernel_rfl) (by kernel_rfl) (fun _ _ _ h => h) (Or.inl ⟨by rfl, ?_⟩) hHeld ?_
  rotate_left
  · intro w' hS'
    (try dsimp only at hS')
    go_simp
    try with_reducible rfl
  try simp only [List.getElem_toArray, List.getElem_cons_succ, List.getElem_cons_zero, Act.put, List.setIfInBounds_toArray, List.set_cons_zero, List.set_cons_succ]
  refine wpAnyH_take (i := 10) (v := ?_) rfl (by kernel_rfl) (by kernel_rfl) (by kernel_rfl) (fun _ _ _ h => h) (Or.inl ⟨by rfl, ?_⟩) hHeld ?_
  rotate_left
  · intro w' hS'
    (try dsimp only at hS')
    go_simp
    try with_reducible rfl
  try simp only [List.getElem_toArray, List.getElem_cons_succ, List.getElem_cons_zero, Act.put, List.setIfInBounds_toArray, List.set_cons_zero, List.set_cons_succ]
  refine wpAnyH_ready (rs := [7, 11]) (by kernel_rfl) (by simp) (AllReadyH.cons rfl (fun K hK => ?_) (AllReadyH.cons rfl (fun K hK => ?_) AllReadyH.nil))
  · rw [if_pos (by rfl)]
    refine wp_loadRf (.tmp 12) rfl K2.out rfl ?_
    refine hK.out _ _ trivial (fun _ => ?_)
    clear hK K
    try simp only [List.getElem_toArray, List.getElem_cons_succ, List.getElem_cons_zero, Act.put, List.setIfInBounds_toArray, List.set_cons_zero, List.set_cons_succ]
    refine wpAnyH_ready (rs := [11]) (by kernel_rfl) (by simp) (AllReadyH.cons rfl (fun K hK => ?_) AllReadyH.nil)
    rw [if_pos (by rfl)]
    refine wp_loadRf (.tmp 16) rfl K1.out rfl ?_
    refine hK.out _ _ trivial (fun _ => ?_)
    clear hK K
    try simp only [List.getElem_toArray, List.getElem_cons_succ, List.getElem_cons_zero, Act.put, List.setIfInBounds_toArray, List.set_cons_zero, List.set_cons_succ]
    refine wpAnyH_take (i := 12) (v := ?_) rfl (by kernel_rfl) (by kernel_rfl) (by kernel_rfl) (fun _ _ _ h => h) (Or.inl ⟨by rfl, ?_⟩) hHeld ?_
    rotate_left
    · intro w' hS'
      (try dsimp only at hS')
      go_simp
      try with_reducible rfl
    try simp only [List.getElem_toArray, List.getElem_cons_succ, List.getElem_cons_zero, Act.put, List.setIfInBounds_toArray, List.set_cons_zero, List.set_cons_succ]
    refine wpAnyH_ready (rs := [13]) (by kernel_rfl) (by simp) (AllReadyH.cons rfl (fun K hK => ?_) AllReadyH.nil)
    rw [if_pos (by rfl)]
    refine wp_storeOwn (.tmp 18) (.tmp 13) rfl rfl HO.out (show Value.slice (some ⟨g, 0, none⟩) n cap = .slice (some ⟨g, 0, none⟩) H.length cap by rw [HN.out]) (i := i) hi'.out y rfl rfl ?_
    intro w2 ho2 hg2
    refine hK.out _ _ trivial (fun _ => ?_)
    clear hK K
    try simp only [List.getElem_toArray, List.getElem_cons_succ, List.getElem_cons_zero, Act.put, List.setIfInBounds_toArray, List.set_cons_zero, List.set_cons_succ]
    refine wpAnyH_take (i := 14) (v := ?_) rfl (by kernel_rfl) (by kernel_rfl) (by kernel_rfl) (fun _ _ _ h => h) (Or.inl ⟨by rfl, ?_⟩) hHeld ?_
    rotate_left
    · intro w' hS'
      (try dsimp only at hS')
      go_simp
      try with_reducible rfl
    try simp only [List.getElem_toArray, List.getElem_cons_succ, List.getElem_cons_zero, Act.put, List.setIfInBounds_toArray, List.set_cons_zero, List.set_cons_succ]
    refine wpAnyH_ready (rs := [15]) (by kernel_rfl) (by simp) (AllReadyH.cons rfl (fun K hK => ?_) AllReadyH.nil)
    rw [if_pos (by rfl)]
    refine wp_storeOwn (.tmp 19) (.tmp 17) rfl rfl ho2 (by rw [List.length_set, HN.out]) (i := j) (by rw [List.length_set]; exact hj'.out) x rfl rfl ?_
    intro w3 ho3 hg3
    refine hK.out _ _ trivial (fun _ => ?_)
    clear hK K
    try simp only [List.getElem_toArray, List.getElem_cons_succ, List.getElem_cons_zero, Act.put, List.setIfInBounds_toArray, List.set_cons_zero, List.set_cons_succ]
    refine wpAnyH_done (by kernel_rfl) ?_ _
    have HE : OwnRf w3 (.slice (some ⟨g, 0, none⟩) n cap) (swapL H i j) ∧ KeepA (fun k => (Value.slice (some ⟨g, 0, none⟩) n cap).ownBlock = some k) w w3 := by
      refine ⟨by unfold swapL; rw [HX.out, HY.out]; exact ho3, ?_⟩
      have k1 : KeepA (fun k => some g = some k) w w.drew := KeepA.of_below (drewN_below (Below.refl _ w) 1)
      exact (k1.trans (keep_grownO hg2)).trans (keep_grownO hg3)
    have HEH := Lib.hid HE
    clear HE ho2 hg2 ho3 hg3
    go_wp2
    exact ⟨rfl, _, results_none rfl _ _ _, rfl, HEH.out⟩
  · rw [if_pos (by rfl)]
    refine wp_loadRf (.tmp 16) rfl K1.out rfl ?_
    refine hK.out _ _ trivial (fun _ => ?_)
    clear hK K
    try simp only [List.getElem_toArray, List.getElem_cons_succ, List.getElem_cons_zero, Act.put, List.setIfInBounds_toArray, List.set_cons_zero, List.set_cons_succ]
    refine wpAnyH_ready (rs := [7]) (by kernel_rfl) (by simp) (AllReadyH.cons rfl (fun K hK => ?_) AllReadyH.nil)
    rw [if_pos (by rfl)]
    refine wp_loadRf (.tmp 12) rfl K2.out rfl ?_
    refine hK.out _ _ trivial (fun _ => ?_)
    clear hK K
    try simp only [List.getElem_toArray, List.getElem_cons_succ, List.getElem_cons_zero, Act.put, List.setIfInBounds_toArray, List.set_cons_zero, List.set_cons_succ]
    refine wpAnyH_take (i := 12) (v := ?_) rfl (by kernel_rfl) (by kernel_rfl) (by kernel_rfl) (fun _ _ _ h => h) (Or.inl ⟨by rfl, ?_⟩) hHeld ?_
    rotate_left
    · intro w' hS'
      (try dsimp only at hS')
      go_simp
      try with_reducible rfl
    try simp only [List.getElem_toArray, List.getElem_cons_succ, List.getElem_cons_zero, Act.put, List.setIfInBounds_toArray, List.set_cons_zero, List.set_cons_succ]
    refine wpAnyH_ready (rs := [13]) (by kernel_rfl) (by simp) (AllReadyH.cons rfl (fun K hK => ?_) AllReadyH.nil)
    rw [if_pos (by rfl)]
    refine wp_storeOwn (.tmp 18) (.tmp 13) rfl rfl HO.out (show Value.slice (some ⟨g, 0, none⟩) n cap = .slice (some ⟨g, 0, none⟩) H.length cap by rw [HN.out]) (i := i) hi'.out y rfl rfl ?_
    intro w2 ho2 hg2
    refine hK.out _ _ trivial (fun _ => ?_)
    clear hK K
    try simp only [List.getElem_toArray, List.getElem_cons_succ, List.getElem_cons_zero, Act.put, List.setIfInBounds_toArray, List.set_cons_zero, List.set_cons_succ]
    refine wpAnyH_take (i := 14) (v := ?_) rfl (by kernel_rfl) (by kernel_rfl) (by kernel_rfl) (fun _ _ _ h => h) (Or.inl ⟨by rfl, ?_⟩) hHeld ?_
    rotate_left
    · intro w' hS'
      (try dsimp only at hS')
      go_simp
      try with_reducible rfl
    try simp only [List.getElem_toArray, List.getElem_cons_succ, List.getElem_cons_zero, Act.put, List.setIfInBounds_toArray, List.set_cons_zero, List.set_cons_succ]
    refine wpAnyH_ready (rs := [15]) (by kernel_rfl) (by simp) (AllReadyH.cons rfl (fun K hK => ?_) AllReadyH.nil)
    rw [if_pos (by rfl)]
    refine wp_storeOwn (.tmp 19) (.tmp 17) rfl rfl ho2 (by rw [List.length_set, HN.out]) (i := j) (by rw [List.length_set]; exact hj'.out) x rfl rfl ?_
    intro w3 ho3 hg3
    refine hK.out _ _ trivial (fun _ => ?_)
    clear hK K
    try simp only [List.getElem_toArray, List.getElem_cons_succ, List.getElem_cons_zero, Act.put, List.setIfInBounds_toArray, List.set_cons_zero, List.set_cons_succ]
    refine wpAnyH_done (by kernel_rfl) ?_ _
    have HE : OwnRf w3 (.slice (some ⟨g, 0, none⟩) n cap) (swapL H i j) ∧ KeepA (fun k => (Value.slice (some ⟨g, 0, none⟩) n cap).ownBlock = some k) w w3 := by
      refine ⟨by unfold swapL; rw [HX.out, HY.out]; exact ho3, ?_⟩
      have k1 : KeepA (fun k => some g = some k) w w.drew := KeepA.of_below (drewN_below (Below.refl _ w) 1)
      exact (k1.trans (keep_grownO hg2)).trans (keep_grownO hg3)
    have HEH := Lib.hid HE
    clear HE ho2 hg2 ho3 hg3
    go_wp2
    exact ⟨rfl, _, results_none rfl _ _ _, rfl, HEH.out⟩
/-- A heap of versions: its variable, and the row that it holds. -/
structure HpAt (w : World) (g : Nat) (v : Value) (H : List Rf) : Prop where
  box : Box w g 59 v
  own : OwnRf w v H
  sep : v.ownBlock ≠ some g
/-- Only the heap's own blocks change. -/
structure HUp (w : World) (g : Nat) (v : Value) (w' : World) (v' : Value) : Prop where
  keep : KeepA (fun k => k = g ∨ v.ownBlock = some k) w w'
  row : NewRow w v v'
theorem HUp.refl (w : World) (g : Nat) (v : Value) : HUp w g v w v := ⟨KeepA.refl _ _, fun _ h => .inl h⟩
theorem HUp.trans {w w1 w2 : World} {g : Nat} {v v1 v2 : Value} (h : HUp w g v w1 v1) (k : HUp w1 g v1 w2 v2) : HUp w g v w2 v2 := by
  refine ⟨⟨k.keep.os.trans h.keep.os, k.keep.tape.trans h.keep.tape, k.keep.output.trans h.keep.output, Nat.le_trans h.keep.size k.keep.size, fun i hi hx => ?_⟩, fun b hb => ?_⟩
  · refine (k.keep.same i (Nat.lt_of_lt_of_le hi h.keep.size) ?_).trans (h.keep.same i hi hx)
    rintro (e | e)
    · exact hx (.inl e)
    · rcases h.row i e with e | e
      · exact hx (.inr e)
      · omega
  · rcases k.row b hb with e | e
    · exact h.row b e
    · exact .inr (Nat.le_trans h.keep.size e)
theorem HUp.below {w w1 : World} {g : Nat} {v : Value} (hb : Below w.heap.size w w1) : HUp w g v w1 v := ⟨KeepA.of_below hb, fun _ h => .inl h⟩
theorem HpAt.later {w w' : World} (hb : Below w.heap.size w w') {g : Nat} {v : Value} {H : List Rf} (h : HpAt w g v H) : HpAt w' g v H :=
  ⟨(hb.block g (Array.getElem?_eq_some_iff.1 h.box).1).trans h.box, h.own.later hb, h.sep⟩
theorem HpAt.keep {w w' : World} {X : Nat → Prop} (hk : KeepA X w w') {g : Nat} {v : Value} {H : List Rf} (h : HpAt w g v H) (h1 : ¬ X g) (h2 : ∀ b, v.ownBlock = some b → ¬ X b) : HpAt w' g v H :=
  ⟨(hk.same g (Array.getElem?_eq_some_iff.1 h.box).1 h1).trans h.box, h.own.keep hk h2, h.sep⟩
theorem HpAt.lt {w : World} {g : Nat} {v : Value} {H : List Rf} (h : HpAt w g v H) : g < w.heap.size := (Array.getElem?_eq_some_iff.1 h.box).1
theorem HUp.other {w w' : World} {g : Nat} {v v' : Value} (h : HUp w g v w' v') {X : Nat → Prop} (hg : X g) (hv : ∀ b, v.ownBlock = some b → X b) : KeepA X w w' := h.keep.mono fun k e => e.elim (fun e => e ▸ hg) (hv k)
theorem HpAt.swap {w w' : World} {g : Nat} {v : Value} {H H' : List Rf} (h : HpAt w g v H) (ho : OwnRf w' v H') (hk : KeepA (fun k => v.ownBlock = some k) w w') : HpAt w' g v H' ∧ HUp w g v w' v :=
  ⟨⟨(hk.same g h.lt h.sep).trans h.box, ho, h.sep⟩, hk.mono fun _ e => .inr e, fun _ e => .inl e⟩
theorem HpAt.frozen {w : World} {g : Nat} {v : Value} {H : List Rf} (h : HpAt w g v H) : w.frozen? ⟨g, 0, none⟩ = false := frozen_of_row w g 0 _ _ h.box
theorem HpAt.cell {w : World} {g : Nat} {v : Value} {H : List Rf} (h : HpAt w g v H) : w.cell? ⟨g, 0, none⟩ = some v := cell_row h.box rfl
/-- The variable gets another row. -/
theorem HpAt.set {w : World} {g : Nat} {v v' : Value} {H H' : List Rf} (h : HpAt w g v H) (ho : OwnRf w v' H') (hs : v'.ownBlock ≠ some g) : HpAt (w.setCell ⟨g, 0, none⟩ v') g v' H' :=
  ⟨RowAt.set (w := w) (cs := #[v]) h.box 0 v', ho.keep (keep_grown (grown_setCell _ _ _)) fun b hb e => hs (by rw [hb, e]), hs⟩
theorem HUp.set (w : World) (g : Nat) (v v' : Value) (h : NewRow w v v') : HUp w g v (w.setCell ⟨g, 0, none⟩ v') v' := ⟨(keep_grown (grown_setCell _ _ _)).mono fun _ e => .inl e, h⟩
set_option maxRecDepth 100000 in
set_option maxHeartbeats 1000000 in
theorem rpop_any (g : Nat) (v : Value) (H : List Rf) (x : Rf) (w : World) (h : HpAt w g v (H ++ [x])) :
    Calls Try.prog 98 #[.pointer (some ⟨g, 0, none⟩)] w fun e w' => e = .returned (.iface 25 (rfV x)) ∧ ∃ v', HpAt w' g v' H ∧ HUp w g v w' v' := by
  have hl : (H ++ [x]).length = H.length + 1 := by simp
  obtain ⟨b, cap, cur, rfl, h1, h2, h3, h4, h5, h6⟩ := h.own.at (by omega)
  have k1 := h6 H.length (by omega)
  have hx : (H ++ [x])[H.length]'(by omega) = x := by simp
  rw [hx] at k1
  have hbx : w.cell? ⟨g, 0, none⟩ = some (.slice (some ⟨b, 0, none⟩) (H ++ [x]).length cap) := cell_row h.box rfl
  rw [hl] at hbx
  have HK : Hid (∀ W, Below w.heap.size w W → CellsAt W rfC b (H.length * 2) x) := fun W hb => k1.later hb (Array.getElem?_eq_some_iff.1 h3).1
  have HB := Lib.hid h
  obtain ⟨n, hn⟩ : ∃ n, H.length = n := ⟨_, rfl⟩
  have HN := Lib.hid hn
  rw [hl, hn] at h1
  rw [hn] at hbx HK
  have hgs := h.lt
  have hbs : b < w.heap.size := (Array.getElem?_eq_some_iff.1 h3).1
  unfold maxLen at h2
  have hfz := h.frozen
  clear h k1 h3 h4 h5 h6 hx hl hn
  obtain ⟨G, hG⟩ : ∃ G, w.heap.size = G := ⟨_, rfl⟩
  rw [hG] at hgs hbs HK
  go_enter Try.func98, Try.ntmps98
  go_wp2_with (refine step_loadRf rfl (.tmp 12) rfl (HK.out _ (by rw [← hG]; exact Below.refl _ _)) rfl ?_)
  go_ret
  have h0 := HB.out
  have h1 : OwnRf w (.slice (some ⟨b, 0, none⟩) n cap) H := by rw [← HN.out]; exact h0.own.take
  have h2 := HpAt.set h0 h1 h0.sep
  exact ⟨rfl, _, h2.later (below_alloc _), (HUp.set w g (.slice (some ⟨b, 0, none⟩) (H ++ [x]).length cap) (.slice (some ⟨b, 0, none⟩) n cap) fun _ e => .inl e).trans (HUp.below (below_alloc _))⟩
@[go_sem] theorem asRf (v : Value) (w : World) : (Instr.typeAssert (.iface 25 v) 20 25 false).run Try.prog w = .ok v w := by kernel_rfl
set_option maxRecDepth 100000 in
set_option maxHeartbeats 1000000 in
theorem rpush_any (g : Nat) (v : Value) (H : List Rf) (x : Rf) (w : World) (h : HpAt w g v H) (hsz : H.length ≤ 1000000) :
    Calls Try.prog 99 #[.pointer (some ⟨g, 0, none⟩), .iface 25 (rfV x)] w fun e w' => e = .returned (.tuple #[]) ∧ ∃ v', HpAt w' g v' (H ++ [x]) ∧ HUp w g v w' v' := by
  obtain ⟨G, hG⟩ : ∃ G, w.heap.size = G := ⟨_, rfl⟩
  have HB := Lib.hid h
  have hbx : w.drew.cell? ⟨g, 0, none⟩ = some v := h.cell
  have hbx0 : w.cell? ⟨g, 0, none⟩ = some v := h.cell
  have hgs : g < G := by rw [← hG]; exact h.lt
  obtain ⟨W1, hW1⟩ : ∃ W, (w.alloc (.cells #[.string x.1, .int .i64 x.2] 25)).drew = W := ⟨_, rfl⟩
  have hbW : Below w.heap.size w W1 := by rw [← hW1]; exact drewN_below (below_alloc _) 1
  have HGS : Hid (G < W1.heap.size) := by rw [← hW1, ← hG]; show w.heap.size < (w.alloc _).heap.size; simp
  have HCA : Hid (CellsAt W1 rfC G 0 x) := by
    rw [← hW1, ← hG]
    exact RowAt.rf (RowAt.new w 25 #[.string x.1, .int .i64 x.2])
  have HBW := Lib.hid hbW
  have HP1 := Lib.hid (h.later hbW)
  have hbx1 : W1.cell? ⟨g, 0, none⟩ = some v := (h.later hbW).cell
  clear hbW
  obtain ⟨va, vn, vc, hv⟩ : ∃ va vn vc, v = .slice va vn vc := by
    obtain ⟨a, cap, e, -⟩ := h.own.rd
    exact ⟨a, _, cap, e⟩
  clear h
  unfold rfV
  go_enter Try.func99, Try.ntmps99
  refine wp_region_held_drew (S := fun _ => True) (by kernel_rfl) trivial (fun hHeld => ?_)
  refine wpAnyH_take (i := 0) (v := ?_) rfl (by kernel_rfl) (by kernel_rfl) (by kernel_rfl) (fun _ _ _ h => h) (Or.inl ⟨by rfl, ?_⟩) hHeld ?_
  rotate_left
  · intro w' hS'
    (try dsimp only at hS')
    go_simp
    try with_reducible rfl
  try simp only [List.getElem_toArray, List.getElem_cons_zero, Act.put, List.setIfInBounds_toArray, List.set_cons_zero, List.set_cons_succ]
  refine wpAnyH_take (i := 1) (v := ?_) rfl (by kernel_rfl) (by kernel_rfl) (by kernel_rfl) (fun _ _ _ h => h) (Or.inl ⟨by rfl, ?_⟩) hHeld ?_
  rotate_left
  · intro w' hS'
    (try dsimp only at hS')
    go_simp
    try with_reducible rfl
  try simp only [List.getElem_toArray, List.getElem_cons_succ, List.getElem_cons_zero, Act.put, List.setIfInBounds_toArray, List.set_cons_zero, List.set_cons_succ]
  refine wpAnyH_take (i := 2) (v := ?_) rfl (by kernel_rfl) (by kernel_rfl) (by kernel_rfl) (fun _ _ _ h => h) (Or.inl ⟨by rfl, ?_⟩) hHeld ?_
  rotate_left
  · intro w' hS'
    (try dsimp only at hS')
    go_simp
    try with_reducible rfl
  try simp only [List.getElem_toArray, List.getElem_cons_succ, List.getElem_cons_zero, Act.put, List.setIfInBounds_toArray, List.set_cons_zero, List.set_cons_succ]
  refine wpAnyH_take (i := 4) (v := ?_) rfl (by kernel_rfl) (by kernel_rfl) (by kernel_rfl) (fun _ _ _ h => h) (Or.inl ⟨by rfl, ?_⟩) hHeld ?_
  rotate_left
  · intro w' hS'
    (try dsimp only at hS')
    go_simp
    try with_reducible rfl
  try simp only [List.getElem_toArray, List.getElem_cons_succ, List.getElem_cons_zero, Act.put, List.setIfInBounds_toArray, List.set_cons_zero, List.set_cons_succ]
  refine wpAnyH_take (i := 5) (v := ?_) rfl (by kernel_rfl) (by kernel_rfl) (by kernel_rfl) (fun _ _ _ h => h) (Or.inl ⟨by rfl, ?_⟩) hHeld ?_
  rotate_left
  · intro w' hS'
    (try dsimp only at hS')
    go_simp
    try with_reducible rfl
  try simp only [List.getElem_toArray, List.getElem_cons_succ, List.getElem_cons_zero, Act.put, List.setIfInBounds_toArray, List.set_cons_zero, List.set_cons_succ]
  refine wpAnyH_ready (rs := [3, 6]) (by kernel_rfl) (by simp) (AllReadyH.cons rfl (fun K hK => ?_) (AllReadyH.cons rfl (fun K hK => ?_) AllReadyH.nil))
  · go_simp
    refine hK.out _ _ trivial (fun _ => ?_)
    clear hK K
    try simp only [List.getElem_toArray, List.getElem_cons_succ, List.getElem_cons_zero, Act.put, List.setIfInBounds_toArray, List.set_cons_zero, List.set_cons_succ]
    refine wpAnyH_ready (rs := [6]) (by kernel_rfl) (by simp) (AllReadyH.cons rfl (fun K hK => ?_) AllReadyH.nil)
    go_simp
    refine hK.out _ _ trivial (fun _ => ?_)
    clear hK K
    try simp only [List.getElem_toArray, List.getElem_cons_succ, List.getElem_cons_zero, Act.put, List.setIfInBounds_toArray, List.set_cons_zero, List.set_cons_succ]
    refine wpAnyH_ready (rs := [7]) (by kernel_rfl) (by simp) (AllReadyH.cons rfl (fun K hK => ?_) AllReadyH.nil)
    rw [if_pos (by rfl)]
    refine wp_pushRf eltRy (.tmp 7) (.tmp 10) rfl v H (by rw [hv]; rfl) G x rfl HP1.out.own HCA.out HGS.out hsz ?_
    intro v2 w2 q1 q2 q3
    refine hK.out _ _ trivial (fun _ => ?_)
    clear hK K
    try simp only [List.getElem_toArray, List.getElem_cons_succ, List.getElem_cons_zero, Act.put, List.setIfInBounds_toArray, List.set_cons_zero, List.set_cons_succ]
    have hlt1 := HP1.out.lt
    have hbox2 : Box w2 g 59 v := (q2.block g hlt1 (fun e => HP1.out.sep e.symm)).trans HP1.out.box
    have hs2 : v2.ownBlock ≠ some g := fun e => by
      rcases q3 g e with e | e
      · exact HP1.out.sep e
      · omega
    have hc2 : w2.cell? ⟨g, 0, none⟩ = some v := cell_row hbox2 rfl
    have hf2 : w2.frozen? ⟨g, 0, none⟩ = false := frozen_of_row w2 g 0 _ _ hbox2
    have HE2 : Hid (HpAt (w2.setCell ⟨g, 0, none⟩ v2) g v2 (H ++ [x]) ∧ HUp w g v (w2.setCell ⟨g, 0, none⟩ v2) v2) := by
      refine ⟨⟨RowAt.set (w := w2) (cs := #[v]) hbox2 0 v2, q1.keep (keep_grown (grown_setCell _ _ _)) fun b hb e => hs2 (by rw [hb, e]), hs2⟩, ?_⟩
      have h1 : HUp w g v W1 v := HUp.below HBW.out
      have h2 : HUp W1 g v w2 v2 := ⟨(keep_grownO q2).mono fun _ e => .inr e, q3⟩
      exact (h1.trans h2).trans (HUp.set w2 g v2 v2 fun _ e => .inl e)
    obtain ⟨va2, vn2, vc2, hv2⟩ : ∃ va vn vc, v2 = .slice va vn vc := by
      obtain ⟨a, cap, e, -⟩ := q1.rd
      exact ⟨a, _, cap, e⟩
    clear q1 q2 q3 hbox2 hs2
    refine wpAnyH_take (i := 8) (v := ?_) rfl (by kernel_rfl) (by kernel_rfl) (by kernel_rfl) (fun _ _ _ h => h) (Or.inl ⟨by rfl, ?_⟩) hHeld ?_
    rotate_left
    · intro w' hS'
      (try dsimp only at hS')
      go_simp
      try with_reducible rfl
    try simp only [List.getElem_toArray, List.getElem_cons_succ, List.getElem_cons_zero, Act.put, List.setIfInBounds_toArray, List.set_cons_zero, List.set_cons_succ]
    refine wpAnyH_ready (rs := [9]) (by kernel_rfl) (by simp) (AllReadyH.cons rfl (fun K hK => ?_) AllReadyH.nil)
    go_simp
    refine hK.out _ _ trivial (fun _ => ?_)
    clear hK K
    try simp only [List.getElem_toArray, List.getElem_cons_succ, List.getElem_cons_zero, Act.put, List.setIfInBounds_toArray, List.set_cons_zero, List.set_cons_succ]
    refine wpAnyH_done (by kernel_rfl) ?_ _
    subst hv2
    go_wp2
    exact ⟨rfl, _, results_none rfl _ _ _, rfl, _, HE2.out⟩
  · go_simp
    refine hK.out _ _ trivial (fun _ => ?_)
    clear hK K
    try simp only [List.getElem_toArray, List.getElem_cons_succ, List.getElem_cons_zero, Act.put, List.setIfInBounds_toArray, List.set_cons_zero, List.set_cons_succ]
    refine wpAnyH_ready (rs := [3]) (by kernel_rfl) (by simp) (AllReadyH.cons rfl (fun K hK => ?_) AllReadyH.nil)
    go_simp
    refine hK.out _ _ trivial (fun _ => ?_)
    clear hK K
    try simp only [List.getElem_toArray, List.getElem_cons_succ, List.getElem_cons_zero, Act.put, List.setIfInBounds_toArray, List.set_cons_zero, List.set_cons_succ]
    refine wpAnyH_ready (rs := [7]) (by kernel_rfl) (by simp) (AllReadyH.cons rfl (fun K hK => ?_) AllReadyH.nil)
    rw [if_pos (by rfl)]
    refine wp_pushRf eltRy (.tmp 7) (.tmp 10) rfl v H (by rw [hv]; rfl) G x rfl HP1.out.own HCA.out HGS.out hsz ?_
    intro v2 w2 q1 q2 q3
    refine hK.out _ _ trivial (fun _ => ?_)
    clear hK K
    try simp only [List.getElem_toArray, List.getElem_cons_succ, List.getElem_cons_zero, Act.put, List.setIfInBounds_toArray, List.set_cons_zero, List.set_cons_succ]
    have hlt1 := HP1.out.lt
    have hbox2 : Box w2 g 59 v := (q2.block g hlt1 (fun e => HP1.out.sep e.symm)).trans HP1.out.box
    have hs2 : v2.ownBlock ≠ some g := fun e => by
      rcases q3 g e with e | e
      · exact HP1.out.sep e
      · omega
    have hc2 : w2.cell? ⟨g, 0, none⟩ = some v := cell_row hbox2 rfl
    have hf2 : w2.frozen? ⟨g, 0, none⟩ = false := frozen_of_row w2 g 0 _ _ hbox2
    have HE2 : Hid (HpAt (w2.setCell ⟨g, 0, none⟩ v2) g v2 (H ++ [x]) ∧ HUp w g v (w2.setCell ⟨g, 0, none⟩ v2) v2) := by
      refine ⟨⟨RowAt.set (w := w2) (cs := #[v]) hbox2 0 v2, q1.keep (keep_grown (grown_setCell _ _ _)) fun b hb e => hs2 (by rw [hb, e]), hs2⟩, ?_⟩
      have h1 : HUp w g v W1 v := HUp.below HBW.out
      have h2 : HUp W1 g v w2 v2 := ⟨(keep_grownO q2).mono fun _ e => .inr e, q3⟩
      exact (h1.trans h2).trans (HUp.set w2 g v2 v2 fun _ e => .inl e)
    obtain ⟨va2, vn2, vc2, hv2⟩ : ∃ va vn vc, v2 = .slice va vn vc := by
      obtain ⟨a, cap, e, -⟩ := q1.rd
      exact ⟨a, _, cap, e⟩
    clear q1 q2 q3 hbox2 hs2
    refine wpAnyH_take (i := 8) (v := ?_) rfl (by kernel_rfl) (by kernel_rfl) (by kernel_rfl) (fun _ _ _ h => h) (Or.inl ⟨by rfl, ?_⟩) hHeld ?_
    rotate_left
    · intro w' hS'
      (try dsimp only at hS')
      go_simp
      try with_reducible rfl
    try simp only [List.getElem_toArray, List.getElem_cons_succ, List.getElem_cons_zero, Act.put, List.setIfInBounds_toArray, List.set_cons_zero, List.set_cons_succ]
    refine wpAnyH_ready (rs := [9]) (by kernel_rfl) (by simp) (AllReadyH.cons rfl (fun K hK => ?_) AllReadyH.nil)
    go_simp
    refine hK.out _ _ trivial (fun _ => ?_)
    clear hK K
    try simp only [List.getElem_toArray, List.getElem_cons_succ, List.getElem_cons_zero, Act.put, List.setIfInBounds_toArray, List.set_cons_zero, List.set_cons_succ]
    refine wpAnyH_done (by kernel_rfl) ?_ _
    subst hv2
    go_wp2
    exact ⟨rfl, _, results_none rfl _ _ _, rfl, _, HE2.out⟩
end Go.Proofs.Ytcakdjnnfonijaa
