/- A graph of the program: how it lies; none, Has, asked, slices.Clone, To. -/
import Derived.Test.YtcakdjnnfonijaaRgSort
import Derived.Test.YtcakdjnnfonijaaRoCp
namespace Go.Proofs.Ytcakdjnnfonijaa
open Go.RowKit

/-- Who refers to t. -/
def refF (D : List (Rf × List Rf)) (t : Rf) : Rf → Option Value := fun u => if memB u (behd D t) = true then some (.int .i64 1) else none
structure GrM (w : World) (T : Nat → Prop) (gb m1 m2 : Nat) (fT fF : Rf → Option Value) (D : List (Rf × List Rf)) : Prop where
  box : RowAt w gb 69 #[.map (some m1), .map (some m2)]
  mt : MapR w m1 rfV fT
  mf : MapR w m2 rfV fF
  toN : ∀ v, fT v = none → v ∉ D.map (·.1)
  toS : ∀ v s, fT v = some s → ∃ x ∈ D, x.1 = v ∧ OwnRf w s x.2 ∧ ∀ p, s.ownBlock = some p → T p
  frN : ∀ t, fF t = none → behd D t = []
  frS : ∀ t s, fF t = some s → ∃ m, s = .map (some m) ∧ MapR w m rfV (refF D t) ∧ T m ∧ m ≠ m1 ∧ m ≠ m2
  sep : ∀ t t' m, fF t = some (.map (some m)) → fF t' = some (.map (some m)) → t = t'
  ne : m1 ≠ m2
  tb : T gb ∧ T m1 ∧ T m2
/-- A graph: its blocks lie in T; what it says is D. -/
def GrS (w : World) (T : Nat → Prop) (gb : Nat) (D : List (Rf × List Rf)) : Prop := ∃ m1 m2 fT fF, GrM w T gb m1 m2 fT fF D
section
variable {w w' : World} {T : Nat → Prop} {gb m1 m2 : Nat} {fT fF : Rf → Option Value} {D : List (Rf × List Rf)}
theorem GrM.keep {X : Nat → Prop} (h : GrM w T gb m1 m2 fT fF D) (hk : KeepA X w w') (hX : ∀ k, T k → ¬ X k) : GrM w' T gb m1 m2 fT fF D :=
  ⟨row_keep hk h.box (hX _ h.tb.1), h.mt.same (hk.same _ h.mt.lt (hX _ h.tb.2.1)), h.mf.same (hk.same _ h.mf.lt (hX _ h.tb.2.2)), h.toN, fun v s hs => by
    obtain ⟨x, q1, q2, q3, q4⟩ := h.toS v s hs
    exact ⟨x, q1, q2, q3.keep hk fun g hg => hX g (q4 g hg), q4⟩, h.frN, fun t s hs => by
    obtain ⟨m, q1, q2, q3, q4⟩ := h.frS t s hs
    exact ⟨m, q1, q2.same (hk.same m q2.lt (hX m q3)), q3, q4⟩, h.sep, h.ne, h.tb⟩
theorem GrM.later (h : GrM w T gb m1 m2 fT fF D) (hb : Below w.heap.size w w') : GrM w' T gb m1 m2 fT fF D := h.keep (KeepA.of_below (X := fun _ => False) hb) fun _ _ h => h
theorem GrM.wider {T' : Nat → Prop} (h : GrM w T gb m1 m2 fT fF D) (hT : ∀ k, T k → T' k) : GrM w T' gb m1 m2 fT fF D :=
  ⟨h.box, h.mt, h.mf, h.toN, fun v s hs => by
    obtain ⟨x, q1, q2, q3, q4⟩ := h.toS v s hs
    exact ⟨x, q1, q2, q3, fun p hp => hT p (q4 p hp)⟩, h.frN, fun t s hs => by
    obtain ⟨m, q1, q2, q3, q4⟩ := h.frS t s hs
    exact ⟨m, q1, q2, hT m q3, q4⟩, h.sep, h.ne, ⟨hT _ h.tb.1, hT _ h.tb.2.1, hT _ h.tb.2.2⟩⟩
theorem GrM.cells (h : GrM w T gb m1 m2 fT fF D) : w.cell? ⟨gb, 0, none⟩ = some (.map (some m1)) ∧ w.cell? ⟨gb, 1, none⟩ = some (.map (some m2)) := ⟨h.box.cell 0, h.box.cell 1⟩
theorem GrM.has (h : GrM w T gb m1 m2 fT fF D) (v : Rf) : (fT v).isSome = memB v (D.map (·.1)) := by
  cases hf : fT v with
  | none => exact (memB_not.2 (h.toN v hf)).symm
  | some s =>
    obtain ⟨x, hx, e, -⟩ := h.toS v s hf
    have : v ∈ D.map (·.1) := by rw [← e]; exact List.mem_map_of_mem hx
    simp only [Option.isSome_some]
    exact (memB_iff.2 this).symm
end
theorem GrS.keep {w w' : World} {T : Nat → Prop} {gb : Nat} {D : List (Rf × List Rf)} {X : Nat → Prop} (h : GrS w T gb D) (hk : KeepA X w w') (hX : ∀ k, T k → ¬ X k) : GrS w' T gb D := by
  obtain ⟨m1, m2, fT, fF, h⟩ := h
  exact ⟨m1, m2, fT, fF, h.keep hk hX⟩
theorem GrS.later {w w' : World} {T : Nat → Prop} {gb : Nat} {D : List (Rf × List Rf)} (h : GrS w T gb D) (hb : Below w.heap.size w w') : GrS w' T gb D := h.keep (KeepA.of_below (X := fun _ => False) hb) fun _ _ h => h
theorem wp_lookup2 {P : Program} {kt : TypeId} {κ : Type} [DecidableEq κ] {kv : κ → Value} (K : KeyT P kt kv) {mt et : TypeId} (hm : P.underlying mt = some (.map kt et)) {o : Oper} {act : Act} {N : Act → World → Prop} {Q : Exit → Act → World → Prop} {w : World} (x y : Operand) (ho : o.op = .lookup mt x y true)
    {r : Nat} {f : κ → Option Value} (h : MapR w r kv f) (k : κ) (z : Value) (hz : (zeroValue et).run P w = .ok z w) (hx : act.eval x = .map (some r)) (hy : act.eval y = kv k) (v : Value) (b : Bool) (hv : (f k).getD z = v) (hb : (f k).isSome = b)
    (hn : N (act.put o.dst (.tuple #[v, .bool b])) w) : o.wp P act w N Q := by
  unfold Oper.wp execOp
  simp only [ho, hx, hy]
  rw [Sem.run_bind, run_lookup_map K hm h k z hz true]
  subst hv hb
  exact hn
theorem run_eqMapNil1 (w : World) (m : Nat) : (binOp .eql 54 (.map (some m)) (.map none)).run Try.prog w = .ok (.bool false) w := by
  simp only [binOp]
  have h : (Op.equalIn 10000 54 (.map (some m)) (.map none)).run Try.prog w = .ok false w := by
    show (Op.equalIn (9999 + 1) _ _ _).run Try.prog w = _
    unfold Op.equalIn
    rw [Sem.run_bind, run_underlying Try.underlying54]
    rfl
  simp [Op.equal, Op.maxDepth, h]
theorem run_eqGrNil (w : World) (b : Nat) : (binOp .eql 38 (.pointer (some ⟨b, 0, none⟩)) (.pointer none)).run Try.prog w = .ok (.bool false) w := by
  simp only [binOp]
  have h : (Op.equalIn 10000 38 (.pointer (some ⟨b, 0, none⟩)) (.pointer none)).run Try.prog w = .ok false w := by
    show (Op.equalIn (9999 + 1) _ _ _).run Try.prog w = _
    unfold Op.equalIn
    rw [Sem.run_bind, run_underlying Try.underlying38]
    rfl
  simp [Op.equal, Op.maxDepth, h]
set_option maxRecDepth 100000 in
theorem gnone_any (w : World) (gb m1 : Nat) (hc : w.cell? ⟨gb, 0, none⟩ = some (.map (some m1))) : Calls Try.prog 37 #[.pointer (some ⟨gb, 0, none⟩)] w fun e w' => e = .returned (.bool false) ∧ w = w' := by
  have h1 := run_eqMapNil1 w m1
  have h2 := run_eqGrNil w gb
  go_enter Try.func37, Try.ntmps37
  go_wp2
  go_ret
  exact ⟨rfl, rfl⟩
set_option maxRecDepth 100000 in
set_option maxHeartbeats 2000000 in
theorem ghas_any (w : World) (T : Nat → Prop) (gb : Nat) (D : List (Rf × List Rf)) (h : GrS w T gb D) (v : Rf) : Calls Try.prog 17 #[.pointer (some ⟨gb, 0, none⟩), .agg #[.string v.1, .int .i64 v.2]] w fun e w' => e = .returned (.bool (memB v (D.map (·.1)))) ∧ Below w.heap.size w w' := by
  obtain ⟨m1, m2, fT, fF, h⟩ := h
  have hgl : gb < w.heap.size := h.box.lt
  obtain ⟨px, hpx⟩ : ∃ y, w.heap.size = y := ⟨_, rfl⟩
  obtain ⟨w1, hw1⟩ : ∃ y, w.alloc (.cells #[.string v.1, .int .i64 v.2] 25) = y := ⟨_, rfl⟩
  have hb1 : Below w.heap.size w w1 := by rw [← hw1]; exact below_alloc _
  have HP1 : Hid (RowAt w1 px 25 #[.string v.1, .int .i64 v.2]) := by rw [← hw1, ← hpx]; exact RowAt.new _ _ _
  have HB1 := Lib.hid hb1
  have h1 := h.later hb1
  have HG1 := Lib.hid h1
  have HN := Lib.hid (gnone_any w1 gb m1 h1.cells.1)
  obtain ⟨b, hb⟩ : ∃ b, memB v (D.map (·.1)) = b := ⟨_, rfl⟩
  have HS : Hid ((fT v).isSome = b) := by rw [← hb]; exact h.has v
  rw [hb]
  obtain ⟨vv, hvv⟩ : ∃ y, (fT v).getD (.slice none 0 0) = y := ⟨_, rfl⟩
  have HVV := Lib.hid hvv
  obtain ⟨va, vn, vc, hv⟩ : ∃ va vn vc, vv = .slice va vn vc := by
    rw [← hvv]
    cases hf : fT v with
    | none => exact ⟨none, 0, 0, rfl⟩
    | some s =>
      obtain ⟨x, -, -, q, -⟩ := h.toS v s hf
      obtain ⟨a, c, e, -⟩ := q.rd
      exact ⟨a, _, c, e⟩
  subst hv
  have hS0 : w1.drew.cell? ⟨gb, 0, none⟩ = some (.map (some m1)) ∧ w1.drew.cell? ⟨px, 0, none⟩ = some (.string v.1) ∧ w1.drew.cell? ⟨px, 1, none⟩ = some (.int .i64 v.2) := ⟨h1.cells.1, HP1.out.cell 0, HP1.out.cell 1⟩
  have HM : Hid (MapR w1.drew m1 rfV fT) := h1.mt
  clear h h1 hb1 hb hvv
  go_enter Try.func17, Try.ntmps17
  go_upto_region 3 with (go_at_call 37; refine HN.out.mono ?_; rintro _ _ ⟨rfl, rfl⟩)
  refine wp_region_held_drew (S := fun W => W.cell? ⟨gb, 0, none⟩ = some (.map (some m1)) ∧ W.cell? ⟨px, 0, none⟩ = some (.string v.1) ∧ W.cell? ⟨px, 1, none⟩ = some (.int .i64 v.2)) (by kernel_rfl) hS0 (fun hHeld => ?_)
  refine wpAnyH_take (i := 0) (v := ?_) rfl (by kernel_rfl) (by kernel_rfl) (by kernel_rfl) (fun _ _ _ h => h) (Or.inl ⟨by rfl, ?_⟩) hHeld ?_
  rotate_left
  · intro w' hS'
    (try dsimp only at hS')
    go_simp
    try with_reducible rfl
  try simp only [List.getElem_toArray, List.getElem_cons_zero, Act.put, List.setIfInBounds_toArray, List.set_cons_zero, List.set_cons_succ]
  refine wpAnyH_take (i := 1) (v := ?_) rfl (by kernel_rfl) (by kernel_rfl) (by kernel_rfl) (fun _ _ _ h => h) (Or.inl ⟨by rfl, ?_⟩) hHeld ?_
  rotate_left
  · intro w' hS'
    (try dsimp only at hS')
    go_simp
    try with_reducible rfl
  try simp only [List.getElem_toArray, List.getElem_cons_succ, List.getElem_cons_zero, Act.put, List.setIfInBounds_toArray, List.set_cons_zero, List.set_cons_succ]
  refine wpAnyH_take (i := 2) (v := ?_) rfl (by kernel_rfl) (by kernel_rfl) (by kernel_rfl) (fun _ _ _ h => h) (Or.inl ⟨by rfl, ?_⟩) hHeld ?_
  rotate_left
  · intro w' hS'
    (try dsimp only at hS')
    go_simp
    try with_reducible rfl
  try simp only [List.getElem_toArray, List.getElem_cons_succ, List.getElem_cons_zero, Act.put, List.setIfInBounds_toArray, List.set_cons_zero, List.set_cons_succ]
  refine wpAnyH_take (i := 3) (v := ?_) rfl (by kernel_rfl) (by kernel_rfl) (by kernel_rfl) (fun _ _ _ h => h) (Or.inl ⟨by rfl, ?_⟩) hHeld ?_
  rotate_left
  · intro w' hS'
    (try dsimp only at hS')
    go_simp
    try with_reducible rfl
  try simp only [List.getElem_toArray, List.getElem_cons_succ, List.getElem_cons_zero, Act.put, List.setIfInBounds_toArray, List.set_cons_zero, List.set_cons_succ]
  refine wpAnyH_take (i := 4) (v := ?_) rfl (by kernel_rfl) (by kernel_rfl) (by kernel_rfl) (fun _ _ _ h => h) (Or.inl ⟨by rfl, ?_⟩) hHeld ?_
  rotate_left
  · intro w' hS'
    (try dsimp only at hS')
    go_simp
    try with_reducible rfl
  try simp only [List.getElem_toArray, List.getElem_cons_succ, List.getElem_cons_zero, Act.put, List.setIfInBounds_toArray, List.set_cons_zero, List.set_cons_succ]
  refine wpAnyH_ready (rs := [5]) (by kernel_rfl) (by simp) (AllReadyH.cons rfl (fun K hK => ?_) AllReadyH.nil)
  rw [if_pos (by rfl)]
  refine wp_lookup2 keyRf Try.underlying54 (.tmp 13) (.tmp 14) rfl HM.out v (.slice none 0 0) (znil _) rfl rfl (.slice va vn vc) b HVV.out HS.out ?_
  refine hK.out _ _ hHeld (fun hHeld => ?_)
  clear hK K
  try simp only [List.getElem_toArray, List.getElem_cons_succ, List.getElem_cons_zero, Act.put, List.setIfInBounds_toArray, List.set_cons_zero, List.set_cons_succ]
  refine wpAnyH_take (i := 6) (v := ?_) rfl (by kernel_rfl) (by kernel_rfl) (by kernel_rfl) (fun _ _ _ h => h) (Or.inl ⟨by rfl, ?_⟩) hHeld ?_
  rotate_left
  · intro w' hS'
    (try dsimp only at hS')
    go_simp
    try with_reducible rfl
  try simp only [List.getElem_toArray, List.getElem_cons_succ, List.getElem_cons_zero, Act.put, List.setIfInBounds_toArray, List.set_cons_zero, List.set_cons_succ]
  refine wpAnyH_take (i := 7) (v := ?_) rfl (by kernel_rfl) (by kernel_rfl) (by kernel_rfl) (fun _ _ _ h => h) (Or.inl ⟨by rfl, ?_⟩) hHeld ?_
  rotate_left
  · intro w' hS'
    (try dsimp only at hS')
    go_simp
    try with_reducible rfl
  try simp only [List.getElem_toArray, List.getElem_cons_succ, List.getElem_cons_zero, Act.put, List.setIfInBounds_toArray, List.set_cons_zero, List.set_cons_succ]
  refine wpAnyH_take (i := 8) (v := ?_) rfl (by kernel_rfl) (by kernel_rfl) (by kernel_rfl) (fun _ _ _ h => h) (Or.inl ⟨by rfl, ?_⟩) hHeld ?_
  rotate_left
  · intro w' hS'
    (try dsimp only at hS')
    go_simp
    try with_reducible rfl
  try simp only [List.getElem_toArray, List.getElem_cons_succ, List.getElem_cons_zero, Act.put, List.setIfInBounds_toArray, List.set_cons_zero, List.set_cons_succ]
  refine wpAnyH_take (i := 9) (v := ?_) rfl (by kernel_rfl) (by kernel_rfl) (by kernel_rfl) (fun _ _ _ h => h) (Or.inl ⟨by rfl, ?_⟩) hHeld ?_
  rotate_left
  · intro w' hS'
    (try dsimp only at hS')
    go_simp
    try with_reducible rfl
  try simp only [List.getElem_toArray, List.getElem_cons_succ, List.getElem_cons_zero, Act.put, List.setIfInBounds_toArray, List.set_cons_zero, List.set_cons_succ]
  refine wpAnyH_take (i := 10) (v := ?_) rfl (by kernel_rfl) (by kernel_rfl) (by kernel_rfl) (fun _ _ _ h => h) (Or.inl ⟨by rfl, ?_⟩) hHeld ?_
  rotate_left
  · intro w' hS'
    (try dsimp only at hS')
    go_simp
    try with_reducible rfl
  try simp only [List.getElem_toArray, List.getElem_cons_succ, List.getElem_cons_zero, Act.put, List.setIfInBounds_toArray, List.set_cons_zero, List.set_cons_succ]
  refine wpAnyH_done (by kernel_rfl) ?_ _
  have HE : Hid (Below w.heap.size w w1.drew) := drewN_below HB1.out 1
  go_wp2
  go_ret
  exact ⟨rfl, HE.out⟩
def askR (D : List (Rf × List Rf)) (v : Rf) : Int := if rightR v = true then (if memB v (D.map (·.1)) = true then 0 else 7) else 2
set_option maxRecDepth 100000 in
set_option maxHeartbeats 2000000 in
theorem gasked_any (w : World) (T : Nat → Prop) (gb : Nat) (D : List (Rf × List Rf)) (h : GrS w T gb D) (v : Rf) : Calls Try.prog 39 #[.pointer (some ⟨gb, 0, none⟩), .agg #[.string v.1, .int .i64 v.2]] w fun e w' => e = .returned (.int .i64 (askR D v)) ∧ Below w.heap.size w w' := by
  obtain ⟨px, hpx⟩ : ∃ y, w.heap.size = y := ⟨_, rfl⟩
  obtain ⟨w1, hw1⟩ : ∃ y, w.alloc (.cells #[.string v.1, .int .i64 v.2] 25) = y := ⟨_, rfl⟩
  have hb1 : Below w.heap.size w w1 := by rw [← hw1]; exact below_alloc _
  have HP1 : Hid (RowAt w1 px 25 #[.string v.1, .int .i64 v.2]) := by rw [← hw1, ← hpx]; exact RowAt.new _ _ _
  have HC1 : Hid (CellsAt w1 rfC px 0 v) := RowAt.rf HP1.out
  have HB1 := Lib.hid hb1
  have h1 := h.later hb1
  have HG1 := Lib.hid h1
  have HN : Hid (Calls Try.prog 37 #[.pointer (some ⟨gb, 0, none⟩)] w1 fun e w' => e = .returned (.bool false) ∧ w1 = w') := by
    obtain ⟨m1, m2, fT, fF, h1⟩ := h1
    exact gnone_any w1 gb m1 h1.cells.1
  obtain ⟨rr, hrr⟩ : ∃ b, rightR v = b := ⟨_, rfl⟩
  have HR : Hid (Calls Try.prog 26 #[.agg #[.string v.1, .int .i64 v.2]] w1 fun e w' => e = .returned (.bool rr) ∧ Below w1.heap.size w1 w') := by rw [← hrr]; exact right_any v w1
  obtain ⟨b, hb⟩ : ∃ b, memB v (D.map (·.1)) = b := ⟨_, rfl⟩
  have HH : Hid (∀ W, Below w1.heap.size w1 W → Calls Try.prog 17 #[.pointer (some ⟨gb, 0, none⟩), .agg #[.string v.1, .int .i64 v.2]] W fun e w' => e = .returned (.bool b) ∧ Below w.heap.size w w') := Lib.hid fun W hW => (ghas_any W T gb D (h1.later hW) v).mono fun e w' ⟨q1, q2⟩ => ⟨by rw [q1, hb], below_trans (below_trans hb1 hW) q2⟩
  have HA : Hid (askR D v = if rr then (if b then 0 else 7) else 2) := Lib.hid (by
    unfold askR
    rw [hrr, hb])
  have HE : Hid (∀ W, Below w1.heap.size w1 W → Below w.heap.size w W) := Lib.hid fun W hW => below_trans hb1 hW
  clear h h1 hb1 hrr hb
  cases rr with
  | false =>
    go_enter Try.func39, Try.ntmps39
    go_wp2_with (first
      | (go_at_call 37; refine HN.out.mono ?_; rintro _ _ ⟨rfl, rfl⟩)
      | (refine step_loadRf rfl (.tmp 3) rfl HC1.out rfl ?_)
      | (go_at_call 26; refine HR.out.mono ?_; rintro _ w2 ⟨rfl, hb2⟩; have HB2 := Lib.hid hb2; clear hb2))
    go_ret
    exact ⟨by rw [HA.out]; rfl, HE.out _ HB2.out⟩
  | true =>
    cases b with
    | false =>
      go_enter Try.func39, Try.ntmps39
      go_wp2_with (first
        | (go_at_call 37; refine HN.out.mono ?_; rintro _ _ ⟨rfl, rfl⟩)
        | (go_at_call 26; refine HR.out.mono ?_; rintro _ w2 ⟨rfl, hb2⟩; have HB2 := Lib.hid hb2; have HC2 : Hid (CellsAt w2 rfC px 0 v) := RowAt.rf (RowAt.below HP1.out hb2); clear hb2)
        | (refine step_loadRf rfl (.tmp 3) rfl HC2.out rfl ?_)
        | (refine step_loadRf rfl (.tmp 3) rfl HC1.out rfl ?_)
        | (go_at_call 17; refine (HH.out _ HB2.out).mono ?_; rintro _ w3 ⟨rfl, hb3⟩; have HB3 := Lib.hid hb3; clear hb3))
      go_ret
      exact ⟨by rw [HA.out]; rfl, HB3.out⟩
    | true =>
      go_enter Try.func39, Try.ntmps39
      go_wp2_with (first
        | (go_at_call 37; refine HN.out.mono ?_; rintro _ _ ⟨rfl, rfl⟩)
        | (go_at_call 26; refine HR.out.mono ?_; rintro _ w2 ⟨rfl, hb2⟩; have HB2 := Lib.hid hb2; have HC2 : Hid (CellsAt w2 rfC px 0 v) := RowAt.rf (RowAt.below HP1.out hb2); clear hb2)
        | (refine step_loadRf rfl (.tmp 3) rfl HC2.out rfl ?_)
        | (refine step_loadRf rfl (.tmp 3) rfl HC1.out rfl ?_)
        | (go_at_call 17; refine (HH.out _ HB2.out).mono ?_; rintro _ w3 ⟨rfl, hb3⟩; have HB3 := Lib.hid hb3; clear hb3))
      go_ret
      exact ⟨by rw [HA.out]; rfl, HB3.out⟩
end Go.Proofs.Ytcakdjnnfonijaa
