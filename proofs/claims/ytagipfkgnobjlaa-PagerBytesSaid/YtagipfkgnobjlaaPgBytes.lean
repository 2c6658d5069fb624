/- A pager with its log, its disk and its changed pages; a page's bytes. (Printed by gen_pgbytes.py.) -/
import Derived.Test.YtagipfkgnobjlaaPgHeap
namespace Go.Proofs.Ytagipfkgnobjlaa
open Go.RowKit

attribute [local go_sem] Oper.semAt_some
/-- The changed pages: rows of 1024 bytes in U. -/
structure TurnAt (w : World) (U : Nat → Prop) (m : Nat) (f : Int → Option Value) (tn : Int → Option (List UInt8)) : Prop where
  map : MapR w m intV f
  no : ∀ k, f k = none → tn k = none
  yes : ∀ k v, f k = some v → ∃ B a c, tn k = some B ∧ v = .slice a 1024 c ∧ 1024 ≤ c ∧ B.length = 1024 ∧ RdB w a B ∧ ∀ b off, a = some ⟨b, off, none⟩ → U b
theorem TurnAt.keep {w w' : World} {X U : Nat → Prop} {m : Nat} {f : Int → Option Value} {tn : Int → Option (List UInt8)} (h : TurnAt w U m f tn) (hk : KeepA X w w') (hm : ¬ X m) (hU : ∀ x, U x → ¬ X x) : TurnAt w' U m f tn :=
  ⟨h.map.same (hk.same _ h.map.lt hm), h.no, fun k v hv => by
    obtain ⟨B, a, c, q1, q2, q3, q4, q5, q6⟩ := h.yes k v hv
    exact ⟨B, a, c, q1, q2, q3, q4, Rd.keepA q5 hk fun b off e _ => hU b (q6 b off e), q6⟩⟩
structure PS where
  now : Mt
  was : Mt
  tn : Int → Option (List UInt8)
  op : Bool
  dd : Bool
  x : LX
/-- The disk as it is read. -/
def PS.V (s : PS) : Int → List UInt8 := s.x.V
structure PgM (b0 : Nat) (w : World) (F T U : Nat → Prop) (pb d size n room lb m : Nat) (f : Int → Option Value) (s : PS) : Prop where
  row : PgRow w pb d lb n room s.now s.was m s.op s.dd
  turn : TurnAt w U m f s.tn
  log : GLog b0 w T lb d size n s.x
  tu : ∀ x, U x → ¬ T x
  pbT : ¬ T pb ∧ ¬ U pb
  mT : ¬ T m ∧ ¬ U m ∧ m ≠ pb
  foot : ∀ x, (T x ∨ U x ∨ x = pb ∨ x = m) → F x
  lim : ∀ x, F x → b0 ≤ x ∧ x < w.heap.size
  rm : n + 2 * room ≤ size
  ql : s.x.D.pcs.length ≤ 400000
def PgA (b0 : Nat) (w : World) (F : Nat → Prop) (pb d size n room : Nat) (s : PS) : Prop := ∃ T U lb m f, PgM b0 w F T U pb d size n room lb m f s
section
variable {b0 : Nat} {w w' : World} {F T U : Nat → Prop} {pb d size n room lb m : Nat} {f : Int → Option Value} {s : PS}
theorem PgM.keep {X : Nat → Prop} (h : PgM b0 w F T U pb d size n room lb m f s) (hk : KeepA X w w') (hX : ∀ x, F x → ¬ X x) : PgM b0 w' F T U pb d size n room lb m f s :=
  have fT : ∀ x, T x → ¬ X x := fun x hx => hX x (h.foot x (.inl hx))
  have fU : ∀ x, U x → ¬ X x := fun x hx => hX x (h.foot x (.inr (.inl hx)))
  ⟨h.row.keep hk (hX pb (h.foot pb (.inr (.inr (.inl rfl))))), h.turn.keep hk (hX m (h.foot m (.inr (.inr (.inr rfl))))) fU, h.log.keep hk fT, h.tu, h.pbT, h.mT, h.foot, fun x hx => ⟨(h.lim x hx).1, Nat.lt_of_lt_of_le (h.lim x hx).2 hk.size⟩, h.rm, h.ql⟩
theorem PgM.later (h : PgM b0 w F T U pb d size n room lb m f s) (hb : Below w.heap.size w w') : PgM b0 w' F T U pb d size n room lb m f s := h.keep (X := fun _ => False) (KeepA.of_below hb) fun _ _ h => h
theorem PgA.keep {X : Nat → Prop} (h : PgA b0 w F pb d size n room s) (hk : KeepA X w w') (hX : ∀ x, F x → ¬ X x) : PgA b0 w' F pb d size n room s := by
  obtain ⟨T, U, lb, m, f, h⟩ := h
  exact ⟨T, U, lb, m, f, h.keep hk hX⟩
theorem PgA.later (h : PgA b0 w F pb d size n room s) (hb : Below w.heap.size w w') : PgA b0 w' F pb d size n room s := h.keep (X := fun _ => False) (KeepA.of_below hb) fun _ _ h => h
end
/-- A page's bytes, as the transaction has them. -/
noncomputable def bytesP (n : Nat) (s : PS) (k : Nat) : List UInt8 := (s.tn (k : Int)).getD (flatS s.V ((n : Int) + 2 * (k : Int)) 2)
theorem bytesP_len {b0 : Nat} {w : World} {F T U : Nat → Prop} {pb d size n room lb m : Nat} {f : Int → Option Value} {s : PS} (h : PgM b0 w F T U pb d size n room lb m f s) (k : Nat) : (bytesP n s k).length = 1024 := by
  unfold bytesP
  cases hf : f (k : Int) with
  | none => rw [h.turn.no _ hf]; exact flatS_len h.log.len _ 2
  | some v =>
    obtain ⟨B, a, c, q1, -, -, q4, -⟩ := h.turn.yes _ v hf
    rw [q1]
    exact q4
theorem znilB (w : World) : (zeroValue 22).run Try.prog w = .ok (.slice none 0 0) w := by kernel_rfl
set_option maxRecDepth 100000 in
set_option maxHeartbeats 2000000 in
theorem pgbytes_any (b0 : Nat) (w : World) (F : Nat → Prop) (pb d size n room : Nat) (s : PS) (h : PgA b0 w F pb d size n room s) (k : Nat) (hk : k < room) :
    Calls Try.prog 37 #[.pointer (some ⟨pb, 0, none⟩), .int .i64 (k : Int)] w (RetB 5 w (bytesP n s k)) := by
  obtain ⟨T, U, lb, m, f, h⟩ := h
  obtain ⟨c0, c1, c2, c3, c4, c5, c6, c26, c27, c28⟩ := h.row.cells
  have hrm := h.rm
  have hql := h.ql
  have hs6 : size ≤ 65536 := h.log.sizes.2.2.1
  have HM : Hid (MapR w m intV f) := h.turn.map
  cases hf : f (k : Int) with
  | some v =>
    obtain ⟨B, a, c, q1, rfl, q3, q4, q5, -⟩ := h.turn.yes _ v hf
    have HBP : Hid (bytesP n s k = B) := by show _ = _; unfold bytesP; rw [q1]; rfl
    have HCL := Lib.hid (clone_any a B 1024 c w q4.symm (by omega) q5)
    have HF : Hid ((f (k : Int)).getD (.slice none 0 0) = .slice a 1024 c) := by show _ = _; rw [hf]; rfl
    have HS : Hid ((f (k : Int)).isSome = true) := by show _ = _; rw [hf]; rfl
    rw [HBP.out]
    clear h q1 q3 q4 q5 hf c0 c1 c2 c3 c4 c5 c6 c27 c28 hrm hql hs6 hk
    go_enter Try.func37, Try.ntmps37
    go_wp2_with (first
      | (refine step_lookup2 keyI Try.underlying75 rfl (.tmp 13) (.tmp 14) rfl HM.out (k : Int) (.slice none 0 0) (znilB _) rfl rfl (.slice a 1024 c) true HF.out HS.out ?_)
      | (go_at_call 40; refine HCL.out.mono ?_; rintro _ w2 ⟨vb, rfl, ho, hb⟩; have HO := Lib.hid ho; have HB := Lib.hid hb; clear ho hb))
    go_ret
    exact ⟨_, rfl, HO.out, HB.out⟩
  | none =>
    have HBP : Hid (bytesP n s k = flatS s.V ((n : Int) + 2 * (k : Int)) 2) := by show _ = _; unfold bytesP; rw [h.turn.no _ hf]; rfl
    have HRD := Lib.hid (fun W (hW : Below w.heap.size w W) => gl_read (h.log.later hW) (by omega) ((n : Int) + 2 * (k : Int)) 2 (by omega) (by omega))
    have HF : Hid ((f (k : Int)).getD (.slice none 0 0) = .slice none 0 0) := by show _ = _; rw [hf]; rfl
    have HS : Hid ((f (k : Int)).isSome = false) := by show _ = _; rw [hf]; rfl
    have y1 : IntKind.i64.wrap (2 * (k : Int)) = 2 * (k : Int) := IntWalk.i64_in _ (by omega)
    have y2 : IntKind.i64.wrap ((n : Int) + 2 * (k : Int)) = (n : Int) + 2 * (k : Int) := IntWalk.i64_in _ (by omega)
    rw [HBP.out]
    have hS : w.cell? ⟨pb, 0, none⟩ = some (.pointer (some ⟨d, 0, none⟩)) ∧ w.cell? ⟨pb, 2, none⟩ = some (.int .i64 (n : Int)) := ⟨c0, c2⟩
    clear h hf c1 c3 c4 c5 c6 c27 c28 hrm hql hs6 hk c0 c2
    go_enter Try.func37, Try.ntmps37
    go_upto_region 4 with (refine step_lookup2 keyI Try.underlying75 rfl (.tmp 13) (.tmp 14) rfl HM.out (k : Int) (.slice none 0 0) (znilB _) rfl rfl (.slice none 0 0) false HF.out HS.out ?_)
    refine wp_region_held_drew (S := fun W => W.cell? ⟨pb, 0, none⟩ = some (.pointer (some ⟨d, 0, none⟩)) ∧ W.cell? ⟨pb, 2, none⟩ = some (.int .i64 (n : Int))) (by kernel_rfl) hS (fun hHeld => ?_)
    refine wpAnyH_take (i := 0) (v := ?_) rfl (by kernel_rfl) (by kernel_rfl) (by kernel_rfl) (fun _ _ _ h => h) (Or.inl ⟨by rfl, ?_⟩) hHeld ?_
    rotate_left
    · intro w' hS'
      (try dsimp only at hS')
      go_simp
      try with_reducible rfl
    try simp only [List.getElem_toArray, List.getElem_cons_succ, List.getElem_cons_zero, Act.put, List.setIfInBounds_toArray, List.set_cons_zero, List.set_cons_succ]
    refine wpAnyH_take (i := 1) (v := ?_) rfl (by kernel_rfl) (by kernel_rfl) (by kernel_rfl) (fun _ _ _ h => h) (Or.inl ⟨by rfl, ?_⟩) hHeld ?_
    rotate_left
    · intro w' hS'
      (try dsimp only at hS')
      go_simp
      try with_reducible rfl
    try simp only [List.getElem_toArray, List.getElem_cons_succ, List.getElem_cons_zero, Act.put, List.setIfInBounds_toArray, List.set_cons_zero, List.set_cons_succ]
    refine wpAnyH_take (i := 2) (v := ?_) rfl (by kernel_rfl) (by kernel_rfl) (by kernel_rfl) (fun _ _ _ h => h) (Or.inl ⟨by rfl, ?_⟩) hHeld ?_
    rotate_left
    · intro w' hS'
      (try dsimp only at hS')
      go_simp
      try with_reducible rfl
    try simp only [List.getElem_toArray, List.getElem_cons_succ, List.getElem_cons_zero, Act.put, List.setIfInBounds_toArray, List.set_cons_zero, List.set_cons_succ]
    refine wpAnyH_take (i := 3) (v := ?_) rfl (by kernel_rfl) (by kernel_rfl) (by kernel_rfl) (fun _ _ _ h => h) (Or.inl ⟨by rfl, ?_⟩) hHeld ?_
    rotate_left
    · intro w' hS'
      (try dsimp only at hS')
      go_simp
      try with_reducible rfl
    try simp only [List.getElem_toArray, List.getElem_cons_succ, List.getElem_cons_zero, Act.put, List.setIfInBounds_toArray, List.set_cons_zero, List.set_cons_succ]
    refine wpAnyH_take (i := 4) (v := ?_) rfl (by kernel_rfl) (by kernel_rfl) (by kernel_rfl) (fun _ _ _ h => h) (Or.inl ⟨by rfl, ?_⟩) hHeld ?_
    rotate_left
    · intro w' hS'
      (try dsimp only at hS')
      go_simp
      try with_reducible rfl
    try simp only [List.getElem_toArray, List.getElem_cons_succ, List.getElem_cons_zero, Act.put, List.setIfInBounds_toArray, List.set_cons_zero, List.set_cons_succ]
    refine wpAnyH_take (i := 5) (v := ?_) rfl (by kernel_rfl) (by kernel_rfl) (by kernel_rfl) (fun _ _ _ h => h) (Or.inl ⟨by rfl, ?_⟩) hHeld ?_
    rotate_left
    · intro w' hS'
      (try dsimp only at hS')
      go_simp
      try with_reducible rfl
    try simp only [List.getElem_toArray, List.getElem_cons_succ, List.getElem_cons_zero, Act.put, List.setIfInBounds_toArray, List.set_cons_zero, List.set_cons_succ]
    refine wpAnyH_take (i := 6) (v := ?_) rfl (by kernel_rfl) (by kernel_rfl) (by kernel_rfl) (fun _ _ _ h => h) (Or.inl ⟨by rfl, ?_⟩) hHeld ?_
    rotate_left
    · intro w' hS'
      (try dsimp only at hS')
      go_simp
      try with_reducible rfl
    try simp only [List.getElem_toArray, List.getElem_cons_succ, List.getElem_cons_zero, Act.put, List.setIfInBounds_toArray, List.set_cons_zero, List.set_cons_succ]
    refine wpAnyH_take (i := 7) (v := ?_) rfl (by kernel_rfl) (by kernel_rfl) (by kernel_rfl) (fun _ _ _ h => h) (Or.inl ⟨by rfl, ?_⟩) hHeld ?_
    rotate_left
    · intro w' hS'
      (try dsimp only at hS')
      go_simp
      try with_reducible rfl
    try simp only [List.getElem_toArray, List.getElem_cons_succ, List.getElem_cons_zero, Act.put, List.setIfInBounds_toArray, List.set_cons_zero, List.set_cons_succ]
    refine wpAnyH_take (i := 8) (v := ?_) rfl (by kernel_rfl) (by kernel_rfl) (by kernel_rfl) (fun _ _ _ h => h) (Or.inl ⟨by rfl, ?_⟩) hHeld ?_
    rotate_left
    · intro w' hS'
      (try dsimp only at hS')
      go_simp
      try with_reducible rfl
    try simp only [List.getElem_toArray, List.getElem_cons_succ, List.getElem_cons_zero, Act.put, List.setIfInBounds_toArray, List.set_cons_zero, List.set_cons_succ]
    refine wpAnyH_take (i := 9) (v := ?_) rfl (by kernel_rfl) (by kernel_rfl) (by kernel_rfl) (fun _ _ _ h => h) (Or.inl ⟨by rfl, ?_⟩) hHeld ?_
    rotate_left
    · intro w' hS'
      (try dsimp only at hS')
      go_simp
      try with_reducible rfl
    try simp only [List.getElem_toArray, List.getElem_cons_succ, List.getElem_cons_zero, Act.put, List.setIfInBounds_toArray, List.set_cons_zero, List.set_cons_succ]
    refine wpAnyH_take (i := 10) (v := ?_) rfl (by kernel_rfl) (by kernel_rfl) (by kernel_rfl) (fun _ _ _ h => h) (Or.inl ⟨by rfl, ?_⟩) hHeld ?_
    rotate_left
    · intro w' hS'
      (try dsimp only at hS')
      go_simp
      try with_reducible rfl
    try simp only [List.getElem_toArray, List.getElem_cons_succ, List.getElem_cons_zero, Act.put, List.setIfInBounds_toArray, List.set_cons_zero, List.set_cons_succ]
    refine wpAnyH_ready (rs := [11]) (by kernel_rfl) (by simp) (AllReadyH.cons rfl (fun K hK => ?_) AllReadyH.nil)
    try rw [if_pos (by rfl)]
    go_wp2_with fail
    refine (HRD.out _ (drewN_below (Below.refl _ _) 1)).mono ?_
    rintro _ w2 ⟨⟨vb, rfl, ho⟩, hb⟩
    have HO : Hid (OwnB w2 w.heap.size 5 vb (flatS s.V ((n : Int) + 2 * (k : Int)) 2)) := ho
    have HB : Hid (Below w.heap.size w w2) := (drewN_below (Below.refl _ w) 1).trans hb
    have hS2 : w2.cell? ⟨pb, 0, none⟩ = some (.pointer (some ⟨d, 0, none⟩)) ∧ w2.cell? ⟨pb, 2, none⟩ = some (.int .i64 (n : Int)) := ⟨(HB.out.cell (World.block_lt_of_cell? w _ hS.1)).trans hS.1, (HB.out.cell (World.block_lt_of_cell? w _ hS.2)).trans hS.2⟩
    clear ho hb
    refine hK.out _ _ hS2 (fun hHeld => ?_)
    try simp only [List.getElem_toArray, List.getElem_cons_succ, List.getElem_cons_zero, Act.put, List.setIfInBounds_toArray, List.set_cons_zero, List.set_cons_succ]
    clear hK K
    refine wpAnyH_take (i := 12) (v := ?_) rfl (by kernel_rfl) (by kernel_rfl) (by kernel_rfl) (fun _ _ _ h => h) (Or.inl ⟨by rfl, ?_⟩) hHeld ?_
    rotate_left
    · intro w' hS'
      (try dsimp only at hS')
      go_simp
      try with_reducible rfl
    try simp only [List.getElem_toArray, List.getElem_cons_succ, List.getElem_cons_zero, Act.put, List.setIfInBounds_toArray, List.set_cons_zero, List.set_cons_succ]
    refine wpAnyH_take (i := 13) (v := ?_) rfl (by kernel_rfl) (by kernel_rfl) (by kernel_rfl) (fun _ _ _ h => h) (Or.inl ⟨by rfl, ?_⟩) hHeld ?_
    rotate_left
    · intro w' hS'
      (try dsimp only at hS')
      go_simp
      try with_reducible rfl
    try simp only [List.getElem_toArray, List.getElem_cons_succ, List.getElem_cons_zero, Act.put, List.setIfInBounds_toArray, List.set_cons_zero, List.set_cons_succ]
    refine wpAnyH_take (i := 14) (v := ?_) rfl (by kernel_rfl) (by kernel_rfl) (by kernel_rfl) (fun _ _ _ h => h) (Or.inl ⟨by rfl, ?_⟩) hHeld ?_
    rotate_left
    · intro w' hS'
      (try dsimp only at hS')
      go_simp
      try with_reducible rfl
    try simp only [List.getElem_toArray, List.getElem_cons_succ, List.getElem_cons_zero, Act.put, List.setIfInBounds_toArray, List.set_cons_zero, List.set_cons_succ]
    refine wpAnyH_take (i := 15) (v := ?_) rfl (by kernel_rfl) (by kernel_rfl) (by kernel_rfl) (fun _ _ _ h => h) (Or.inl ⟨by rfl, ?_⟩) hHeld ?_
    rotate_left
    · intro w' hS'
      (try dsimp only at hS')
      go_simp
      try with_reducible rfl
    try simp only [List.getElem_toArray, List.getElem_cons_succ, List.getElem_cons_zero, Act.put, List.setIfInBounds_toArray, List.set_cons_zero, List.set_cons_succ]
    refine wpAnyH_take (i := 16) (v := ?_) rfl (by kernel_rfl) (by kernel_rfl) (by kernel_rfl) (fun _ _ _ h => h) (Or.inl ⟨by rfl, ?_⟩) hHeld ?_
    rotate_left
    · intro w' hS'
      (try dsimp only at hS')
      go_simp
      try with_reducible rfl
    try simp only [List.getElem_toArray, List.getElem_cons_succ, List.getElem_cons_zero, Act.put, List.setIfInBounds_toArray, List.set_cons_zero, List.set_cons_succ]
    refine wpAnyH_done (by kernel_rfl) ?_ _
    go_wp2
    go_ret
    exact ⟨_, rfl, HO.out, HB.out⟩
end Go.Proofs.Ytagipfkgnobjlaa
