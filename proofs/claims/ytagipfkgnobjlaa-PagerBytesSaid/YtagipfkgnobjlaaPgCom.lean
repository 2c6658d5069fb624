/- Commit. (Printed by gen_pgcom.py.) -/
import Derived.Test.YtagipfkgnobjlaaPgCom0
namespace Go.Proofs.Ytagipfkgnobjlaa
open Go.RowKit

attribute [local go_sem] Oper.semAt_some
/-- The batch in its box, the pager's pointer in its own; the log's pointer in the pager. -/
structure CmB (W : World) (B1 B3 pb lb : Nat) (va : Option Addr) (vl vc : Nat) : Prop where
  p : W.cell? ⟨B1, 0, none⟩ = some (.pointer (some ⟨pb, 0, none⟩))
  b : W.cell? ⟨B3, 0, none⟩ = some (.slice va vl vc)
  l : W.cell? ⟨pb, 1, none⟩ = some (.pointer (some ⟨lb, 0, none⟩))
set_option maxRecDepth 100000 in
set_option maxHeartbeats 4000000 in
theorem commit1_any (b0 : Nat) (wL W : World) (T : Nat → Prop) (lb d size n : Nat) (x : LX) (h : GL b0 wL W T lb d size n x) (hld : x.ld = false) (hb0 : b0 ≤ wL.heap.size) (hq : x.D.pcs.length ≤ 800000) (hbs : x.bs.length ≤ 900000) (hrun : x.run < 9223372036854775808)
    (B1 B3 pb : Nat) (va : Option Addr) (Bt : List UInt8) (vl vc : Nat) (hm : vl = Bt.length) (hC : ∀ W', KeepA (fun y => T y ∨ wL.heap.size ≤ y) wL W' → CmB W' B1 B3 pb lb va vl vc ∧ RdB W' va Bt) (hsep : ∀ ad, va = some ad → ¬ T ad.block ∧ ad.block < wL.heap.size) :
    Calls Try.prog 46 #[.pointer (some ⟨B1, 0, none⟩), .pointer (some ⟨B3, 0, none⟩)] W fun e w' => ∃ er x', e = .returned (.int .i64 er) ∧ AppF n Bt er x x' ∧ GL b0 wL w' T lb d size n x' := by
  have HGK : Hid (∀ w' x', GL b0 wL w' T lb d size n x' → CmB w' B1 B3 pb lb va vl vc) := Lib.hid fun w' x' g => by
    obtain ⟨_, _, _, k⟩ := g
    exact (hC w' k).1
  have HAP := Lib.hid (fun W' (hW : Below W.heap.size W W') => by
    have g := h.later hW
    obtain ⟨_, _, _, k⟩ := id g
    exact G_append g hld hb0 hq hbs hrun va Bt vl vc hm (hC W' k).2 hsep)
  have hS : CmB W.drew B1 B3 pb lb va vl vc := HGK.out W.drew x (h.later (drewN_below (Below.refl _ W) 1))
  obtain ⟨K0, hK0⟩ : ∃ K : Ending → World → Prop, (fun (e : Ending) (w' : World) => ∃ er x', e = .returned (.int .i64 er) ∧ AppF n Bt er x x' ∧ GL b0 wL w' T lb d size n x') = K := ⟨_, rfl⟩
  have HK : Hid (∀ er x' w', AppF n Bt er x x' → GL b0 wL w' T lb d size n x' → K0 (.returned (.int .i64 er)) w') := Lib.hid fun er x' w' h1 h2 => by rw [← hK0]; exact ⟨er, x', rfl, h1, h2⟩
  rw [hK0]
  clear hK0 h hld hb0 hq hbs hrun hm hC hsep
  go_enter Try.func46, Try.ntmps46
  go_upto_region 1 with fail
  refine wp_region_held_drew (S := fun W => CmB W B1 B3 pb lb va vl vc) (by kernel_rfl) hS (fun hHeld => ?_)
  refine wpAnyH_take (i := 0) (v := ?_) rfl (by kernel_rfl) (by kernel_rfl) (by kernel_rfl) (fun _ _ _ h => h) (Or.inl ⟨by rfl, ?_⟩) hHeld ?_
  rotate_left
  · intro w' hS'
    (try dsimp only at hS')
    obtain ⟨hp, hb, hl⟩ := hS'
    go_simp
    try with_reducible rfl
  try simp only [List.getElem_toArray, List.getElem_cons_succ, List.getElem_cons_zero, Act.put, List.setIfInBounds_toArray, List.set_cons_zero, List.set_cons_succ]
  refine wpAnyH_take (i := 1) (v := ?_) rfl (by kernel_rfl) (by kernel_rfl) (by kernel_rfl) (fun _ _ _ h => h) (Or.inl ⟨by rfl, ?_⟩) hHeld ?_
  rotate_left
  · intro w' hS'
    (try dsimp only at hS')
    obtain ⟨hp, hb, hl⟩ := hS'
    go_simp
    try with_reducible rfl
  try simp only [List.getElem_toArray, List.getElem_cons_succ, List.getElem_cons_zero, Act.put, List.setIfInBounds_toArray, List.set_cons_zero, List.set_cons_succ]
  refine wpAnyH_take (i := 2) (v := ?_) rfl (by kernel_rfl) (by kernel_rfl) (by kernel_rfl) (fun _ _ _ h => h) (Or.inl ⟨by rfl, ?_⟩) hHeld ?_
  rotate_left
  · intro w' hS'
    (try dsimp only at hS')
    obtain ⟨hp, hb, hl⟩ := hS'
    go_simp
    try with_reducible rfl
  try simp only [List.getElem_toArray, List.getElem_cons_succ, List.getElem_cons_zero, Act.put, List.setIfInBounds_toArray, List.set_cons_zero, List.set_cons_succ]
  refine wpAnyH_take (i := 3) (v := ?_) rfl (by kernel_rfl) (by kernel_rfl) (by kernel_rfl) (fun _ _ _ h => h) (Or.inl ⟨by rfl, ?_⟩) hHeld ?_
  rotate_left
  · intro w' hS'
    (try dsimp only at hS')
    obtain ⟨hp, hb, hl⟩ := hS'
    go_simp
    try with_reducible rfl
  try simp only [List.getElem_toArray, List.getElem_cons_succ, List.getElem_cons_zero, Act.put, List.setIfInBounds_toArray, List.set_cons_zero, List.set_cons_succ]
  refine wpAnyH_take (i := 4) (v := ?_) rfl (by kernel_rfl) (by kernel_rfl) (by kernel_rfl) (fun _ _ _ h => h) (Or.inl ⟨by rfl, ?_⟩) hHeld ?_
  rotate_left
  · intro w' hS'
    (try dsimp only at hS')
    obtain ⟨hp, hb, hl⟩ := hS'
    go_simp
    try with_reducible rfl
  try simp only [List.getElem_toArray, List.getElem_cons_succ, List.getElem_cons_zero, Act.put, List.setIfInBounds_toArray, List.set_cons_zero, List.set_cons_succ]
  refine wpAnyH_ready (rs := [5]) (by kernel_rfl) (by simp) (AllReadyH.cons rfl (fun K hK => ?_) AllReadyH.nil)
  try rw [if_pos (by rfl)]
  go_wp2_with fail
  refine (HAP.out _ (drewN_below (Below.refl _ W) 1)).mono ?_
  rintro _ w2 ⟨er, x', rfl, hA, hg⟩
  have hS2 := HGK.out w2 x' hg
  have HE := Lib.hid (HK.out er x' w2 hA hg)
  clear hA hg
  refine hK.out _ _ hS2 (fun hHeld => ?_)
  clear hK K
  try simp only [List.getElem_toArray, List.getElem_cons_succ, List.getElem_cons_zero, Act.put, List.setIfInBounds_toArray, List.set_cons_zero, List.set_cons_succ]
  refine wpAnyH_take (i := 6) (v := ?_) rfl (by kernel_rfl) (by kernel_rfl) (by kernel_rfl) (fun _ _ _ h => h) (Or.inl ⟨by rfl, ?_⟩) hHeld ?_
  rotate_left
  · intro w' hS'
    (try dsimp only at hS')
    obtain ⟨hp, hb, hl⟩ := hS'
    go_simp
    try with_reducible rfl
  try simp only [List.getElem_toArray, List.getElem_cons_succ, List.getElem_cons_zero, Act.put, List.setIfInBounds_toArray, List.set_cons_zero, List.set_cons_succ]
  refine wpAnyH_done (by kernel_rfl) ?_ _
  go_wp2
  exact HE.out
theorem GL.trans {b0 : Nat} {w W W2 w' : World} {T0 T : Nat → Prop} {lb d size n : Nat} {x' : LX} (hT : ∀ y, T y → T0 y ∨ w.heap.size ≤ y) (k : KeepA (fun y => T0 y ∨ w.heap.size ≤ y) w W) (hb : Below W.heap.size W W2) (h : GL b0 W2 w' T lb d size n x') : GL b0 w w' T0 lb d size n x' := by
  obtain ⟨T', g, q1, k2⟩ := h
  have hs := hb.size
  have hs2 := k.size
  refine ⟨T', g, fun y hy => ?_, (k.trans (KeepA.of_below hb)).trans (k2.mono fun y hy => ?_)⟩
  · rcases q1 y hy with e | e
    · exact hT y e
    · exact .inr (by omega)
  · rcases hy with e | e
    · exact hT y e
    · exact .inr (by omega)
set_option maxRecDepth 100000 in
set_option maxHeartbeats 4000000 in
theorem resteps_any (b0 : Nat) (W : World) (T : Nat → Prop) (lb d size n : Nat) (x : LX) (h : GLog b0 W T lb d size n x) (hld : x.ld = false) (hb0 : b0 ≤ W.heap.size) (hq : x.D.pcs.length ≤ 700000) (hbs : x.bs.length ≤ 900000) (hrun : x.run < 9223372036854775800)
    (B1 B3 pb : Nat) (va : Option Addr) (Bt : List UInt8) (vl vc : Nat) (hm : vl = Bt.length) (hC : ∀ W', KeepA (fun y => T y ∨ W.heap.size ≤ y) W W' → CmB W' B1 B3 pb lb va vl vc ∧ RdB W' va Bt) (hsep : ∀ ad, va = some ad → ¬ T ad.block ∧ ad.block < W.heap.size)
    (sb cap : Nat) (hsb : ¬ T sb) (hrow : RowAt W sb 29 #[.func (.func 7) #[.pointer (some ⟨d, 0, none⟩)] #[], .func (.func 31) #[.pointer (some ⟨lb, 0, none⟩)] #[], .func (.func 46) #[] #[.pointer (some ⟨B1, 0, none⟩), .pointer (some ⟨B3, 0, none⟩)]]) :
    Calls Try.prog 30 #[.slice (some ⟨sb, 0, none⟩) 3 cap] W fun e w' => ∃ er x', e = .returned (.int .i64 er) ∧ ReR n Bt er x x' ∧ GL b0 W w' T lb d size n x' := by
  have hsl := hrow.lt
  have hkeep : ∀ w' x', GL b0 W w' T lb d size n x' → w'.heap[sb]? = W.heap[sb]? := fun w' x' g => by
    obtain ⟨_, _, _, k⟩ := g
    exact k.same sb hsl fun e => e.elim hsb fun e => by omega
  have hCW : ∀ w' x', GL b0 W w' T lb d size n x' → ∀ W', KeepA (fun y => T y ∨ W.heap.size ≤ y) W W' → CmB W' B1 B3 pb lb va vl vc ∧ RdB W' va Bt := fun _ _ _ => hC
  refine (steps_any sb (fun er w' => ∃ x', ReR n Bt er x x' ∧ GL b0 W w' T lb d size n x') [.func (.func 7) #[.pointer (some ⟨d, 0, none⟩)] #[], .func (.func 31) #[.pointer (some ⟨lb, 0, none⟩)] #[], .func (.func 46) #[] #[.pointer (some ⟨B1, 0, none⟩), .pointer (some ⟨B3, 0, none⟩)]] W 3 cap rfl (by omega) hrow ?_).mono ?_
  · refine ⟨_, _, _, rfl, enters_of Try.func7 (by kernel_rfl) rfl, (G_sync (GL.refl h) hb0 (by omega)).mono ?_⟩
    rintro e w1 ⟨e1, x1, rfl, h1, g1⟩
    have m1 := h1.more
    refine ⟨e1, rfl, hkeep _ _ g1, ?_⟩
    by_cases he1 : e1 = 0
    · subst he1
      refine .inr ⟨rfl, _, _, _, rfl, enters_of Try.func31 (by kernel_rfl) rfl, (G_reset g1 (by rw [m1.2.2.2.2.2.1]; exact hld) hb0 (by have := m1.2.2.1; omega) (by rw [m1.2.2.2.2.1]; omega)).mono ?_⟩
      rintro e w2 ⟨e2, x2, rfl, h2, g2⟩
      have m2 := h2.more
      refine ⟨e2, rfl, (hkeep _ _ g2).trans (hkeep _ _ g1).symm, ?_⟩
      by_cases he2 : e2 = 0
      · subst he2
        refine .inr ⟨rfl, _, _, _, rfl, enters_of Try.func46 (by kernel_rfl) rfl, (commit1_any b0 W w2 T lb d size n x2 g2 (by rw [(m2.2.2.2.2.2 rfl).1, m1.2.2.2.2.2.1]; exact hld) hb0 (by rw [(m2.2.2.2.2.2 rfl).2]; exact Nat.zero_le _) (by have q1 := m2.2.2.2.1; rw [m1.2.2.2.1] at q1; omega) (by have := m2.2.2.2.2.1; have := m1.2.2.2.2.1; omega) B1 B3 pb va Bt vl vc hm hC hsep).mono ?_⟩
        rintro e w3 ⟨e3, x3, rfl, h3, g3⟩
        refine ⟨e3, rfl, (hkeep _ _ g3).trans (hkeep _ _ g2).symm, ?_⟩
        have hR : ∃ x', ReR n Bt e3 x x' ∧ GL b0 W w3 T lb d size n x' := ⟨x3, ⟨0, x1, h1, .inr ⟨rfl, 0, x2, h2, .inr ⟨rfl, h3⟩⟩⟩, g3⟩
        by_cases he3 : e3 = 0
        · subst he3
          exact .inr ⟨rfl, hR⟩
        · exact .inl ⟨he3, hR⟩
      · exact .inl ⟨he2, x2, ⟨0, x1, h1, .inr ⟨rfl, e2, x2, h2, .inl ⟨he2, rfl, rfl⟩⟩⟩, g2⟩
    · exact .inl ⟨he1, x1, ⟨e1, x1, h1, .inl ⟨he1, rfl, rfl⟩⟩, g1⟩
  · rintro e w' ⟨er, rfl, x', h1, h2⟩
    exact ⟨er, x', rfl, h1, h2⟩
theorem pgRow_dd (d lb n room : Nat) (now was : Mt) (m : Nat) (op dd dd' : Bool) (h : now.roots.length = 8) (h2 : was.roots.length = 8) : (pgC d lb n room now was m op dd).toArray.setIfInBounds 28 (.bool dd') = (pgC d lb n room now was m op dd').toArray := by
  obtain ⟨c, f, g, r⟩ := now
  obtain ⟨c2, f2, g2, r2⟩ := was
  simp only at h h2
  match r, h with
  | [_, _, _, _, _, _, _, _], _ =>
    match r2, h2 with
    | [_, _, _, _, _, _, _, _], _ => (show _ = _; kernel_rfl)
theorem dirtyL_congr {α β : Type} (c : Nat) (f : Int → Option α) (g : Int → Option β) (h : ∀ k : Nat, k < c → (f (k : Int)).isSome = (g (k : Int)).isSome) : dirtyL c f = dirtyL c g := List.filter_congr fun k hk => h k (List.mem_range.1 hk)
/-- The batch so far. -/
structure BtA (w0 w : World) (B3 : Nat) (v : Value) (l : List UInt8) : Prop where
  kp : KeepA (fun y => y = B3) w0 w
  box : RowAt w B3 22 #[v]
  own : OwnB w w0.heap.size 5 v l
theorem yieldsIf_lookupP {ops : Array Oper} {S : World → Prop} {o : Oper} {act : Act} (hw : Region.wanted o (yielded ops act.tmps) = true) (x y : Operand) (ho : o.op = .lookup 75 x y false) {m : Nat} {f : Int → Option Value} (hS : ∀ w, S w → MapR w m intV f) (k : Int) (hx : act.eval x = .map (some m)) (hy : act.eval y = intV k) (v : Value) (hv : (f k).getD (.slice none 0 0) = v) : YieldsIf Try.prog ops S o v act :=
  Or.inl ⟨hw, fun w hw => by
    unfold execOp
    simp only [ho, hx, hy]
    rw [Sem.run_bind, run_lookup_map keyI Try.underlying75 (hS w hw) k (.slice none 0 0) (znilB _) false]
    subst hv
    rfl⟩
set_option maxRecDepth 100000 in
set_option maxHeartbeats 16000000 in
theorem pgCommit_open (b0 : Nat) (w : World) (F : Nat → Prop) (pb d size n room : Nat) (s : PS) (h : PgA b0 w F pb d size n room s) (hop : s.op = true) (hdd : s.dd = false) (hld : s.x.ld = false) (hok : s.now.Ok) (hr0 : 0 < room) (hrm : room ≤ 580)
    (htn : ∀ k v, s.tn k = some v → ∃ j : Nat, k = (j : Int) ∧ j < room) (hq : s.x.D.pcs.length ≤ 300000) (hbs : s.x.bs.length ≤ 800000) (hrun : s.x.run < 9223372036854775000) :
    Calls Try.prog 14 #[.pointer (some ⟨pb, 0, none⟩)] w fun e w' => ∃ er s', e = .returned (.int .i64 er) ∧ ComR n room er s s' ∧ PgR b0 w w' F pb d size n room s' := by
  obtain ⟨T, U, lb, m, f, h⟩ := h
  obtain ⟨K, hK⟩ : ∃ K : Ending → World → Prop, (fun (e : Ending) (w' : World) => ∃ er s', e = .returned (.int .i64 er) ∧ ComR n room er s s' ∧ PgR b0 w w' F pb d size n room s') = K := ⟨_, rfl⟩
  have HK : Hid (∀ er s' w', ComR n room er s s' → PgR b0 w w' F pb d size n room s' → K (.returned (.int .i64 er)) w') := Lib.hid fun er s' w' h1 h2 => by rw [← hK]; exact ⟨er, s', rfl, h1, h2⟩
  rw [hK]
  obtain ⟨g1, hg1⟩ : ∃ y, w.heap.size = y := ⟨_, rfl⟩
  obtain ⟨w1, hw1⟩ : ∃ y, w.alloc (.cells #[.pointer (some ⟨pb, 0, none⟩)] 30) = y := ⟨_, rfl⟩
  have hb1 : Below w.heap.size w w1 := by rw [← hw1]; exact below_alloc _
  have hR1 : RowAt w1 g1 30 #[.pointer (some ⟨pb, 0, none⟩)] := by rw [← hw1, ← hg1]; exact RowAt.new _ _ _
  have h1 := h.later hb1
  have hpp : w1.cell? ⟨g1, 0, none⟩ = some (.pointer (some ⟨pb, 0, none⟩)) := hR1.cell 0
  obtain ⟨c0, c1, c2, c3, c4, c5, c6, c26, c27, c28⟩ := h1.row.cells
  rw [hop] at c27
  rw [hdd] at c28
  have HN := Lib.hid (pgnone_any w1 pb d c0)
  have hnr : w1.rangeAt pb 4 (mtC s.now) := h1.row.now_range
  have HS7 : Hid (∀ W, Below w1.heap.size w1 W → W.cell? ⟨g1, 0, none⟩ = some (.pointer (some ⟨pb, 0, none⟩)) ∧ W.cell? ⟨pb, 26, none⟩ = some (.map (some m)) ∧ W.rangeAt pb 4 (mtC s.now)) := Lib.hid fun W hW => by
    have h2 := h1.later hW
    obtain ⟨e0, e1, e2, e3, e4, e5, e6, e26, e27, e28⟩ := h2.row.cells
    exact ⟨(RowAt.below hR1 hW).cell 0, e26, h2.row.now_range⟩
  have HS7m : Hid (∀ W W', Below w1.heap.size w1 W → W.grownBy W' (some m) → W'.cell? ⟨g1, 0, none⟩ = some (.pointer (some ⟨pb, 0, none⟩)) ∧ W'.cell? ⟨pb, 26, none⟩ = some (.map (some m)) ∧ W'.rangeAt pb 4 (mtC s.now)) := Lib.hid fun W W' hW hg => by
    have h2 := (h1.later hW).row.keep (keep_grown hg) h.mT.2.2.symm
    obtain ⟨e0, e1, e2, e3, e4, e5, e6, e26, e27, e28⟩ := h2.cells
    refine ⟨(row_keep (keep_grown hg) (RowAt.below hR1 hW) fun e => ?_).cell 0, e26, h2.now_range⟩
    have := h.turn.map.lt
    omega
  have HPG := Lib.hid (fun W => page_any s.now hok W)
  have HMR : Hid (MapR w1 m intV f) := h1.turn.map
  have hpl : (pageB s.now).length = 1024 := pageB_len hok.eight
  have HPL := Lib.hid hpl
  have hlen11 : (mtC s.now).length = 11 := by rw [mtC_len, hok.eight]
  have HL11 := Lib.hid hlen11
  have hF1 : ∀ y, F y → y < g1 := fun y hy => by rw [← hg1]; exact (h.lim y hy).2
  have hs1 : w1.heap.size = g1 + 1 := by rw [← hw1, ← hg1]; simp
  have HLAY : Hid (∀ w2 w3 g c, Below w1.heap.size w1 w2 → w1.heap.size ≤ g → g < w2.heap.size → 1024 ≤ c → RdB w2 (some ⟨g, 0, none⟩) (pageB s.now) → w2.grownBy w3 (some m) → MapR w3 m intV (fun j => if j = 0 then some (.slice (some ⟨g, 0, none⟩) 1024 c) else f j) →
      ∃ F3 T3 U3 f3, PgM b0 w3 F3 T3 U3 pb d size n room lb m f3 (s.laid 0 (pageB s.now)) ∧ (∀ y, F3 y → F y ∨ w1.heap.size ≤ y) ∧ KeepA F w1 w3 ∧ RowAt w3 g1 30 #[.pointer (some ⟨pb, 0, none⟩)]) := Lib.hid fun w2 w3 g c q1 q2 q3 q4 q5 q6 q7 => by
    obtain ⟨U', F3, h3, q8, q9⟩ := PgM.lay h1 q1 q2 q3 q4 hpl q5 q6 q7
    refine ⟨F3, T, U', _, h3, q8, q9, row_keep q9 hR1 fun e => ?_⟩
    have := hF1 _ e
    omega
  have HX : Hid (s.x.ld = false ∧ s.x.D.pcs.length ≤ 300000 ∧ s.x.bs.length ≤ 800000 ∧ s.x.run < 9223372036854775000) := ⟨hld, hq, hbs, hrun⟩
  have HTN := Lib.hid htn
  have HOP := Lib.hid (And.intro hop hdd)
  have HG1 : Hid (w.heap.size = g1 ∧ w1.heap.size = g1 + 1 ∧ (∀ y, F y → y < g1) ∧ KeepA F w w1) := ⟨hg1, hs1, hF1, KeepA.of_below hb1⟩
  have hb0 : b0 ≤ g1 := by
    have := h.lim pb (h.foot pb (.inr (.inr (.inl rfl))))
    have := hF1 pb (h.foot pb (.inr (.inr (.inl rfl))))
    omega
  have HB0 := Lib.hid hb0
  have hs0 := HS7.out w1 (Below.refl _ _)
  clear hK h h1 hb1 hR1 c0 c1 c2 c3 c4 c5 c6 hld hok htn hq hbs hrun hpl hlen11 hF1 hs1 hb0 hop hdd hnr
  go_enter Try.func14, Try.ntmps14
  try simp only [hw1, hg1]
  go_wp2_with fail
  try simp only [hw1, hg1]
  refine HN.out.mono ?_
  rintro _ _ ⟨rfl, rfl⟩
  go_upto_region 7 with fail
  refine wp_region_held_drew (S := fun W => W.cell? ⟨g1, 0, none⟩ = some (.pointer (some ⟨pb, 0, none⟩)) ∧ W.cell? ⟨pb, 26, none⟩ = some (.map (some m)) ∧ W.rangeAt pb 4 (mtC s.now)) (by kernel_rfl) hs0 (fun hHeld => ?_)
  refine wpAnyH_take (i := 0) (v := ?_) rfl (by kernel_rfl) (by kernel_rfl) (by kernel_rfl) (fun _ _ _ h => h) (Or.inl ⟨by rfl, ?_⟩) hHeld ?_
  rotate_left
  · intro w' hS'
    (try dsimp only at hS')
    obtain ⟨hp, h26, hnr⟩ := hS'
    go_simp
    try with_reducible rfl
  try simp only [List.getElem_toArray, List.getElem_cons_succ, List.getElem_cons_zero, Act.put, List.setIfInBounds_toArray, List.set_cons_zero, List.set_cons_succ]
  refine wpAnyH_take (i := 1) (v := ?_) rfl (by kernel_rfl) (by kernel_rfl) (by kernel_rfl) (fun _ _ _ h => h) (Or.inl ⟨by rfl, ?_⟩) hHeld ?_
  rotate_left
  · intro w' hS'
    (try dsimp only at hS')
    obtain ⟨hp, h26, hnr⟩ := hS'
    go_simp
    try with_reducible rfl
  try simp only [List.getElem_toArray, List.getElem_cons_succ, List.getElem_cons_zero, Act.put, List.setIfInBounds_toArray, List.set_cons_zero, List.set_cons_succ]
  refine wpAnyH_take (i := 2) (v := ?_) rfl (by kernel_rfl) (by kernel_rfl) (by kernel_rfl) (fun _ _ _ h => h) (Or.inl ⟨by rfl, ?_⟩) hHeld ?_
  rotate_left
  · intro w' hS'
    (try dsimp only at hS')
    obtain ⟨hp, h26, hnr⟩ := hS'
    go_simp
    try with_reducible rfl
  try simp only [List.getElem_toArray, List.getElem_cons_succ, List.getElem_cons_zero, Act.put, List.setIfInBounds_toArray, List.set_cons_zero, List.set_cons_succ]
  refine wpAnyH_take (i := 3) (v := ?_) rfl (by kernel_rfl) (by kernel_rfl) (by kernel_rfl) (fun _ _ _ h => h) (Or.inl ⟨by rfl, ?_⟩) hHeld ?_
  rotate_left
  · intro w' hS'
    (try dsimp only at hS')
    obtain ⟨hp, h26, hnr⟩ := hS'
    go_simp
    try with_reducible rfl
  try simp only [List.getElem_toArray, List.getElem_cons_succ, List.getElem_cons_zero, Act.put, List.setIfInBounds_toArray, List.set_cons_zero, List.set_cons_succ]
  refine wpAnyH_take (i := 4) (v := ?_) rfl (by kernel_rfl) (by kernel_rfl) (by kernel_rfl) (fun _ _ _ h => h) (Or.inl ⟨by rfl, ?_⟩) hHeld ?_
  rotate_left
  · intro w' hS'
    (try dsimp only at hS')
    obtain ⟨hp, h26, hnr⟩ := hS'
    go_simp
    try with_reducible rfl
  try simp only [List.getElem_toArray, List.getElem_cons_succ, List.getElem_cons_zero, Act.put, List.setIfInBounds_toArray, List.set_cons_zero, List.set_cons_succ]
  refine wpAnyH_take (i := 5) (v := ?_) rfl (by kernel_rfl) (by kernel_rfl) (by kernel_rfl) (fun _ _ _ h => h) (Or.inl ⟨by rfl, ?_⟩) hHeld ?_
  rotate_left
  · intro w' hS'
    (try dsimp only at hS')
    obtain ⟨hp, h26, hnr⟩ := hS'
    go_simp
    try with_reducible rfl
  try simp only [List.getElem_toArray, List.getElem_cons_succ, List.getElem_cons_zero, Act.put, List.setIfInBounds_toArray, List.set_cons_zero, List.set_cons_succ]
  refine wpAnyH_take (i := 6) (v := ?_) rfl (by kernel_rfl) (by kernel_rfl) (by kernel_rfl) (fun _ _ _ h => h) (Or.inl ⟨by rfl, ?_⟩) hHeld ?_
  rotate_left
  · intro w' hS'
    (try dsimp only at hS')
    obtain ⟨hp, h26, hnr⟩ := hS'
    go_simp
    try with_reducible rfl
  try simp only [List.getElem_toArray, List.getElem_cons_succ, List.getElem_cons_zero, Act.put, List.setIfInBounds_toArray, List.set_cons_zero, List.set_cons_succ]
  refine wpAnyH_take (i := 7) (v := .agg (mtC s.now).toArray) rfl (by kernel_rfl) (by kernel_rfl) (by kernel_rfl) (fun _ _ _ h => h) (yieldsIf_load_mid (by rfl) 72 (.tmp 27) rfl pb 4 rfl (mtC s.now) _ (fun w' hS' => hS'.2.2) Try.underlying72 rfl (by rw [HL11.out]; exact metaSize)) hHeld ?_
  try simp only [List.getElem_toArray, List.getElem_cons_succ, List.getElem_cons_zero, Act.put, List.setIfInBounds_toArray, List.set_cons_zero, List.set_cons_succ]
  refine wpAnyH_ready (rs := [8]) (by kernel_rfl) (by simp) (AllReadyH.cons rfl (fun K hK => ?_) AllReadyH.nil)
  try rw [if_pos (by rfl)]
  go_wp2_with fail
  refine (HPG.out _).mono ?_
  rintro _ w2 ⟨vb, rfl, ho, hb2⟩
  have hb2' : Below w1.heap.size w1 w2 := (drewN_below (Below.refl _ w1) 1).trans hb2
  obtain ⟨g, c, rfl, hgc, hga, hgb, hgr⟩ := OwnB.rd2 ho (fun e => by have := HPL.out; rw [e] at this; cases this)
  rw [HPL.out] at hgc ⊢
  have HG2 : Hid (w1.heap.size ≤ g ∧ g < w2.heap.size ∧ 1024 ≤ c ∧ RdB w2 (some ⟨g, 0, none⟩) (pageB s.now)) := ⟨hga, hgb, hgc, hgr⟩
  have HB2 := Lib.hid hb2'
  have hS2 := HS7.out w2 hb2'
  have HM2 : Hid (MapR w2 m intV f) := HMR.out.same (hb2'.block m HMR.out.lt)
  clear ho hb2 hb2' hgc hga hgb hgr
  refine hK.out _ _ hS2 (fun hHeld => ?_)
  clear hK K
  try simp only [List.getElem_toArray, List.getElem_cons_succ, List.getElem_cons_zero, Act.put, List.setIfInBounds_toArray, List.set_cons_zero, List.set_cons_succ]
  refine wpAnyH_ready (rs := [9]) (by kernel_rfl) (by simp) (AllReadyH.cons rfl (fun K hK => ?_) AllReadyH.nil)
  try rw [if_pos (by rfl)]
  refine wp_updateM keyI Try.underlying75 (.tmp 24) (.const (.int .i64 0)) (.tmp 29) rfl rfl (HM2.out.same rfl) 0 _ rfl rfl rfl ?_
  intro w3 hg3 hm3
  have hg3' : w2.grownBy w3 (some m) := by simpa using hg3
  have hS3 := HS7m.out w2 w3 HB2.out hg3'
  obtain ⟨F3, T3, U3, f3, h3, hF3, hk3, hR3⟩ := HLAY.out w2 w3 g c HB2.out HG2.out.1 HG2.out.2.1 HG2.out.2.2.1 HG2.out.2.2.2 hg3' hm3
  clear hg3 hg3' hm3
  refine hK.out _ _ hS3 (fun hHeld => ?_)
  clear hK K
  try simp only [List.getElem_toArray, List.getElem_cons_succ, List.getElem_cons_zero, Act.put, List.setIfInBounds_toArray, List.set_cons_zero, List.set_cons_succ]
  refine wpAnyH_done (by kernel_rfl) ?_ _
  obtain ⟨g3, hg3⟩ : ∃ y, w3.heap.size = y := ⟨_, rfl⟩
  obtain ⟨w4, hw4⟩ : ∃ y, w3.alloc (.cells #[.slice none 0 0] 22) = y := ⟨_, rfl⟩
  have hb4 : Below w3.heap.size w3 w4 := by rw [← hw4]; exact below_alloc _
  have HR4 : Hid (RowAt w4 g3 22 #[.slice none 0 0]) := by rw [← hw4, ← hg3]; exact RowAt.new _ _ _
  have hp4 : w4.cell? ⟨g1, 0, none⟩ = some (.pointer (some ⟨pb, 0, none⟩)) := (RowAt.below hR3 hb4).cell 0
  have h4 := h3.later hb4
  obtain ⟨-, -, -, -, -, -, -, c26, -, -⟩ := h4.row.cells
  obtain ⟨tn0, htn0⟩ : ∃ y, s.tn0 = y := ⟨_, rfl⟩
  have htl : (s.laid 0 (pageB s.now)).tn = tn0 := by rw [← htn0]; rfl
  have hiso : ∀ k : Nat, (f3 (k : Int)).isSome = (tn0 (k : Int)).isSome := fun k => by
    rw [← htl]
    cases hf : f3 (k : Int) with
    | none => rw [h3.turn.no _ hf]; rfl
    | some v => obtain ⟨B, a, c, q1, -⟩ := h3.turn.yes _ v hf; rw [q1]; rfl
  have hkey : ∀ k v, f3 k = some v → ∃ j : Nat, k = (j : Int) ∧ j < room := fun k v hf => by
    obtain ⟨B, a, c, q1, -⟩ := h3.turn.yes _ v hf
    rw [htl, ← htn0] at q1
    by_cases e : k = 0
    · exact ⟨0, e, hr0⟩
    · exact HTN.out k B (by unfold PS.tn0 at q1; rw [if_neg e] at q1; exact q1)
  have hdl : dirtyL room f3 = dirtyL room tn0 := dirtyL_congr _ _ _ fun k _ => hiso k
  have HSO := Lib.hid (sorted_any w4 m f3 h4.turn.map room (by omega) hkey)
  rw [hdl] at HSO
  have HKE := Lib.hid (keys_any (some m) w4)
  obtain ⟨L, hL⟩ : ∃ y, dirtyL room tn0 = y := ⟨_, rfl⟩
  rw [hL] at HSO
  have HDL : Hid (L.length ≤ room) := by rw [← hL]; exact dirtyL_len _ _
  have HLM : Hid (∀ k (hk : k < L.length), ∃ B a c, tn0 ((L[k] : Nat) : Int) = some B ∧ f3 ((L[k] : Nat) : Int) = some (.slice a 1024 c) ∧ 1024 ≤ c ∧ B.length = 1024 ∧ L[k] < room ∧ (∀ b off, a = some ⟨b, off, none⟩ → U3 b) ∧ ∀ W, KeepA (fun y => y = g3) w3 W → RdB W a B) := Lib.hid fun k hk => by
    have hm : L[k] ∈ dirtyL room tn0 := by rw [hL]; exact List.getElem_mem hk
    obtain ⟨q1, q2⟩ := mem_dirtyL.1 hm
    rw [← hiso] at q2
    obtain ⟨v, hv⟩ := Option.isSome_iff_exists.1 q2
    obtain ⟨B, a, c, p1, rfl, p3, p4, p5, p6⟩ := h3.turn.yes _ v hv
    rw [htl] at p1
    refine ⟨B, a, c, p1, hv, p3, p4, q1, p6, fun W hW => Rd.keepA p5 hW fun b off e _ e2 => ?_⟩
    have := (h3.lim b (h3.foot b (.inr (.inl (p6 b off e))))).2
    omega
  have HBL : Hid (s.batch room = batchB L tn0 ∧ ∀ k, (batchB (L.take k) tn0).length ≤ 1028 * k) := by
    refine ⟨by unfold PS.batch; rw [htn0, hL], fun k => ?_⟩
    have hall : ∀ (l : List Nat), (∀ x ∈ l, x ∈ L) → (batchB l tn0).length = 1028 * l.length := fun l hl => by
      induction l with
      | nil => rfl
      | cons x r ih =>
        have hx := hl x List.mem_cons_self
        obtain ⟨i, hi, hxi⟩ := List.getElem_of_mem hx
        obtain ⟨B, a, c, p1, -, -, p4, -⟩ := HLM.out i hi
        rw [hxi] at p1
        have hr := ih fun y hy => hl y (List.mem_cons_of_mem _ hy)
        unfold batchB at hr ⊢
        rw [List.flatMap_cons, List.length_append, hr, List.length_append, lowB_length, p1, List.length_cons]
        show 4 + B.length + _ = _
        omega
    rw [hall (L.take k) fun x hx => List.mem_of_mem_take hx, List.length_take]
    have : min k L.length ≤ k := Nat.min_le_left _ _
    omega
  obtain ⟨N, hN⟩ : ∃ y, L.length = y := ⟨_, rfl⟩
  have HLN := Lib.hid hN
  have hNr : N ≤ room := by rw [← hN]; exact HDL.out
  have HM4 : Hid (MapR w4 m intV f3) := h4.turn.map
  have HW3 : Hid (w3.heap.size = g3 ∧ w4.heap.size = g3 + 1 ∧ g1 + 1 ≤ g3 ∧ (∀ y, F3 y → F y ∨ g1 + 1 ≤ y) ∧ (∀ y, F3 y → y < g3) ∧ m < g3 ∧ pb < g3 ∧ ¬ F g1) := by
    have := hk3.size
    have := HG1.out.2.1
    refine ⟨hg3, by rw [← hw4, ← hg3]; simp, by omega, by rw [← HG1.out.2.1]; exact hF3, fun y hy => by rw [← hg3]; exact (h3.lim y hy).2, by rw [← hg3]; exact h3.turn.map.lt, by rw [← hg3]; exact h3.row.row.lt, fun e => by have := HG1.out.2.2.1 _ e; omega⟩
  have HKF : Hid (KeepA F w w3) := HG1.out.2.2.2.trans hk3
  have H3 := Lib.hid h3
  have HR3 := Lib.hid hR3
  have HB4 := Lib.hid hb4
  have HTL := Lib.hid htl
  clear hF3 hk3 h3 hR3 hb4 h4 hiso hkey hdl hL htl htn0 hN hS2 hS3 hs0 hpp c27 c28 c26
  have c26 : w4.cell? ⟨pb, 26, none⟩ = some (.map (some m)) := by
    obtain ⟨-, -, -, -, -, -, -, c26, -, -⟩ := (H3.out.later HB4.out).row.cells
    exact c26
  go_wp2_with fail
  try simp only [hw4, hg3]
  refine HKE.out.mono ?_
  rintro _ _ ⟨rfl, rfl⟩
  go_wp2_with fail
  refine HSO.out.mono ?_
  rintro _ w6 ⟨v6, rfl, ho6, hb6⟩
  obtain ⟨sa, sc, rfl, hsc, hsr⟩ := ho6.rd
  have HSB : Hid (∀ b off, sa = some ⟨b, off, none⟩ → g3 + 1 ≤ b) := Lib.hid fun b off e => by
    rcases ho6.2 with ⟨e1, -⟩ | ⟨g, cap', cur, e1, hb, -⟩
    · simp only [Value.slice.injEq] at e1
      rw [e1.1] at e
      cases e
    · simp only [Value.slice.injEq] at e1
      rw [e1.1] at e
      cases e
      have := HW3.out.2.1
      omega
  rw [List.length_map, HLN.out] at hsc ⊢
  have HO6 := Lib.hid hsr
  have HB6 := Lib.hid hb6
  clear ho6 hb6 hsr hsc
  have hw46 : Below w4.heap.size w4 w6 := HB6.out
  have h06 : KeepA (fun y => y = g3) w3 w6 := KeepA.of_below (HB4.out.trans (HB6.out.mono HB4.out.size))
  have HR6 : Hid (RowAt w6 g3 22 #[.slice none 0 0]) := RowAt.below HR4.out HB6.out
  have H06 := Lib.hid h06
  clear h06 hw46 hp4 c26
  go_wp2
  go_loopw [37] (fun iv wr => ∃ (k : Nat) (v : Value), k ≤ N ∧ iv = .int .i64 (k : Int) ∧ BtA w6 wr g3 v (batchB (L.take k) tn0)) (fun iv _ => N - (intOf iv).toNat)
  case atStart => exact ⟨0, .slice none 0 0, Nat.zero_le _, rfl, KeepA.refl _ _, HR6.out, OwnB.nil _ _ _⟩
  case round =>
    obtain ⟨k, v, hk, rfl, hat⟩ := hrel
    have HAT := Lib.hid hat
    clear hat
    have HKW : Hid (KeepA (fun y => y = g3) w3 wr) := H06.out.trans HAT.out.kp
    by_cases hkn : k < N
    · have hkl : k < L.length := by rw [HLN.out]; exact hkn
      obtain ⟨PB, pa, pc, htk, hfk, hpc, hpbl, hkr, -, hprd⟩ := HLM.out k hkl
      obtain ⟨y, hy⟩ : ∃ y, L[k] = y := ⟨_, rfl⟩
      rw [hy] at htk hfk hkr
      have hsrd : RdI wr sa (L.map fun j : Nat => (j : Int)) := Rd.keepA HO6.out HAT.out.kp fun b off e _ e2 => by
        have := HSB.out b off e
        omega
      obtain ⟨sb, soff, rfl, hslt, hsc⟩ := hsrd.at (by rw [List.length_map]; omega)
      have hcy : wr.cell? ⟨sb, soff + k, none⟩ = some (.int .i64 (y : Int)) := by
        have := hsc k (by rw [List.length_map]; exact hkl)
        rw [List.getElem_map, hy] at this
        exact this
      have HFV : Hid ((f3 (y : Int)).getD (.slice none 0 0) = .slice pa 1024 pc) := by show _ = _; rw [hfk]; rfl
      have HMV : Hid (batchB (L.take (k + 1)) tn0 = batchB (L.take k) tn0 ++ lowB y 4 ++ PB) := by
        show _ = _
        rw [← List.take_append_getElem hkl, batchB_snoc, hy, htk, List.append_assoc]
        rfl
      have HPR := Lib.hid (And.intro hpbl hprd)
      have HBK : Hid ((batchB (L.take k) tn0).length ≤ 600000) := by
        have := HBL.out.2 k
        show _ ≤ _
        omega
      obtain ⟨B, hB⟩ : ∃ y, batchB (L.take k) tn0 = y := ⟨_, rfl⟩
      rw [hB] at HMV HBK
      have HAT2 : Hid (BtA w6 wr g3 v B) := by rw [← hB]; exact HAT.out
      obtain ⟨va, vn, vc, hvv⟩ : ∃ a n c, v = .slice a n c := by
        obtain ⟨a, c, e, -⟩ := HAT2.out.own.rd
        exact ⟨a, _, c, e⟩
      subst hvv
      obtain ⟨n9, hn9⟩ : ∃ z, (B ++ lowB y 4 ++ PB).length = z := ⟨_, rfl⟩
      have HN9 := Lib.hid hn9
      clear hn9
      have HS12 : Hid (∀ W, KeepA (fun x => x = g3) w3 W → W.cell? ⟨g1, 0, none⟩ = some (.pointer (some ⟨pb, 0, none⟩)) ∧ W.cell? ⟨pb, 26, none⟩ = some (.map (some m)) ∧ MapR W m intV f3) := Lib.hid fun W hW => by
        obtain ⟨q1, q2, q3, q4, q5, q6, q7, q8⟩ := HW3.out
        have hm := H3.out.keep hW fun x hx e => by have := q5 x hx; omega
        obtain ⟨-, -, -, -, -, -, -, c26, -, -⟩ := hm.row.cells
        exact ⟨(row_keep hW HR3.out fun e => by omega).cell 0, c26, hm.turn.map⟩
      have HLW := Lib.hid (plow_any y (by omega))
      have hs12 := HS12.out wr HKW.out
      have hkI : (k : Int) < (N : Int) := by omega
      have hlc : ∀ W, Below wr.heap.size wr W → W.cell? ⟨g3, 0, none⟩ = some (.slice va vn vc) := fun W hW => (RowAt.below HAT2.out.box hW).cell 0
      have HLC := Lib.hid hlc
      have HYR : Hid (y ≤ 100000) := by show _ ≤ _; omega
      clear hlc hsc hsrd hy htk hfk hpbl hprd hkr hB HAT
      go_upto_region 12 with fail
      refine wp_region_held_drew (S := fun W => W.cell? ⟨g1, 0, none⟩ = some (.pointer (some ⟨pb, 0, none⟩)) ∧ W.cell? ⟨pb, 26, none⟩ = some (.map (some m)) ∧ MapR W m intV f3) (by kernel_rfl) hs12 (fun hHeld => ?_)
      refine wpAnyH_take (i := 1) (v := ?_) rfl (by kernel_rfl) (by kernel_rfl) (by kernel_rfl) (fun _ _ _ h => h) (Or.inl ⟨by rfl, ?_⟩) hHeld ?_
      rotate_left
      · intro w' hS'
        (try dsimp only at hS')
        obtain ⟨hp, h26, -⟩ := hS'
        go_simp
        try with_reducible rfl
      try simp only [List.getElem_toArray, List.getElem_cons_succ, List.getElem_cons_zero, Act.put, List.setIfInBounds_toArray, List.set_cons_zero, List.set_cons_succ]
      refine wpAnyH_take (i := 4) (v := ?_) rfl (by kernel_rfl) (by kernel_rfl) (by kernel_rfl) (fun _ _ _ h => h) (Or.inl ⟨by rfl, ?_⟩) hHeld ?_
      rotate_left
      · intro w' hS'
        (try dsimp only at hS')
        obtain ⟨hp, h26, -⟩ := hS'
        go_simp
        try with_reducible rfl
      try simp only [List.getElem_toArray, List.getElem_cons_succ, List.getElem_cons_zero, Act.put, List.setIfInBounds_toArray, List.set_cons_zero, List.set_cons_succ]
      refine wpAnyH_take (i := 5) (v := ?_) rfl (by kernel_rfl) (by kernel_rfl) (by kernel_rfl) (fun _ _ _ h => h) (Or.inl ⟨by rfl, ?_⟩) hHeld ?_
      rotate_left
      · intro w' hS'
        (try dsimp only at hS')
        obtain ⟨hp, h26, -⟩ := hS'
        go_simp
        try with_reducible rfl
      try simp only [List.getElem_toArray, List.getElem_cons_succ, List.getElem_cons_zero, Act.put, List.setIfInBounds_toArray, List.set_cons_zero, List.set_cons_succ]
      refine wpAnyH_take (i := 6) (v := ?_) rfl (by kernel_rfl) (by kernel_rfl) (by kernel_rfl) (fun _ _ _ h => h) (Or.inl ⟨by rfl, ?_⟩) hHeld ?_
      rotate_left
      · intro w' hS'
        (try dsimp only at hS')
        obtain ⟨hp, h26, -⟩ := hS'
        go_simp
        try with_reducible rfl
      try simp only [List.getElem_toArray, List.getElem_cons_succ, List.getElem_cons_zero, Act.put, List.setIfInBounds_toArray, List.set_cons_zero, List.set_cons_succ]
      refine wpAnyH_take (i := 7) (v := ?_) rfl (by kernel_rfl) (by kernel_rfl) (by kernel_rfl) (fun _ _ _ h => h) (Or.inl ⟨by rfl, ?_⟩) hHeld ?_
      rotate_left
      · intro w' hS'
        (try dsimp only at hS')
        obtain ⟨hp, h26, -⟩ := hS'
        go_simp
        try with_reducible rfl
      try simp only [List.getElem_toArray, List.getElem_cons_succ, List.getElem_cons_zero, Act.put, List.setIfInBounds_toArray, List.set_cons_zero, List.set_cons_succ]
      refine wpAnyH_take (i := 8) (v := ?_) rfl (by kernel_rfl) (by kernel_rfl) (by kernel_rfl) (fun _ _ _ h => h) (Or.inl ⟨by rfl, ?_⟩) hHeld ?_
      rotate_left
      · intro w' hS'
        (try dsimp only at hS')
        obtain ⟨hp, h26, -⟩ := hS'
        go_simp
        try with_reducible rfl
      try simp only [List.getElem_toArray, List.getElem_cons_succ, List.getElem_cons_zero, Act.put, List.setIfInBounds_toArray, List.set_cons_zero, List.set_cons_succ]
      refine wpAnyH_take (i := 9) (v := _) rfl (by kernel_rfl) (by kernel_rfl) (by kernel_rfl) (fun _ _ _ h => h) (yieldsIf_lookupP (S := fun W => W.cell? ⟨g1, 0, none⟩ = some (.pointer (some ⟨pb, 0, none⟩)) ∧ W.cell? ⟨pb, 26, none⟩ = some (.map (some m)) ∧ MapR W m intV f3) (by rfl) (.tmp 48) (.tmp 49) rfl (fun _ h => h.2.2) (y : Int) rfl rfl _ HFV.out) hHeld ?_
      try simp only [List.getElem_toArray, List.getElem_cons_succ, List.getElem_cons_zero, Act.put, List.setIfInBounds_toArray, List.set_cons_zero, List.set_cons_succ]
      refine wpAnyH_ready (rs := [0, 2]) (by kernel_rfl) (by simp) (AllReadyH.cons rfl (fun K hK => ?_) (AllReadyH.cons rfl (fun K hK => ?_) AllReadyH.nil))
      · try rw [if_pos (by rfl)]
        have hc3 : World.cell? wr.drew ⟨g3, 0, none⟩ = some (.slice va vn vc) := HLC.out _ (drewN_below (Below.refl _ wr) 1)
        go_wp2_with fail
        refine hK.out _ _ hHeld (fun hHeld => ?_)
        clear hK K hc3
        try simp only [List.getElem_toArray, List.getElem_cons_succ, List.getElem_cons_zero, Act.put, List.setIfInBounds_toArray, List.set_cons_zero, List.set_cons_succ]
        refine wpAnyH_ready (rs := [2]) (by kernel_rfl) (by simp) (AllReadyH.cons rfl (fun K hK => ?_) AllReadyH.nil)
        try rw [if_pos (by rfl)]
        try rw [if_pos (by rfl)]
        go_wp2_with fail
        refine (HLW.out _).mono ?_
        rintro _ w7 ⟨vb, rfl, ho7, hb7⟩
        obtain ⟨la, lc, rfl, hlc, hlr⟩ := OwnB.rd ho7
        rw [lowB_length] at hlc ⊢
        have hb7' : Below wr.heap.size wr w7 := (drewN_below (Below.refl _ wr) 1).trans hb7
        have HB7 := Lib.hid hb7'
        have HLR := Lib.hid hlr
        have hs7 := HS12.out w7 (HKW.out.trans (KeepA.of_below hb7'))
        clear ho7 hb7 hb7' hlc hlr
        refine hK.out _ _ hs7 (fun hHeld => ?_)
        clear hK K
        try simp only [List.getElem_toArray, List.getElem_cons_succ, List.getElem_cons_zero, Act.put, List.setIfInBounds_toArray, List.set_cons_zero, List.set_cons_succ]
        refine wpAnyH_ready (rs := [3]) (by kernel_rfl) (by simp) (AllReadyH.cons rfl (fun K hK => ?_) AllReadyH.nil)
        try rw [if_pos (by rfl)]
        try rw [if_pos (by rfl)]
        refine wp_appendB (.tmp 41) (.tmp 43) rfl eltB w6.heap.size _ B rfl la 4 lc (lowB y 4) rfl (own_keep (KeepA.of_below (X := fun _ => False) HB7.out) HAT2.out.own fun _ _ h => h) (by rw [lowB_length]) HLR.out (by rw [lowB_length]; have := HBK.out; omega) (Nat.le_trans HAT2.out.kp.size HB7.out.size) ?_
        intro v8 w8 ho8 hn8
        obtain ⟨a8, c8, rfl, h8l, -⟩ := OwnB.rd ho8
        have HO8 := Lib.hid ho8
        have hk8 : KeepA (fun x => w6.heap.size ≤ x) w7 w8 := (keep_grownO hn8.1).mono fun x e => (World.ownsRow.lt HAT2.out.own x e).1
        have HK8 := Lib.hid hk8
        have HF8 : Hid (KeepA (fun x => x = g3) w3 w8) := by
          refine (HKW.out.trans (KeepA.of_below HB7.out)).trans2 hk8 fun x hx e => ?_
          have := H06.out.size
          omega
        have hs8 := HS12.out w8 HF8.out
        clear ho8 hn8 hk8
        refine hK.out _ _ hs8 (fun hHeld => ?_)
        clear hK K
        try simp only [List.getElem_toArray, List.getElem_cons_succ, List.getElem_cons_zero, Act.put, List.setIfInBounds_toArray, List.set_cons_zero, List.set_cons_succ]
        refine wpAnyH_ready (rs := [10]) (by kernel_rfl) (by simp) (AllReadyH.cons rfl (fun K hK => ?_) AllReadyH.nil)
        try rw [if_pos (by rfl)]
        refine wp_appendB (.tmp 44) (.tmp 50) rfl eltB w6.heap.size _ (B ++ lowB y 4) rfl pa 1024 pc PB rfl HO8.out (by rw [HPR.out.1]) (HPR.out.2 w8 HF8.out) (by rw [List.length_append, lowB_length, HPR.out.1]; have := HBK.out; omega) (Nat.le_trans HAT2.out.kp.size (Nat.le_trans HB7.out.size HK8.out.size)) ?_
        intro v9 w9 ho9 hn9
        obtain ⟨a9, c9, e9, h9l, -⟩ := OwnB.rd ho9
        rw [HN9.out] at e9
        subst e9
        have HO9 := Lib.hid ho9
        have hk9 : KeepA (fun x => w6.heap.size ≤ x) w8 w9 := (keep_grownO hn9.1).mono fun x e => (World.ownsRow.lt HO8.out x e).1
        have HF9 : Hid (KeepA (fun x => x = g3) w3 w9) := by
          refine HF8.out.trans2 hk9 fun x hx e => ?_
          have := H06.out.size
          omega
        have HK9 : Hid (KeepA (fun x => x = g3) w6 w9) := by
          refine ((HAT2.out.kp.trans (KeepA.of_below HB7.out)).trans2 HK8.out fun x hx e => ?_).trans2 hk9 fun x hx e => ?_
          · omega
          · omega
        have HX9 : Hid (RowAt w9 g3 22 #[.slice va vn vc]) := by
          have q : g3 < w6.heap.size := HR6.out.lt
          refine row_keep hk9 (row_keep HK8.out (RowAt.below HAT2.out.box HB7.out) fun e => ?_) fun e => ?_
          · omega
          · omega
        have hs9 := HS12.out w9 HF9.out
        have hc9 := HX9.out.cell 0
        have hf9 := HX9.out.frozen 0
        clear ho9 hn9 hk9
        refine hK.out _ _ hs9 (fun hHeld => ?_)
        clear hK K
        try simp only [List.getElem_toArray, List.getElem_cons_succ, List.getElem_cons_zero, Act.put, List.setIfInBounds_toArray, List.set_cons_zero, List.set_cons_succ]
        refine wpAnyH_ready (rs := [11]) (by kernel_rfl) (by simp) (AllReadyH.cons rfl (fun K hK => ?_) AllReadyH.nil)
        try rw [if_pos (by rfl)]
        simp only [List.getElem?_toArray, List.getElem?_cons_zero] at hc9
        go_wp2_with fail
        have HE : Hid (KeepA (fun x => x = g3) w9 (w9.setCell ⟨g3, 0, none⟩ (.slice a9 n9 c9))) := keep_grown (grownBy_setCellAt w9 g3 0 _)
        have hsE := HS12.out _ (HF9.out.trans HE.out)
        refine hK.out _ _ hsE (fun hHeld => ?_)
        clear hK K
        try simp only [List.getElem_toArray, List.getElem_cons_succ, List.getElem_cons_zero, Act.put, List.setIfInBounds_toArray, List.set_cons_zero, List.set_cons_succ]
        refine wpAnyH_done (by kernel_rfl) ?_ _
        go_wp2
        refine ⟨⟨k + 1, .slice a9 n9 c9, by omega, by go_num, HK9.out.trans HE.out, RowAt.set (cs := #[_]) HX9.out 0 _, ?_⟩, by simp [intOf]; omega⟩
        rw [HMV.out]
        refine own_keep HE.out HO9.out fun g e e2 => ?_
        have := (World.ownsRow.lt HO9.out g e).1
        have q : g3 < w6.heap.size := HR6.out.lt
        omega
      · try rw [if_pos (by rfl)]
        go_wp2_with fail
        refine (HLW.out _).mono ?_
        rintro _ w7 ⟨vb, rfl, ho7, hb7⟩
        obtain ⟨la, lc, rfl, hlc, hlr⟩ := OwnB.rd ho7
        rw [lowB_length] at hlc ⊢
        have hb7' : Below wr.heap.size wr w7 := (drewN_below (Below.refl _ wr) 1).trans hb7
        have HB7 := Lib.hid hb7'
        have HLR := Lib.hid hlr
        have hs7 := HS12.out w7 (HKW.out.trans (KeepA.of_below hb7'))
        clear ho7 hb7 hb7' hlc hlr
        refine hK.out _ _ hs7 (fun hHeld => ?_)
        clear hK K
        try simp only [List.getElem_toArray, List.getElem_cons_succ, List.getElem_cons_zero, Act.put, List.setIfInBounds_toArray, List.set_cons_zero, List.set_cons_succ]
        refine wpAnyH_ready (rs := [0]) (by kernel_rfl) (by simp) (AllReadyH.cons rfl (fun K hK => ?_) AllReadyH.nil)
        try rw [if_pos (by rfl)]
        try rw [if_pos (by rfl)]
        have hc3 : World.cell? w7 ⟨g3, 0, none⟩ = some (.slice va vn vc) := HLC.out _ HB7.out
        go_wp2_with fail
        refine hK.out _ _ hHeld (fun hHeld => ?_)
        clear hK K hc3
        try simp only [List.getElem_toArray, List.getElem_cons_succ, List.getElem_cons_zero, Act.put, List.setIfInBounds_toArray, List.set_cons_zero, List.set_cons_succ]
        refine wpAnyH_ready (rs := [3]) (by kernel_rfl) (by simp) (AllReadyH.cons rfl (fun K hK => ?_) AllReadyH.nil)
        try rw [if_pos (by rfl)]
        try rw [if_pos (by rfl)]
        refine wp_appendB (.tmp 41) (.tmp 43) rfl eltB w6.heap.size _ B rfl la 4 lc (lowB y 4) rfl (own_keep (KeepA.of_below (X := fun _ => False) HB7.out) HAT2.out.own fun _ _ h => h) (by rw [lowB_length]) HLR.out (by rw [lowB_length]; have := HBK.out; omega) (Nat.le_trans HAT2.out.kp.size HB7.out.size) ?_
        intro v8 w8 ho8 hn8
        obtain ⟨a8, c8, rfl, h8l, -⟩ := OwnB.rd ho8
        have HO8 := Lib.hid ho8
        have hk8 : KeepA (fun x => w6.heap.size ≤ x) w7 w8 := (keep_grownO hn8.1).mono fun x e => (World.ownsRow.lt HAT2.out.own x e).1
        have HK8 := Lib.hid hk8
        have HF8 : Hid (KeepA (fun x => x = g3) w3 w8) := by
          refine (HKW.out.trans (KeepA.of_below HB7.out)).trans2 hk8 fun x hx e => ?_
          have := H06.out.size
          omega
        have hs8 := HS12.out w8 HF8.out
        clear ho8 hn8 hk8
        refine hK.out _ _ hs8 (fun hHeld => ?_)
        clear hK K
        try simp only [List.getElem_toArray, List.getElem_cons_succ, List.getElem_cons_zero, Act.put, List.setIfInBounds_toArray, List.set_cons_zero, List.set_cons_succ]
        refine wpAnyH_ready (rs := [10]) (by kernel_rfl) (by simp) (AllReadyH.cons rfl (fun K hK => ?_) AllReadyH.nil)
        try rw [if_pos (by rfl)]
        refine wp_appendB (.tmp 44) (.tmp 50) rfl eltB w6.heap.size _ (B ++ lowB y 4) rfl pa 1024 pc PB rfl HO8.out (by rw [HPR.out.1]) (HPR.out.2 w8 HF8.out) (by rw [List.length_append, lowB_length, HPR.out.1]; have := HBK.out; omega) (Nat.le_trans HAT2.out.kp.size (Nat.le_trans HB7.out.size HK8.out.size)) ?_
        intro v9 w9 ho9 hn9
        obtain ⟨a9, c9, e9, h9l, -⟩ := OwnB.rd ho9
        rw [HN9.out] at e9
        subst e9
        have HO9 := Lib.hid ho9
        have hk9 : KeepA (fun x => w6.heap.size ≤ x) w8 w9 := (keep_grownO hn9.1).mono fun x e => (World.ownsRow.lt HO8.out x e).1
        have HF9 : Hid (KeepA (fun x => x = g3) w3 w9) := by
          refine HF8.out.trans2 hk9 fun x hx e => ?_
          have := H06.out.size
          omega
        have HK9 : Hid (KeepA (fun x => x = g3) w6 w9) := by
          refine ((HAT2.out.kp.trans (KeepA.of_below HB7.out)).trans2 HK8.out fun x hx e => ?_).trans2 hk9 fun x hx e => ?_
          · omega
          · omega
        have HX9 : Hid (RowAt w9 g3 22 #[.slice va vn vc]) := by
          have q : g3 < w6.heap.size := HR6.out.lt
          refine row_keep hk9 (row_keep HK8.out (RowAt.below HAT2.out.box HB7.out) fun e => ?_) fun e => ?_
          · omega
          · omega
        have hs9 := HS12.out w9 HF9.out
        have hc9 := HX9.out.cell 0
        have hf9 := HX9.out.frozen 0
        clear ho9 hn9 hk9
        refine hK.out _ _ hs9 (fun hHeld => ?_)
        clear hK K
        try simp only [List.getElem_toArray, List.getElem_cons_succ, List.getElem_cons_zero, Act.put, List.setIfInBounds_toArray, List.set_cons_zero, List.set_cons_succ]
        refine wpAnyH_ready (rs := [11]) (by kernel_rfl) (by simp) (AllReadyH.cons rfl (fun K hK => ?_) AllReadyH.nil)
        try rw [if_pos (by rfl)]
        simp only [List.getElem?_toArray, List.getElem?_cons_zero] at hc9
        go_wp2_with fail
        have HE : Hid (KeepA (fun x => x = g3) w9 (w9.setCell ⟨g3, 0, none⟩ (.slice a9 n9 c9))) := keep_grown (grownBy_setCellAt w9 g3 0 _)
        have hsE := HS12.out _ (HF9.out.trans HE.out)
        refine hK.out _ _ hsE (fun hHeld => ?_)
        clear hK K
        try simp only [List.getElem_toArray, List.getElem_cons_succ, List.getElem_cons_zero, Act.put, List.setIfInBounds_toArray, List.set_cons_zero, List.set_cons_succ]
        refine wpAnyH_done (by kernel_rfl) ?_ _
        go_wp2
        refine ⟨⟨k + 1, .slice a9 n9 c9, by omega, by go_num, HK9.out.trans HE.out, RowAt.set (cs := #[_]) HX9.out 0 _, ?_⟩, by simp [intOf]; omega⟩
        rw [HMV.out]
        refine own_keep HE.out HO9.out fun g e e2 => ?_
        have := (World.ownsRow.lt HO9.out g e).1
        have q : g3 < w6.heap.size := HR6.out.lt
        omega
    · have hkN : k = N := by omega
      subst hkN
      obtain ⟨va, vc, rfl, hvl, hvr⟩ := OwnB.rd HAT.out.own
      obtain ⟨Bt, hBt⟩ : ∃ z, batchB (L.take k) tn0 = z := ⟨_, rfl⟩
      have HBT : Hid (s.batch room = Bt) := by show _ = _; rw [HBL.out.1, ← hBt, ← HLN.out, List.take_length]
      have HBLn : Hid (Bt.length ≤ 600000) := by
        have := HBL.out.2 k
        rw [hBt] at this
        show _ ≤ _
        omega
      have hat2 : BtA w6 wr g3 (.slice va (batchB (L.take k) tn0).length vc) Bt := by rw [← hBt]; exact HAT.out
      rw [hBt] at hat2 hvr hvl
      obtain ⟨vl, hvle⟩ : ∃ z, Bt.length = z := ⟨_, rfl⟩
      have HVL := Lib.hid hvle
      rw [hvle] at hat2 hvl
      have hvlc : Hid (vl ≤ vc) := Lib.hid hvl
      have HPM : Hid (PgM b0 wr F3 T3 U3 pb d size n room lb m f3 (s.laid 0 (pageB s.now))) := Lib.hid (H3.out.keep HKW.out fun x hx e => by have := HW3.out.2.2.2.2.1 x hx; omega)
      have HVB : Hid (∀ ad, va = some ad → g3 < ad.block ∧ ad.block < wr.heap.size) := Lib.hid fun ad e => by
        subst e
        have ho := hat2.own
        have h6 : g3 < w6.heap.size := HR6.out.lt
        rcases ho.2 with ⟨e1, -⟩ | ⟨g, cap', cur, e1, hb, hgl, -⟩
        · simp only [Value.slice.injEq] at e1
          cases e1.1
        · simp only [Value.slice.injEq] at e1
          cases e1.1
          exact ⟨Nat.lt_of_lt_of_le h6 hb, (Array.getElem?_eq_some_iff.1 hgl).1⟩
      have HNF : Hid (∀ y, F3 y → y < g3 ∧ y ≠ g1) := Lib.hid fun y hy => by
        obtain ⟨q1, q2, q3, q4, q5, q6, q7, q8⟩ := HW3.out
        refine ⟨q5 y hy, fun e => ?_⟩
        subst e
        rcases q4 y hy with e | e
        · exact q8 e
        · omega
      have HBX : Hid (∀ W, KeepA F3 wr W → W.cell? ⟨g1, 0, none⟩ = some (.pointer (some ⟨pb, 0, none⟩)) ∧ W.cell? ⟨g3, 0, none⟩ = some (.slice va vl vc) ∧ RdB W va Bt) := Lib.hid fun W hW => by
        refine ⟨(row_keep hW (row_keep HKW.out HR3.out fun e => by have := HW3.out.2.2.1; omega) fun e => (HNF.out g1 e).2 rfl).cell 0, (row_keep hW hat2.box fun e => by have := (HNF.out g3 e).1; omega).cell 0, Rd.keepA hvr hW fun b off e _ e2 => ?_⟩
        have h1 := (HVB.out _ e).1
        have h2 := (HNF.out b e2).1
        simp only at h1
        omega
      have HTF : Hid (∀ y, T3 y → F3 y) := Lib.hid fun y hy => HPM.out.foot y (.inl hy)
      have HTK : Hid (∀ W, KeepA (fun y => T3 y ∨ wr.heap.size ≤ y) wr W → KeepA F3 wr W ∧ PgRow W pb d lb n room s.now s.was m s.op s.dd) := Lib.hid fun W hW => by
        have hk : KeepA T3 wr W := keep_sub hW fun y hy e => e.elim id fun e => by omega
        exact ⟨hk.mono HTF.out, HPM.out.row.keep hk HPM.out.pbT.1⟩
      have HCM : Hid (∀ W, KeepA (fun y => T3 y ∨ wr.heap.size ≤ y) wr W → (CmB W g1 g3 pb lb va vl vc ∧ RdB W va Bt) ∧ W.cell? ⟨pb, 0, none⟩ = some (.pointer (some ⟨d, 0, none⟩))) := Lib.hid fun W hW => by
        obtain ⟨q1, q2⟩ := HTK.out W hW
        obtain ⟨p1, p2, p3⟩ := HBX.out W q1
        obtain ⟨e0, e1, -⟩ := q2.cells
        exact ⟨⟨⟨p1, p2, e1⟩, p3⟩, e0⟩
      have HSP : Hid (∀ ad, va = some ad → ¬ T3 ad.block ∧ ad.block < wr.heap.size) := Lib.hid fun ad e => ⟨fun h => by have h1 := (HVB.out ad e).1; have h2 := (HNF.out _ (HTF.out _ h)).1; omega, (HVB.out ad e).2⟩
      have HBW : Hid (b0 ≤ wr.heap.size) := by
        have := (HPM.out.lim pb (HPM.out.foot pb (.inr (.inr (.inl rfl)))))
        show _ ≤ _
        omega
      have HG0 : Hid (GL b0 wr wr T3 lb d size n s.x) := GL.refl HPM.out.log
      have HFB : Hid (∀ er s' W, ComR n room er s s' → PgR b0 wr W F3 pb d size n room s' → K (.returned (.int .i64 er)) W) := Lib.hid fun er s' W h1 h2 => by
        refine HK.out er s' W h1 (PgR.step (F1 := F3) (fun y hy => ?_) (HKF.out.trans2 HKW.out fun x hx e => ?_) h2)
        · rcases HW3.out.2.2.2.1 y hy with e | e
          · exact .inl e
          · exact .inr (by have := HG1.out.1; omega)
        · have := HW3.out.2.2.1
          have := HG1.out.1
          omega
      have HAP : Hid (Calls Try.prog 45 #[.pointer (some ⟨lb, 0, none⟩), .slice va vl vc] wr.drew fun e w' => ∃ er x', e = .returned (.int .i64 er) ∧ AppF n Bt er s.x x' ∧ GL b0 wr w' T3 lb d size n x') := by
        have g := HG0.out.later (drewN_below (Below.refl _ wr) 1)
        obtain ⟨q1, q2, q3, q4⟩ := HX.out
        refine G_append g q1 HBW.out (by omega) (by omega) (by omega) va Bt vl vc HVL.out.symm (HCM.out wr.drew (KeepA.of_below (drewN_below (Below.refl _ wr) 1))).1.2 HSP.out
      have hs14 : CmB wr.drew g1 g3 pb lb va vl vc := (HCM.out wr.drew (KeepA.of_below (drewN_below (Below.refl _ wr) 1))).1.1
      have hlim : n ≤ size ∧ size ≤ 65536 := ⟨HPM.out.log.sizes.2.1, HPM.out.log.sizes.2.2.1⟩
      obtain ⟨hns, hs6⟩ := hlim
      clear hat2 hvr hvl hvle hBt HAT HM4 HMR HM2 HPG HLAY HS7 HS7m HSO HKE HO6 HSB HLM HPL HL11
      go_upto_region 14 with fail
      refine wp_region_held_drew (S := fun W => CmB W g1 g3 pb lb va vl vc) (by kernel_rfl) hs14 (fun hHeld => ?_)
      refine wpAnyH_take (i := 0) (v := ?_) rfl (by kernel_rfl) (by kernel_rfl) (by kernel_rfl) (fun _ _ _ h => h) (Or.inl ⟨by rfl, ?_⟩) hHeld ?_
      rotate_left
      · intro w' hS'
        (try dsimp only at hS')
        obtain ⟨hp, hb, hl⟩ := hS'
        go_simp
        try with_reducible rfl
      try simp only [List.getElem_toArray, List.getElem_cons_succ, List.getElem_cons_zero, Act.put, List.setIfInBounds_toArray, List.set_cons_zero, List.set_cons_succ]
      refine wpAnyH_take (i := 1) (v := ?_) rfl (by kernel_rfl) (by kernel_rfl) (by kernel_rfl) (fun _ _ _ h => h) (Or.inl ⟨by rfl, ?_⟩) hHeld ?_
      rotate_left
      · intro w' hS'
        (try dsimp only at hS')
        obtain ⟨hp, hb, hl⟩ := hS'
        go_simp
        try with_reducible rfl
      try simp only [List.getElem_toArray, List.getElem_cons_succ, List.getElem_cons_zero, Act.put, List.setIfInBounds_toArray, List.set_cons_zero, List.set_cons_succ]
      refine wpAnyH_take (i := 2) (v := ?_) rfl (by kernel_rfl) (by kernel_rfl) (by kernel_rfl) (fun _ _ _ h => h) (Or.inl ⟨by rfl, ?_⟩) hHeld ?_
      rotate_left
      · intro w' hS'
        (try dsimp only at hS')
        obtain ⟨hp, hb, hl⟩ := hS'
        go_simp
        try with_reducible rfl
      try simp only [List.getElem_toArray, List.getElem_cons_succ, List.getElem_cons_zero, Act.put, List.setIfInBounds_toArray, List.set_cons_zero, List.set_cons_succ]
      refine wpAnyH_take (i := 3) (v := ?_) rfl (by kernel_rfl) (by kernel_rfl) (by kernel_rfl) (fun _ _ _ h => h) (Or.inl ⟨by rfl, ?_⟩) hHeld ?_
      rotate_left
      · intro w' hS'
        (try dsimp only at hS')
        obtain ⟨hp, hb, hl⟩ := hS'
        go_simp
        try with_reducible rfl
      try simp only [List.getElem_toArray, List.getElem_cons_succ, List.getElem_cons_zero, Act.put, List.setIfInBounds_toArray, List.set_cons_zero, List.set_cons_succ]
      refine wpAnyH_take (i := 4) (v := ?_) rfl (by kernel_rfl) (by kernel_rfl) (by kernel_rfl) (fun _ _ _ h => h) (Or.inl ⟨by rfl, ?_⟩) hHeld ?_
      rotate_left
      · intro w' hS'
        (try dsimp only at hS')
        obtain ⟨hp, hb, hl⟩ := hS'
        go_simp
        try with_reducible rfl
      try simp only [List.getElem_toArray, List.getElem_cons_succ, List.getElem_cons_zero, Act.put, List.setIfInBounds_toArray, List.set_cons_zero, List.set_cons_succ]
      refine wpAnyH_ready (rs := [5]) (by kernel_rfl) (by simp) (AllReadyH.cons rfl (fun K hK => ?_) AllReadyH.nil)
      try rw [if_pos (by rfl)]
      go_wp2_with fail
      refine HAP.out.mono ?_
      rintro _ w10 ⟨er, x1, rfl, hA, hg⟩
      have hs10 : CmB w10 g1 g3 pb lb va vl vc := by
        obtain ⟨_, _, _, kk⟩ := id hg
        exact (HCM.out w10 kk).1.1
      have HA := Lib.hid hA
      have HG := Lib.hid hg
      clear hA hg
      refine hK.out _ _ hs10 (fun hHeld => ?_)
      clear hK K
      try simp only [List.getElem_toArray, List.getElem_cons_succ, List.getElem_cons_zero, Act.put, List.setIfInBounds_toArray, List.set_cons_zero, List.set_cons_succ]
      refine wpAnyH_take (i := 6) (v := ?_) rfl (by kernel_rfl) (by kernel_rfl) (by kernel_rfl) (fun _ _ _ h => h) (Or.inl ⟨by rfl, ?_⟩) hHeld ?_
      rotate_left
      · intro w' hS'
        (try dsimp only at hS')
        obtain ⟨hp, hb, hl⟩ := hS'
        go_simp
        try with_reducible rfl
      try simp only [List.getElem_toArray, List.getElem_cons_succ, List.getElem_cons_zero, Act.put, List.setIfInBounds_toArray, List.set_cons_zero, List.set_cons_succ]
      refine wpAnyH_done (by kernel_rfl) ?_ _
      clear hs14
      rcases HA.out.more.1 with rfl | rfl | rfl
      · have HLR : Hid (LogR n (s.batch room) 0 s.x x1) := by rw [HBT.out]; exact ⟨0, x1, HA.out, .inl ⟨by decide, rfl, rfl⟩⟩
        have hq1 : x1.D.pcs.length ≤ 400000 := by
          have h1 := HLR.out.more.2.2.1
          have h2 := HX.out.2.1
          omega
        obtain ⟨Tn, hpx⟩ := HPM.out.x0.gl HG.out hq1
        obtain ⟨hp5, hp6, -⟩ := HBX.out w10 hpx.kp
        obtain ⟨-, -, -, -, -, -, -, -, e27, e28⟩ := hpx.pm.row.cells
        have c27 : w10.cell? ⟨pb, 27, none⟩ = some (.bool true) := by rw [← HOP.out.1]; exact e27
        have c28 : w10.cell? ⟨pb, 28, none⟩ = some (.bool false) := by rw [← HOP.out.2]; exact e28
        have f27 := hpx.pm.row.row.frozen 27
        have f28 := hpx.pm.row.row.frozen 28
        have HPX := Lib.hid hpx
        clear e27 e28 hpx hq1
        obtain ⟨w20, hw20⟩ : ∃ z, w10.setCell ⟨pb, 27, none⟩ (.bool false) = z := ⟨_, rfl⟩
        have hx3 : PgX b0 wr w20 F3 (fun y => F3 y ∨ Tn y) Tn U3 pb d size n room lb m f3 { s with tn := s.tn0, op := false, x := x1 } := by
          have hr := HPX.out.pm.row.row.set 27 (.bool false)
          rw [pgRow_eq _ _ _ _ _ _ _ _ _ _ HPX.out.pm.row.r8 HPX.out.pm.row.w8] at hr
          have hx2 := HPX.out.row (keep_grown (grownBy_setCellAt w10 pb 27 (.bool false))) (now := s.now) (was := s.was) (op := false) (dd := s.dd) ⟨hr, HPX.out.pm.row.r8, HPX.out.pm.row.w8⟩
          rw [hw20] at hx2
          exact hx2
        have hx4 := hx3.later (drewN_below (Below.refl _ w20) 1)
        have HX4 := Lib.hid hx4
        obtain ⟨r0, r1, r2, r3, -⟩ := hx4.pm.row.cells
        obtain ⟨b1, b2, b3⟩ := HBX.out _ hx4.kp
        have hs23 : w20.drew.cell? ⟨g1, 0, none⟩ = some (.pointer (some ⟨pb, 0, none⟩)) ∧ w20.drew.cell? ⟨pb, 0, none⟩ = some (.pointer (some ⟨d, 0, none⟩)) ∧ w20.drew.cell? ⟨pb, 2, none⟩ = some (.int .i64 (n : Int)) ∧ w20.drew.cell? ⟨g3, 0, none⟩ = some (.slice va vl vc) ∧ w20.drew.cell? ⟨pb, 3, none⟩ = some (.int .i64 (room : Int)) := ⟨b1, r0, r2, b2, r3⟩
        have HPU : Hid (Calls Try.prog 29 #[.pointer (some ⟨d, 0, none⟩), .int .i64 (n : Int), .slice va vl vc, .int .i64 (room : Int)] w20.drew fun e w' => ∃ er x', e = .returned (.int .i64 er) ∧ PutR n room (ents Bt) er x1 x' ∧ ∃ T5, PgX b0 wr w' F3 (fun y => (F3 y ∨ Tn y) ∨ T5 y) T5 U3 pb d size n room lb m f3 { s with tn := s.tn0, op := false, x := x' }) := by
          have hm := HLR.out.more.2.2.2.2.2 rfl
          have hlen := HBLn.out
          have hb20 : b0 ≤ w20.drew.heap.size := by
            have := hx4.pm.lim pb (hx4.pm.foot pb (.inr (.inr (.inl rfl))))
            exact Nat.le_trans this.1 (Nat.le_of_lt this.2)
          have hvls : vl ≤ vc := hvlc.out
          refine (G_put (GL.refl hx4.pm.log) hb20 room hx4.pm.rm va Bt vl vc HVL.out.symm hvls b3 (fun ad e => ⟨fun ht => ?_, ?_⟩) ?_).mono ?_
          · have h1 := (HVB.out ad e).2
            rcases hx4.sub _ (hx4.pm.foot _ (.inl ht)) with e2 | e2
            · have := (HNF.out _ e2).1
              have := (HVB.out ad e).1
              omega
            · omega
          · have h1 := (HVB.out ad e).2
            have := hx4.kp.size
            omega
          · show x1.D.pcs.length + vl ≤ 700000
            rw [hm.2]
            have := HVL.out
            simp only [List.length_nil]
            omega
          · rintro e w' ⟨er, x', rfl, h1, h2⟩
            obtain ⟨T5, h3⟩ := hx4.gl h2 (by
              have q1 := (PutR.more h1 fun e he => entsN_len _ _ e he).2.2.1
              have q2 := entsN_many Bt.length Bt
              unfold ents at q1
              rw [hm.2] at q1
              simp only [List.length_nil] at q1
              omega)
            exact ⟨er, x', rfl, h1, T5, h3⟩
        clear hx3 hx4 r0 r1 r2 r3 b1 b2 b3
        go_upto_region 23 with fail
        try simp only [hw20]
        refine wp_region_held_drew (S := fun W => W.cell? ⟨g1, 0, none⟩ = some (.pointer (some ⟨pb, 0, none⟩)) ∧ W.cell? ⟨pb, 0, none⟩ = some (.pointer (some ⟨d, 0, none⟩)) ∧ W.cell? ⟨pb, 2, none⟩ = some (.int .i64 (n : Int)) ∧ W.cell? ⟨g3, 0, none⟩ = some (.slice va vl vc) ∧ W.cell? ⟨pb, 3, none⟩ = some (.int .i64 (room : Int))) (by kernel_rfl) hs23 (fun hHeld => ?_)
        refine wpAnyH_take (i := 0) (v := ?_) rfl (by kernel_rfl) (by kernel_rfl) (by kernel_rfl) (fun _ _ _ h => h) (Or.inl ⟨by rfl, ?_⟩) hHeld ?_
        rotate_left
        · intro w' hS'
          (try dsimp only at hS')
          obtain ⟨s1, s2, s3, s4, s5⟩ := hS'
          go_simp
          try with_reducible rfl
        try simp only [List.getElem_toArray, List.getElem_cons_succ, List.getElem_cons_zero, Act.put, List.setIfInBounds_toArray, List.set_cons_zero, List.set_cons_succ]
        refine wpAnyH_take (i := 1) (v := ?_) rfl (by kernel_rfl) (by kernel_rfl) (by kernel_rfl) (fun _ _ _ h => h) (Or.inl ⟨by rfl, ?_⟩) hHeld ?_
        rotate_left
        · intro w' hS'
          (try dsimp only at hS')
          obtain ⟨s1, s2, s3, s4, s5⟩ := hS'
          go_simp
          try with_reducible rfl
        try simp only [List.getElem_toArray, List.getElem_cons_succ, List.getElem_cons_zero, Act.put, List.setIfInBounds_toArray, List.set_cons_zero, List.set_cons_succ]
        refine wpAnyH_take (i := 2) (v := ?_) rfl (by kernel_rfl) (by kernel_rfl) (by kernel_rfl) (fun _ _ _ h => h) (Or.inl ⟨by rfl, ?_⟩) hHeld ?_
        rotate_left
        · intro w' hS'
          (try dsimp only at hS')
          obtain ⟨s1, s2, s3, s4, s5⟩ := hS'
          go_simp
          try with_reducible rfl
        try simp only [List.getElem_toArray, List.getElem_cons_succ, List.getElem_cons_zero, Act.put, List.setIfInBounds_toArray, List.set_cons_zero, List.set_cons_succ]
        refine wpAnyH_take (i := 3) (v := ?_) rfl (by kernel_rfl) (by kernel_rfl) (by kernel_rfl) (fun _ _ _ h => h) (Or.inl ⟨by rfl, ?_⟩) hHeld ?_
        rotate_left
        · intro w' hS'
          (try dsimp only at hS')
          obtain ⟨s1, s2, s3, s4, s5⟩ := hS'
          go_simp
          try with_reducible rfl
        try simp only [List.getElem_toArray, List.getElem_cons_succ, List.getElem_cons_zero, Act.put, List.setIfInBounds_toArray, List.set_cons_zero, List.set_cons_succ]
        refine wpAnyH_take (i := 4) (v := ?_) rfl (by kernel_rfl) (by kernel_rfl) (by kernel_rfl) (fun _ _ _ h => h) (Or.inl ⟨by rfl, ?_⟩) hHeld ?_
        rotate_left
        · intro w' hS'
          (try dsimp only at hS')
          obtain ⟨s1, s2, s3, s4, s5⟩ := hS'
          go_simp
          try with_reducible rfl
        try simp only [List.getElem_toArray, List.getElem_cons_succ, List.getElem_cons_zero, Act.put, List.setIfInBounds_toArray, List.set_cons_zero, List.set_cons_succ]
        refine wpAnyH_take (i := 5) (v := ?_) rfl (by kernel_rfl) (by kernel_rfl) (by kernel_rfl) (fun _ _ _ h => h) (Or.inl ⟨by rfl, ?_⟩) hHeld ?_
        rotate_left
        · intro w' hS'
          (try dsimp only at hS')
          obtain ⟨s1, s2, s3, s4, s5⟩ := hS'
          go_simp
          try with_reducible rfl
        try simp only [List.getElem_toArray, List.getElem_cons_succ, List.getElem_cons_zero, Act.put, List.setIfInBounds_toArray, List.set_cons_zero, List.set_cons_succ]
        refine wpAnyH_take (i := 6) (v := ?_) rfl (by kernel_rfl) (by kernel_rfl) (by kernel_rfl) (fun _ _ _ h => h) (Or.inl ⟨by rfl, ?_⟩) hHeld ?_
        rotate_left
        · intro w' hS'
          (try dsimp only at hS')
          obtain ⟨s1, s2, s3, s4, s5⟩ := hS'
          go_simp
          try with_reducible rfl
        try simp only [List.getElem_toArray, List.getElem_cons_succ, List.getElem_cons_zero, Act.put, List.setIfInBounds_toArray, List.set_cons_zero, List.set_cons_succ]
        refine wpAnyH_take (i := 7) (v := ?_) rfl (by kernel_rfl) (by kernel_rfl) (by kernel_rfl) (fun _ _ _ h => h) (Or.inl ⟨by rfl, ?_⟩) hHeld ?_
        rotate_left
        · intro w' hS'
          (try dsimp only at hS')
          obtain ⟨s1, s2, s3, s4, s5⟩ := hS'
          go_simp
          try with_reducible rfl
        try simp only [List.getElem_toArray, List.getElem_cons_succ, List.getElem_cons_zero, Act.put, List.setIfInBounds_toArray, List.set_cons_zero, List.set_cons_succ]
        refine wpAnyH_take (i := 8) (v := ?_) rfl (by kernel_rfl) (by kernel_rfl) (by kernel_rfl) (fun _ _ _ h => h) (Or.inl ⟨by rfl, ?_⟩) hHeld ?_
        rotate_left
        · intro w' hS'
          (try dsimp only at hS')
          obtain ⟨s1, s2, s3, s4, s5⟩ := hS'
          go_simp
          try with_reducible rfl
        try simp only [List.getElem_toArray, List.getElem_cons_succ, List.getElem_cons_zero, Act.put, List.setIfInBounds_toArray, List.set_cons_zero, List.set_cons_succ]
        refine wpAnyH_take (i := 9) (v := ?_) rfl (by kernel_rfl) (by kernel_rfl) (by kernel_rfl) (fun _ _ _ h => h) (Or.inl ⟨by rfl, ?_⟩) hHeld ?_
        rotate_left
        · intro w' hS'
          (try dsimp only at hS')
          obtain ⟨s1, s2, s3, s4, s5⟩ := hS'
          go_simp
          try with_reducible rfl
        try simp only [List.getElem_toArray, List.getElem_cons_succ, List.getElem_cons_zero, Act.put, List.setIfInBounds_toArray, List.set_cons_zero, List.set_cons_succ]
        refine wpAnyH_take (i := 10) (v := ?_) rfl (by kernel_rfl) (by kernel_rfl) (by kernel_rfl) (fun _ _ _ h => h) (Or.inl ⟨by rfl, ?_⟩) hHeld ?_
        rotate_left
        · intro w' hS'
          (try dsimp only at hS')
          obtain ⟨s1, s2, s3, s4, s5⟩ := hS'
          go_simp
          try with_reducible rfl
        try simp only [List.getElem_toArray, List.getElem_cons_succ, List.getElem_cons_zero, Act.put, List.setIfInBounds_toArray, List.set_cons_zero, List.set_cons_succ]
        refine wpAnyH_take (i := 11) (v := ?_) rfl (by kernel_rfl) (by kernel_rfl) (by kernel_rfl) (fun _ _ _ h => h) (Or.inl ⟨by rfl, ?_⟩) hHeld ?_
        rotate_left
        · intro w' hS'
          (try dsimp only at hS')
          obtain ⟨s1, s2, s3, s4, s5⟩ := hS'
          go_simp
          try with_reducible rfl
        try simp only [List.getElem_toArray, List.getElem_cons_succ, List.getElem_cons_zero, Act.put, List.setIfInBounds_toArray, List.set_cons_zero, List.set_cons_succ]
        refine wpAnyH_take (i := 12) (v := ?_) rfl (by kernel_rfl) (by kernel_rfl) (by kernel_rfl) (fun _ _ _ h => h) (Or.inl ⟨by rfl, ?_⟩) hHeld ?_
        rotate_left
        · intro w' hS'
          (try dsimp only at hS')
          obtain ⟨s1, s2, s3, s4, s5⟩ := hS'
          go_simp
          try with_reducible rfl
        try simp only [List.getElem_toArray, List.getElem_cons_succ, List.getElem_cons_zero, Act.put, List.setIfInBounds_toArray, List.set_cons_zero, List.set_cons_succ]
        refine wpAnyH_ready (rs := [13]) (by kernel_rfl) (by simp) (AllReadyH.cons rfl (fun K hK => ?_) AllReadyH.nil)
        try rw [if_pos (by rfl)]
        go_wp2_with fail
        refine HPU.out.mono ?_
        rintro _ w21 ⟨er, x3, rfl, hput, T5, hx5⟩
        have HX5 := Lib.hid hx5
        obtain ⟨r0, r1, r2, r3, -, -, -, -, r27, r28⟩ := hx5.pm.row.cells
        obtain ⟨b1, b2, b3⟩ := HBX.out _ hx5.kp
        have c28' : w21.cell? ⟨pb, 28, none⟩ = some (.bool false) := by rw [← HOP.out.2]; exact r28
        have f28' := hx5.pm.row.row.frozen 28
        have hs21 : w21.cell? ⟨g1, 0, none⟩ = some (.pointer (some ⟨pb, 0, none⟩)) ∧ w21.cell? ⟨pb, 0, none⟩ = some (.pointer (some ⟨d, 0, none⟩)) ∧ w21.cell? ⟨pb, 2, none⟩ = some (.int .i64 (n : Int)) ∧ w21.cell? ⟨g3, 0, none⟩ = some (.slice va vl vc) ∧ w21.cell? ⟨pb, 3, none⟩ = some (.int .i64 (room : Int)) := ⟨b1, r0, r2, b2, r3⟩
        have HPT : Hid (PutR n room (ents (s.batch room)) er x1 x3) := by rw [HBT.out]; exact hput
        clear hx5 hput r0 r1 r2 r3 r27 r28 b2 b3 hp5 hp6 c27 c28 f27 f28
        refine hK.out _ _ hs21 (fun hHeld => ?_)
        clear hK K
        try simp only [List.getElem_toArray, List.getElem_cons_succ, List.getElem_cons_zero, Act.put, List.setIfInBounds_toArray, List.set_cons_zero, List.set_cons_succ]
        refine wpAnyH_take (i := 14) (v := ?_) rfl (by kernel_rfl) (by kernel_rfl) (by kernel_rfl) (fun _ _ _ h => h) (Or.inl ⟨by rfl, ?_⟩) hHeld ?_
        rotate_left
        · intro w' hS'
          (try dsimp only at hS')
          obtain ⟨s1, s2, s3, s4, s5⟩ := hS'
          go_simp
          try with_reducible rfl
        try simp only [List.getElem_toArray, List.getElem_cons_succ, List.getElem_cons_zero, Act.put, List.setIfInBounds_toArray, List.set_cons_zero, List.set_cons_succ]
        refine wpAnyH_done (by kernel_rfl) ?_ _
        clear hs21 hs23
        by_cases her : er = 0
        · subst her
          have HEN : Hid (Calls Try.prog 47 #[.pointer (some ⟨pb, 0, none⟩)] w21 fun e w' => e = .returned (.tuple #[]) ∧ (w'.cell? ⟨g1, 0, none⟩ = some (.pointer (some ⟨pb, 0, none⟩)) ∧ w'.cell? ⟨pb, 28, none⟩ = some (.bool false) ∧ w'.frozen? ⟨pb, 28, none⟩ = false) ∧ ∀ W2, w'.setCell ⟨pb, 28, none⟩ (.bool false) = W2 → K (.returned (.int .i64 0)) W2) := by
            refine (pgend_any b0 w21 _ pb d size n room _ ⟨_, _, _, _, _, HX5.out.pm⟩).mono ?_
            rintro e w' ⟨rfl, F7, ⟨T7, U7, lb7, m7, f7, h7⟩, hF7, hk7⟩
            have hk8 : KeepA F3 wr w' := HX5.out.kp.trans2 hk7 fun y hy e => by
              rcases HX5.out.sub y e with e | e
              · exact e
              · omega
            obtain ⟨-, -, -, -, -, -, -, -, -, e28⟩ := h7.row.cells
            have e28' : w'.cell? ⟨pb, 28, none⟩ = some (.bool false) := by rw [← HOP.out.2]; exact e28
            refine ⟨rfl, ⟨(HBX.out w' hk8).1, e28', h7.row.row.frozen 28⟩, fun W2 e => ?_⟩
            subst e
            have hr := h7.row.row.set 28 (.bool false)
            rw [pgRow_dd _ _ _ _ _ _ _ _ _ _ h7.row.r8 h7.row.w8] at hr
            have h9 := h7.setRow (keep_grown (grownBy_setCellAt w' pb 28 (.bool false))) (now := s.now) (was := s.was) (op := false) (dd := false) ⟨hr, h7.row.r8, h7.row.w8⟩
            refine HFB.out 0 { s with tn := fun _ => none, op := false, dd := false, x := x3 } _ ⟨0, x1, HLR.out, .inr (.inl ⟨rfl, x3, HPT.out, .inl ⟨rfl, rfl⟩⟩)⟩ ⟨F7, ⟨_, _, _, _, _, h9⟩, fun y hy => ?_, hk8.trans2 (keep_grown (grownBy_setCellAt w' pb 28 (.bool false))) fun y hy e => ?_⟩
            · rcases hF7 y hy with e | e
              · exact HX5.out.sub y e
              · exact .inr (Nat.le_trans HX5.out.kp.size e)
            · subst e
              exact HPM.out.foot y (.inr (.inr (.inl rfl)))
          clear c28' f28'
          go_wp2_with fail
          refine HEN.out.mono ?_
          rintro _ w22 ⟨rfl, ⟨b5, b6, b7⟩, hE⟩
          have HE := Lib.hid hE
          clear hE b1
          go_wp2
          exact HE.out _ rfl
        · have HEND : Hid (∀ W2, w21.setCell ⟨pb, 28, none⟩ (.bool true) = W2 → K (.returned (.int .i64 er)) W2) := Lib.hid fun W2 e => by
            subst e
            have hr := HX5.out.pm.row.row.set 28 (.bool true)
            rw [pgRow_dd _ _ _ _ _ _ _ _ _ _ HX5.out.pm.row.r8 HX5.out.pm.row.w8] at hr
            have hx2 := HX5.out.row (keep_grown (grownBy_setCellAt w21 pb 28 (.bool true))) (now := s.now) (was := s.was) (op := false) (dd := true) ⟨hr, HX5.out.pm.row.r8, HX5.out.pm.row.w8⟩
            exact HFB.out er { s with tn := s.tn0, op := false, dd := true, x := x3 } _ ⟨0, x1, HLR.out, .inr (.inl ⟨rfl, x3, HPT.out, .inr ⟨her, rfl⟩⟩)⟩ hx2.pgR
          have her1 : (er == 0) = false := by simpa using her
          have her2 : (er != 0) = true := by simpa using her
          clear her
          go_wp2
          exact HEND.out _ rfl
      · have HLR : Hid (LogR n (s.batch room) 5 s.x x1) := by rw [HBT.out]; exact ⟨5, x1, HA.out, .inl ⟨by decide, rfl, rfl⟩⟩
        have hq1 : x1.D.pcs.length ≤ 400000 := by
          have h1 := HLR.out.more.2.2.1
          have h2 := HX.out.2.1
          omega
        obtain ⟨Tn, hpx⟩ := HPM.out.x0.gl HG.out hq1
        obtain ⟨hp5, hp6, -⟩ := HBX.out w10 hpx.kp
        obtain ⟨-, -, -, -, -, -, -, -, e27, e28⟩ := hpx.pm.row.cells
        have c27 : w10.cell? ⟨pb, 27, none⟩ = some (.bool true) := by rw [← HOP.out.1]; exact e27
        have c28 : w10.cell? ⟨pb, 28, none⟩ = some (.bool false) := by rw [← HOP.out.2]; exact e28
        have f27 := hpx.pm.row.row.frozen 27
        have f28 := hpx.pm.row.row.frozen 28
        have HPX := Lib.hid hpx
        clear e27 e28 hpx hq1
        have HEND : Hid (∀ W2, w10.setCell ⟨pb, 28, none⟩ (.bool true) = W2 → K (.returned (.int .i64 5)) W2) := Lib.hid fun W2 e => by
          subst e
          have hr := HPX.out.pm.row.row.set 28 (.bool true)
          rw [pgRow_dd _ _ _ _ _ _ _ _ _ _ HPX.out.pm.row.r8 HPX.out.pm.row.w8] at hr
          have hx2 := HPX.out.row (keep_grown (grownBy_setCellAt w10 pb 28 (.bool true))) (now := s.now) (was := s.was) (op := s.op) (dd := true) ⟨hr, HPX.out.pm.row.r8, HPX.out.pm.row.w8⟩
          exact HFB.out 5 { s with tn := s.tn0, dd := true, x := x1 } _ ⟨5, x1, HLR.out, .inr (.inr ⟨by decide, by decide, rfl, rfl⟩)⟩ hx2.pgR
        go_wp2
        exact HEND.out _ rfl
      · obtain ⟨T', g', q1, k1⟩ := HG.out
        obtain rfl := HA.out.more.2.2.2.2.2.2 rfl
        have hs16 : CmB w10 g1 g3 pb lb va vl vc ∧ w10.cell? ⟨pb, 0, none⟩ = some (.pointer (some ⟨d, 0, none⟩)) := ⟨(HCM.out w10 k1).1.1, (HCM.out w10 k1).2⟩
        have HS16 : Hid (∀ W, Below w10.heap.size w10 W → CmB W g1 g3 pb lb va vl vc ∧ W.cell? ⟨pb, 0, none⟩ = some (.pointer (some ⟨d, 0, none⟩))) := Lib.hid fun W hW => by
          have := HCM.out W (k1.trans (KeepA.of_below hW))
          exact ⟨this.1.1, this.2⟩
        have HGK : Hid (∀ W w' x', Below w10.heap.size w10 W → GL b0 W w' T' lb d size n x' → GL b0 wr w' T3 lb d size n x') := Lib.hid fun W w' x' hW g => GL.trans q1 k1 hW g
        have HST : Hid (∀ W sb, Below w10.heap.size w10 W → w10.heap.size ≤ sb → RowAt W sb 29 #[.func (.func 7) #[.pointer (some ⟨d, 0, none⟩)] #[], .func (.func 31) #[.pointer (some ⟨lb, 0, none⟩)] #[], .func (.func 46) #[] #[.pointer (some ⟨g1, 0, none⟩), .pointer (some ⟨g3, 0, none⟩)]] →
            Calls Try.prog 30 #[.slice (some ⟨sb, 0, none⟩) 3 3] W fun e w' => ∃ er x', e = .returned (.int .i64 er) ∧ ReR n Bt er s.x x' ∧ GL b0 W w' T' lb d size n x') := Lib.hid fun W sb hW hsb hrow => by
          obtain ⟨p1, p2, p3, p4⟩ := HX.out
          have hz := hW.size
          have hz1 := k1.size
          refine resteps_any b0 W T' lb d size n s.x (g'.later hW) p1 (Nat.le_trans HBW.out (by omega)) (by omega) (by omega) (by omega) g1 g3 pb va Bt vl vc HVL.out.symm (fun W' hk => ?_) (fun ad e => ⟨fun ht => ?_, by have := (HSP.out ad e).2; omega⟩) sb 3 (fun e => by have := (g'.lt sb e).2; omega) hrow
          · have := HCM.out W' ((k1.trans (KeepA.of_below hW)).trans (hk.mono fun y hy => by
              rcases hy with e | e
              · exact q1 y e
              · exact .inr (by omega)))
            exact this.1
          · rcases q1 _ ht with e2 | e2
            · exact (HSP.out ad e).1 e2
            · have := (HSP.out ad e).2
              omega
        clear g' q1 k1 hs10
        go_upto_region 16 with fail
        refine wp_region_held_drew (S := fun W => CmB W g1 g3 pb lb va vl vc ∧ W.cell? ⟨pb, 0, none⟩ = some (.pointer (some ⟨d, 0, none⟩))) (by kernel_rfl) (HS16.out w10.drew (drewN_below (Below.refl _ w10) 1)) (fun hHeld => ?_)
        refine wpAnyH_take (i := 0) (v := ?_) rfl (by kernel_rfl) (by kernel_rfl) (by kernel_rfl) (fun _ _ _ h => h) (Or.inl ⟨by rfl, ?_⟩) hHeld ?_
        rotate_left
        · intro w' hS'
          (try dsimp only at hS')
          obtain ⟨⟨hp, hb, hl⟩, h0⟩ := hS'
          go_simp
          try with_reducible rfl
        try simp only [List.getElem_toArray, List.getElem_cons_succ, List.getElem_cons_zero, Act.put, List.setIfInBounds_toArray, List.set_cons_zero, List.set_cons_succ]
        refine wpAnyH_take (i := 1) (v := ?_) rfl (by kernel_rfl) (by kernel_rfl) (by kernel_rfl) (fun _ _ _ h => h) (Or.inl ⟨by rfl, ?_⟩) hHeld ?_
        rotate_left
        · intro w' hS'
          (try dsimp only at hS')
          obtain ⟨⟨hp, hb, hl⟩, h0⟩ := hS'
          go_simp
          try with_reducible rfl
        try simp only [List.getElem_toArray, List.getElem_cons_succ, List.getElem_cons_zero, Act.put, List.setIfInBounds_toArray, List.set_cons_zero, List.set_cons_succ]
        refine wpAnyH_take (i := 2) (v := ?_) rfl (by kernel_rfl) (by kernel_rfl) (by kernel_rfl) (fun _ _ _ h => h) (Or.inl ⟨by rfl, ?_⟩) hHeld ?_
        rotate_left
        · intro w' hS'
          (try dsimp only at hS')
          obtain ⟨⟨hp, hb, hl⟩, h0⟩ := hS'
          go_simp
          try with_reducible rfl
        try simp only [List.getElem_toArray, List.getElem_cons_succ, List.getElem_cons_zero, Act.put, List.setIfInBounds_toArray, List.set_cons_zero, List.set_cons_succ]
        refine wpAnyH_take (i := 3) (v := ?_) rfl (by kernel_rfl) (by kernel_rfl) (by kernel_rfl) (fun _ _ _ h => h) (Or.inl ⟨by rfl, ?_⟩) hHeld ?_
        rotate_left
        · intro w' hS'
          (try dsimp only at hS')
          obtain ⟨⟨hp, hb, hl⟩, h0⟩ := hS'
          go_simp
          try with_reducible rfl
        try simp only [List.getElem_toArray, List.getElem_cons_succ, List.getElem_cons_zero, Act.put, List.setIfInBounds_toArray, List.set_cons_zero, List.set_cons_succ]
        refine wpAnyH_take (i := 4) (v := ?_) rfl (by kernel_rfl) (by kernel_rfl) (by kernel_rfl) (fun _ _ _ h => h) (Or.inl ⟨by rfl, ?_⟩) hHeld ?_
        rotate_left
        · intro w' hS'
          (try dsimp only at hS')
          obtain ⟨⟨hp, hb, hl⟩, h0⟩ := hS'
          go_simp
          try with_reducible rfl
        try simp only [List.getElem_toArray, List.getElem_cons_succ, List.getElem_cons_zero, Act.put, List.setIfInBounds_toArray, List.set_cons_zero, List.set_cons_succ]
        refine wpAnyH_take (i := 5) (v := ?_) rfl (by kernel_rfl) (by kernel_rfl) (by kernel_rfl) (fun _ _ _ h => h) (Or.inl ⟨by rfl, ?_⟩) hHeld ?_
        rotate_left
        · intro w' hS'
          (try dsimp only at hS')
          obtain ⟨⟨hp, hb, hl⟩, h0⟩ := hS'
          go_simp
          try with_reducible rfl
        try simp only [List.getElem_toArray, List.getElem_cons_succ, List.getElem_cons_zero, Act.put, List.setIfInBounds_toArray, List.set_cons_zero, List.set_cons_succ]
        refine wpAnyH_take (i := 6) (v := ?_) rfl (by kernel_rfl) (by kernel_rfl) (by kernel_rfl) (fun _ _ _ h => h) (Or.inl ⟨by rfl, ?_⟩) hHeld ?_
        rotate_left
        · intro w' hS'
          (try dsimp only at hS')
          obtain ⟨⟨hp, hb, hl⟩, h0⟩ := hS'
          go_simp
          try with_reducible rfl
        try simp only [List.getElem_toArray, List.getElem_cons_succ, List.getElem_cons_zero, Act.put, List.setIfInBounds_toArray, List.set_cons_zero, List.set_cons_succ]
        refine wpAnyH_take (i := 7) (v := ?_) rfl (by kernel_rfl) (by kernel_rfl) (by kernel_rfl) (fun _ _ _ h => h) (Or.inl ⟨by rfl, ?_⟩) hHeld ?_
        rotate_left
        · intro w' hS'
          (try dsimp only at hS')
          obtain ⟨⟨hp, hb, hl⟩, h0⟩ := hS'
          go_simp
          try with_reducible rfl
        try simp only [List.getElem_toArray, List.getElem_cons_succ, List.getElem_cons_zero, Act.put, List.setIfInBounds_toArray, List.set_cons_zero, List.set_cons_succ]
        refine wpAnyH_take (i := 8) (v := ?_) rfl (by kernel_rfl) (by kernel_rfl) (by kernel_rfl) (fun _ _ _ h => h) (Or.inl ⟨by rfl, ?_⟩) hHeld ?_
        rotate_left
        · intro w' hS'
          (try dsimp only at hS')
          obtain ⟨⟨hp, hb, hl⟩, h0⟩ := hS'
          go_simp
          try with_reducible rfl
        try simp only [List.getElem_toArray, List.getElem_cons_succ, List.getElem_cons_zero, Act.put, List.setIfInBounds_toArray, List.set_cons_zero, List.set_cons_succ]
        refine wpAnyH_take (i := 9) (v := ?_) rfl (by kernel_rfl) (by kernel_rfl) (by kernel_rfl) (fun _ _ _ h => h) (Or.inl ⟨by rfl, ?_⟩) hHeld ?_
        rotate_left
        · intro w' hS'
          (try dsimp only at hS')
          obtain ⟨⟨hp, hb, hl⟩, h0⟩ := hS'
          go_simp
          try with_reducible rfl
        try simp only [List.getElem_toArray, List.getElem_cons_succ, List.getElem_cons_zero, Act.put, List.setIfInBounds_toArray, List.set_cons_zero, List.set_cons_succ]
        refine wpAnyH_take (i := 10) (v := ?_) rfl (by kernel_rfl) (by kernel_rfl) (by kernel_rfl) (fun _ _ _ h => h) (Or.inl ⟨by rfl, ?_⟩) hHeld ?_
        rotate_left
        · intro w' hS'
          (try dsimp only at hS')
          obtain ⟨⟨hp, hb, hl⟩, h0⟩ := hS'
          go_simp
          try with_reducible rfl
        try simp only [List.getElem_toArray, List.getElem_cons_succ, List.getElem_cons_zero, Act.put, List.setIfInBounds_toArray, List.set_cons_zero, List.set_cons_succ]
        refine wpAnyH_ready (rs := [11]) (by kernel_rfl) (by simp) (AllReadyH.cons rfl (fun K hK => ?_) AllReadyH.nil)
        try rw [if_pos (by rfl)]
        go_simp
        obtain ⟨sb, hsb⟩ : ∃ z, w10.heap.size = z := ⟨_, rfl⟩
        obtain ⟨w15, hw15⟩ : ∃ z, (w10.alloc (.cells #[.func (.func 7) #[.pointer (some ⟨d, 0, none⟩)] #[], .func (.func 31) #[.pointer (some ⟨lb, 0, none⟩)] #[], .func (.func 46) #[] #[.pointer (some ⟨g1, 0, none⟩), .pointer (some ⟨g3, 0, none⟩)]] 29)).drew = z := ⟨_, rfl⟩
        have hb15 : Below w10.heap.size w10 w15 := by rw [← hw15]; exact drewN_below (below_alloc _) 1
        have hr15 : RowAt w15 sb 29 #[.func (.func 7) #[.pointer (some ⟨d, 0, none⟩)] #[], .func (.func 31) #[.pointer (some ⟨lb, 0, none⟩)] #[], .func (.func 46) #[] #[.pointer (some ⟨g1, 0, none⟩), .pointer (some ⟨g3, 0, none⟩)]] := by
          rw [← hw15, ← hsb]
          exact RowAt.new w10 _ _
        have hs15 := HS16.out w15 hb15
        have HST15 := Lib.hid (HST.out w15 sb hb15 (by omega) hr15)
        have HGK15 := Lib.hid (fun w' x' => HGK.out w15 w' x' hb15)
        clear hb15 hr15
        try simp only [hw15, hsb]
        refine hK.out _ _ hs15 (fun hHeld => ?_)
        clear hK K
        try simp only [List.getElem_toArray, List.getElem_cons_succ, List.getElem_cons_zero, Act.put, List.setIfInBounds_toArray, List.set_cons_zero, List.set_cons_succ]
        refine wpAnyH_ready (rs := [12]) (by kernel_rfl) (by simp) (AllReadyH.cons rfl (fun K hK => ?_) AllReadyH.nil)
        try rw [if_pos (by rfl)]
        go_wp2_with fail
        refine HST15.out.mono ?_
        rintro _ w17 ⟨er, x2, rfl, hR, hg2⟩
        have hg3 := HGK15.out w17 x2 hg2
        have hs17 : CmB w17 g1 g3 pb lb va vl vc ∧ w17.cell? ⟨pb, 0, none⟩ = some (.pointer (some ⟨d, 0, none⟩)) := by
          obtain ⟨_, _, _, kk⟩ := id hg3
          exact ⟨(HCM.out w17 kk).1.1, (HCM.out w17 kk).2⟩
        clear HG
        have HG := Lib.hid hg3
        have HRR := Lib.hid hR
        clear hR hg2 hg3
        refine hK.out _ _ hs17 (fun hHeld => ?_)
        clear hK K
        try simp only [List.getElem_toArray, List.getElem_cons_succ, List.getElem_cons_zero, Act.put, List.setIfInBounds_toArray, List.set_cons_zero, List.set_cons_succ]
        refine wpAnyH_take (i := 13) (v := ?_) rfl (by kernel_rfl) (by kernel_rfl) (by kernel_rfl) (fun _ _ _ h => h) (Or.inl ⟨by rfl, ?_⟩) hHeld ?_
        rotate_left
        · intro w' hS'
          (try dsimp only at hS')
          obtain ⟨⟨hp, hb, hl⟩, h0⟩ := hS'
          go_simp
          try with_reducible rfl
        try simp only [List.getElem_toArray, List.getElem_cons_succ, List.getElem_cons_zero, Act.put, List.setIfInBounds_toArray, List.set_cons_zero, List.set_cons_succ]
        refine wpAnyH_done (by kernel_rfl) ?_ _
        have HLO : Hid (∀ er, ReR n Bt er s.x x2 → LogR n (s.batch room) er s.x x2) := Lib.hid fun er h => by rw [HBT.out]; exact ⟨6, s.x, HA.out, .inr ⟨rfl, h⟩⟩
        clear hs17 hs16 HST HGK HST15 HGK15 HS16
        rcases HRR.out.more.1 with rfl | rfl | rfl
        · have HLR := Lib.hid (HLO.out _ HRR.out)
          have hq1 : x2.D.pcs.length ≤ 400000 := by
            have h1 := HLR.out.more.2.2.1
            have h2 := HX.out.2.1
            omega
          obtain ⟨Tn, hpx⟩ := HPM.out.x0.gl HG.out hq1
          obtain ⟨hp5, hp6, -⟩ := HBX.out w17 hpx.kp
          obtain ⟨-, -, -, -, -, -, -, -, e27, e28⟩ := hpx.pm.row.cells
          have c27 : w17.cell? ⟨pb, 27, none⟩ = some (.bool true) := by rw [← HOP.out.1]; exact e27
          have c28 : w17.cell? ⟨pb, 28, none⟩ = some (.bool false) := by rw [← HOP.out.2]; exact e28
          have f27 := hpx.pm.row.row.frozen 27
          have f28 := hpx.pm.row.row.frozen 28
          have HPX := Lib.hid hpx
          clear e27 e28 hpx hq1
          obtain ⟨w20, hw20⟩ : ∃ z, w17.setCell ⟨pb, 27, none⟩ (.bool false) = z := ⟨_, rfl⟩
          have hx3 : PgX b0 wr w20 F3 (fun y => F3 y ∨ Tn y) Tn U3 pb d size n room lb m f3 { s with tn := s.tn0, op := false, x := x2 } := by
            have hr := HPX.out.pm.row.row.set 27 (.bool false)
            rw [pgRow_eq _ _ _ _ _ _ _ _ _ _ HPX.out.pm.row.r8 HPX.out.pm.row.w8] at hr
            have hx2 := HPX.out.row (keep_grown (grownBy_setCellAt w17 pb 27 (.bool false))) (now := s.now) (was := s.was) (op := false) (dd := s.dd) ⟨hr, HPX.out.pm.row.r8, HPX.out.pm.row.w8⟩
            rw [hw20] at hx2
            exact hx2
          have hx4 := hx3.later (drewN_below (Below.refl _ w20) 1)
          have HX4 := Lib.hid hx4
          obtain ⟨r0, r1, r2, r3, -⟩ := hx4.pm.row.cells
          obtain ⟨b1, b2, b3⟩ := HBX.out _ hx4.kp
          have hs23 : w20.drew.cell? ⟨g1, 0, none⟩ = some (.pointer (some ⟨pb, 0, none⟩)) ∧ w20.drew.cell? ⟨pb, 0, none⟩ = some (.pointer (some ⟨d, 0, none⟩)) ∧ w20.drew.cell? ⟨pb, 2, none⟩ = some (.int .i64 (n : Int)) ∧ w20.drew.cell? ⟨g3, 0, none⟩ = some (.slice va vl vc) ∧ w20.drew.cell? ⟨pb, 3, none⟩ = some (.int .i64 (room : Int)) := ⟨b1, r0, r2, b2, r3⟩
          have HPU : Hid (Calls Try.prog 29 #[.pointer (some ⟨d, 0, none⟩), .int .i64 (n : Int), .slice va vl vc, .int .i64 (room : Int)] w20.drew fun e w' => ∃ er x', e = .returned (.int .i64 er) ∧ PutR n room (ents Bt) er x2 x' ∧ ∃ T5, PgX b0 wr w' F3 (fun y => (F3 y ∨ Tn y) ∨ T5 y) T5 U3 pb d size n room lb m f3 { s with tn := s.tn0, op := false, x := x' }) := by
            have hm := HLR.out.more.2.2.2.2.2 rfl
            have hlen := HBLn.out
            have hb20 : b0 ≤ w20.drew.heap.size := by
              have := hx4.pm.lim pb (hx4.pm.foot pb (.inr (.inr (.inl rfl))))
              exact Nat.le_trans this.1 (Nat.le_of_lt this.2)
            have hvls : vl ≤ vc := hvlc.out
            refine (G_put (GL.refl hx4.pm.log) hb20 room hx4.pm.rm va Bt vl vc HVL.out.symm hvls b3 (fun ad e => ⟨fun ht => ?_, ?_⟩) ?_).mono ?_
            · have h1 := (HVB.out ad e).2
              rcases hx4.sub _ (hx4.pm.foot _ (.inl ht)) with e2 | e2
              · have := (HNF.out _ e2).1
                have := (HVB.out ad e).1
                omega
              · omega
            · have h1 := (HVB.out ad e).2
              have := hx4.kp.size
              omega
            · show x2.D.pcs.length + vl ≤ 700000
              rw [hm.2]
              have := HVL.out
              simp only [List.length_nil]
              omega
            · rintro e w' ⟨er, x', rfl, h1, h2⟩
              obtain ⟨T5, h3⟩ := hx4.gl h2 (by
                have q1 := (PutR.more h1 fun e he => entsN_len _ _ e he).2.2.1
                have q2 := entsN_many Bt.length Bt
                unfold ents at q1
                rw [hm.2] at q1
                simp only [List.length_nil] at q1
                omega)
              exact ⟨er, x', rfl, h1, T5, h3⟩
          clear hx3 hx4 r0 r1 r2 r3 b1 b2 b3
          go_upto_region 23 with fail
          try simp only [hw20]
          refine wp_region_held_drew (S := fun W => W.cell? ⟨g1, 0, none⟩ = some (.pointer (some ⟨pb, 0, none⟩)) ∧ W.cell? ⟨pb, 0, none⟩ = some (.pointer (some ⟨d, 0, none⟩)) ∧ W.cell? ⟨pb, 2, none⟩ = some (.int .i64 (n : Int)) ∧ W.cell? ⟨g3, 0, none⟩ = some (.slice va vl vc) ∧ W.cell? ⟨pb, 3, none⟩ = some (.int .i64 (room : Int))) (by kernel_rfl) hs23 (fun hHeld => ?_)
          refine wpAnyH_take (i := 0) (v := ?_) rfl (by kernel_rfl) (by kernel_rfl) (by kernel_rfl) (fun _ _ _ h => h) (Or.inl ⟨by rfl, ?_⟩) hHeld ?_
          rotate_left
          · intro w' hS'
            (try dsimp only at hS')
            obtain ⟨s1, s2, s3, s4, s5⟩ := hS'
            go_simp
            try with_reducible rfl
          try simp only [List.getElem_toArray, List.getElem_cons_succ, List.getElem_cons_zero, Act.put, List.setIfInBounds_toArray, List.set_cons_zero, List.set_cons_succ]
          refine wpAnyH_take (i := 1) (v := ?_) rfl (by kernel_rfl) (by kernel_rfl) (by kernel_rfl) (fun _ _ _ h => h) (Or.inl ⟨by rfl, ?_⟩) hHeld ?_
          rotate_left
          · intro w' hS'
            (try dsimp only at hS')
            obtain ⟨s1, s2, s3, s4, s5⟩ := hS'
            go_simp
            try with_reducible rfl
          try simp only [List.getElem_toArray, List.getElem_cons_succ, List.getElem_cons_zero, Act.put, List.setIfInBounds_toArray, List.set_cons_zero, List.set_cons_succ]
          refine wpAnyH_take (i := 2) (v := ?_) rfl (by kernel_rfl) (by kernel_rfl) (by kernel_rfl) (fun _ _ _ h => h) (Or.inl ⟨by rfl, ?_⟩) hHeld ?_
          rotate_left
          · intro w' hS'
            (try dsimp only at hS')
            obtain ⟨s1, s2, s3, s4, s5⟩ := hS'
            go_simp
            try with_reducible rfl
          try simp only [List.getElem_toArray, List.getElem_cons_succ, List.getElem_cons_zero, Act.put, List.setIfInBounds_toArray, List.set_cons_zero, List.set_cons_succ]
          refine wpAnyH_take (i := 3) (v := ?_) rfl (by kernel_rfl) (by kernel_rfl) (by kernel_rfl) (fun _ _ _ h => h) (Or.inl ⟨by rfl, ?_⟩) hHeld ?_
          rotate_left
          · intro w' hS'
            (try dsimp only at hS')
            obtain ⟨s1, s2, s3, s4, s5⟩ := hS'
            go_simp
            try with_reducible rfl
          try simp only [List.getElem_toArray, List.getElem_cons_succ, List.getElem_cons_zero, Act.put, List.setIfInBounds_toArray, List.set_cons_zero, List.set_cons_succ]
          refine wpAnyH_take (i := 4) (v := ?_) rfl (by kernel_rfl) (by kernel_rfl) (by kernel_rfl) (fun _ _ _ h => h) (Or.inl ⟨by rfl, ?_⟩) hHeld ?_
          rotate_left
          · intro w' hS'
            (try dsimp only at hS')
            obtain ⟨s1, s2, s3, s4, s5⟩ := hS'
            go_simp
            try with_reducible rfl
          try simp only [List.getElem_toArray, List.getElem_cons_succ, List.getElem_cons_zero, Act.put, List.setIfInBounds_toArray, List.set_cons_zero, List.set_cons_succ]
          refine wpAnyH_take (i := 5) (v := ?_) rfl (by kernel_rfl) (by kernel_rfl) (by kernel_rfl) (fun _ _ _ h => h) (Or.inl ⟨by rfl, ?_⟩) hHeld ?_
          rotate_left
          · intro w' hS'
            (try dsimp only at hS')
            obtain ⟨s1, s2, s3, s4, s5⟩ := hS'
            go_simp
            try with_reducible rfl
          try simp only [List.getElem_toArray, List.getElem_cons_succ, List.getElem_cons_zero, Act.put, List.setIfInBounds_toArray, List.set_cons_zero, List.set_cons_succ]
          refine wpAnyH_take (i := 6) (v := ?_) rfl (by kernel_rfl) (by kernel_rfl) (by kernel_rfl) (fun _ _ _ h => h) (Or.inl ⟨by rfl, ?_⟩) hHeld ?_
          rotate_left
          · intro w' hS'
            (try dsimp only at hS')
            obtain ⟨s1, s2, s3, s4, s5⟩ := hS'
            go_simp
            try with_reducible rfl
          try simp only [List.getElem_toArray, List.getElem_cons_succ, List.getElem_cons_zero, Act.put, List.setIfInBounds_toArray, List.set_cons_zero, List.set_cons_succ]
          refine wpAnyH_take (i := 7) (v := ?_) rfl (by kernel_rfl) (by kernel_rfl) (by kernel_rfl) (fun _ _ _ h => h) (Or.inl ⟨by rfl, ?_⟩) hHeld ?_
          rotate_left
          · intro w' hS'
            (try dsimp only at hS')
            obtain ⟨s1, s2, s3, s4, s5⟩ := hS'
            go_simp
            try with_reducible rfl
          try simp only [List.getElem_toArray, List.getElem_cons_succ, List.getElem_cons_zero, Act.put, List.setIfInBounds_toArray, List.set_cons_zero, List.set_cons_succ]
          refine wpAnyH_take (i := 8) (v := ?_) rfl (by kernel_rfl) (by kernel_rfl) (by kernel_rfl) (fun _ _ _ h => h) (Or.inl ⟨by rfl, ?_⟩) hHeld ?_
          rotate_left
          · intro w' hS'
            (try dsimp only at hS')
            obtain ⟨s1, s2, s3, s4, s5⟩ := hS'
            go_simp
            try with_reducible rfl
          try simp only [List.getElem_toArray, List.getElem_cons_succ, List.getElem_cons_zero, Act.put, List.setIfInBounds_toArray, List.set_cons_zero, List.set_cons_succ]
          refine wpAnyH_take (i := 9) (v := ?_) rfl (by kernel_rfl) (by kernel_rfl) (by kernel_rfl) (fun _ _ _ h => h) (Or.inl ⟨by rfl, ?_⟩) hHeld ?_
          rotate_left
          · intro w' hS'
            (try dsimp only at hS')
            obtain ⟨s1, s2, s3, s4, s5⟩ := hS'
            go_simp
            try with_reducible rfl
          try simp only [List.getElem_toArray, List.getElem_cons_succ, List.getElem_cons_zero, Act.put, List.setIfInBounds_toArray, List.set_cons_zero, List.set_cons_succ]
          refine wpAnyH_take (i := 10) (v := ?_) rfl (by kernel_rfl) (by kernel_rfl) (by kernel_rfl) (fun _ _ _ h => h) (Or.inl ⟨by rfl, ?_⟩) hHeld ?_
          rotate_left
          · intro w' hS'
            (try dsimp only at hS')
            obtain ⟨s1, s2, s3, s4, s5⟩ := hS'
            go_simp
            try with_reducible rfl
          try simp only [List.getElem_toArray, List.getElem_cons_succ, List.getElem_cons_zero, Act.put, List.setIfInBounds_toArray, List.set_cons_zero, List.set_cons_succ]
          refine wpAnyH_take (i := 11) (v := ?_) rfl (by kernel_rfl) (by kernel_rfl) (by kernel_rfl) (fun _ _ _ h => h) (Or.inl ⟨by rfl, ?_⟩) hHeld ?_
          rotate_left
          · intro w' hS'
            (try dsimp only at hS')
            obtain ⟨s1, s2, s3, s4, s5⟩ := hS'
            go_simp
            try with_reducible rfl
          try simp only [List.getElem_toArray, List.getElem_cons_succ, List.getElem_cons_zero, Act.put, List.setIfInBounds_toArray, List.set_cons_zero, List.set_cons_succ]
          refine wpAnyH_take (i := 12) (v := ?_) rfl (by kernel_rfl) (by kernel_rfl) (by kernel_rfl) (fun _ _ _ h => h) (Or.inl ⟨by rfl, ?_⟩) hHeld ?_
          rotate_left
          · intro w' hS'
            (try dsimp only at hS')
            obtain ⟨s1, s2, s3, s4, s5⟩ := hS'
            go_simp
            try with_reducible rfl
          try simp only [List.getElem_toArray, List.getElem_cons_succ, List.getElem_cons_zero, Act.put, List.setIfInBounds_toArray, List.set_cons_zero, List.set_cons_succ]
          refine wpAnyH_ready (rs := [13]) (by kernel_rfl) (by simp) (AllReadyH.cons rfl (fun K hK => ?_) AllReadyH.nil)
          try rw [if_pos (by rfl)]
          go_wp2_with fail
          refine HPU.out.mono ?_
          rintro _ w21 ⟨er, x3, rfl, hput, T5, hx5⟩
          have HX5 := Lib.hid hx5
          obtain ⟨r0, r1, r2, r3, -, -, -, -, r27, r28⟩ := hx5.pm.row.cells
          obtain ⟨b1, b2, b3⟩ := HBX.out _ hx5.kp
          have c28' : w21.cell? ⟨pb, 28, none⟩ = some (.bool false) := by rw [← HOP.out.2]; exact r28
          have f28' := hx5.pm.row.row.frozen 28
          have hs21 : w21.cell? ⟨g1, 0, none⟩ = some (.pointer (some ⟨pb, 0, none⟩)) ∧ w21.cell? ⟨pb, 0, none⟩ = some (.pointer (some ⟨d, 0, none⟩)) ∧ w21.cell? ⟨pb, 2, none⟩ = some (.int .i64 (n : Int)) ∧ w21.cell? ⟨g3, 0, none⟩ = some (.slice va vl vc) ∧ w21.cell? ⟨pb, 3, none⟩ = some (.int .i64 (room : Int)) := ⟨b1, r0, r2, b2, r3⟩
          have HPT : Hid (PutR n room (ents (s.batch room)) er x2 x3) := by rw [HBT.out]; exact hput
          clear hx5 hput r0 r1 r2 r3 r27 r28 b2 b3 hp5 hp6 c27 c28 f27 f28
          refine hK.out _ _ hs21 (fun hHeld => ?_)
          clear hK K
          try simp only [List.getElem_toArray, List.getElem_cons_succ, List.getElem_cons_zero, Act.put, List.setIfInBounds_toArray, List.set_cons_zero, List.set_cons_succ]
          refine wpAnyH_take (i := 14) (v := ?_) rfl (by kernel_rfl) (by kernel_rfl) (by kernel_rfl) (fun _ _ _ h => h) (Or.inl ⟨by rfl, ?_⟩) hHeld ?_
          rotate_left
          · intro w' hS'
            (try dsimp only at hS')
            obtain ⟨s1, s2, s3, s4, s5⟩ := hS'
            go_simp
            try with_reducible rfl
          try simp only [List.getElem_toArray, List.getElem_cons_succ, List.getElem_cons_zero, Act.put, List.setIfInBounds_toArray, List.set_cons_zero, List.set_cons_succ]
          refine wpAnyH_done (by kernel_rfl) ?_ _
          clear hs21 hs23
          by_cases her : er = 0
          · subst her
            have HEN : Hid (Calls Try.prog 47 #[.pointer (some ⟨pb, 0, none⟩)] w21 fun e w' => e = .returned (.tuple #[]) ∧ (w'.cell? ⟨g1, 0, none⟩ = some (.pointer (some ⟨pb, 0, none⟩)) ∧ w'.cell? ⟨pb, 28, none⟩ = some (.bool false) ∧ w'.frozen? ⟨pb, 28, none⟩ = false) ∧ ∀ W2, w'.setCell ⟨pb, 28, none⟩ (.bool false) = W2 → K (.returned (.int .i64 0)) W2) := by
              refine (pgend_any b0 w21 _ pb d size n room _ ⟨_, _, _, _, _, HX5.out.pm⟩).mono ?_
              rintro e w' ⟨rfl, F7, ⟨T7, U7, lb7, m7, f7, h7⟩, hF7, hk7⟩
              have hk8 : KeepA F3 wr w' := HX5.out.kp.trans2 hk7 fun y hy e => by
                rcases HX5.out.sub y e with e | e
                · exact e
                · omega
              obtain ⟨-, -, -, -, -, -, -, -, -, e28⟩ := h7.row.cells
              have e28' : w'.cell? ⟨pb, 28, none⟩ = some (.bool false) := by rw [← HOP.out.2]; exact e28
              refine ⟨rfl, ⟨(HBX.out w' hk8).1, e28', h7.row.row.frozen 28⟩, fun W2 e => ?_⟩
              subst e
              have hr := h7.row.row.set 28 (.bool false)
              rw [pgRow_dd _ _ _ _ _ _ _ _ _ _ h7.row.r8 h7.row.w8] at hr
              have h9 := h7.setRow (keep_grown (grownBy_setCellAt w' pb 28 (.bool false))) (now := s.now) (was := s.was) (op := false) (dd := false) ⟨hr, h7.row.r8, h7.row.w8⟩
              refine HFB.out 0 { s with tn := fun _ => none, op := false, dd := false, x := x3 } _ ⟨0, x2, HLR.out, .inr (.inl ⟨rfl, x3, HPT.out, .inl ⟨rfl, rfl⟩⟩)⟩ ⟨F7, ⟨_, _, _, _, _, h9⟩, fun y hy => ?_, hk8.trans2 (keep_grown (grownBy_setCellAt w' pb 28 (.bool false))) fun y hy e => ?_⟩
              · rcases hF7 y hy with e | e
                · exact HX5.out.sub y e
                · exact .inr (Nat.le_trans HX5.out.kp.size e)
              · subst e
                exact HPM.out.foot y (.inr (.inr (.inl rfl)))
            clear c28' f28'
            go_wp2_with fail
            refine HEN.out.mono ?_
            rintro _ w22 ⟨rfl, ⟨b5, b6, b7⟩, hE⟩
            have HE := Lib.hid hE
            clear hE b1
            go_wp2
            exact HE.out _ rfl
          · have HEND : Hid (∀ W2, w21.setCell ⟨pb, 28, none⟩ (.bool true) = W2 → K (.returned (.int .i64 er)) W2) := Lib.hid fun W2 e => by
              subst e
              have hr := HX5.out.pm.row.row.set 28 (.bool true)
              rw [pgRow_dd _ _ _ _ _ _ _ _ _ _ HX5.out.pm.row.r8 HX5.out.pm.row.w8] at hr
              have hx2 := HX5.out.row (keep_grown (grownBy_setCellAt w21 pb 28 (.bool true))) (now := s.now) (was := s.was) (op := false) (dd := true) ⟨hr, HX5.out.pm.row.r8, HX5.out.pm.row.w8⟩
              exact HFB.out er { s with tn := s.tn0, op := false, dd := true, x := x3 } _ ⟨0, x2, HLR.out, .inr (.inl ⟨rfl, x3, HPT.out, .inr ⟨her, rfl⟩⟩)⟩ hx2.pgR
            have her1 : (er == 0) = false := by simpa using her
            have her2 : (er != 0) = true := by simpa using her
            clear her
            go_wp2
            exact HEND.out _ rfl
        · have HLR := Lib.hid (HLO.out _ HRR.out)
          have hq1 : x2.D.pcs.length ≤ 400000 := by
            have h1 := HLR.out.more.2.2.1
            have h2 := HX.out.2.1
            omega
          obtain ⟨Tn, hpx⟩ := HPM.out.x0.gl HG.out hq1
          obtain ⟨hp5, hp6, -⟩ := HBX.out w17 hpx.kp
          obtain ⟨-, -, -, -, -, -, -, -, e27, e28⟩ := hpx.pm.row.cells
          have c27 : w17.cell? ⟨pb, 27, none⟩ = some (.bool true) := by rw [← HOP.out.1]; exact e27
          have c28 : w17.cell? ⟨pb, 28, none⟩ = some (.bool false) := by rw [← HOP.out.2]; exact e28
          have f27 := hpx.pm.row.row.frozen 27
          have f28 := hpx.pm.row.row.frozen 28
          have HPX := Lib.hid hpx
          clear e27 e28 hpx hq1
          have HEND : Hid (∀ W2, w17.setCell ⟨pb, 28, none⟩ (.bool true) = W2 → K (.returned (.int .i64 5)) W2) := Lib.hid fun W2 e => by
            subst e
            have hr := HPX.out.pm.row.row.set 28 (.bool true)
            rw [pgRow_dd _ _ _ _ _ _ _ _ _ _ HPX.out.pm.row.r8 HPX.out.pm.row.w8] at hr
            have hx2 := HPX.out.row (keep_grown (grownBy_setCellAt w17 pb 28 (.bool true))) (now := s.now) (was := s.was) (op := s.op) (dd := true) ⟨hr, HPX.out.pm.row.r8, HPX.out.pm.row.w8⟩
            exact HFB.out 5 { s with tn := s.tn0, dd := true, x := x2 } _ ⟨5, x2, HLR.out, .inr (.inr ⟨by decide, by decide, rfl, rfl⟩)⟩ hx2.pgR
          go_wp2
          exact HEND.out _ rfl
        · have HLR := Lib.hid (HLO.out _ HRR.out)
          have hq1 : x2.D.pcs.length ≤ 400000 := by
            have h1 := HLR.out.more.2.2.1
            have h2 := HX.out.2.1
            omega
          obtain ⟨Tn, hpx⟩ := HPM.out.x0.gl HG.out hq1
          obtain ⟨hp5, hp6, -⟩ := HBX.out w17 hpx.kp
          obtain ⟨-, -, -, -, -, -, -, -, e27, e28⟩ := hpx.pm.row.cells
          have c27 : w17.cell? ⟨pb, 27, none⟩ = some (.bool true) := by rw [← HOP.out.1]; exact e27
          have c28 : w17.cell? ⟨pb, 28, none⟩ = some (.bool false) := by rw [← HOP.out.2]; exact e28
          have f27 := hpx.pm.row.row.frozen 27
          have f28 := hpx.pm.row.row.frozen 28
          have HPX := Lib.hid hpx
          clear e27 e28 hpx hq1
          have hwr : w17.rangeAt pb 15 (mtC s.was) := HPX.out.pm.row.was_range
          have HRW : Hid (PgRow w17 pb d lb n room s.now s.was m s.op s.dd) := Lib.hid HPX.out.pm.row
          have HS18 : Hid (∀ W', PgRow W' pb d lb n room s.was s.was m s.op s.dd → w17.drew.grownBy W' (some pb) → W'.cell? ⟨g1, 0, none⟩ = some (.pointer (some ⟨pb, 0, none⟩)) ∧ W'.rangeAt pb 15 (mtC s.was)) := Lib.hid fun W' hr hg => by
            have hp7 : w17.drew.cell? ⟨g1, 0, none⟩ = some (.pointer (some ⟨pb, 0, none⟩)) := hp5
            exact ⟨hg.cell hp7 fun e => (HNF.out pb (HPM.out.foot pb (.inr (.inr (.inl rfl))))).2 (Option.some.inj e).symm, hr.was_range⟩
          have HEND : Hid (∀ W', PgRow W' pb d lb n room s.was s.was m s.op s.dd → w17.drew.grownBy W' (some pb) → Calls Try.prog 47 #[.pointer (some ⟨pb, 0, none⟩)] W' fun e w' => e = .returned (.tuple #[]) ∧ K (.returned (.int .i64 6)) w') := Lib.hid fun W' hr hg => by
            have hx2 := (HPX.out.later (drewN_below (Below.refl _ w17) 1)).row (keep_grown hg) (now := s.was) (was := s.was) (op := s.op) (dd := s.dd) hr
            refine (pgend_any b0 W' _ pb d size n room _ ⟨_, _, _, _, _, hx2.pm⟩).mono ?_
            rintro e w' ⟨rfl, hR⟩
            exact ⟨rfl, HFB.out 6 { s with now := s.was, tn := fun _ => none, op := false, x := x2 } _ ⟨6, x2, HLR.out, .inl ⟨rfl, rfl, rfl⟩⟩ (PgR.step hx2.sub hx2.kp hR)⟩
          go_upto_region 18 with fail
          refine wp_region_held_drew (S := fun W => W.cell? ⟨g1, 0, none⟩ = some (.pointer (some ⟨pb, 0, none⟩)) ∧ W.rangeAt pb 15 (mtC s.was)) (by kernel_rfl) ⟨hp5, hwr⟩ (fun hHeld => ?_)
          refine wpAnyH_take (i := 0) (v := ?_) rfl (by kernel_rfl) (by kernel_rfl) (by kernel_rfl) (fun _ _ _ h => h) (Or.inl ⟨by rfl, ?_⟩) hHeld ?_
          rotate_left
          · intro w' hS'
            (try dsimp only at hS')
            obtain ⟨hp, hwr'⟩ := hS'
            go_simp
            try with_reducible rfl
          try simp only [List.getElem_toArray, List.getElem_cons_succ, List.getElem_cons_zero, Act.put, List.setIfInBounds_toArray, List.set_cons_zero, List.set_cons_succ]
          refine wpAnyH_take (i := 1) (v := ?_) rfl (by kernel_rfl) (by kernel_rfl) (by kernel_rfl) (fun _ _ _ h => h) (Or.inl ⟨by rfl, ?_⟩) hHeld ?_
          rotate_left
          · intro w' hS'
            (try dsimp only at hS')
            obtain ⟨hp, hwr'⟩ := hS'
            go_simp
            try with_reducible rfl
          try simp only [List.getElem_toArray, List.getElem_cons_succ, List.getElem_cons_zero, Act.put, List.setIfInBounds_toArray, List.set_cons_zero, List.set_cons_succ]
          refine wpAnyH_take (i := 2) (v := ?_) rfl (by kernel_rfl) (by kernel_rfl) (by kernel_rfl) (fun _ _ _ h => h) (Or.inl ⟨by rfl, ?_⟩) hHeld ?_
          rotate_left
          · intro w' hS'
            (try dsimp only at hS')
            obtain ⟨hp, hwr'⟩ := hS'
            go_simp
            try with_reducible rfl
          try simp only [List.getElem_toArray, List.getElem_cons_succ, List.getElem_cons_zero, Act.put, List.setIfInBounds_toArray, List.set_cons_zero, List.set_cons_succ]
          refine wpAnyH_take (i := 3) (v := ?_) rfl (by kernel_rfl) (by kernel_rfl) (by kernel_rfl) (fun _ _ _ h => h) (Or.inl ⟨by rfl, ?_⟩) hHeld ?_
          rotate_left
          · intro w' hS'
            (try dsimp only at hS')
            obtain ⟨hp, hwr'⟩ := hS'
            go_simp
            try with_reducible rfl
          try simp only [List.getElem_toArray, List.getElem_cons_succ, List.getElem_cons_zero, Act.put, List.setIfInBounds_toArray, List.set_cons_zero, List.set_cons_succ]
          refine wpAnyH_take (i := 4) (v := .agg (mtC s.was).toArray) rfl (by kernel_rfl) (by kernel_rfl) (by kernel_rfl) (fun _ _ _ h => h) (yieldsIf_load_mid (by rfl) 72 (.tmp 79) rfl pb 15 rfl (mtC s.was) _ (fun w' hS' => hS'.2) Try.underlying72 rfl (by rw [mtC_len, HRW.out.w8]; exact metaSize)) hHeld ?_
          try simp only [List.getElem_toArray, List.getElem_cons_succ, List.getElem_cons_zero, Act.put, List.setIfInBounds_toArray, List.set_cons_zero, List.set_cons_succ]
          refine wpAnyH_take (i := 5) (v := ?_) rfl (by kernel_rfl) (by kernel_rfl) (by kernel_rfl) (fun _ _ _ h => h) (Or.inl ⟨by rfl, ?_⟩) hHeld ?_
          rotate_left
          · intro w' hS'
            (try dsimp only at hS')
            obtain ⟨hp, hwr'⟩ := hS'
            go_simp
            try with_reducible rfl
          try simp only [List.getElem_toArray, List.getElem_cons_succ, List.getElem_cons_zero, Act.put, List.setIfInBounds_toArray, List.set_cons_zero, List.set_cons_succ]
          refine wpAnyH_take (i := 6) (v := ?_) rfl (by kernel_rfl) (by kernel_rfl) (by kernel_rfl) (fun _ _ _ h => h) (Or.inl ⟨by rfl, ?_⟩) hHeld ?_
          rotate_left
          · intro w' hS'
            (try dsimp only at hS')
            obtain ⟨hp, hwr'⟩ := hS'
            go_simp
            try with_reducible rfl
          try simp only [List.getElem_toArray, List.getElem_cons_succ, List.getElem_cons_zero, Act.put, List.setIfInBounds_toArray, List.set_cons_zero, List.set_cons_succ]
          refine wpAnyH_ready (rs := [7]) (by kernel_rfl) (by simp) (AllReadyH.cons rfl (fun K hK => ?_) AllReadyH.nil)
          try rw [if_pos (by rfl)]
          refine wp_storeMid 72 (.tmp 82) (.tmp 80) rfl rfl pb 4 (mtC s.was) rfl rfl 77 _ HRW.out.row (by rw [mtC_len, HRW.out.w8, pgC_size _ _ _ _ _ _ _ _ _ HRW.out.r8 HRW.out.w8]; decide) (by rw [mtC_len, HRW.out.w8]; exact metaSize) (mtC_one _) _ (patch_now _ _ _ _ _ _ _ _ _ _ HRW.out.r8 HRW.out.w8) ?_
          intro w18 hr18 hg18
          have hr19 : PgRow w18 pb d lb n room s.was s.was m s.op s.dd := ⟨hr18, HRW.out.w8, HRW.out.w8⟩
          have hs18 := HS18.out w18 hr19 hg18
          have HE18 := Lib.hid (HEND.out w18 hr19 hg18)
          have hp18 := hs18.1
          clear hr18 hg18 hr19 hp5 hwr c27 c28 f27 f28
          refine hK.out _ _ hs18 (fun hHeld => ?_)
          clear hK K
          try simp only [List.getElem_toArray, List.getElem_cons_succ, List.getElem_cons_zero, Act.put, List.setIfInBounds_toArray, List.set_cons_zero, List.set_cons_succ]
          refine wpAnyH_done (by kernel_rfl) ?_ _
          clear hs18
          go_wp2_with fail
          refine HE18.out.mono ?_
          rintro _ w19 ⟨rfl, hE⟩
          have HE := Lib.hid hE
          clear hE
          go_wp2
          exact HE.out
end Go.Proofs.Ytagipfkgnobjlaa
