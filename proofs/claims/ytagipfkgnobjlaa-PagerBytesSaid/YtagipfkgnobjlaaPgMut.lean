/- Put. (Printed by gen_pgmut.py.) -/
import Derived.Test.YtagipfkgnobjlaaPgEnd
namespace Go.Proofs.Ytagipfkgnobjlaa
open Go.RowKit

attribute [local go_sem] Oper.semAt_some
theorem OwnB.rd2 {w : World} {base : Nat} {e : TypeId} {v : Value} {l : List UInt8} (h : OwnB w base e v l) (hne : l ≠ []) : ∃ g cap, v = .slice (some ⟨g, 0, none⟩) l.length cap ∧ l.length ≤ cap ∧ base ≤ g ∧ g < w.heap.size ∧ RdB w (some ⟨g, 0, none⟩) l := by
  obtain ⟨a, cap, e1, h1, h2⟩ := OwnB.rd h
  subst e1
  rcases h.2 with ⟨e1, e2⟩ | ⟨g, cap', cur, e1, hb, hg, -⟩
  · exact absurd (List.eq_nil_of_length_eq_zero e2) hne
  · cases e1
    exact ⟨g, cap, rfl, h1, hb, (Array.getElem?_eq_some_iff.1 hg).1, h2⟩
/-- A page is laid among the changed ones. -/
def PS.laid (s : PS) (x : Int) (B : List UInt8) : PS := { s with tn := fun z => if z = x then some B else s.tn z }
theorem TurnAt.put {w w' : World} {U : Nat → Prop} {m : Nat} {f : Int → Option Value} {tn : Int → Option (List UInt8)} (h : TurnAt w U m f tn) {x : Int} {v : Value} (hg : w.grownBy w' (some m)) (hm : MapR w' m intV (fun j => if j = x then some v else f j)) (hU : ¬ U m)
    {g c : Nat} {B : List UInt8} (hv : v = .slice (some ⟨g, 0, none⟩) 1024 c) (hc : 1024 ≤ c) (hB : B.length = 1024) (hr : RdB w' (some ⟨g, 0, none⟩) B) : TurnAt w' (fun y => U y ∨ y = g) m (fun j => if j = x then some v else f j) (fun z => if z = x then some B else tn z) := by
  refine ⟨hm, fun k hk => ?_, fun k u hk => ?_⟩
  · try dsimp only at hk ⊢
    by_cases e : k = x
    · rw [if_pos e] at hk; cases hk
    · rw [if_neg e] at hk ⊢; exact h.no k hk
  · try dsimp only at hk ⊢
    by_cases e : k = x
    · rw [if_pos e] at hk ⊢
      cases hk
      exact ⟨B, _, c, rfl, hv, hc, hB, hr, fun b off q => by cases q; exact .inr rfl⟩
    · rw [if_neg e] at hk ⊢
      obtain ⟨B', a, c', q1, q2, q3, q4, q5, q6⟩ := h.yes k u hk
      exact ⟨B', a, c', q1, q2, q3, q4, Rd.keepA q5 (keep_grown hg) (fun b off q _ e2 => hU (e2 ▸ q6 b off q)), fun b off q => .inl (q6 b off q)⟩
/-- A page's bytes in a block of the call's own, laid into the map. -/
theorem PgM.lay {b0 : Nat} {w w2 w3 : World} {F T U : Nat → Prop} {pb d size n room lb m : Nat} {f : Int → Option Value} {s : PS} (h : PgM b0 w F T U pb d size n room lb m f s) (hb : Below w.heap.size w w2) {x : Int} {g c : Nat} {B : List UInt8}
    (hg : w.heap.size ≤ g) (hg2 : g < w2.heap.size) (hc : 1024 ≤ c) (hB : B.length = 1024) (hr : RdB w2 (some ⟨g, 0, none⟩) B) (hgr : w2.grownBy w3 (some m)) (hm : MapR w3 m intV (fun j => if j = x then some (.slice (some ⟨g, 0, none⟩) 1024 c) else f j)) :
    ∃ U' F', PgM b0 w3 F' T U' pb d size n room lb m (fun j => if j = x then some (.slice (some ⟨g, 0, none⟩) 1024 c) else f j) (s.laid x B) ∧ (∀ y, F' y → F y ∨ w.heap.size ≤ y) ∧ KeepA F w w3 := by
  have h2 := h.later hb
  have hgm : g ≠ m := fun e => by have := h.turn.map.lt; omega
  have ht := h2.turn.put hgr hm h.mT.2.1 rfl hc hB (Rd.keepA hr (keep_grown hgr) fun b off q _ e => by cases q; exact hgm e)
  have hsz := hb.size
  have hs3 := hgr.size
  have hfin := h.foot m (.inr (.inr (.inr rfl)))
  have hk : KeepA F w w3 := (KeepA.of_below (X := F) hb).trans ((keep_grown hgr).mono fun y hy => hy ▸ hfin)
  -- the blocks of the pages, seen from w
  have hM : PgM b0 w3 (fun y => F y ∨ (U y ∨ y = g)) T (fun y => U y ∨ y = g) pb d size n room lb m (fun j => if j = x then some (.slice (some ⟨g, 0, none⟩) 1024 c) else f j) (s.laid x B) := by
    have lT : ∀ y, T y → y < w.heap.size := fun y hy => (h.lim y (h.foot y (.inl hy))).2
    have hkm := keep_grown hgr
    refine ⟨h2.row.keep hkm h.mT.2.2.symm, ht, h2.log.keep hkm fun y hy e => by subst e; exact h.mT.1 hy, fun y hy hy2 => ?_, ⟨h.pbT.1, fun hy => ?_⟩, ⟨h.mT.1, fun hy => ?_, h.mT.2.2⟩, fun y hy => ?_, fun y hy => ?_, h.rm, h.ql⟩
    · rcases hy with e | e
      · exact h.tu y e hy2
      · have := lT y hy2; omega
    · rcases hy with e | e
      · exact h.pbT.2 e
      · have := h.row.row.lt; omega
    · rcases hy with e | e
      · exact h.mT.2.1 e
      · exact hgm e.symm
    · rcases hy with e | e | e | e
      · exact .inl (h.foot y (.inl e))
      · exact .inr e
      · exact .inl (h.foot y (.inr (.inr (.inl e))))
      · exact .inl (h.foot y (.inr (.inr (.inr e))))
    · have l0 : b0 ≤ w.heap.size := by have := h.lim m hfin; omega
      rcases hy with e | e | e
      · have := h.lim y e; omega
      · have := h.lim y (h.foot y (.inr (.inl e))); omega
      · omega
  exact ⟨_, _, hM, fun y hy => by
    rcases hy with e | e | e
    · exact .inl e
    · exact .inl (h.foot y (.inr (.inl e)))
    · exact .inr (by omega), hk⟩
theorem PgA.lay {b0 : Nat} {w w2 w3 : World} {F T U : Nat → Prop} {pb d size n room lb m : Nat} {f : Int → Option Value} {s : PS} (h : PgM b0 w F T U pb d size n room lb m f s) (hb : Below w.heap.size w w2) {x : Int} {g c : Nat} {B : List UInt8}
    (hg : w.heap.size ≤ g) (hg2 : g < w2.heap.size) (hc : 1024 ≤ c) (hB : B.length = 1024) (hr : RdB w2 (some ⟨g, 0, none⟩) B) (hgr : w2.grownBy w3 (some m)) (hm : MapR w3 m intV (fun j => if j = x then some (.slice (some ⟨g, 0, none⟩) 1024 c) else f j)) :
    PgR b0 w w3 F pb d size n room (s.laid x B) := by
  obtain ⟨U', F', h1, h2, h3⟩ := h.lay hb hg hg2 hc hB hr hgr hm
  exact ⟨F', ⟨_, _, _, _, _, h1⟩, h2, h3⟩
set_option maxRecDepth 100000 in
set_option maxHeartbeats 4000000 in
theorem pgPut_yes (b0 : Nat) (w : World) (F : Nat → Prop) (pb d size n room : Nat) (s : PS) (h : PgA b0 w F pb d size n room s) (hc : s.now.count ≤ room) (hdd : s.dd = false) (x : Int) (ht : takenB n s x = true)
    (a : Option Addr) (B : List UInt8) (cap : Nat) (hB : B.length = 1024) (hcap : 1024 ≤ cap) (hr : RdB w a B) (hsep : ∀ b off, a = some ⟨b, off, none⟩ → ¬ F b) :
    Calls Try.prog 11 #[.pointer (some ⟨pb, 0, none⟩), .int .i64 x, .slice a 1024 cap] w fun e w' => e = .returned (.int .i64 0) ∧ PgR b0 w w' F pb d size n room (s.begun.laid x B) := by
  have HT := Lib.hid (pgtaken_any b0 w F pb d size n room s h hc x)
  rw [ht] at HT
  have HBG := Lib.hid (fun W (hW : Below w.heap.size w W) => pgbegin_any b0 W F pb d size n room s (h.later hW) hdd)
  have HLT : Hid (∀ y, F y → y < w.heap.size) := by obtain ⟨T, U, lb, m, f, h⟩ := h; exact Lib.hid fun y hy => (h.lim y hy).2
  obtain ⟨c0, c28⟩ : w.cell? ⟨pb, 0, none⟩ = some (.pointer (some ⟨d, 0, none⟩)) ∧ w.cell? ⟨pb, 28, none⟩ = some (.bool false) := by
    obtain ⟨T, U, lb, m, f, h⟩ := h
    obtain ⟨c0, c1, c2, c3, c4, c5, c6, c26, c27, c28⟩ := h.row.cells
    exact ⟨c0, by rw [← hdd]; exact c28⟩
  have HN := Lib.hid (pgnone_any w pb d c0)
  obtain ⟨K, hK⟩ : ∃ K : Ending → World → Prop, (fun (e : Ending) (w' : World) => e = .returned (.int .i64 0) ∧ PgR b0 w w' F pb d size n room (s.begun.laid x B)) = K := ⟨_, rfl⟩
  have HK : Hid (∀ w', PgR b0 w w' F pb d size n room (s.begun.laid x B) → K (.returned (.int .i64 0)) w') := Lib.hid fun w' h3 => by rw [← hK]; exact ⟨rfl, h3⟩
  rw [hK]
  have HRD := Lib.hid hr
  have HSEP := Lib.hid hsep
  have HBL := Lib.hid hB
  clear hK h hc ht hdd c0 hr hsep hB
  go_enter Try.func11, Try.ntmps11
  go_wp2_with fail
  refine HN.out.mono ?_
  rintro _ _ ⟨rfl, rfl⟩
  go_wp2_with fail
  refine HT.out.mono ?_
  rintro _ w2 ⟨rfl, hb2⟩
  have HB2 := Lib.hid hb2
  clear hb2
  go_wp2_with fail
  refine (HBG.out w2 HB2.out).mono ?_
  rintro _ w3 ⟨rfl, F3, ⟨T, U, lb, m, f, h3⟩, hF3, hk3⟩
  have HR3 : Hid (RdB w3 a B) := by
    refine Rd.keepA (HRD.out.mono HB2.out) hk3 fun b off e _ => HSEP.out b off e
  have HFIN : Hid (∀ (w4 w5 : World) (g c : Nat), Below w3.heap.size w3 w4 → w3.heap.size ≤ g → g < w4.heap.size → 1024 ≤ c → RdB w4 (some ⟨g, 0, none⟩) B → w4.grownBy w5 (some m) → MapR w5 m intV (fun j => if j = x then some (.slice (some ⟨g, 0, none⟩) 1024 c) else f j) → K (.returned (.int .i64 0)) w5) := Lib.hid fun w4 w5 g c q1 q2 q3 q4 q5 q6 q7 => by
    refine HK.out w5 (PgR.step (F1 := F3) (fun y hy => (hF3 y hy).imp id fun e => Nat.le_trans HB2.out.size e) ((KeepA.of_below HB2.out).trans hk3) (PgA.lay h3 q1 q2 q3 q4 HBL.out q5 q6 q7))
  have HM : Hid (MapR w3 m intV f) := h3.turn.map
  have HPM : Hid (pb ≠ m) := Lib.hid h3.mT.2.2.symm
  obtain ⟨c0, c1, c2, c3, c4, c5, c6, c26, c27, c28'⟩ := h3.row.cells
  have hS : w3.cell? ⟨pb, 26, none⟩ = some (.map (some m)) := c26
  clear hF3 hk3 h3 c0 c1 c2 c3 c4 c5 c6 c27 c28' c28 c26
  go_upto_region 10 with fail
  refine wp_region_held_drew (S := fun W => W.cell? ⟨pb, 26, none⟩ = some (.map (some m))) (by kernel_rfl) hS (fun hHeld => ?_)
  refine wpAnyH_take (i := 0) (v := ?_) rfl (by kernel_rfl) (by kernel_rfl) (by kernel_rfl) (fun _ _ _ h => h) (Or.inl ⟨by rfl, ?_⟩) hHeld ?_
  rotate_left
  · intro w' hS'
    (try dsimp only at hS')
    go_simp
    try with_reducible rfl
  try simp only [List.getElem_toArray, List.getElem_cons_succ, List.getElem_cons_zero, Act.put, List.setIfInBounds_toArray, List.set_cons_zero, List.set_cons_succ]
  refine wpAnyH_take (i := 1) (v := ?_) rfl (by kernel_rfl) (by kernel_rfl) (by kernel_rfl) (fun _ _ _ h => h) (Or.inl ⟨by rfl, ?_⟩) hHeld ?_
  rotate_left
  · intro w' hS'
    (try dsimp only at hS')
    go_simp
    try with_reducible rfl
  try simp only [List.getElem_toArray, List.getElem_cons_succ, List.getElem_cons_zero, Act.put, List.setIfInBounds_toArray, List.set_cons_zero, List.set_cons_succ]
  refine wpAnyH_take (i := 2) (v := ?_) rfl (by kernel_rfl) (by kernel_rfl) (by kernel_rfl) (fun _ _ _ h => h) (Or.inl ⟨by rfl, ?_⟩) hHeld ?_
  rotate_left
  · intro w' hS'
    (try dsimp only at hS')
    go_simp
    try with_reducible rfl
  try simp only [List.getElem_toArray, List.getElem_cons_succ, List.getElem_cons_zero, Act.put, List.setIfInBounds_toArray, List.set_cons_zero, List.set_cons_succ]
  refine wpAnyH_take (i := 3) (v := ?_) rfl (by kernel_rfl) (by kernel_rfl) (by kernel_rfl) (fun _ _ _ h => h) (Or.inl ⟨by rfl, ?_⟩) hHeld ?_
  rotate_left
  · intro w' hS'
    (try dsimp only at hS')
    go_simp
    try with_reducible rfl
  try simp only [List.getElem_toArray, List.getElem_cons_succ, List.getElem_cons_zero, Act.put, List.setIfInBounds_toArray, List.set_cons_zero, List.set_cons_succ]
  refine wpAnyH_take (i := 4) (v := ?_) rfl (by kernel_rfl) (by kernel_rfl) (by kernel_rfl) (fun _ _ _ h => h) (Or.inl ⟨by rfl, ?_⟩) hHeld ?_
  rotate_left
  · intro w' hS'
    (try dsimp only at hS')
    go_simp
    try with_reducible rfl
  try simp only [List.getElem_toArray, List.getElem_cons_succ, List.getElem_cons_zero, Act.put, List.setIfInBounds_toArray, List.set_cons_zero, List.set_cons_succ]
  refine wpAnyH_take (i := 5) (v := ?_) rfl (by kernel_rfl) (by kernel_rfl) (by kernel_rfl) (fun _ _ _ h => h) (Or.inl ⟨by rfl, ?_⟩) hHeld ?_
  rotate_left
  · intro w' hS'
    (try dsimp only at hS')
    go_simp
    try with_reducible rfl
  try simp only [List.getElem_toArray, List.getElem_cons_succ, List.getElem_cons_zero, Act.put, List.setIfInBounds_toArray, List.set_cons_zero, List.set_cons_succ]
  refine wpAnyH_ready (rs := [6]) (by kernel_rfl) (by simp) (AllReadyH.cons rfl (fun K hK => ?_) AllReadyH.nil)
  try rw [if_pos (by rfl)]
  go_wp2_with fail
  refine (clone_any a B 1024 cap _ HBL.out.symm (by omega) (HR3.out.mono (drewN_below (Below.refl _ w3) 1))).mono ?_
  rintro _ w4 ⟨vb, rfl, ho, hb4⟩
  have hb4' : Below w3.heap.size w3 w4 := (drewN_below (Below.refl _ w3) 1).trans hb4
  obtain ⟨g, c, rfl, hgc, hg1, hg2, hg3⟩ := OwnB.rd2 ho (fun e => by have := HBL.out; rw [e] at this; cases this)
  rw [HBL.out] at hgc ⊢
  have HG := Lib.hid (And.intro (show w3.heap.size ≤ g from hg1) (And.intro hg2 (And.intro hgc hg3)))
  have HB4 := Lib.hid hb4'
  have hS4 : w4.cell? ⟨pb, 26, none⟩ = some (.map (some m)) := (hb4'.cell (World.block_lt_of_cell? w3 _ hS)).trans hS
  have HM4 : Hid (MapR w4 m intV f) := HM.out.same (hb4'.block m HM.out.lt)
  clear ho hb4 hb4' hgc hg1 hg2 hg3
  refine hK.out _ _ hS4 (fun hHeld => ?_)
  try simp only [List.getElem_toArray, List.getElem_cons_succ, List.getElem_cons_zero, Act.put, List.setIfInBounds_toArray, List.set_cons_zero, List.set_cons_succ]
  clear hK K
  refine wpAnyH_ready (rs := [7]) (by kernel_rfl) (by simp) (AllReadyH.cons rfl (fun K hK => ?_) AllReadyH.nil)
  try rw [if_pos (by rfl)]
  refine wp_updateM keyI Try.underlying75 (.tmp 29) (.tmp 30) (.tmp 32) rfl rfl (HM4.out.same rfl) x _ rfl rfl rfl ?_
  intro w5 hg5 hm5
  have HE := Lib.hid (HFIN.out w4 w5 g c HB4.out HG.out.1 HG.out.2.1 HG.out.2.2.1 HG.out.2.2.2 (by simpa using hg5) hm5)
  refine hK.out _ _ (hg5.cell hS4 (fun e => HPM.out (Option.some.inj e))) (fun hHeld => ?_)
  try simp only [List.getElem_toArray, List.getElem_cons_succ, List.getElem_cons_zero, Act.put, List.setIfInBounds_toArray, List.set_cons_zero, List.set_cons_succ]
  clear hK K
  refine wpAnyH_done (by kernel_rfl) ?_ _
  go_wp2
  exact HE.out
end Go.Proofs.Ytagipfkgnobjlaa
