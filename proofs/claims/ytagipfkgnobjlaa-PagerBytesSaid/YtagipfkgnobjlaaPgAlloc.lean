/- Alloc. (Printed by gen_pgalloc.py.) -/
import Derived.Test.YtagipfkgnobjlaaPgSet
namespace Go.Proofs.Ytagipfkgnobjlaa
open Go.RowKit

attribute [local go_sem] Oper.semAt_some
set_option maxRecDepth 100000 in
theorem wp_makeB {o : Oper} {act : Act} {N : Act → World → Prop} {Q : Exit → Act → World → Prop} {w : World} (l c : Operand) (ho : o.op = .makeSlice 22 l c) (n : Nat) (hl : act.eval l = .int .i64 (n : Int)) (hc : act.eval c = .int .i64 (n : Int)) (hm : n ≤ 281474976710656)
    (h : ∀ w', RowAt w' w.heap.size 5 ((List.replicate n (0 : UInt8)).map bv).toArray → Below w.heap.size w w' → N (act.put o.dst (.slice (some ⟨w.heap.size, 0, none⟩) n n)) w') : o.wp Try.prog act w N Q := by
  obtain ⟨i, hi, hz0, hs, hby⟩ := info_parts eltB.info
  obtain ⟨w', hrun, r1, r2⟩ := run_make_full (P := Try.prog) w w.heap.size _ _ i _ 1 eltB.und hi hz0 hs .i64 .i64 n (by rw [hby]; omega) (by unfold maxLen; omega) (Nat.le_refl _)
  unfold Oper.wp execOp
  simp only [ho, hl, hc, Sem.run_bind, Sem.run_pure, Result.andThen_ok, hrun]
  refine h w' ?_ ⟨r2.os, r2.tape, r2.output, r2.size, fun k hk => r2.block k hk (by simp)⟩
  rw [show (Value.int .u8 0).cells = #[Value.int .u8 0] from rfl, Nat.mul_one, toList_madeCells_one] at r1
  rcases r1.2 with ⟨h1, _⟩ | ⟨g, cap, cur, h1, _, hg, h3, _, h4, h5⟩
  · cases h1
  · simp only [Value.slice.injEq, Option.some.injEq, Addr.mk.injEq, and_true, true_and] at h1
    obtain ⟨rfl, rfl⟩ := h1
    rw [Nat.mul_one] at h4 h5
    rw [List.take_of_length_le (by rw [Array.length_toList]; omega)] at h5
    unfold RowAt
    rw [hg, List.map_replicate]
    congr 2
    apply Array.toList_inj.1
    rw [h5]
    rfl
theorem rdB_rowZ {w : World} {g : Nat} {t : TypeId} {l : List UInt8} (h : RowAt w g t (l.map bv).toArray) : RdB w (some ⟨g, 0, none⟩) l :=
  .inr ⟨g, 0, rfl, h.lt, fun k hk => by rw [Nat.zero_add, h.cell, List.getElem?_toArray]; exact List.getElem?_eq_getElem hk⟩
theorem bytesP_begun (n : Nat) (s : PS) (k : Nat) : bytesP n s.begun k = bytesP n s k := by
  unfold bytesP
  rw [begun_tn]
  unfold PS.begun
  split <;> rfl
theorem pgRow_fm (d lb n room : Nat) (now was : Mt) (m : Nat) (op dd : Bool) (nx mn : Nat) : ((pgC d lb n room now was m op dd).toArray.setIfInBounds 5 (.int .i64 (nx : Int))).setIfInBounds 6 (.int .i64 (mn : Int)) = (pgC d lb n room { now with free := nx, many := mn } was m op dd).toArray := by
  obtain ⟨c, f, g, r⟩ := now
  show _ = _
  kernel_rfl
theorem pgRow_cnt (d lb n room : Nat) (now was : Mt) (m : Nat) (op dd : Bool) (c' : Nat) : (pgC d lb n room now was m op dd).toArray.setIfInBounds 4 (.int .i64 (c' : Int)) = (pgC d lb n room { now with count := c' } was m op dd).toArray := by
  obtain ⟨c, f, g, r⟩ := now
  show _ = _
  kernel_rfl
/-- The pages that Alloc hands out: off the chain; behind the last. -/
def PS.popped (s : PS) (nx : Nat) : PS := { s with now := { s.now with free := nx, many := s.now.many - 1 } }
def PS.grown (s : PS) : PS := { s with now := { s.now with count := s.now.count + 1 } }
noncomputable def zerosP : List UInt8 := List.replicate 1024 0
theorem zerosP_len : zerosP.length = 1024 := by unfold zerosP; rw [List.length_replicate]
set_option maxRecDepth 100000 in
set_option maxHeartbeats 4000000 in
theorem pgalloc_full (w : World) (pb d lb n room : Nat) (now was : Mt) (m : Nat) (op : Bool) (h : PgRow w pb d lb n room now was m op false) (hf : now.free = 0) (hc : room ≤ now.count) :
    Calls Try.prog 10 #[.pointer (some ⟨pb, 0, none⟩)] w fun e w' => e = .returned (.tuple #[.int .i64 0, .int .i64 6]) ∧ Below w.heap.size w w' := by
  obtain ⟨c0, c1, c2, c3, c4, c5, c6, c26, c27, c28⟩ := h.cells
  have HN := Lib.hid (pgnone_any w pb d c0)
  rw [hf] at c5
  obtain ⟨cnt, hcnt⟩ : ∃ y, now.count = y := ⟨_, rfl⟩
  rw [hcnt] at c4 hc
  have hcI : (room : Int) ≤ (cnt : Int) := by omega
  have hge : ((cnt : Int) ≥ (room : Int)) := hcI
  clear h c0 c1 c2 c6 c26 c27 hf hcnt
  go_enter Try.func10, Try.ntmps10
  go_wp2_with (go_at_call 35; refine HN.out.mono ?_; rintro _ _ ⟨rfl, rfl⟩)
  go_big_quiet (fail)
  go_wp2
  go_ret2
  exact ⟨rfl, drewN_below (Below.refl _ _) _⟩
set_option maxRecDepth 100000 in
set_option maxHeartbeats 8000000 in
theorem pgalloc_new (b0 : Nat) (w : World) (F : Nat → Prop) (pb d size n room : Nat) (s : PS) (h : PgA b0 w F pb d size n room s) (hdd : s.dd = false) (hf : s.now.free = 0) (hc : s.now.count < room) (hr : room ≤ 100000) :
    Calls Try.prog 10 #[.pointer (some ⟨pb, 0, none⟩)] w fun e w' => e = .returned (.tuple #[.int .i64 ((s.now.count : Nat) : Int), .int .i64 0]) ∧ PgR b0 w w' F pb d size n room ((s.begun.grown).laid (s.now.count : Int) zerosP) := by
  have HBG := Lib.hid (fun W (hW : Below w.heap.size w W) => pgbegin_any b0 W F pb d size n room s (h.later hW) hdd)
  obtain ⟨c0, c3, c4, c5, c28⟩ : w.cell? ⟨pb, 0, none⟩ = some (.pointer (some ⟨d, 0, none⟩)) ∧ w.cell? ⟨pb, 3, none⟩ = some (.int .i64 (room : Int)) ∧ w.cell? ⟨pb, 4, none⟩ = some (.int .i64 (s.now.count : Int)) ∧ w.cell? ⟨pb, 5, none⟩ = some (.int .i64 (s.now.free : Int)) ∧ w.cell? ⟨pb, 28, none⟩ = some (.bool false) := by
    obtain ⟨T, U, lb, m, f, h⟩ := h
    obtain ⟨c0, c1, c2, c3, c4, c5, c6, c26, c27, c28⟩ := h.row.cells
    exact ⟨c0, c3, c4, c5, by rw [← hdd]; exact c28⟩
  have HN := Lib.hid (pgnone_any w pb d c0)
  obtain ⟨K, hK⟩ : ∃ K : Ending → World → Prop, (fun (e : Ending) (w' : World) => e = .returned (.tuple #[.int .i64 ((s.now.count : Nat) : Int), .int .i64 0]) ∧ PgR b0 w w' F pb d size n room ((s.begun.grown).laid (s.now.count : Int) zerosP)) = K := ⟨_, rfl⟩
  have HK : Hid (∀ w', PgR b0 w w' F pb d size n room ((s.begun.grown).laid (s.now.count : Int) zerosP) → K (.returned (.tuple #[.int .i64 ((s.now.count : Nat) : Int), .int .i64 0])) w') := Lib.hid fun w' h3 => by rw [← hK]; exact ⟨rfl, h3⟩
  rw [hK]
  clear hK h hdd c0
  obtain ⟨cnt, hcnt⟩ : ∃ y, s.now.count = y := ⟨_, rfl⟩
  rw [hcnt] at c4 hc HK
  rw [hf] at c5
  have hcI : ¬ (room : Int) ≤ (cnt : Int) := by omega
  have hcJ : (cnt : Int) < (room : Int) := by omega
  have y1 : IntKind.i64.wrap ((cnt : Int) + 1) = (cnt : Int) + 1 := IntWalk.i64_in _ (by omega)
  go_enter Try.func10, Try.ntmps10
  go_wp2_with (go_at_call 35; refine HN.out.mono ?_; rintro _ _ ⟨rfl, rfl⟩)
  go_big_quiet (fail)
  go_wp2_with fail
  refine (HBG.out _ (drewN_below (Below.refl _ _) _)).mono ?_
  rintro _ w3 ⟨rfl, F3, ⟨T, U, lb, m, f, h3⟩, hF3, hk3⟩
  have hk3' : KeepA F w w3 := (KeepA.of_below (X := F) (drewN_below (Below.refl _ w) _)).trans hk3
  obtain ⟨c0, c1, c2, c3', c4', c5', c6', c26', c27, c28'⟩ := h3.row.cells
  have HPM : Hid (pb ≠ m) := Lib.hid h3.mT.2.2.symm
  rw [begun_now, hcnt] at c4'
  rw [begun_now, hf] at c5'
  have f4 := h3.row.row.frozen 4
  have HFIN0 : Hid (∀ w7, w3.setCell ⟨pb, 4, none⟩ (.int .i64 ((cnt : Int) + 1)) = w7 → w7.cell? ⟨pb, 26, none⟩ = some (.map (some m)) ∧ MapR w7 m intV f ∧ ∀ w8 w9, Below w7.heap.size w7 w8 → RowAt w8 w7.heap.size 5 (zerosP.map bv).toArray → w8.grownBy w9 (some m) → MapR w9 m intV (fun j => if j = (cnt : Int) then some (.slice (some ⟨w7.heap.size, 0, none⟩) 1024 1024) else f j) → K (.returned (.tuple #[.int .i64 (cnt : Int), .int .i64 0])) w9) := Lib.hid fun w7 hw7 => by
    rw [show (cnt : Int) + 1 = ((cnt + 1 : Nat) : Int) by omega] at hw7
    have hr := h3.row.row.set 4 (.int .i64 ((cnt + 1 : Nat) : Int))
    rw [pgRow_cnt] at hr
    have hgr := grownBy_setCellAt w3 pb 4 (.int .i64 ((cnt + 1 : Nat) : Int))
    rw [hw7] at hr hgr
    have hk2 := keep_grown hgr
    have h7 := h3.setRow (now := { s.begun.now with count := cnt + 1 }) (was := s.begun.was) (op := s.begun.op) (dd := s.begun.dd) hk2 ⟨hr, h3.row.r8, h3.row.w8⟩
    have hs7 : ({ s.begun with now := { s.begun.now with count := cnt + 1 }, was := s.begun.was, op := s.begun.op, dd := s.begun.dd } : PS) = s.begun.grown := by
      unfold PS.grown
      rw [begun_now, hcnt]
    rw [hs7] at h7
    refine ⟨by obtain ⟨-, -, -, -, -, -, -, q, -⟩ := h7.row.cells; exact q, h7.turn.map, fun w8 w9 q1 q2 q3 q4 => HK.out w9 ?_⟩
    refine PgR.step (F1 := F3) hF3 hk3' (PgR.step (F1 := F3) (fun x hx => .inl hx) (hk2.mono fun x hx => hx ▸ h3.foot pb (.inr (.inr (.inl rfl)))) ?_)
    exact PgA.lay h7 q1 (Nat.le_refl _) q2.lt (Nat.le_refl _) zerosP_len (rdB_rowZ q2) q3 q4
  clear hF3 hk3 hk3' h3 c0 c1 c2 c3' c6' c26' c27 c28' c3 c4 c5 c28
  go_upto_region 14 with fail
  obtain ⟨w7, hw7⟩ : ∃ y, w3.setCell ⟨pb, 4, none⟩ (.int .i64 ((cnt : Int) + 1)) = y := ⟨_, rfl⟩
  try rw [hw7]
  obtain ⟨hS, hm7, hfin⟩ := HFIN0.out w7 hw7
  have HM := Lib.hid hm7
  have HFIN := Lib.hid hfin
  clear hm7 hfin c4' c5' f4
  refine wp_region_held_drew (S := fun W => W.cell? ⟨pb, 26, none⟩ = some (.map (some m))) (by kernel_rfl) hS (fun hHeld => ?_)
  refine wpAnyH_take (i := 0) (v := ?_) rfl (by kernel_rfl) (by kernel_rfl) (by kernel_rfl) (fun _ _ _ h => h) (Or.inl ⟨by rfl, ?_⟩) hHeld ?_
  rotate_left
  · intro w' hS'
    (try dsimp only at hS')
    go_simp
    try with_reducible rfl
  try simp only [List.getElem_toArray, List.getElem_cons_succ, List.getElem_cons_zero, Act.put, List.setIfInBounds_toArray, List.set_cons_zero, List.set_cons_succ]
  refine wpAnyH_take (i := 1) (v := ?_) rfl (by kernel_rfl) (by kernel_rfl) (by kernel_rfl) (fun _ _ _ h => h) (Or.inl ⟨by rfl, ?_⟩) hHeld ?_
  rotate_left
  · intro w' hS'
    (try dsimp only at hS')
    go_simp
    try with_reducible rfl
  try simp only [List.getElem_toArray, List.getElem_cons_succ, List.getElem_cons_zero, Act.put, List.setIfInBounds_toArray, List.set_cons_zero, List.set_cons_succ]
  refine wpAnyH_take (i := 2) (v := ?_) rfl (by kernel_rfl) (by kernel_rfl) (by kernel_rfl) (fun _ _ _ h => h) (Or.inl ⟨by rfl, ?_⟩) hHeld ?_
  rotate_left
  · intro w' hS'
    (try dsimp only at hS')
    go_simp
    try with_reducible rfl
  try simp only [List.getElem_toArray, List.getElem_cons_succ, List.getElem_cons_zero, Act.put, List.setIfInBounds_toArray, List.set_cons_zero, List.set_cons_succ]
  refine wpAnyH_take (i := 3) (v := ?_) rfl (by kernel_rfl) (by kernel_rfl) (by kernel_rfl) (fun _ _ _ h => h) (Or.inl ⟨by rfl, ?_⟩) hHeld ?_
  rotate_left
  · intro w' hS'
    (try dsimp only at hS')
    go_simp
    try with_reducible rfl
  try simp only [List.getElem_toArray, List.getElem_cons_succ, List.getElem_cons_zero, Act.put, List.setIfInBounds_toArray, List.set_cons_zero, List.set_cons_succ]
  refine wpAnyH_take (i := 4) (v := ?_) rfl (by kernel_rfl) (by kernel_rfl) (by kernel_rfl) (fun _ _ _ h => h) (Or.inl ⟨by rfl, ?_⟩) hHeld ?_
  rotate_left
  · intro w' hS'
    (try dsimp only at hS')
    go_simp
    try with_reducible rfl
  try simp only [List.getElem_toArray, List.getElem_cons_succ, List.getElem_cons_zero, Act.put, List.setIfInBounds_toArray, List.set_cons_zero, List.set_cons_succ]
  refine wpAnyH_ready (rs := [5]) (by kernel_rfl) (by simp) (AllReadyH.cons rfl (fun K hK => ?_) AllReadyH.nil)
  try rw [if_pos (by rfl)]
  refine wp_makeB (.const (.int .i64 1024)) (.const (.int .i64 1024)) rfl 1024 rfl rfl (by omega) ?_
  intro w8 hr8 hb8
  have hb8' : Below w7.heap.size w7 w8 := (drewN_below (Below.refl _ w7) 1).trans hb8
  have hS8 : w8.cell? ⟨pb, 26, none⟩ = some (.map (some m)) := (hb8'.cell (World.block_lt_of_cell? w7 _ hS)).trans hS
  have HM8 : Hid (MapR w8 m intV f) := HM.out.same (hb8'.block m HM.out.lt)
  have HR8 : Hid (RowAt w8 w7.heap.size 5 (zerosP.map bv).toArray) := hr8
  have HB8 := Lib.hid hb8'
  clear hr8 hb8 hb8'
  refine hK.out _ _ hS8 (fun hHeld => ?_)
  try simp only [List.getElem_toArray, List.getElem_cons_succ, List.getElem_cons_zero, Act.put, List.setIfInBounds_toArray, List.set_cons_zero, List.set_cons_succ]
  clear hK K
  refine wpAnyH_ready (rs := [6]) (by kernel_rfl) (by simp) (AllReadyH.cons rfl (fun K hK => ?_) AllReadyH.nil)
  try rw [if_pos (by rfl)]
  refine wp_updateM keyI Try.underlying75 (.tmp 84) (.tmp 85) (.tmp 86) rfl rfl (HM8.out.same rfl) (cnt : Int) (.slice (some ⟨w7.heap.size, 0, none⟩) 1024 1024) rfl rfl rfl ?_
  intro w9 hg9 hm9
  have HE := Lib.hid (HFIN.out w8 w9 HB8.out HR8.out (by simpa using hg9) hm9)
  refine hK.out _ _ (hg9.cell hS8 (fun e => HPM.out (Option.some.inj e))) (fun hHeld => ?_)
  try simp only [List.getElem_toArray, List.getElem_cons_succ, List.getElem_cons_zero, Act.put, List.setIfInBounds_toArray, List.set_cons_zero, List.set_cons_succ]
  clear hK K
  refine wpAnyH_done (by kernel_rfl) ?_ _
  go_wp2
  exact HE.out
set_option maxRecDepth 100000 in
set_option maxHeartbeats 8000000 in
theorem pgalloc_pop (b0 : Nat) (w : World) (F : Nat → Prop) (pb d size n room : Nat) (s : PS) (h : PgA b0 w F pb d size n room s) (hdd : s.dd = false) (hf : 0 < s.now.free) (hf2 : s.now.free < s.now.count) (hc : s.now.count ≤ room) (hmn : 0 < s.now.many) (hmn2 : s.now.many ≤ 100000) :
    Calls Try.prog 10 #[.pointer (some ⟨pb, 0, none⟩)] w fun e w' => e = .returned (.tuple #[.int .i64 ((s.now.free : Nat) : Int), .int .i64 0]) ∧ PgR b0 w w' F pb d size n room ((s.begun.popped (nxP n s s.now.free)).laid (s.now.free : Int) zerosP) := by
  have HBG := Lib.hid (fun W (hW : Below w.heap.size w W) => pgbegin_any b0 W F pb d size n room s (h.later hW) hdd)
  obtain ⟨c0, c3, c4, c5, c28⟩ : w.cell? ⟨pb, 0, none⟩ = some (.pointer (some ⟨d, 0, none⟩)) ∧ w.cell? ⟨pb, 3, none⟩ = some (.int .i64 (room : Int)) ∧ w.cell? ⟨pb, 4, none⟩ = some (.int .i64 (s.now.count : Int)) ∧ w.cell? ⟨pb, 5, none⟩ = some (.int .i64 (s.now.free : Int)) ∧ w.cell? ⟨pb, 28, none⟩ = some (.bool false) := by
    obtain ⟨T, U, lb, m, f, h⟩ := h
    obtain ⟨c0, c1, c2, c3, c4, c5, c6, c26, c27, c28⟩ := h.row.cells
    exact ⟨c0, c3, c4, c5, by rw [← hdd]; exact c28⟩
  have HN := Lib.hid (pgnone_any w pb d c0)
  obtain ⟨K, hK⟩ : ∃ K : Ending → World → Prop, (fun (e : Ending) (w' : World) => e = .returned (.tuple #[.int .i64 ((s.now.free : Nat) : Int), .int .i64 0]) ∧ PgR b0 w w' F pb d size n room ((s.begun.popped (nxP n s s.now.free)).laid (s.now.free : Int) zerosP)) = K := ⟨_, rfl⟩
  have HK : Hid (∀ w', PgR b0 w w' F pb d size n room ((s.begun.popped (nxP n s s.now.free)).laid (s.now.free : Int) zerosP) → K (.returned (.tuple #[.int .i64 ((s.now.free : Nat) : Int), .int .i64 0])) w') := Lib.hid fun w' h3 => by rw [← hK]; exact ⟨rfl, h3⟩
  rw [hK]
  clear hK h hdd c0
  obtain ⟨cnt, hcnt⟩ : ∃ y, s.now.count = y := ⟨_, rfl⟩
  obtain ⟨fr, hfr⟩ : ∃ y, s.now.free = y := ⟨_, rfl⟩
  obtain ⟨M, hM⟩ : ∃ y, s.now.many = y := ⟨_, rfl⟩
  rw [hcnt] at c4 hc hf2
  rw [hfr] at c5 hf hf2 HK
  rw [hM] at hmn hmn2
  have hf0 : ¬ (fr : Int) = 0 := by omega
  have hfb : ((fr : Int) == 0) = false := by simp; omega
  have hfn : ¬ fr = 0 := by omega
  have hfI : (0 : Int) < (fr : Int) := by omega
  have hfJ : (fr : Int) < (cnt : Int) := by omega
  have hfroom : fr < room := by omega
  obtain ⟨mn, hmn3⟩ : ∃ mn, M = mn + 1 := ⟨M - 1, by omega⟩
  have y1 : IntKind.i64.wrap ((M : Int) - 1) = (mn : Int) := by rw [IntWalk.i64_in _ (by omega)]; omega
  obtain ⟨nx, hnx⟩ : ∃ y, nxP n s fr = y := ⟨_, rfl⟩
  rw [hnx] at HK
  go_enter Try.func10, Try.ntmps10
  go_wp2_with (go_at_call 35; refine HN.out.mono ?_; rintro _ _ ⟨rfl, rfl⟩)
  go_big_quiet (fail)
  go_wp2_with fail
  refine (HBG.out _ (drewN_below (Below.refl _ _) _)).mono ?_
  rintro _ w3 ⟨rfl, F3, ⟨T, U, lb, m, f, h3⟩, hF3, hk3⟩
  have hk3' : KeepA F w w3 := (KeepA.of_below (X := F) (drewN_below (Below.refl _ w) _)).trans hk3
  have HBY := Lib.hid (pgbytes_any b0 w3 F3 pb d size n room s.begun ⟨T, U, lb, m, f, h3⟩ fr hfroom)
  rw [bytesP_begun] at HBY
  have HBL : Hid ((bytesP n s fr).length = 1024) := Lib.hid (by rw [← bytesP_begun]; exact bytesP_len h3 fr)
  obtain ⟨c0, c1, c2, c3', c4', c5', c6', c26', c27, c28'⟩ := h3.row.cells
  have HPM : Hid (pb ≠ m) := Lib.hid h3.mT.2.2.symm
  rw [begun_now, hcnt] at c4'
  rw [begun_now, hfr] at c5'
  have HFIN0 : Hid (∀ w5 w7, Below w3.heap.size w3 w5 → (w5.setCell ⟨pb, 5, none⟩ (.int .i64 (nx : Int))).setCell ⟨pb, 6, none⟩ (.int .i64 (mn : Int)) = w7 → w7.cell? ⟨pb, 26, none⟩ = some (.map (some m)) ∧ MapR w7 m intV f ∧ ∀ w8 w9, Below w7.heap.size w7 w8 → RowAt w8 w7.heap.size 5 (zerosP.map bv).toArray → w8.grownBy w9 (some m) → MapR w9 m intV (fun j => if j = (fr : Int) then some (.slice (some ⟨w7.heap.size, 0, none⟩) 1024 1024) else f j) → K (.returned (.tuple #[.int .i64 (fr : Int), .int .i64 0])) w9) := Lib.hid fun w5 w7 hb5 hw7 => by
    have h5 := h3.later hb5
    have hr := (h5.row.row.set 5 (.int .i64 (nx : Int))).set 6 (.int .i64 (mn : Int))
    rw [pgRow_fm] at hr
    have hgr := (grownBy_setCellAt w5 pb 5 (.int .i64 (nx : Int))).trans (grownBy_setCellAt _ pb 6 (.int .i64 (mn : Int)))
    rw [hw7] at hr hgr
    have hk2 := keep_grown hgr
    have h7 := h5.setRow (now := { s.begun.now with free := nx, many := mn }) (was := s.begun.was) (op := s.begun.op) (dd := s.begun.dd) hk2 ⟨hr, h5.row.r8, h5.row.w8⟩
    have hs7 : ({ s.begun with now := { s.begun.now with free := nx, many := mn }, was := s.begun.was, op := s.begun.op, dd := s.begun.dd } : PS) = s.begun.popped nx := by
      unfold PS.popped
      rw [begun_now, hM, hmn3]
      rfl
    rw [hs7] at h7
    refine ⟨by obtain ⟨-, -, -, -, -, -, -, q, -⟩ := h7.row.cells; exact q, h7.turn.map, fun w8 w9 q1 q2 q3 q4 => HK.out w9 ?_⟩
    refine PgR.step (F1 := F3) hF3 hk3' (PgR.step (F1 := F3) (fun x hx => .inl hx) ((KeepA.of_below (X := F3) hb5).trans (hk2.mono fun x hx => hx ▸ h3.foot pb (.inr (.inr (.inl rfl))))) ?_)
    exact PgA.lay h7 q1 (Nat.le_refl _) q2.lt (Nat.le_refl _) zerosP_len (rdB_rowZ q2) q3 q4
  have HROW : Hid (PgRow w3 pb d lb n room s.begun.now s.begun.was m s.begun.op s.begun.dd) := h3.row
  have HM6 : Hid (s.begun.now.many = M ∧ s.begun.now.free = fr) := ⟨by rw [begun_now, hM], by rw [begun_now, hfr]⟩
  clear hF3 hk3 hk3' h3 c0 c1 c2 c3' c6' c26' c27 c28' c3 c4 c5 c28
  go_wp2_with fail
  refine HBY.out.mono ?_
  rintro _ w4 ⟨vb, rfl, ho, hb4⟩
  obtain ⟨ba, bc, rfl, hbc, hbr⟩ := OwnB.rd ho
  rw [HBL.out] at hbc ⊢
  have HB4 := Lib.hid hb4
  have HR4 := Lib.hid hbr
  clear ho hb4 hbr hbc
  go_wp2_with fail
  refine (pvalue_any w4 ba (bytesP n s fr) 1024 bc HBL.out.symm (by omega) HR4.out).mono ?_
  rintro _ w5 ⟨rfl, hb5⟩
  rw [show leB ((bytesP n s fr).take 4) = nx from hnx]
  have HB5 : Hid (Below w3.heap.size w3 w5) := Lib.hid (HB4.out.trans (hb5.mono HB4.out.size))
  have hrow5 := HROW.out.later HB5.out
  obtain ⟨-, -, -, -, -, e5, e6, -, -, -⟩ := hrow5.cells
  rw [HM6.out.2] at e5
  rw [HM6.out.1] at e6
  have f5 := hrow5.row.frozen 5
  have f6 := hrow5.row.frozen 6
  clear hb5 hrow5 c4' c5'
  go_upto_region 14 with fail
  obtain ⟨w7, hw7⟩ : ∃ y, (w5.setCell ⟨pb, 5, none⟩ (.int .i64 (nx : Int))).setCell ⟨pb, 6, none⟩ (.int .i64 (mn : Int)) = y := ⟨_, rfl⟩
  try rw [hw7]
  obtain ⟨hS, hm7, hfin⟩ := HFIN0.out w5 w7 HB5.out hw7
  have HM := Lib.hid hm7
  have HFIN := Lib.hid hfin
  clear hm7 hfin e5 e6 f5 f6
  refine wp_region_held_drew (S := fun W => W.cell? ⟨pb, 26, none⟩ = some (.map (some m))) (by kernel_rfl) hS (fun hHeld => ?_)
  refine wpAnyH_take (i := 0) (v := ?_) rfl (by kernel_rfl) (by kernel_rfl) (by kernel_rfl) (fun _ _ _ h => h) (Or.inl ⟨by rfl, ?_⟩) hHeld ?_
  rotate_left
  · intro w' hS'
    (try dsimp only at hS')
    go_simp
    try with_reducible rfl
  try simp only [List.getElem_toArray, List.getElem_cons_succ, List.getElem_cons_zero, Act.put, List.setIfInBounds_toArray, List.set_cons_zero, List.set_cons_succ]
  refine wpAnyH_take (i := 1) (v := ?_) rfl (by kernel_rfl) (by kernel_rfl) (by kernel_rfl) (fun _ _ _ h => h) (Or.inl ⟨by rfl, ?_⟩) hHeld ?_
  rotate_left
  · intro w' hS'
    (try dsimp only at hS')
    go_simp
    try with_reducible rfl
  try simp only [List.getElem_toArray, List.getElem_cons_succ, List.getElem_cons_zero, Act.put, List.setIfInBounds_toArray, List.set_cons_zero, List.set_cons_succ]
  refine wpAnyH_take (i := 2) (v := ?_) rfl (by kernel_rfl) (by kernel_rfl) (by kernel_rfl) (fun _ _ _ h => h) (Or.inl ⟨by rfl, ?_⟩) hHeld ?_
  rotate_left
  · intro w' hS'
    (try dsimp only at hS')
    go_simp
    try with_reducible rfl
  try simp only [List.getElem_toArray, List.getElem_cons_succ, List.getElem_cons_zero, Act.put, List.setIfInBounds_toArray, List.set_cons_zero, List.set_cons_succ]
  refine wpAnyH_take (i := 3) (v := ?_) rfl (by kernel_rfl) (by kernel_rfl) (by kernel_rfl) (fun _ _ _ h => h) (Or.inl ⟨by rfl, ?_⟩) hHeld ?_
  rotate_left
  · intro w' hS'
    (try dsimp only at hS')
    go_simp
    try with_reducible rfl
  try simp only [List.getElem_toArray, List.getElem_cons_succ, List.getElem_cons_zero, Act.put, List.setIfInBounds_toArray, List.set_cons_zero, List.set_cons_succ]
  refine wpAnyH_take (i := 4) (v := ?_) rfl (by kernel_rfl) (by kernel_rfl) (by kernel_rfl) (fun _ _ _ h => h) (Or.inl ⟨by rfl, ?_⟩) hHeld ?_
  rotate_left
  · intro w' hS'
    (try dsimp only at hS')
    go_simp
    try with_reducible rfl
  try simp only [List.getElem_toArray, List.getElem_cons_succ, List.getElem_cons_zero, Act.put, List.setIfInBounds_toArray, List.set_cons_zero, List.set_cons_succ]
  refine wpAnyH_ready (rs := [5]) (by kernel_rfl) (by simp) (AllReadyH.cons rfl (fun K hK => ?_) AllReadyH.nil)
  try rw [if_pos (by rfl)]
  refine wp_makeB (.const (.int .i64 1024)) (.const (.int .i64 1024)) rfl 1024 rfl rfl (by omega) ?_
  intro w8 hr8 hb8
  have hb8' : Below w7.heap.size w7 w8 := (drewN_below (Below.refl _ w7) 1).trans hb8
  have hS8 : w8.cell? ⟨pb, 26, none⟩ = some (.map (some m)) := (hb8'.cell (World.block_lt_of_cell? w7 _ hS)).trans hS
  have HM8 : Hid (MapR w8 m intV f) := HM.out.same (hb8'.block m HM.out.lt)
  have HR8 : Hid (RowAt w8 w7.heap.size 5 (zerosP.map bv).toArray) := hr8
  have HB8 := Lib.hid hb8'
  clear hr8 hb8 hb8'
  refine hK.out _ _ hS8 (fun hHeld => ?_)
  try simp only [List.getElem_toArray, List.getElem_cons_succ, List.getElem_cons_zero, Act.put, List.setIfInBounds_toArray, List.set_cons_zero, List.set_cons_succ]
  clear hK K
  refine wpAnyH_ready (rs := [6]) (by kernel_rfl) (by simp) (AllReadyH.cons rfl (fun K hK => ?_) AllReadyH.nil)
  try rw [if_pos (by rfl)]
  refine wp_updateM keyI Try.underlying75 (.tmp 84) (.tmp 85) (.tmp 86) rfl rfl (HM8.out.same rfl) (fr : Int) (.slice (some ⟨w7.heap.size, 0, none⟩) 1024 1024) rfl rfl rfl ?_
  intro w9 hg9 hm9
  have HE := Lib.hid (HFIN.out w8 w9 HB8.out HR8.out (by simpa using hg9) hm9)
  refine hK.out _ _ (hg9.cell hS8 (fun e => HPM.out (Option.some.inj e))) (fun hHeld => ?_)
  try simp only [List.getElem_toArray, List.getElem_cons_succ, List.getElem_cons_zero, Act.put, List.setIfInBounds_toArray, List.set_cons_zero, List.set_cons_succ]
  clear hK K
  refine wpAnyH_done (by kernel_rfl) ?_ _
  go_wp2
  exact HE.out
end Go.Proofs.Ytagipfkgnobjlaa
