/- Page 0: meta.page and its closure. (Printed by gen_pgmeta.py.) -/
import Derived.Test.YtagipfkgnobjlaaPgMake
namespace Go.Proofs.Ytagipfkgnobjlaa
open Go.RowKit

attribute [local go_sem] Oper.semAt_some
/-- What page 0 tells. -/
structure Mt where
  count : Nat
  free : Nat
  many : Nat
  roots : List Nat
def mtC (m : Mt) : List Value := [.int .i64 m.count, .int .i64 m.free, .int .i64 m.many] ++ m.roots.map fun r => .int .i64 (r : Int)
structure Mt.Ok (m : Mt) : Prop where
  count : m.count < 4294967296
  free : m.free < 4294967296
  many : m.many < 4294967296
  eight : m.roots.length = 8
  root : ∀ r ∈ m.roots, r < 4294967296
def rootsB (l : List Nat) : List UInt8 := l.flatMap fun r => lowB r 4
theorem rootsB_len (l : List Nat) : (rootsB l).length = l.length * 4 := by
  induction l with
  | nil => rfl
  | cons x r ih => unfold rootsB at ih ⊢; rw [List.flatMap_cons, List.length_append, lowB_length, ih, List.length_cons]; omega
def headP (m : Mt) : List UInt8 := lowB 1279613008 4 ++ lowB m.count 4 ++ lowB m.free 4 ++ lowB m.many 4
def pageB (m : Mt) : List UInt8 := headP m ++ rootsB m.roots ++ List.replicate 976 0
theorem headP_len (m : Mt) : (headP m).length = 16 := by unfold headP; simp [lowB_length]
theorem pageB_len {m : Mt} (h : m.roots.length = 8) : (pageB m).length = 1024 := by
  unfold pageB
  rw [List.length_append, List.length_append, headP_len, rootsB_len, h, List.length_replicate]
/-- What is put so far. -/
structure PtA (w0 w : World) (bm bo : Nat) (mc : Array Value) (v : Value) (l : List UInt8) : Prop where
  below : Below w0.heap.size w0 w
  mrow : RowAt w bm 72 mc
  box : RowAt w bo 22 #[v]
  own : OwnB w w0.heap.size 5 v l
  lom : w0.heap.size ≤ bm
  loo : w0.heap.size ≤ bo
theorem PtA.apart {w0 w : World} {bm bo : Nat} {mc : Array Value} {v : Value} {l : List UInt8} (h : PtA w0 w bm bo mc v l) : (∀ g, v.ownBlock = some g → g ≠ bm ∧ g ≠ bo) ∧ bm ≠ bo := by
  refine ⟨fun g hg => ?_, fun e => ?_⟩
  · rcases h.own.2 with ⟨rfl, _⟩ | ⟨g', cap, cur, rfl, _, hh, _⟩
    · simp [Value.ownBlock] at hg
    · have e : g' = g := Option.some.inj hg
      subst e
      refine ⟨fun e => ?_, fun e => ?_⟩
      · have := h.mrow
        unfold RowAt at this
        rw [← e, hh] at this
        simp at this
      · have := h.box
        unfold RowAt at this
        rw [← e, hh] at this
        simp at this
  · have h1 := h.mrow
    have h2 := h.box
    unfold RowAt at h1 h2
    rw [e, h2] at h1
    simp at h1
theorem PtA.later {w0 w w' : World} {bm bo : Nat} {mc : Array Value} {v : Value} {l : List UInt8} (h : PtA w0 w bm bo mc v l) (hb : Below w.heap.size w w') : PtA w0 w' bm bo mc v l :=
  ⟨h.below.trans (hb.mono h.below.size), h.mrow.below hb, h.box.below hb, h.own.kept hb (Nat.le_refl _), h.lom, h.loo⟩
/-- Bytes are appended. -/
theorem PtA.push {w0 w w' : World} {bm bo : Nat} {mc : Array Value} {v v' : Value} {l l' : List UInt8} (h : PtA w0 w bm bo mc v l) (ho : OwnB w' w0.heap.size 5 v' l') (hg : w.grownBy w' v.ownBlock) : PtA w0 (w'.setCell ⟨bo, 0, none⟩ v') bm bo mc v' l' ∧ w'.cell? ⟨bo, 0, none⟩ = some v ∧ w'.frozen? ⟨bo, 0, none⟩ = false := by
  obtain ⟨q1, q2⟩ := h.apart
  have hlow : ∀ g, v.ownBlock = some g → w0.heap.size ≤ g := fun g hg => (World.ownsRow.lt h.own g hg).1
  have hm : RowAt w' bm 72 mc := (hg.block bm h.mrow.lt (fun e => (q1 bm e.symm).1 rfl)).trans h.mrow
  have hb : RowAt w' bo 22 #[v] := (hg.block bo h.box.lt (fun e => (q1 bo e.symm).2 rfl)).trans h.box
  have hbel : Below w0.heap.size w0 w' := h.below.trans (below_of_grown hg h.below.size hlow)
  have hne : ∀ g, v'.ownBlock = some g → g ≠ bo := fun g hg2 e => by
    rcases ho.2 with ⟨rfl, _⟩ | ⟨g', cap, cur, rfl, _, hh, _⟩
    · simp [Value.ownBlock] at hg2
    · have e2 : g' = g := Option.some.inj hg2
      subst e2
      have := hb
      unfold RowAt at this
      rw [← e, hh] at this
      simp at this
  refine ⟨⟨hbel.setCell (p := ⟨bo, 0, none⟩) h.loo v', hm.other v' q2, hb.set 0 v', ?_, h.lom, h.loo⟩, hb.cell 0, hb.frozen 0⟩
  exact own_keep ((KeepA.refl (fun k => k = bo) w').setCell rfl) ho fun g hg e => hne g hg e
set_option maxRecDepth 100000 in
set_option maxHeartbeats 1000000 in
theorem pput_any (w0 w : World) (bm bo : Nat) (mc : Array Value) (v : Value) (l : List UInt8) (h : PtA w0 w bm bo mc v l) (hl : l.length ≤ 2000) (x : Nat) (hx : x < 4294967296) :
    Calls Try.prog 63 #[.int .i64 (x : Int), .pointer (some ⟨bo, 0, none⟩)] w fun e w' => (∃ r, e = .returned r) ∧ ∃ v', PtA w0 w' bm bo mc v' (l ++ lowB x 4) := by
  have hc := h.box.cell 0
  simp only [List.getElem?_toArray, List.getElem?_cons_zero] at hc
  have H := Lib.hid h
  have HLN := Lib.hid hl
  have HLO := Lib.hid (plow_any x hx)
  clear h hl hx
  go_enter Try.func63, Try.ntmps63
  refine wp_region_held_drew (S := fun _ => True) (by kernel_rfl) trivial (fun hHeld => ?_)
  refine wpAnyH_take (i := 1) (v := ?_) rfl (by kernel_rfl) (by kernel_rfl) (by kernel_rfl) (fun _ _ _ h => h) (Or.inl ⟨by rfl, ?_⟩) hHeld ?_
  rotate_left
  · intro w' hS'
    (try dsimp only at hS')
    go_simp
    try with_reducible rfl
  try simp only [List.getElem_toArray, List.getElem_cons_succ, List.getElem_cons_zero, Act.put, List.setIfInBounds_toArray, List.set_cons_zero, List.set_cons_succ]
  refine wpAnyH_ready (rs := [0, 2]) (by kernel_rfl) (by simp) (AllReadyH.cons rfl (fun K hK => ?_) (AllReadyH.cons rfl (fun K hK => ?_) AllReadyH.nil))
  · go_simp
    refine hK.out _ _ trivial (fun hHeld => ?_)
    try simp only [List.getElem_toArray, List.getElem_cons_succ, List.getElem_cons_zero, Act.put, List.setIfInBounds_toArray, List.set_cons_zero, List.set_cons_succ]
    clear hK K
    refine wpAnyH_ready (rs := [2]) (by kernel_rfl) (by simp) (AllReadyH.cons rfl (fun K hK => ?_) AllReadyH.nil)
    try rw [if_pos (by rfl)]
    go_wp2_with fail
    refine (HLO.out _).mono ?_
    rintro _ w2 ⟨vb, rfl, hob, hb2⟩
    have H2 := Lib.hid (H.out.later ((drewN_below (Below.refl _ w) 1).trans hb2))
    obtain ⟨ab, cb, rfl, hcb, hrb⟩ := hob.rd
    have HRB := Lib.hid hrb
    have hc2 := H2.out.box.cell 0
    simp only [List.getElem?_toArray, List.getElem?_cons_zero] at hc2
    rw [lowB_length]
    clear hob hb2 hrb hcb hc
    refine hK.out _ _ trivial (fun hHeld => ?_)
    try simp only [List.getElem_toArray, List.getElem_cons_succ, List.getElem_cons_zero, Act.put, List.setIfInBounds_toArray, List.set_cons_zero, List.set_cons_succ]
    clear hK K
    refine wpAnyH_ready (rs := [3]) (by kernel_rfl) (by simp) (AllReadyH.cons rfl (fun K hK => ?_) AllReadyH.nil)
    try rw [if_pos (by rfl)]
    refine wp_appendB (.tmp 3) (.tmp 5) rfl eltB w0.heap.size v l rfl ab 4 cb (lowB x 4) rfl H2.out.own (lowB_length 4 x).symm HRB.out (by rw [lowB_length]; have := HLN.out; omega) H2.out.below.size ?_
    intro v3 w3 h3 h4
    obtain ⟨a3, c3, hv3, -⟩ := h3.rd
    obtain ⟨q1, q2, q3⟩ := H2.out.push h3 h4.1
    obtain ⟨n3, hn3⟩ : ∃ y, (l ++ lowB x 4).length = y := ⟨_, rfl⟩
    rw [hn3] at hv3
    subst hv3
    have HP := Lib.hid q1
    clear h3 h4 q1 hc2 hn3
    refine hK.out _ _ trivial (fun hHeld => ?_)
    try simp only [List.getElem_toArray, List.getElem_cons_succ, List.getElem_cons_zero, Act.put, List.setIfInBounds_toArray, List.set_cons_zero, List.set_cons_succ]
    clear hK K
    refine wpAnyH_ready (rs := [4]) (by kernel_rfl) (by simp) (AllReadyH.cons rfl (fun K hK => ?_) AllReadyH.nil)
    go_simp
    refine hK.out _ _ trivial (fun hHeld => ?_)
    try simp only [List.getElem_toArray, List.getElem_cons_succ, List.getElem_cons_zero, Act.put, List.setIfInBounds_toArray, List.set_cons_zero, List.set_cons_succ]
    clear hK K
    refine wpAnyH_done (by kernel_rfl) ?_ _
    exact ⟨rfl, _, results_none rfl _ _ _, ⟨_, rfl⟩, _, HP.out⟩
  · try rw [if_pos (by rfl)]
    go_wp2_with fail
    refine (HLO.out _).mono ?_
    rintro _ w2 ⟨vb, rfl, hob, hb2⟩
    have H2 := Lib.hid (H.out.later ((drewN_below (Below.refl _ w) 1).trans hb2))
    obtain ⟨ab, cb, rfl, hcb, hrb⟩ := hob.rd
    have HRB := Lib.hid hrb
    have hc2 := H2.out.box.cell 0
    simp only [List.getElem?_toArray, List.getElem?_cons_zero] at hc2
    rw [lowB_length]
    clear hob hb2 hrb hcb hc
    refine hK.out _ _ trivial (fun hHeld => ?_)
    try simp only [List.getElem_toArray, List.getElem_cons_succ, List.getElem_cons_zero, Act.put, List.setIfInBounds_toArray, List.set_cons_zero, List.set_cons_succ]
    clear hK K
    refine wpAnyH_ready (rs := [0]) (by kernel_rfl) (by simp) (AllReadyH.cons rfl (fun K hK => ?_) AllReadyH.nil)
    go_simp
    refine hK.out _ _ trivial (fun hHeld => ?_)
    try simp only [List.getElem_toArray, List.getElem_cons_succ, List.getElem_cons_zero, Act.put, List.setIfInBounds_toArray, List.set_cons_zero, List.set_cons_succ]
    clear hK K
    refine wpAnyH_ready (rs := [3]) (by kernel_rfl) (by simp) (AllReadyH.cons rfl (fun K hK => ?_) AllReadyH.nil)
    try rw [if_pos (by rfl)]
    refine wp_appendB (.tmp 3) (.tmp 5) rfl eltB w0.heap.size v l rfl ab 4 cb (lowB x 4) rfl H2.out.own (lowB_length 4 x).symm HRB.out (by rw [lowB_length]; have := HLN.out; omega) H2.out.below.size ?_
    intro v3 w3 h3 h4
    obtain ⟨a3, c3, hv3, -⟩ := h3.rd
    obtain ⟨q1, q2, q3⟩ := H2.out.push h3 h4.1
    obtain ⟨n3, hn3⟩ : ∃ y, (l ++ lowB x 4).length = y := ⟨_, rfl⟩
    rw [hn3] at hv3
    subst hv3
    have HP := Lib.hid q1
    clear h3 h4 q1 hc2 hn3
    refine hK.out _ _ trivial (fun hHeld => ?_)
    try simp only [List.getElem_toArray, List.getElem_cons_succ, List.getElem_cons_zero, Act.put, List.setIfInBounds_toArray, List.set_cons_zero, List.set_cons_succ]
    clear hK K
    refine wpAnyH_ready (rs := [4]) (by kernel_rfl) (by simp) (AllReadyH.cons rfl (fun K hK => ?_) AllReadyH.nil)
    go_simp
    refine hK.out _ _ trivial (fun hHeld => ?_)
    try simp only [List.getElem_toArray, List.getElem_cons_succ, List.getElem_cons_zero, Act.put, List.setIfInBounds_toArray, List.set_cons_zero, List.set_cons_succ]
    clear hK K
    refine wpAnyH_done (by kernel_rfl) ?_ _
    exact ⟨rfl, _, results_none rfl _ _ _, ⟨_, rfl⟩, _, HP.out⟩
theorem run_idx8 (w : World) (cs : Array Value) (k : Nat) (hk : k < 8) (z : Int) (hz : cs[k]? = some (.int .i64 z)) : (Instr.index 70 (.agg cs) (.int .i64 (k : Int))).run Try.prog w = .ok (.int .i64 z) w := by
  have hp : (part 3 cs k).run Try.prog w = .ok (.int .i64 z) w := run_part_plain w (by simp [Program.plainKey, Try.underlying3]) hz
  have hs : (sizeOf 3).run Try.prog w = .ok 1 w := by kernel_rfl
  have h1 : (0 : Int) ≤ (k : Int) ∧ (k : Int) < ((8 : Nat) : Int) := by omega
  unfold Instr.index
  simp only [asIntOf, Sem.run_bind, Sem.run_pure, Result.andThen_ok, run_underlying Try.underlying70, if_pos h1, hs, Int.toNat_natCast, Nat.mul_one, hp]
theorem mt_open (m : Mt) (h : m.roots.length = 8) : ∃ cnt fr mn r0 r1 r2 r3 r4 r5 r6 r7, m = ⟨cnt, fr, mn, [r0, r1, r2, r3, r4, r5, r6, r7]⟩ := by
  obtain ⟨cnt, fr, mn, l⟩ := m
  match l, h with
  | [r0, r1, r2, r3, r4, r5, r6, r7], _ => exact ⟨cnt, fr, mn, r0, r1, r2, r3, r4, r5, r6, r7, rfl⟩
set_option maxRecDepth 100000 in
set_option maxHeartbeats 4000000 in
theorem page_any (m : Mt) (hm : m.Ok) (w : World) : Calls Try.prog 42 #[.agg (mtC m).toArray] w (RetB 5 w (pageB m)) := by
  obtain ⟨cnt, fr, mn, r0, r1, r2, r3, r4, r5, r6, r7, rfl⟩ := mt_open m hm.eight
  have HMC : Hid ((mtC ⟨cnt, fr, mn, [r0, r1, r2, r3, r4, r5, r6, r7]⟩).toArray = #[.int .i64 (cnt : Int), .int .i64 (fr : Int), .int .i64 (mn : Int), .int .i64 (r0 : Int), .int .i64 (r1 : Int), .int .i64 (r2 : Int), .int .i64 (r3 : Int), .int .i64 (r4 : Int), .int .i64 (r5 : Int), .int .i64 (r6 : Int), .int .i64 (r7 : Int)]) := rfl
  rw [HMC.out]
  have l0 : cnt < 4294967296 := hm.count
  have l1 : fr < 4294967296 := hm.free
  have l2 : mn < 4294967296 := hm.many
  have HRT : Hid (∀ k (hk : k < 8), ([r0, r1, r2, r3, r4, r5, r6, r7] : List Nat)[k] < 4294967296) := Lib.hid fun k hk => hm.root _ (List.getElem_mem _)
  obtain ⟨bm, hbm⟩ : ∃ y, w.heap.size = y := ⟨_, rfl⟩
  obtain ⟨w1, hw1⟩ : ∃ y, w.alloc (.cells #[.int .i64 (cnt : Int), .int .i64 (fr : Int), .int .i64 (mn : Int), .int .i64 (r0 : Int), .int .i64 (r1 : Int), .int .i64 (r2 : Int), .int .i64 (r3 : Int), .int .i64 (r4 : Int), .int .i64 (r5 : Int), .int .i64 (r6 : Int), .int .i64 (r7 : Int)] 72) = y := ⟨_, rfl⟩
  have hs1 : w1.heap.size = bm + 1 := by rw [← hw1, ← hbm]; simp
  obtain ⟨w2, hw2⟩ : ∃ y, w1.alloc (.cells #[.slice none 0 0] 22) = y := ⟨_, rfl⟩
  have HP2 : Hid (PtA w w2 bm (bm + 1) #[.int .i64 (cnt : Int), .int .i64 (fr : Int), .int .i64 (mn : Int), .int .i64 (r0 : Int), .int .i64 (r1 : Int), .int .i64 (r2 : Int), .int .i64 (r3 : Int), .int .i64 (r4 : Int), .int .i64 (r5 : Int), .int .i64 (r6 : Int), .int .i64 (r7 : Int)] (.slice none 0 0) []) := by
    have hb1 : Below w.heap.size w w1 := by rw [← hw1]; exact below_alloc _
    have hb2 : Below w1.heap.size w1 w2 := by rw [← hw2]; exact below_alloc _
    refine ⟨below_trans hb1 hb2, RowAt.below ?_ hb2, ?_, OwnB.nil _ _ _, by omega, by omega⟩
    · rw [← hw1, ← hbm]; exact RowAt.new _ _ _
    · rw [← hw2, ← hs1]; exact RowAt.new _ _ _
  clear hm HMC
  go_enter Try.func42, Try.ntmps42
  go_upto_region 3 with fail
  clear hw1 hw2 hs1
  go_wp2_with fail
  refine (pput_any w w2 bm (bm + 1) #[.int .i64 (cnt : Int), .int .i64 (fr : Int), .int .i64 (mn : Int), .int .i64 (r0 : Int), .int .i64 (r1 : Int), .int .i64 (r2 : Int), .int .i64 (r3 : Int), .int .i64 (r4 : Int), .int .i64 (r5 : Int), .int .i64 (r6 : Int), .int .i64 (r7 : Int)] _ _ HP2.out (by simp [lowB_length]) 1279613008 (by decide)).mono ?_
  rintro _ w3 ⟨⟨_, rfl⟩, v3, hp3⟩
  have HP3 := Lib.hid hp3
  clear hp3
  have c0 := HP3.out.mrow.cell 0
  simp only [List.getElem?_toArray, List.getElem?_cons_zero, List.getElem?_cons_succ] at c0
  go_wp2_with fail
  refine (pput_any w w3 bm (bm + 1) #[.int .i64 (cnt : Int), .int .i64 (fr : Int), .int .i64 (mn : Int), .int .i64 (r0 : Int), .int .i64 (r1 : Int), .int .i64 (r2 : Int), .int .i64 (r3 : Int), .int .i64 (r4 : Int), .int .i64 (r5 : Int), .int .i64 (r6 : Int), .int .i64 (r7 : Int)] _ _ HP3.out (by simp [lowB_length]) cnt l0).mono ?_
  rintro _ w4 ⟨⟨_, rfl⟩, v4, hp4⟩
  have HP4 := Lib.hid hp4
  clear hp4 c0
  have c1 := HP4.out.mrow.cell 1
  simp only [List.getElem?_toArray, List.getElem?_cons_zero, List.getElem?_cons_succ] at c1
  go_wp2_with fail
  refine (pput_any w w4 bm (bm + 1) #[.int .i64 (cnt : Int), .int .i64 (fr : Int), .int .i64 (mn : Int), .int .i64 (r0 : Int), .int .i64 (r1 : Int), .int .i64 (r2 : Int), .int .i64 (r3 : Int), .int .i64 (r4 : Int), .int .i64 (r5 : Int), .int .i64 (r6 : Int), .int .i64 (r7 : Int)] _ _ HP4.out (by simp [lowB_length]) fr l1).mono ?_
  rintro _ w5 ⟨⟨_, rfl⟩, v5, hp5⟩
  have HP5 := Lib.hid hp5
  clear hp5 c1
  have c2 := HP5.out.mrow.cell 2
  simp only [List.getElem?_toArray, List.getElem?_cons_zero, List.getElem?_cons_succ] at c2
  go_wp2_with fail
  refine (pput_any w w5 bm (bm + 1) #[.int .i64 (cnt : Int), .int .i64 (fr : Int), .int .i64 (mn : Int), .int .i64 (r0 : Int), .int .i64 (r1 : Int), .int .i64 (r2 : Int), .int .i64 (r3 : Int), .int .i64 (r4 : Int), .int .i64 (r5 : Int), .int .i64 (r6 : Int), .int .i64 (r7 : Int)] _ _ HP5.out (by simp [lowB_length]) mn l2).mono ?_
  rintro _ w6 ⟨⟨_, rfl⟩, v6, hp6⟩
  have HP6 := Lib.hid hp6
  clear hp6 c2
  have c3 := HP6.out.mrow.cell 3
  have c4 := HP6.out.mrow.cell 4
  have c5 := HP6.out.mrow.cell 5
  have c6 := HP6.out.mrow.cell 6
  have c7 := HP6.out.mrow.cell 7
  have c8 := HP6.out.mrow.cell 8
  have c9 := HP6.out.mrow.cell 9
  have c10 := HP6.out.mrow.cell 10
  simp only [List.getElem?_toArray, List.getElem?_cons_zero, List.getElem?_cons_succ] at c3 c4 c5 c6 c7 c8 c9 c10
  have HL6 : Hid (PtA w w6 bm (bm + 1) #[.int .i64 (cnt : Int), .int .i64 (fr : Int), .int .i64 (mn : Int), .int .i64 (r0 : Int), .int .i64 (r1 : Int), .int .i64 (r2 : Int), .int .i64 (r3 : Int), .int .i64 (r4 : Int), .int .i64 (r5 : Int), .int .i64 (r6 : Int), .int .i64 (r7 : Int)] v6 (headP ⟨cnt, fr, mn, [r0, r1, r2, r3, r4, r5, r6, r7]⟩ ++ rootsB (([r0, r1, r2, r3, r4, r5, r6, r7] : List Nat).take 0))) := by
    have h := HP6.out
    unfold headP
    simp only [List.take_zero, rootsB, List.flatMap_nil, List.append_nil, List.nil_append] at h ⊢
    exact h
  go_wp2_with fail
  clear c3 c4 c5 c6 c7 c8 c9 c10
  go_loopw [24] (fun iv wr => ∃ k : Nat, k ≤ 8 ∧ iv = .int .i64 (k : Int) ∧ ∃ v, PtA w wr bm (bm + 1) #[.int .i64 (cnt : Int), .int .i64 (fr : Int), .int .i64 (mn : Int), .int .i64 (r0 : Int), .int .i64 (r1 : Int), .int .i64 (r2 : Int), .int .i64 (r3 : Int), .int .i64 (r4 : Int), .int .i64 (r5 : Int), .int .i64 (r6 : Int), .int .i64 (r7 : Int)] v (headP ⟨cnt, fr, mn, [r0, r1, r2, r3, r4, r5, r6, r7]⟩ ++ rootsB (([r0, r1, r2, r3, r4, r5, r6, r7] : List Nat).take k))) (fun iv _ => 8 - (intOf iv).toNat)
  case atStart => exact ⟨0, by omega, rfl, _, HL6.out⟩
  case round =>
    obtain ⟨k, hk, rfl, v, hpt⟩ := hrel
    have HPT := Lib.hid hpt
    clear hpt
    by_cases hk8 : k < 8
    · have hsuc : rootsB (([r0, r1, r2, r3, r4, r5, r6, r7] : List Nat).take (k + 1)) = rootsB (([r0, r1, r2, r3, r4, r5, r6, r7] : List Nat).take k) ++ lowB (([r0, r1, r2, r3, r4, r5, r6, r7] : List Nat)[k]) 4 := by
        rw [List.take_succ_eq_append_getElem (by simpa using hk8)]
        unfold rootsB
        rw [List.flatMap_append]
        simp
      have hlen : (headP ⟨cnt, fr, mn, [r0, r1, r2, r3, r4, r5, r6, r7]⟩ ++ rootsB (([r0, r1, r2, r3, r4, r5, r6, r7] : List Nat).take k)).length ≤ 2000 := by
        rw [List.length_append, headP_len, rootsB_len, List.length_take]
        omega
      have HPU := Lib.hid (pput_any w wr bm (bm + 1) #[.int .i64 (cnt : Int), .int .i64 (fr : Int), .int .i64 (mn : Int), .int .i64 (r0 : Int), .int .i64 (r1 : Int), .int .i64 (r2 : Int), .int .i64 (r3 : Int), .int .i64 (r4 : Int), .int .i64 (r5 : Int), .int .i64 (r6 : Int), .int .i64 (r7 : Int)] _ _ HPT.out hlen (([r0, r1, r2, r3, r4, r5, r6, r7] : List Nat)[k]) (HRT.out k hk8))
      rw [List.append_assoc, ← hsuc] at HPU
      clear hsuc hlen
      rcases (by omega : k = 0 ∨ k = 1 ∨ k = 2 ∨ k = 3 ∨ k = 4 ∨ k = 5 ∨ k = 6 ∨ k = 7) with rfl | rfl | rfl | rfl | rfl | rfl | rfl | rfl
      · simp only [List.getElem_cons_zero, List.getElem_cons_succ] at HPU
        clear hk hk8
        have hix : (Instr.index 70 (.agg #[.int .i64 (r0 : Int), .int .i64 (r1 : Int), .int .i64 (r2 : Int), .int .i64 (r3 : Int), .int .i64 (r4 : Int), .int .i64 (r5 : Int), .int .i64 (r6 : Int), .int .i64 (r7 : Int)]) (.int .i64 0)).run Try.prog wr = .ok (.int .i64 (r0 : Int)) wr := run_idx8 wr _ 0 (by decide) _ rfl
        go_wp2_with fail
        refine HPU.out.mono ?_
        rintro _ w7 ⟨⟨_, rfl⟩, v7, hp7⟩
        have HP7 := Lib.hid hp7
        clear hp7 hix
        go_wp2
        exact ⟨⟨1, by omega, rfl, v7, HP7.out⟩, by simp [intOf]⟩
      · simp only [List.getElem_cons_zero, List.getElem_cons_succ] at HPU
        clear hk hk8
        have hix : (Instr.index 70 (.agg #[.int .i64 (r0 : Int), .int .i64 (r1 : Int), .int .i64 (r2 : Int), .int .i64 (r3 : Int), .int .i64 (r4 : Int), .int .i64 (r5 : Int), .int .i64 (r6 : Int), .int .i64 (r7 : Int)]) (.int .i64 1)).run Try.prog wr = .ok (.int .i64 (r1 : Int)) wr := run_idx8 wr _ 1 (by decide) _ rfl
        go_wp2_with fail
        refine HPU.out.mono ?_
        rintro _ w7 ⟨⟨_, rfl⟩, v7, hp7⟩
        have HP7 := Lib.hid hp7
        clear hp7 hix
        go_wp2
        exact ⟨⟨2, by omega, rfl, v7, HP7.out⟩, by simp [intOf]⟩
      · simp only [List.getElem_cons_zero, List.getElem_cons_succ] at HPU
        clear hk hk8
        have hix : (Instr.index 70 (.agg #[.int .i64 (r0 : Int), .int .i64 (r1 : Int), .int .i64 (r2 : Int), .int .i64 (r3 : Int), .int .i64 (r4 : Int), .int .i64 (r5 : Int), .int .i64 (r6 : Int), .int .i64 (r7 : Int)]) (.int .i64 2)).run Try.prog wr = .ok (.int .i64 (r2 : Int)) wr := run_idx8 wr _ 2 (by decide) _ rfl
        go_wp2_with fail
        refine HPU.out.mono ?_
        rintro _ w7 ⟨⟨_, rfl⟩, v7, hp7⟩
        have HP7 := Lib.hid hp7
        clear hp7 hix
        go_wp2
        exact ⟨⟨3, by omega, rfl, v7, HP7.out⟩, by simp [intOf]⟩
      · simp only [List.getElem_cons_zero, List.getElem_cons_succ] at HPU
        clear hk hk8
        have hix : (Instr.index 70 (.agg #[.int .i64 (r0 : Int), .int .i64 (r1 : Int), .int .i64 (r2 : Int), .int .i64 (r3 : Int), .int .i64 (r4 : Int), .int .i64 (r5 : Int), .int .i64 (r6 : Int), .int .i64 (r7 : Int)]) (.int .i64 3)).run Try.prog wr = .ok (.int .i64 (r3 : Int)) wr := run_idx8 wr _ 3 (by decide) _ rfl
        go_wp2_with fail
        refine HPU.out.mono ?_
        rintro _ w7 ⟨⟨_, rfl⟩, v7, hp7⟩
        have HP7 := Lib.hid hp7
        clear hp7 hix
        go_wp2
        exact ⟨⟨4, by omega, rfl, v7, HP7.out⟩, by simp [intOf]⟩
      · simp only [List.getElem_cons_zero, List.getElem_cons_succ] at HPU
        clear hk hk8
        have hix : (Instr.index 70 (.agg #[.int .i64 (r0 : Int), .int .i64 (r1 : Int), .int .i64 (r2 : Int), .int .i64 (r3 : Int), .int .i64 (r4 : Int), .int .i64 (r5 : Int), .int .i64 (r6 : Int), .int .i64 (r7 : Int)]) (.int .i64 4)).run Try.prog wr = .ok (.int .i64 (r4 : Int)) wr := run_idx8 wr _ 4 (by decide) _ rfl
        go_wp2_with fail
        refine HPU.out.mono ?_
        rintro _ w7 ⟨⟨_, rfl⟩, v7, hp7⟩
        have HP7 := Lib.hid hp7
        clear hp7 hix
        go_wp2
        exact ⟨⟨5, by omega, rfl, v7, HP7.out⟩, by simp [intOf]⟩
      · simp only [List.getElem_cons_zero, List.getElem_cons_succ] at HPU
        clear hk hk8
        have hix : (Instr.index 70 (.agg #[.int .i64 (r0 : Int), .int .i64 (r1 : Int), .int .i64 (r2 : Int), .int .i64 (r3 : Int), .int .i64 (r4 : Int), .int .i64 (r5 : Int), .int .i64 (r6 : Int), .int .i64 (r7 : Int)]) (.int .i64 5)).run Try.prog wr = .ok (.int .i64 (r5 : Int)) wr := run_idx8 wr _ 5 (by decide) _ rfl
        go_wp2_with fail
        refine HPU.out.mono ?_
        rintro _ w7 ⟨⟨_, rfl⟩, v7, hp7⟩
        have HP7 := Lib.hid hp7
        clear hp7 hix
        go_wp2
        exact ⟨⟨6, by omega, rfl, v7, HP7.out⟩, by simp [intOf]⟩
      · simp only [List.getElem_cons_zero, List.getElem_cons_succ] at HPU
        clear hk hk8
        have hix : (Instr.index 70 (.agg #[.int .i64 (r0 : Int), .int .i64 (r1 : Int), .int .i64 (r2 : Int), .int .i64 (r3 : Int), .int .i64 (r4 : Int), .int .i64 (r5 : Int), .int .i64 (r6 : Int), .int .i64 (r7 : Int)]) (.int .i64 6)).run Try.prog wr = .ok (.int .i64 (r6 : Int)) wr := run_idx8 wr _ 6 (by decide) _ rfl
        go_wp2_with fail
        refine HPU.out.mono ?_
        rintro _ w7 ⟨⟨_, rfl⟩, v7, hp7⟩
        have HP7 := Lib.hid hp7
        clear hp7 hix
        go_wp2
        exact ⟨⟨7, by omega, rfl, v7, HP7.out⟩, by simp [intOf]⟩
      · simp only [List.getElem_cons_zero, List.getElem_cons_succ] at HPU
        clear hk hk8
        have hix : (Instr.index 70 (.agg #[.int .i64 (r0 : Int), .int .i64 (r1 : Int), .int .i64 (r2 : Int), .int .i64 (r3 : Int), .int .i64 (r4 : Int), .int .i64 (r5 : Int), .int .i64 (r6 : Int), .int .i64 (r7 : Int)]) (.int .i64 7)).run Try.prog wr = .ok (.int .i64 (r7 : Int)) wr := run_idx8 wr _ 7 (by decide) _ rfl
        go_wp2_with fail
        refine HPU.out.mono ?_
        rintro _ w7 ⟨⟨_, rfl⟩, v7, hp7⟩
        have HP7 := Lib.hid hp7
        clear hp7 hix
        go_wp2
        exact ⟨⟨8, by omega, rfl, v7, HP7.out⟩, by simp [intOf]⟩
    · obtain rfl : k = 8 := by omega
      have hall : ([r0, r1, r2, r3, r4, r5, r6, r7] : List Nat).take 8 = [r0, r1, r2, r3, r4, r5, r6, r7] := rfl
      rw [hall] at HPT
      have hlen : (headP ⟨cnt, fr, mn, [r0, r1, r2, r3, r4, r5, r6, r7]⟩ ++ rootsB [r0, r1, r2, r3, r4, r5, r6, r7]).length = 48 := by rw [List.length_append, headP_len, rootsB_len]; rfl
      have HPB : Hid (headP ⟨cnt, fr, mn, [r0, r1, r2, r3, r4, r5, r6, r7]⟩ ++ rootsB [r0, r1, r2, r3, r4, r5, r6, r7] ++ List.replicate 976 0 = pageB ⟨cnt, fr, mn, [r0, r1, r2, r3, r4, r5, r6, r7]⟩) := rfl
      have HLEN := Lib.hid hlen
      obtain ⟨av, cv, hv, -⟩ := HPT.out.own.rd
      rw [hlen] at hv
      subst hv
      have cb := HPT.out.box.cell 0
      simp only [List.getElem?_toArray, List.getElem?_cons_zero] at cb
      clear hall hlen hk
      go_wp2_with (at_builtin; refine step_appendM rfl (.tmp 31) (.tmp 34) rfl w.heap.size _ _ rfl 976 rfl HPT.out.own (by rw [HLEN.out]; decide) (by rw [HLEN.out]; decide) (by decide) (by decide) HPT.out.below.size ?_; intro v8 w8 h1 h2 h3; rw [HPB.out] at h1; have H8 := Lib.hid h1; have HB8 : Hid (Below w.heap.size w w8) := HPT.out.below.trans (below_of_grown h2 HPT.out.below.size fun g hg => (World.ownsRow.lt HPT.out.own g hg).1); clear h1 h2 h3)
      go_ret
      exact ⟨_, rfl, H8.out, HB8.out⟩
end Go.Proofs.Ytagipfkgnobjlaa
