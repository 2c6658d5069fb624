/- sound: the walk. -/
import Derived.Test.YtagipfkgnobjlaaPgSound
namespace Go.Proofs.Ytagipfkgnobjlaa
open Go.RowKit

attribute [local go_sem] Oper.semAt_some
theorem run_lenM {w : World} {r : Nat} {es : Array MapEntry} {cl : Nat} (h : w.heap[r]? = some (.map es cl)) : (Builtin.len_ #[102] 3 #[.map (some r)]).run Try.prog w = .ok (.int .i64 (es.size : Int)) w := by
  simp [Builtin.len_, run_underlying Try.underlying102, MapKept.run_getObj_map h, Result.andThen, goInt]
noncomputable def soundB (n : Nat) (s : PS) : Bool := decide (stepN (nxP n s) (freeL n s).length s.now.free = 0) && decide ((freeL n s).length = s.now.many)
set_option maxRecDepth 100000 in
set_option maxHeartbeats 400000 in
theorem pgsound_any (b0 : Nat) (w : World) (F : Nat → Prop) (pb d size n room : Nat) (s : PS) (h : PgA b0 w F pb d size n room s) (hc : s.now.count ≤ room) :
    Calls Try.prog 34 #[.pointer (some ⟨pb, 0, none⟩)] w fun e w' => e = .returned (.bool (soundB n s)) ∧ Below w.heap.size w w' := by
  have HFR := Lib.hid (pgfrees_any b0 w F pb d size n room s h hc)
  have HBY := Lib.hid (fun W (hW : Below w.heap.size w W) k (hk : k < room) => pgbytes_any b0 W F pb d size n room s (h.later hW) k hk)
  have HLN : Hid (∀ k, (bytesP n s k).length = 1024) := by obtain ⟨T, U, lb, m, f, h⟩ := h; exact Lib.hid fun k => bytesP_len h k
  obtain ⟨c5, c6⟩ : w.cell? ⟨pb, 5, none⟩ = some (.int .i64 (s.now.free : Int)) ∧ w.cell? ⟨pb, 6, none⟩ = some (.int .i64 (s.now.many : Int)) := by
    obtain ⟨T, U, lb, m, f, h⟩ := h
    obtain ⟨c0, c1, c2, c3, c4, c5, c6, c26, c27, c28⟩ := h.row.cells
    exact ⟨c5, c6⟩
  have HPB : Hid (pb < w.heap.size) := Lib.hid (World.block_lt_of_cell? w _ c5)
  obtain ⟨t, ht⟩ : ∃ t, soundB n s = t := ⟨_, rfl⟩
  obtain ⟨K, hK⟩ : ∃ K : Ending → World → Prop, (fun (e : Ending) (w' : World) => e = .returned (.bool (soundB n s)) ∧ Below w.heap.size w w') = K := ⟨_, rfl⟩
  have HK : Hid (∀ w', Below w.heap.size w w' → K (.returned (.bool t)) w') := Lib.hid fun w' h3 => by rw [← hK]; exact ⟨by rw [ht], h3⟩
  rw [hK]
  obtain ⟨hnd, hst, -⟩ := freeL_spec n s
  unfold soundB at ht
  have HNX : Hid (∀ k, leB ((bytesP n s k).take 4) = nxP n s k) := Lib.hid fun k => rfl
  obtain ⟨fl, hfl⟩ : ∃ y, freeL n s = y := ⟨_, rfl⟩
  obtain ⟨nx, hnx⟩ : ∃ y, nxP n s = y := ⟨_, rfl⟩
  obtain ⟨fr, hfr⟩ : ∃ y, s.now.free = y := ⟨_, rfl⟩
  obtain ⟨mn, hmn⟩ : ∃ y, s.now.many = y := ⟨_, rfl⟩
  rw [hfl, hnx, hfr, hmn] at ht
  rw [hfl] at hnd HFR
  rw [hfl, hnx, hfr] at hst
  rw [hnx] at HNX
  rw [hfr] at c5
  rw [hmn] at c6
  have HST : Hid (∀ (k x : Nat), fl[k]? = some x → x = stepN nx k fr ∧ x < room) := Lib.hid fun k x q => ⟨(hst k x q).1, Nat.lt_of_lt_of_le (hst k x q).2.2 hc⟩
  clear hK h hc hfl hfr hmn hnx hst
  go_enter Try.func34, Try.ntmps34
  go_wp2_with fail
  refine HFR.out.mono ?_
  rintro _ w4 ⟨r, rfl, hr1, ⟨es, cl, hes, hF⟩, hb4⟩
  have HLEN : Hid (es.size = fl.length) := Lib.hid (setF_size hF hnd)
  have HBP := Lib.hid (born_pair hF)
  have HLT := Lib.hid hF.lt
  have HES := Lib.hid hes
  have HB4 := Lib.hid hb4
  have hrange := run_range_map (P := Try.prog) w4 102 _ _ r es cl Try.underlying102 hes
  have HRG := Lib.hid hrange
  obtain ⟨g, hg⟩ : ∃ x, w4.heap.size = x := ⟨_, rfl⟩
  rw [hg] at HRG
  have hrg : r < g := by rw [← hg]; exact (Array.getElem?_eq_some_iff.1 hes).1
  have hwg : w.heap.size ≤ g := by rw [← hg]; exact hb4.size
  have HC4 : Hid (w4.cell? ⟨pb, 5, none⟩ = some (.int .i64 (fr : Int)) ∧ w4.cell? ⟨pb, 6, none⟩ = some (.int .i64 (mn : Int)) ∧ pb < g) := ⟨(hb4.cell HPB.out).trans c5, (hb4.cell HPB.out).trans c6, by have := HPB.out; omega⟩
  have e5 := HC4.out.1
  clear hrange hes hF hr1 hb4 hnd c5 c6
  go_wp2_with (refine step_range rfl 102 (.tmp 12) rfl _ rfl _ _ HRG.out ?_)
  try simp only [Act.put, List.setIfInBounds_toArray, List.set_cons_zero, List.set_cons_succ]
  clear e5
  go_loopw [4] (fun av wr => Below g w4 wr ∧ ∃ seen c0 k, wr.heap[g]? = some (.mapIter (some r) cl seen c0) ∧ cl ≤ c0 ∧ av = .int .i64 ((stepN nx k fr : Nat) : Int) ∧ (leftOf es seen).size + k = fl.length) (fun _ wr => (leftOf es (wr.iterSeen g)).size)
  case atStart => exact ⟨by rw [← hg]; exact below_alloc _, #[], cl, 0, by rw [← hg]; exact heap_alloc_new w4 _, Nat.le_refl _, rfl, by rw [← HLEN.out]; unfold leftOf; simp⟩
  case round =>
    obtain ⟨hbr, seen, c0, k, hit, hc0, rfl, hleft⟩ := hrel
    have hM1 : wr.heap[r]? = some (.map es cl) := (hbr.block r hrg).trans HES.out
    have hSeen := iterSeen_of hit
    rcases run_next_g (P := Try.prog) 0 hit hM1 HLT.out hc0 with ⟨h0, hrun⟩ | ⟨e, he, w1, hw1, hrun⟩
    · have HRUN := Lib.hid hrun
      have HBR := Lib.hid hbr
      have hk : k = fl.length := by omega
      subst hk
      have e6 : wr.cell? ⟨pb, 6, none⟩ = some (.int .i64 (mn : Int)) := (hbr.cell HC4.out.2.2).trans HC4.out.2.1
      have HEX : Hid (∀ W, Below wr.heap.size wr W → K (.returned (.bool t)) W) := Lib.hid fun W hW => HK.out W (HB4.out.trans ((hbr.trans (hW.mono (by have := hbr.size; omega))).mono hwg))
      obtain ⟨z, hz⟩ : ∃ z, stepN nx fl.length fr = z := ⟨_, rfl⟩
      rw [hz] at ht ⊢
      obtain ⟨fn, hfn⟩ : ∃ y, fl.length = y := ⟨_, rfl⟩
      rw [hfn] at ht
      have HSZ : Hid (es.size = fn) := by show _ = _; rw [HLEN.out, hfn]
      clear hrun hbr hit hSeen hz hleft
      rw [← HSZ.out] at ht
      by_cases hz0 : z = 0
      · subst hz0
        have hq : ((es.size : Int) == (mn : Int)) = t := by
          rw [← ht, Bool.eq_iff_iff]
          simp
          omega
        clear ht
        go_upto_region 6 with (refine step_next rfl (.tmp 13) rfl _ rfl _ _ HRUN.out ?_)
        refine wp_region_held_drew (S := fun W => W.cell? ⟨pb, 6, none⟩ = some (.int .i64 (mn : Int)) ∧ W.heap[r]? = some (.map es cl)) (by kernel_rfl) ⟨e6, hM1⟩ (fun hHeld => ?_)
        refine wpAnyH_take (i := 0) (v := ?_) rfl (by kernel_rfl) (by kernel_rfl) (by kernel_rfl) (fun _ _ _ h => h) (Or.inl ⟨by rfl, ?_⟩) hHeld ?_
        rotate_left
        · intro w' hS'
          (try dsimp only at hS')
          obtain ⟨h6, hmm⟩ := hS'
          go_simp
          try with_reducible rfl
        try simp only [List.getElem_toArray, List.getElem_cons_succ, List.getElem_cons_zero, Act.put, List.setIfInBounds_toArray, List.set_cons_zero, List.set_cons_succ]
        refine wpAnyH_take (i := 1) (v := ?_) rfl (by kernel_rfl) (by kernel_rfl) (by kernel_rfl) (fun _ _ _ h => h) (Or.inl ⟨by rfl, ?_⟩) hHeld ?_
        rotate_left
        · intro w' hS'
          (try dsimp only at hS')
          obtain ⟨h6, hmm⟩ := hS'
          go_simp
          try with_reducible rfl
        try simp only [List.getElem_toArray, List.getElem_cons_succ, List.getElem_cons_zero, Act.put, List.setIfInBounds_toArray, List.set_cons_zero, List.set_cons_succ]
        refine wpAnyH_take (i := 2) (v := ?_) rfl (by kernel_rfl) (by kernel_rfl) (by kernel_rfl) (fun _ _ _ h => h) (Or.inl ⟨by rfl, ?_⟩) hHeld ?_
        rotate_left
        · intro w' hS'
          (try dsimp only at hS')
          obtain ⟨h6, hmm⟩ := hS'
          go_simp
          try with_reducible rfl
        try simp only [List.getElem_toArray, List.getElem_cons_succ, List.getElem_cons_zero, Act.put, List.setIfInBounds_toArray, List.set_cons_zero, List.set_cons_succ]
        refine wpAnyH_take (i := 3) (v := ?_) rfl (by kernel_rfl) (by kernel_rfl) (by kernel_rfl) (fun _ _ _ h => h) (Or.inl ⟨by rfl, ?_⟩) hHeld ?_
        rotate_left
        · intro w' hS'
          (try dsimp only at hS')
          obtain ⟨h6, hmm⟩ := hS'
          go_simp
          try with_reducible rfl
        try simp only [List.getElem_toArray, List.getElem_cons_succ, List.getElem_cons_zero, Act.put, List.setIfInBounds_toArray, List.set_cons_zero, List.set_cons_succ]
        refine wpAnyH_take (i := 4) (v := ?_) rfl (by kernel_rfl) (by kernel_rfl) (by kernel_rfl) (fun _ _ _ h => h) (Or.inl ⟨by rfl, ?_⟩) hHeld ?_
        rotate_left
        · intro w' hS'
          (try dsimp only at hS')
          obtain ⟨h6, hmm⟩ := hS'
          have hl := run_lenM hmm
          go_simp
          try with_reducible rfl
        try simp only [List.getElem_toArray, List.getElem_cons_succ, List.getElem_cons_zero, Act.put, List.setIfInBounds_toArray, List.set_cons_zero, List.set_cons_succ]
        refine wpAnyH_take (i := 5) (v := ?_) rfl (by kernel_rfl) (by kernel_rfl) (by kernel_rfl) (fun _ _ _ h => h) (Or.inl ⟨by rfl, ?_⟩) hHeld ?_
        rotate_left
        · intro w' hS'
          (try dsimp only at hS')
          obtain ⟨h6, hmm⟩ := hS'
          go_simp
          try with_reducible rfl
        try simp only [List.getElem_toArray, List.getElem_cons_succ, List.getElem_cons_zero, Act.put, List.setIfInBounds_toArray, List.set_cons_zero, List.set_cons_succ]
        refine wpAnyH_take (i := 6) (v := ?_) rfl (by kernel_rfl) (by kernel_rfl) (by kernel_rfl) (fun _ _ _ h => h) (Or.inl ⟨by rfl, ?_⟩) hHeld ?_
        rotate_left
        · intro w' hS'
          (try dsimp only at hS')
          obtain ⟨h6, hmm⟩ := hS'
          go_simp
          try with_reducible rfl
        try simp only [List.getElem_toArray, List.getElem_cons_succ, List.getElem_cons_zero, Act.put, List.setIfInBounds_toArray, List.set_cons_zero, List.set_cons_succ]
        refine wpAnyH_take (i := 7) (v := ?_) rfl (by kernel_rfl) (by kernel_rfl) (by kernel_rfl) (fun _ _ _ h => h) (Or.inl ⟨by rfl, ?_⟩) hHeld ?_
        rotate_left
        · intro w' hS'
          (try dsimp only at hS')
          obtain ⟨h6, hmm⟩ := hS'
          go_simp
          try with_reducible rfl
        try simp only [List.getElem_toArray, List.getElem_cons_succ, List.getElem_cons_zero, Act.put, List.setIfInBounds_toArray, List.set_cons_zero, List.set_cons_succ]
        refine wpAnyH_take (i := 8) (v := ?_) rfl (by kernel_rfl) (by kernel_rfl) (by kernel_rfl) (fun _ _ _ h => h) (Or.inl ⟨by rfl, ?_⟩) hHeld ?_
        rotate_left
        · intro w' hS'
          (try dsimp only at hS')
          obtain ⟨h6, hmm⟩ := hS'
          go_simp
          try with_reducible rfl
        try simp only [List.getElem_toArray, List.getElem_cons_succ, List.getElem_cons_zero, Act.put, List.setIfInBounds_toArray, List.set_cons_zero, List.set_cons_succ]
        refine wpAnyH_take (i := 9) (v := ?_) rfl (by kernel_rfl) (by kernel_rfl) (by kernel_rfl) (fun _ _ _ h => h) (Or.inl ⟨by rfl, ?_⟩) hHeld ?_
        rotate_left
        · intro w' hS'
          (try dsimp only at hS')
          obtain ⟨h6, hmm⟩ := hS'
          go_simp
          try with_reducible rfl
        try simp only [List.getElem_toArray, List.getElem_cons_succ, List.getElem_cons_zero, Act.put, List.setIfInBounds_toArray, List.set_cons_zero, List.set_cons_succ]
        refine wpAnyH_take (i := 10) (v := ?_) rfl (by kernel_rfl) (by kernel_rfl) (by kernel_rfl) (fun _ _ _ h => h) (Or.inl ⟨by rfl, ?_⟩) hHeld ?_
        rotate_left
        · intro w' hS'
          (try dsimp only at hS')
          obtain ⟨h6, hmm⟩ := hS'
          go_simp
          try with_reducible rfl
        try simp only [List.getElem_toArray, List.getElem_cons_succ, List.getElem_cons_zero, Act.put, List.setIfInBounds_toArray, List.set_cons_zero, List.set_cons_succ]
        refine wpAnyH_take (i := 11) (v := ?_) rfl (by kernel_rfl) (by kernel_rfl) (by kernel_rfl) (fun _ _ _ h => h) (Or.inl ⟨by rfl, ?_⟩) hHeld ?_
        rotate_left
        · intro w' hS'
          (try dsimp only at hS')
          obtain ⟨h6, hmm⟩ := hS'
          go_simp
          try with_reducible rfl
        try simp only [List.getElem_toArray, List.getElem_cons_succ, List.getElem_cons_zero, Act.put, List.setIfInBounds_toArray, List.set_cons_zero, List.set_cons_succ]
        refine wpAnyH_take (i := 12) (v := ?_) rfl (by kernel_rfl) (by kernel_rfl) (by kernel_rfl) (fun _ _ _ h => h) (Or.inl ⟨by rfl, ?_⟩) hHeld ?_
        rotate_left
        · intro w' hS'
          (try dsimp only at hS')
          obtain ⟨h6, hmm⟩ := hS'
          go_simp
          try with_reducible rfl
        try simp only [List.getElem_toArray, List.getElem_cons_succ, List.getElem_cons_zero, Act.put, List.setIfInBounds_toArray, List.set_cons_zero, List.set_cons_succ]
        refine wpAnyH_done (by kernel_rfl) ?_ _
        go_wp2
        exact HEX.out _ (drewN_below (Below.refl _ _) 1)
      · have hzb : ((z : Int) == 0) = false := by simp; omega
        have ht2 : t = false := by rw [← ht, decide_eq_false hz0]; rfl
        subst ht2
        clear ht
        go_upto_region 6 with (refine step_next rfl (.tmp 13) rfl _ rfl _ _ HRUN.out ?_)
        refine wp_region_held_drew (S := fun W => W.cell? ⟨pb, 6, none⟩ = some (.int .i64 (mn : Int)) ∧ W.heap[r]? = some (.map es cl)) (by kernel_rfl) ⟨e6, hM1⟩ (fun hHeld => ?_)
        refine wpAnyH_take (i := 0) (v := ?_) rfl (by kernel_rfl) (by kernel_rfl) (by kernel_rfl) (fun _ _ _ h => h) (Or.inl ⟨by rfl, ?_⟩) hHeld ?_
        rotate_left
        · intro w' hS'
          (try dsimp only at hS')
          obtain ⟨h6, hmm⟩ := hS'
          go_simp
          try with_reducible rfl
        try simp only [List.getElem_toArray, List.getElem_cons_succ, List.getElem_cons_zero, Act.put, List.setIfInBounds_toArray, List.set_cons_zero, List.set_cons_succ]
        refine wpAnyH_take (i := 1) (v := ?_) rfl (by kernel_rfl) (by kernel_rfl) (by kernel_rfl) (fun _ _ _ h => h) (Or.inl ⟨by rfl, ?_⟩) hHeld ?_
        rotate_left
        · intro w' hS'
          (try dsimp only at hS')
          obtain ⟨h6, hmm⟩ := hS'
          go_simp
          try with_reducible rfl
        try simp only [List.getElem_toArray, List.getElem_cons_succ, List.getElem_cons_zero, Act.put, List.setIfInBounds_toArray, List.set_cons_zero, List.set_cons_succ]
        refine wpAnyH_take (i := 2) (v := ?_) rfl (by kernel_rfl) (by kernel_rfl) (by kernel_rfl) (fun _ _ _ h => h) (Or.inl ⟨by rfl, ?_⟩) hHeld ?_
        rotate_left
        · intro w' hS'
          (try dsimp only at hS')
          obtain ⟨h6, hmm⟩ := hS'
          go_simp
          try with_reducible rfl
        try simp only [List.getElem_toArray, List.getElem_cons_succ, List.getElem_cons_zero, Act.put, List.setIfInBounds_toArray, List.set_cons_zero, List.set_cons_succ]
        refine wpAnyH_take (i := 3) (v := undef) rfl (by kernel_rfl) (by kernel_rfl) (by kernel_rfl) (fun _ _ _ h => h) (Or.inr ⟨by rfl, rfl⟩) hHeld ?_
        try simp only [List.getElem_toArray, List.getElem_cons_succ, List.getElem_cons_zero, Act.put, List.setIfInBounds_toArray, List.set_cons_zero, List.set_cons_succ]
        refine wpAnyH_take (i := 4) (v := undef) rfl (by kernel_rfl) (by kernel_rfl) (by kernel_rfl) (fun _ _ _ h => h) (Or.inr ⟨by rfl, rfl⟩) hHeld ?_
        try simp only [List.getElem_toArray, List.getElem_cons_succ, List.getElem_cons_zero, Act.put, List.setIfInBounds_toArray, List.set_cons_zero, List.set_cons_succ]
        refine wpAnyH_take (i := 5) (v := undef) rfl (by kernel_rfl) (by kernel_rfl) (by kernel_rfl) (fun _ _ _ h => h) (Or.inr ⟨by rfl, rfl⟩) hHeld ?_
        try simp only [List.getElem_toArray, List.getElem_cons_succ, List.getElem_cons_zero, Act.put, List.setIfInBounds_toArray, List.set_cons_zero, List.set_cons_succ]
        refine wpAnyH_take (i := 6) (v := undef) rfl (by kernel_rfl) (by kernel_rfl) (by kernel_rfl) (fun _ _ _ h => h) (Or.inr ⟨by rfl, rfl⟩) hHeld ?_
        try simp only [List.getElem_toArray, List.getElem_cons_succ, List.getElem_cons_zero, Act.put, List.setIfInBounds_toArray, List.set_cons_zero, List.set_cons_succ]
        refine wpAnyH_take (i := 7) (v := undef) rfl (by kernel_rfl) (by kernel_rfl) (by kernel_rfl) (fun _ _ _ h => h) (Or.inr ⟨by rfl, rfl⟩) hHeld ?_
        try simp only [List.getElem_toArray, List.getElem_cons_succ, List.getElem_cons_zero, Act.put, List.setIfInBounds_toArray, List.set_cons_zero, List.set_cons_succ]
        refine wpAnyH_take (i := 8) (v := undef) rfl (by kernel_rfl) (by kernel_rfl) (by kernel_rfl) (fun _ _ _ h => h) (Or.inr ⟨by rfl, rfl⟩) hHeld ?_
        try simp only [List.getElem_toArray, List.getElem_cons_succ, List.getElem_cons_zero, Act.put, List.setIfInBounds_toArray, List.set_cons_zero, List.set_cons_succ]
        refine wpAnyH_take (i := 9) (v := undef) rfl (by kernel_rfl) (by kernel_rfl) (by kernel_rfl) (fun _ _ _ h => h) (Or.inr ⟨by rfl, rfl⟩) hHeld ?_
        try simp only [List.getElem_toArray, List.getElem_cons_succ, List.getElem_cons_zero, Act.put, List.setIfInBounds_toArray, List.set_cons_zero, List.set_cons_succ]
        refine wpAnyH_take (i := 10) (v := undef) rfl (by kernel_rfl) (by kernel_rfl) (by kernel_rfl) (fun _ _ _ h => h) (Or.inr ⟨by rfl, rfl⟩) hHeld ?_
        try simp only [List.getElem_toArray, List.getElem_cons_succ, List.getElem_cons_zero, Act.put, List.setIfInBounds_toArray, List.set_cons_zero, List.set_cons_succ]
        refine wpAnyH_take (i := 11) (v := ?_) rfl (by kernel_rfl) (by kernel_rfl) (by kernel_rfl) (fun _ _ _ h => h) (Or.inl ⟨by rfl, ?_⟩) hHeld ?_
        rotate_left
        · intro w' hS'
          (try dsimp only at hS')
          obtain ⟨h6, hmm⟩ := hS'
          go_simp
          try with_reducible rfl
        try simp only [List.getElem_toArray, List.getElem_cons_succ, List.getElem_cons_zero, Act.put, List.setIfInBounds_toArray, List.set_cons_zero, List.set_cons_succ]
        refine wpAnyH_take (i := 12) (v := ?_) rfl (by kernel_rfl) (by kernel_rfl) (by kernel_rfl) (fun _ _ _ h => h) (Or.inl ⟨by rfl, ?_⟩) hHeld ?_
        rotate_left
        · intro w' hS'
          (try dsimp only at hS')
          obtain ⟨h6, hmm⟩ := hS'
          go_simp
          try with_reducible rfl
        try simp only [List.getElem_toArray, List.getElem_cons_succ, List.getElem_cons_zero, Act.put, List.setIfInBounds_toArray, List.set_cons_zero, List.set_cons_succ]
        refine wpAnyH_done (by kernel_rfl) ?_ _
        go_wp2
        exact HEX.out _ (drewN_below (Below.refl _ _) 1)
    · have hgr : g < wr.heap.size := (Array.getElem?_eq_some_iff.1 hit).1
      have hex := left_exact HBP.out he
      have hkl : k < fl.length := by omega
      obtain ⟨x, hx⟩ : ∃ x, fl[k]? = some x := ⟨_, List.getElem?_eq_getElem hkl⟩
      obtain ⟨hxs, hxr⟩ := HST.out k x hx
      have hnext : stepN nx (k + 1) fr = nx x := by rw [stepN_succ, hxs]
      obtain ⟨w2, hw2⟩ : ∃ x, ({ w1 with heap := w1.heap.setIfInBounds g (.mapIter (some r) cl (seen.push e.born) cl) } : World) = x := ⟨_, rfl⟩
      have hk2 : KeepA (fun x => x = g) wr w2 := by
        rw [← hw2]
        rcases hw1 with rfl | rfl
        · exact ⟨rfl, rfl, rfl, by simp, fun k hk hne => by simp [Ne.symm hne]⟩
        · exact ⟨rfl, rfl, rfl, by show wr.heap.size ≤ (wr.heap.setIfInBounds g _).size; simp, fun k hk hne => by show (wr.heap.setIfInBounds g _)[k]? = wr.heap[k]?; simp [Ne.symm hne]⟩
      have hit2 : w2.heap[g]? = some (.mapIter (some r) cl (seen.push e.born) cl) := by
        rw [← hw2]
        rcases hw1 with rfl | rfl
        · simp [hgr]
        · show (wr.heap.setIfInBounds g _)[g]? = _
          simp [hgr]
      rw [hw2] at hrun
      obtain ⟨ke, hke⟩ : ∃ x, e.key = x := ⟨_, rfl⟩
      obtain ⟨ve, hve⟩ : ∃ x, e.val = x := ⟨_, rfl⟩
      rw [hke, hve] at hrun
      have HRUN := Lib.hid hrun
      have HB2 : Hid (Below g w4 w2) := hbr.trans (hk2.below (by omega) (by rintro x rfl; exact Nat.le_refl _))
      have HIT2 := Lib.hid hit2
      have HSEEN := Lib.hid hSeen
      have HEX2 := Lib.hid (And.intro hex hleft)
      have HBX := Lib.hid (HBY.out w2 (HB4.out.trans (HB2.out.mono hwg)) x hxr)
      clear hrun hbr hit hM1 hk2 hit2 hw2 he hex hleft hSeen hw1 hc0 hke hve
      go_wp2_with (refine step_next rfl (.tmp 13) rfl _ rfl _ _ HRUN.out ?_)
      rw [← hxs]
      refine HBX.out.mono ?_
      rintro _ w5 ⟨vb, rfl, ho, hb5⟩
      obtain ⟨ba, bc, rfl, hbc, hbr⟩ := OwnB.rd ho
      rw [HLN.out] at hbc ⊢
      have HB5 := Lib.hid hb5
      have HR5 := Lib.hid hbr
      clear ho hb5 hbr hbc
      go_wp2_with fail
      refine (pvalue_any w5 ba (bytesP n s x) 1024 bc (HLN.out x).symm (by omega) HR5.out).mono ?_
      rintro _ w6 ⟨rfl, hb6⟩
      rw [HNX.out, ← hnext]
      have hg2 : g < w2.heap.size := (Array.getElem?_eq_some_iff.1 HIT2.out).1
      have hb26 : Below w2.heap.size w2 w6 := HB5.out.trans (hb6.mono HB5.out.size)
      have hit6 : w6.heap[g]? = some (.mapIter (some r) cl (seen.push e.born) cl) := (hb26.block g hg2).trans HIT2.out
      have HF6 := Lib.hid (And.intro (HB2.out.trans (hb26.mono (Nat.le_of_lt hg2))) hit6)
      clear hb6 hb26 hit6
      go_wp2
      refine ⟨⟨HF6.out.1, seen.push e.born, cl, k + 1, HF6.out.2, Nat.le_refl _, by rw [stepN_succ], by have := HEX2.out; omega⟩, ?_⟩
      rw [iterSeen_of HF6.out.2, HSEEN.out]
      have := HEX2.out
      omega
end Go.Proofs.Ytagipfkgnobjlaa
