/- Sectors held against each other; a range over a map; (*disk.Disk).Same of disks that are alike. -/
import Derived.Test.YtmbpacpkabbcgaaDkCrash
import Derived.ChangeKeysEq
import Derived.Laws.IdiomRangeMap
import Derived.Laws.StructEq
namespace Go.Proofs.Ytmbpacpkabbcgaa
open Go.RowKit

set_option maxRecDepth 100000 in
theorem eqItems_same {w : World} (s : List UInt8) : ∀ (is : List Nat), (∀ i ∈ is, i < s.length) → (Op.eqItems 9999 5 (Try.prog.cellsOf 5) (s.map bv).toArray (s.map bv).toArray is).run Try.prog w = .ok true w
  | [], _ => by simp [Op.eqItems]
  | i :: is, h => by
    have hi := h i List.mem_cons_self
    have hc : Try.prog.cellsOf 5 = 1 := by kernel_rfl
    have hk : Try.prog.plainKey 5 = true := by kernel_rfl
    have hg : (s.map bv).toArray[i * 1]? = some (bv s[i]) := by simp [hi]
    have p1 := run_part_plain (P := Try.prog) w hk hg
    have p2 : (Op.equalIn 9999 5 (bv s[i]) (bv s[i])).run Try.prog w = .ok true w := by
      have := run_equalIn_int (P := Try.prog) w 9998 5 .u8 .u8 (s[i].toNat : Int) (s[i].toNat : Int) Try.underlying5
      simpa [bv] using this
    have ih := eqItems_same (w := w) s is fun j hj => h j (List.mem_cons_of_mem _ hj)
    rw [hc] at ih ⊢
    simp only [Op.eqItems, Sem.run_bind, p1, Result.andThen_ok, p2, Bool.not_true, Bool.false_eq_true, if_false]
    exact ih
set_option maxRecDepth 100000 in
theorem run_neq_sec (w : World) (s : List UInt8) (hs : s.length = 512) : (binOp .neq 84 (.agg (s.map bv).toArray) (.agg (s.map bv).toArray)).run Try.prog w = .ok (.bool false) w := by
  have hi : ∃ i, Try.prog.info? 5 = some i := by
    cases h : Try.prog.info? 5 with
    | none => have : (Try.prog.info? 5).isSome = true := by kernel_rfl
              rw [h] at this; cases this
    | some i => exact ⟨i, rfl⟩
  obtain ⟨i, hi⟩ := hi
  have h := run_equalIn_array (P := Try.prog) w 9999 (s.map bv).toArray (s.map bv).toArray Try.underlying84 hi
  rw [eqItems_same s _ fun i hi => by rw [hs]; exact List.mem_range.1 hi] at h
  have h : (Op.equalIn 10000 84 (.agg (s.map bv).toArray) (.agg (s.map bv).toArray)).run Try.prog w = .ok true w := h
  simp only [binOp]
  simp [Op.equal, Op.maxDepth, h]
theorem run_next_g {P : Program} {w : World} {r m since c0 clock : Nat} {seen : Array Nat} {es : Array MapEntry} (ty : TypeId) (hr : w.heap[r]? = some (.mapIter (some m) since seen c0)) (hb : w.heap[m]? = some (.map es clock)) (hold : ∀ x ∈ es.toList, x.born < since) (hsc : since ≤ c0) :
    ((leftOf es seen).size = 0 ∧ (Instr.next (.pointer (some ⟨r, 0, none⟩)) false ty).run P w = .ok (.tuple #[.bool false]) w) ∨
    ∃ e ∈ (leftOf es seen).toList, ∃ w1 : World, (w1 = w ∨ w1 = w.drew) ∧ (Instr.next (.pointer (some ⟨r, 0, none⟩)) false ty).run P w = .ok (.tuple #[.bool true, e.key, e.val]) { w1 with heap := w1.heap.setIfInBounds r (.mapIter (some m) since (seen.push e.born) clock) } := by
  simp only [Instr.next, getObj, Sem.run_bind, Sem.run, hr, hb, Result.andThen, next_test_false seen es since c0 hold hsc, Bool.false_eq_true, if_false]
  unfold leftOf
  have hmem : ∀ x ∈ (Array.filter (fun e => !seen.contains e.born) es).toList, x.born < since := fun x hx => hold x (by simp at hx ⊢; exact hx.1)
  generalize Array.filter (fun e => !seen.contains e.born) es = L at hmem ⊢
  have e1 : L.filter (fun x => decide (x.born < since)) = L := Array.filter_eq_self.2 (fun x hx => by simpa using hmem x (by simpa using hx))
  have e2 : L.filter (fun x => decide (x.born ≥ since)) = #[] := by
    rw [Array.filter_eq_empty_iff]
    intro x hx
    have := hmem x (by simpa using hx)
    simp
    omega
  simp only [e1, e2, Array.append_empty]
  by_cases h0 : L.size = 0
  · left
    have : L = #[] := Array.eq_empty_of_size_eq_zero h0
    subst this
    refine ⟨rfl, ?_⟩
    simp [choose, Sem.run, Question.forced]
  · right
    have hne : L.isEmpty = false := by simp [Array.isEmpty, h0]
    simp only [hne, Bool.false_eq_true, if_false, Array.empty_append, Array.size_map]
    have hch : ∃ (j : Nat) (w1 : World), j < L.size ∧ (w1 = w ∨ w1 = w.drew) ∧ (choose (Question.mapNext L.size)).run P w = .ok j w1 := by
      by_cases hf : L.size ≤ 1
      · exact ⟨0, w, by omega, .inl rfl, by simp [choose, Sem.run, Question.forced, hf]⟩
      · exact ⟨_, w.drew, Nat.mod_lt _ (by omega), .inr rfl, by
          simp only [choose, Sem.run, Question.forced, decide_eq_true_eq, hf, if_false, Question.cut]
          rfl⟩
    obtain ⟨j, w1, hj, hal, hrun⟩ := hch
    refine ⟨L[j], by simp, w1, hal, ?_⟩
    have hw1 : w1.heap[r]? = some (.mapIter (some m) since seen c0) := by rcases hal with rfl | rfl <;> exact hr
    simp only [hrun, Array.getElem?_map, Array.getElem?_eq_getElem hj, Option.map_some, Sem.run_bind, Result.andThen, setObj, Sem.run, hw1]
    rfl
theorem run_entry_g {P : Program} {w : World} {r m since clock b : Nat} {seen : Array Nat} {es : Array MapEntry} (hr : w.heap[r]? = some (.mapIter (some m) since (seen.push b) clock)) (hb : w.heap[m]? = some (.map es clock)) (he : ∃ e ∈ es.toList, e.born = b) :
    ∃ e ∈ es.toList, (Instr.entry (.pointer (some ⟨r, 0, none⟩))).run P w = .ok (.tuple #[e.key, e.val]) w := by
  obtain ⟨e0, he0, hb0⟩ := he
  have hs : (es.find? (·.born == b)).isSome = true := by
    rw [← Array.find?_toList, List.find?_isSome]
    exact ⟨e0, he0, by simp [hb0]⟩
  cases hf : es.find? (·.born == b) with
  | none => rw [hf] at hs; cases hs
  | some e =>
    refine ⟨e, by simpa using Array.mem_of_find?_eq_some hf, ?_⟩
    simp only [Instr.entry, getObj, Sem.run_bind, Sem.run, hr, hb, Result.andThen, Array.back?_push, bne_self_eq_false, Bool.false_eq_true, if_false, hf]
    rfl
theorem step_next {P : Program} {ops : Array Oper} {rest : List Oper} {o : Oper} {act : Act} {Q : Exit → Act → World → Prop} {w : World} (hgd : o.guard = none) (x : Operand) (ho : o.op = .next x false) (it : Value) (hx : act.eval x = it) (v : Value) (w1 : World) (hr : (Instr.next it false o.type).run P w = .ok v w1)
    (h : wpList P ops Q rest (act.put o.dst v) w1) : wpList P ops Q (o :: rest) act w :=
  wpList_plain hgd fun K hK => by
    unfold Oper.wp execOp
    simp only [ho, hx]
    rw [Sem.run_bind, hr]
    exact hK _ _ h
theorem step_entry {P : Program} {ops : Array Oper} {rest : List Oper} {o : Oper} {act : Act} {Q : Exit → Act → World → Prop} {w : World} (hgd : o.guard = none) (x : Operand) (ho : o.op = .entry x) (it : Value) (hx : act.eval x = it) (v : Value) (w1 : World) (hr : (Instr.entry it).run P w = .ok v w1)
    (h : wpList P ops Q rest (act.put o.dst v) w1) : wpList P ops Q (o :: rest) act w :=
  wpList_plain hgd fun K hK => by
    unfold Oper.wp execOp
    simp only [ho, hx]
    rw [Sem.run_bind, hr]
    exact hK _ _ h
theorem step_range {P : Program} {ops : Array Oper} {rest : List Oper} {o : Oper} {act : Act} {Q : Exit → Act → World → Prop} {w : World} (hgd : o.guard = none) (T : TypeId) (x : Operand) (ho : o.op = .range T x) (it : Value) (hx : act.eval x = it) (v : Value) (w1 : World) (hr : (Instr.range T it).run P w = .ok v w1)
    (h : wpList P ops Q rest (act.put o.dst v) w1) : wpList P ops Q (o :: rest) act w :=
  wpList_plain hgd fun K hK => by
    unfold Oper.wp execOp
    simp only [ho, hx]
    rw [Sem.run_bind, hr]
    exact hK _ _ h
theorem iterSeen_of {w : World} {r m a b : Nat} {s : Array Nat} (h : w.heap[r]? = some (.mapIter (some m) a s b)) : w.iterSeen r = s := by
  unfold World.iterSeen
  rw [h]
set_option maxRecDepth 100000 in
theorem yieldsIf_neq {ops : Array Oper} {S : World → Prop} {o : Oper} {act : Act} (hw : Region.wanted o (yielded ops act.tmps) = true) (x y : Operand) (ho : o.op = .binOp .neq 84 x y 84) (s : List UInt8) (hs : s.length = 512) (hx : act.eval x = .agg (s.map bv).toArray) (hy : act.eval y = .agg (s.map bv).toArray) : YieldsIf Try.prog ops S o (.bool false) act :=
  .inl ⟨hw, fun w _ => by
    unfold execOp
    simp only [ho, hx, hy]
    rw [Sem.run_bind, Sem.run_bind, run_eqGuard_agg w .neq 84 x y _ _ (by kernel_rfl), Result.andThen_ok, run_neq_sec w s hs]
    rfl⟩
set_option maxRecDepth 100000 in
set_option maxHeartbeats 1000000 in
theorem covers_any (w : World) (b1 b2 s1 s2 m1 m2 : Nat) (pv1 fv1 pv2 fv2 : Value) (st1 st2 : Int) (h1 : DkHd w b1 s1 (.map (some m1)) pv1 fv1 st1) (h2 : DkHd w b2 s2 (.map (some m2)) pv2 fv2 st2) (es1 es2 : Array MapEntry) (cl1 cl2 : Nat) (L : Int → List UInt8)
    (e1 : w.heap[m1]? = some (.map es1 cl1)) (i1 : MapIs cl1 es1.toList L) (e2 : w.heap[m2]? = some (.map es2 cl2)) (i2 : MapIs cl2 es2.toList L) (hL : ∀ k, (L k).length = 512) :
    Calls Try.prog 41 #[.pointer (some ⟨b1, 0, none⟩), .pointer (some ⟨b2, 0, none⟩)] w fun e w' => e = .returned (.bool true) ∧ Below w.heap.size w w' := by
  obtain ⟨_, c1, _⟩ := DkHd.cells h1
  obtain ⟨_, d1, _⟩ := DkHd.cells h2
  have D1 := Lib.hid d1
  have E1 := Lib.hid e1
  have I1 := Lib.hid i1
  have E2 := Lib.hid e2
  have I2 := Lib.hid i2
  have HL := Lib.hid hL
  have hb1 : b1 < w.heap.size := h1.lt
  have hb2 : b2 < w.heap.size := h2.lt
  have hm1 : m1 < w.heap.size := (Array.getElem?_eq_some_iff.1 e1).1
  have hm2 : m2 < w.heap.size := (Array.getElem?_eq_some_iff.1 e2).1
  have hrange := run_range_map (P := Try.prog) w 64 _ _ m1 es1 cl1 Try.underlying64 e1
  have HRG := Lib.hid hrange
  obtain ⟨g, hg⟩ : ∃ x, w.heap.size = x := ⟨_, rfl⟩
  rw [hg] at HRG
  clear hrange h1 h2 d1 e1 e2 i1 i2 hL
  go_enter Try.func41, Try.ntmps41
  rw [hg]
  go_wp2_with (refine step_range rfl 64 (.tmp 10) rfl _ rfl _ _ HRG.out ?_)
  simp only [Act.put, List.setIfInBounds_toArray, List.set_cons_zero, List.set_cons_succ]
  clear c1
  go_loopw [12] (fun _ wr => Below g w wr ∧ ∃ seen c0, wr.heap[g]? = some (.mapIter (some m1) cl1 seen c0) ∧ cl1 ≤ c0) (fun _ wr => (leftOf es1 (wr.iterSeen g)).size)
  case atStart => exact ⟨by rw [← hg]; exact below_alloc _, #[], cl1, by rw [← hg]; exact heap_alloc_new w _, Nat.le_refl _⟩
  case round =>
    obtain ⟨hbr, seen, c0, hit, hc0⟩ := hrel
    have hM1 : wr.heap[m1]? = some (.map es1 cl1) := (hbr.block m1 (by omega)).trans E1.out
    have hSeen := iterSeen_of hit
    rcases run_next_g (P := Try.prog) 0 hit hM1 I1.out.2.2.2 hc0 with ⟨h0, hrun⟩ | ⟨e, he, w1, hw1, hrun⟩
    · have HRUN := Lib.hid hrun
      have HBR := Lib.hid hbr
      clear hrun hbr hit hM1 hSeen
      go_wp2_with (refine step_next rfl (.tmp 11) rfl _ rfl _ _ HRUN.out ?_)
      go_ret
      exact ⟨rfl, HBR.out⟩
    · have hgr : g < wr.heap.size := (Array.getElem?_eq_some_iff.1 hit).1
      have hmem := (mem_left he).1
      have hshr := left_shrinks es1 seen e he
      obtain ⟨w2, hw2⟩ : ∃ x, ({ w1 with heap := w1.heap.setIfInBounds g (.mapIter (some m1) cl1 (seen.push e.born) cl1) } : World) = x := ⟨_, rfl⟩
      have hk2 : KeepA (fun x => x = g) wr w2 := by
        rw [← hw2]
        rcases hw1 with rfl | rfl
        · exact ⟨rfl, rfl, rfl, by simp, fun k hk hne => by simp [Ne.symm hne]⟩
        · exact ⟨rfl, rfl, rfl, by show wr.heap.size ≤ (wr.heap.setIfInBounds g _).size; simp, fun k hk hne => by show (wr.heap.setIfInBounds g _)[k]? = wr.heap[k]?; simp [Ne.symm hne]⟩
      have hit2 : w2.heap[g]? = some (.mapIter (some m1) cl1 (seen.push e.born) cl1) := by
        rw [← hw2]
        rcases hw1 with rfl | rfl
        · simp [hgr]
        · show (wr.heap.setIfInBounds g _)[g]? = _
          simp [hgr]
      rw [hw2] at hrun
      have hgm1 : ¬ m1 = g := by omega
      have hM2 : w2.heap[m1]? = some (.map es1 cl1) := (hk2.same m1 (by omega) hgm1).trans hM1
      obtain ⟨e', he', hent⟩ := run_entry_g (P := Try.prog) hit2 hM2 ⟨e, hmem, rfl⟩
      obtain ⟨k, hkey, hval⟩ := I1.out.1 e' he'
      rw [hkey, hval] at hent
      obtain ⟨s, hs⟩ : ∃ s, L k = s := ⟨_, rfl⟩
      have hs5 : s.length = 512 := by rw [← hs]; exact HL.out k
      rw [hs, show secV s = .agg (s.map bv).toArray from rfl] at hent
      obtain ⟨ke, hke⟩ : ∃ x, e.key = x := ⟨_, rfl⟩
      obtain ⟨ve, hve⟩ : ∃ x, e.val = x := ⟨_, rfl⟩
      rw [hke, hve] at hrun
      have HRUN := Lib.hid hrun
      have HENT := Lib.hid hent
      have HB2 : Hid (Below g w w2) := hbr.trans (hk2.below (by omega) (by rintro x rfl; exact Nat.le_refl _))
      have HIT2 := Lib.hid hit2
      have HSH := Lib.hid hshr
      have HSEEN := Lib.hid hSeen
      have HS := Lib.hid hs
      obtain ⟨t1, t2, t3⟩ := sec_store hs5
      have hg2 : g < w2.heap.size := (Array.getElem?_eq_some_iff.1 hit2).1
      obtain ⟨sx, hsx⟩ : ∃ x, w2.heap.size = x := ⟨_, rfl⟩
      clear hrun hent hbr hit hM1 hk2 hit2 hw2 hM2 he he' hkey hval hmem hshr hSeen hke hve hw1 hs hc0
      go_wp2_with (first
        | (refine step_next rfl (.tmp 11) rfl _ rfl _ _ HRUN.out ?_)
        | (refine step_entry rfl (.tmp 11) rfl _ rfl _ _ HENT.out ?_)
        | (refine step_allocZ rfl 84 rfl zeroS zero_sec ?_; intro w3 q1 q2 q3; rw [hsx] at q1 q3 ⊢)
        | (refine step_storeRow rfl 84 (.tmp 6) (.tmp 16) rfl rfl sx (s.map bv).toArray rfl rfl 84 zeroS q1 t1.out t2.out t3.out ?_; intro w4 q4 q5))
      have hb4 : Below w2.heap.size w2 w4 := below_grown q2 q5 (by omega) (by intro x hx; have := Option.some.inj hx; omega)
      have HB4 : Hid (Below g w w4) := HB2.out.trans (hb4.mono (by omega))
      have HIT4 : Hid (w4.heap[g]? = some (.mapIter (some m1) cl1 (seen.push e.born) cl1)) := (hb4.block g (by omega)).trans HIT2.out
      have hk1 : w4.drew.cell? ⟨b2, 1, none⟩ = some (.map (some m2)) ∧ w4.drew.heap[m2]? = some (.map es2 cl2) ∧ w4.drew.rangeAt sx 0 (s.map bv) := ⟨(HB4.out.cell (p := ⟨b2, 1, none⟩) (by dsimp only; omega)).trans D1.out, (HB4.out.block m2 (by omega)).trans E2.out, fun j v hv => by
        rw [Nat.zero_add]
        have := RowAt.cell (w := w4.drew) q4 j
        rw [this, List.getElem?_toArray]
        exact hv⟩
      clear q1 q2 q3 q4 q5 hb4 t1 t2 t3
      obtain ⟨e8, hu8⟩ := und_sec
      have hi8 : (Try.prog.info? 84).map (·.size) = some (s.map bv).length := by rw [List.length_map, hs5]; kernel_rfl
      refine wp_region_held_drew (S := fun w' => w'.cell? ⟨b2, 1, none⟩ = some (.map (some m2)) ∧ w'.heap[m2]? = some (.map es2 cl2) ∧ w'.rangeAt sx 0 (s.map bv)) (by kernel_rfl) hk1 (fun hHeld => ?_)
      refine wpAnyH_take (i := 0) (v := ?_) rfl (by kernel_rfl) (by kernel_rfl) (by kernel_rfl) (fun _ _ _ h => h) (Or.inl ⟨by rfl, ?_⟩) hHeld ?_
      rotate_left
      · intro w' hS'
        go_simp
        try with_reducible rfl
      simp only [List.getElem_toArray, List.getElem_cons_succ, List.getElem_cons_zero, Act.put, List.setIfInBounds_toArray, List.set_cons_zero, List.set_cons_succ]
      refine wpAnyH_take (i := 1) (v := ?_) rfl (by kernel_rfl) (by kernel_rfl) (by kernel_rfl) (fun _ _ _ h => h) (Or.inl ⟨by rfl, ?_⟩) hHeld ?_
      rotate_left
      · intro w' hS'
        go_simp
        try with_reducible rfl
      simp only [List.getElem_toArray, List.getElem_cons_succ, List.getElem_cons_zero, Act.put, List.setIfInBounds_toArray, List.set_cons_zero, List.set_cons_succ]
      refine wpAnyH_take (i := 2) (v := ?_) rfl (by kernel_rfl) (by kernel_rfl) (by kernel_rfl) (fun _ _ _ h => h) (Or.inl ⟨by rfl, ?_⟩) hHeld ?_
      rotate_left
      · intro w' hS'
        go_simp
        try with_reducible rfl
      simp only [List.getElem_toArray, List.getElem_cons_succ, List.getElem_cons_zero, Act.put, List.setIfInBounds_toArray, List.set_cons_zero, List.set_cons_succ]
      refine wpAnyH_take (i := 3) (v := ?_) rfl (by kernel_rfl) (by kernel_rfl) (by kernel_rfl) (fun _ _ _ h => h) (Or.inl ⟨by rfl, ?_⟩) hHeld ?_
      rotate_left
      · intro w' hS'
        go_simp
        try with_reducible rfl
      simp only [List.getElem_toArray, List.getElem_cons_succ, List.getElem_cons_zero, Act.put, List.setIfInBounds_toArray, List.set_cons_zero, List.set_cons_succ]
      refine wpAnyH_take (i := 4) (v := ?_) rfl (by kernel_rfl) (by kernel_rfl) (by kernel_rfl) (fun _ _ _ h => h) (Or.inl ⟨by rfl, ?_⟩) hHeld ?_
      rotate_left
      · intro w' hS'
        go_simp
        try with_reducible rfl
      simp only [List.getElem_toArray, List.getElem_cons_succ, List.getElem_cons_zero, Act.put, List.setIfInBounds_toArray, List.set_cons_zero, List.set_cons_succ]
      refine wpAnyH_take (i := 5) (v := _) rfl (by kernel_rfl) (by kernel_rfl) (by kernel_rfl) (fun _ _ _ h => h) (yieldsIf_lookup (S := fun w' => w'.cell? ⟨b2, 1, none⟩ = some (.map (some m2)) ∧ w'.heap[m2]? = some (.map es2 cl2) ∧ w'.rangeAt sx 0 (s.map bv)) (by rfl) (.tmp 20) (.tmp 21) rfl I2.out k rfl rfl (fun _ h => h.2.1)) hHeld ?_
      simp only [List.getElem_toArray, List.getElem_cons_succ, List.getElem_cons_zero, Act.put, List.setIfInBounds_toArray, List.set_cons_zero, List.set_cons_succ]
      rw [HS.out]
      refine wpAnyH_take (i := 6) (v := _) rfl (by kernel_rfl) (by kernel_rfl) (by kernel_rfl) (fun _ _ _ h => h) (yieldsIf_load_mid (by rfl) 84 (.tmp 6) rfl sx 0 rfl (s.map bv) _ (fun _ h => h.2.2) hu8 rfl hi8) hHeld ?_
      simp only [List.getElem_toArray, List.getElem_cons_succ, List.getElem_cons_zero, Act.put, List.setIfInBounds_toArray, List.set_cons_zero, List.set_cons_succ]
      refine wpAnyH_take (i := 7) (v := _) rfl (by kernel_rfl) (by kernel_rfl) (by kernel_rfl) (fun _ _ _ h => h) (yieldsIf_neq (S := fun w' => w'.cell? ⟨b2, 1, none⟩ = some (.map (some m2)) ∧ w'.heap[m2]? = some (.map es2 cl2) ∧ w'.rangeAt sx 0 (s.map bv)) (by rfl) (.tmp 22) (.tmp 23) rfl s hs5 rfl rfl) hHeld ?_
      simp only [List.getElem_toArray, List.getElem_cons_succ, List.getElem_cons_zero, Act.put, List.setIfInBounds_toArray, List.set_cons_zero, List.set_cons_succ]
      refine wpAnyH_done (by kernel_rfl) ?_ _
      go_wp2
      refine ⟨⟨drewN_below HB4.out 1, seen.push e.born, cl1, HIT4.out, Nat.le_refl _⟩, ?_⟩
      rw [HSEEN.out, iterSeen_of (w := w4.drew) HIT4.out]
      exact HSH.out
theorem pceq_nil (w : World) (a a' : Option Addr) (c c' : Nat) : Calls Try.prog 40 #[.slice a 0 c, .slice a' 0 c'] w fun e w' => e = .returned (.bool true) ∧ w' = w := by
  go_enter Try.func40, Try.ntmps40
  go_wp2
  go_loopw [13] (fun i wr => wr = w ∧ i = .int .i64 0) (fun _ _ => 0)
  case atStart => exact ⟨rfl, rfl⟩
  case round =>
    obtain ⟨rfl, rfl⟩ := hrel
    go_wp2
    go_ret
    exact ⟨rfl, rfl⟩
set_option maxRecDepth 100000 in
set_option maxHeartbeats 1000000 in
theorem same_any (w : World) (base1 base2 b1 b2 F1 F2 size : Nat) (L : Int → List UInt8) (h1 : IsDk w base1 b1 ⟨size, L, []⟩ F1) (h2 : IsDk w base2 b2 ⟨size, L, []⟩ F2) :
    Calls Try.prog 17 #[.pointer (some ⟨b1, 0, none⟩), .pointer (some ⟨b2, 0, none⟩)] w fun e w' => e = .returned (.bool true) ∧ Below w.heap.size w w' := by
  obtain ⟨m1, pv1, fv1, fl1, st1, h1, -⟩ := h1
  obtain ⟨m2, pv2, fv2, fl2, st2, h2, -⟩ := h2
  obtain ⟨pa1, pc1, rfl, -, -⟩ := Rd.of_own h1.pcs
  obtain ⟨pa2, pc2, rfl, -, -⟩ := Rd.of_own h2.pcs
  obtain ⟨es1, cl1, e1, i1⟩ := h1.map
  obtain ⟨es2, cl2, e2, i2⟩ := h2.map
  have HN1 := Lib.hid (fun w hh => none_any w b1 size (.map (some m1)) (.slice pa1 0 pc1) fv1 st1 hh h1.size.1)
  have HN2 := Lib.hid (fun w hh => none_any w b2 size (.map (some m2)) (.slice pa2 0 pc2) fv2 st2 hh h2.size.1)
  have H1 : Hid (DkHd w b1 size (.map (some m1)) (.slice pa1 0 pc1) fv1 st1) := h1.hd
  have H2 : Hid (DkHd w b2 size (.map (some m2)) (.slice pa2 0 pc2) fv2 st2) := h2.hd
  have HL := Lib.hid h1.sec
  have E1 := Lib.hid e1
  have I1 := Lib.hid i1
  have E2 := Lib.hid e2
  have I2 := Lib.hid i2
  clear h1 h2 e1 e2 i1 i2
  go_enter Try.func17, Try.ntmps17
  go_wp2_with fail
  refine (HN1.out _ H1.out).mono ?_
  rintro _ w0 ⟨rfl, rfl⟩
  go_wp2_with fail
  refine (HN2.out _ H2.out).mono ?_
  rintro _ w0 ⟨rfl, rfl⟩
  go_wp2
  obtain ⟨c0, _, c2, _, _⟩ := DkHd.cells H1.out
  obtain ⟨d0, _, d2, _, _⟩ := DkHd.cells H2.out
  have hk1 : w0.drew.cell? ⟨b1, 0, none⟩ = some (.int .i64 (size : Int)) ∧ w0.drew.cell? ⟨b2, 0, none⟩ = some (.int .i64 (size : Int)) ∧ w0.drew.cell? ⟨b1, 2, none⟩ = some (.slice pa1 0 pc1) ∧ w0.drew.cell? ⟨b2, 2, none⟩ = some (.slice pa2 0 pc2) := ⟨c0, d0, c2, d2⟩
  clear c0 c2 d0 d2
  go_region_held_law (fun w' => w'.cell? ⟨b1, 0, none⟩ = some (.int .i64 (size : Int)) ∧ w'.cell? ⟨b2, 0, none⟩ = some (.int .i64 (size : Int)) ∧ w'.cell? ⟨b1, 2, none⟩ = some (.slice pa1 0 pc1) ∧ w'.cell? ⟨b2, 2, none⟩ = some (.slice pa2 0 pc2)) (first | assumption) (first
    | (go_at_call 40; refine (pceq_nil _ _ _ _ _).mono ?_; rintro e w3 ⟨rfl, rfl⟩))
  clear hk1
  go_wp2_with fail
  refine (covers_any w0.drew b1 b2 size size m1 m2 _ _ _ _ _ _ H1.out H2.out es1 es2 cl1 cl2 L E1.out I1.out E2.out I2.out HL.out).mono ?_
  rintro _ w1 ⟨rfl, hb⟩
  have HB := Lib.hid hb
  have HB0 : Hid (Below w0.heap.size w0 w1) := below_trans (drewN_below (Below.refl _ w0) 1) hb
  have h1' : DkHd w1 b1 size (.map (some m1)) (.slice pa1 0 pc1) fv1 st1 := RowAt.below H1.out HB0.out
  have h2' : DkHd w1 b2 size (.map (some m2)) (.slice pa2 0 pc2) fv2 st2 := RowAt.below H2.out HB0.out
  have HC2 := Lib.hid (covers_any w1 b2 b1 size size m2 m1 _ _ _ _ _ _ h2' h1' es2 es1 cl2 cl1 L ((HB0.out.block m2 (Array.getElem?_eq_some_iff.1 E2.out).1).trans E2.out) I2.out ((HB0.out.block m1 (Array.getElem?_eq_some_iff.1 E1.out).1).trans E1.out) I1.out HL.out)
  clear hb h1' h2'
  go_wp2_with fail
  refine HC2.out.mono ?_
  rintro _ w2 ⟨rfl, hb⟩
  have HB2 := Lib.hid (below_trans HB0.out hb)
  clear hb
  go_wp2_with fail
  go_ret
  exact ⟨rfl, HB2.out⟩
end Go.Proofs.Ytmbpacpkabbcgaa


