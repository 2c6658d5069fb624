/- RefsCompare answers true for any three versions: its walk. -/
import Derived.Test.YtloppjfdflacaaaRefLaw
import Derived.Test.YtloppjfdflacaaaKnown23
namespace Go.Proofs.Ytloppjfdflacaaa
open Go.RowKit

/-- A whole struct is loaded in a region that reads alone. -/
theorem quiet_loadRow {P : Program} {ops : Array Oper} {C : World → Prop} {Q : Act → Prop} {a : Act} {o : Oper} {rest : List Oper} (hgd : o.guard = none) (ty : TypeId) (x : Operand) (ho : o.op = .load ty x) (b : Nat) (hx : a.eval x = .pointer (some ⟨b, 0, none⟩))
    {t : TypeId} {cs : Array Value} (hg : ∀ w, C w → RowAt w b t cs) (hA : Agg P ty cs.size) (h : wpQuiet P ops C Q rest (a.put o.dst (.agg cs))) : wpQuiet P ops C Q (o :: rest) a :=
  wpQuiet_step fun K hK => by
    have hw : Region.wanted o (yielded ops a.tmps) = true := by unfold Region.wanted; rw [hgd]
    rw [if_pos hw]
    refine ⟨.agg cs, fun w hw => ?_, hK _ h⟩
    unfold Oper.quietAt execOp
    simp only [ho, hx, Instr.loadAt, Instr.sureAddr, Sem.run_bind, Sem.run_pure, Result.andThen_ok, run_loadVar_row' (hg w hw) hA]
    exact ⟨rfl, rfl⟩
theorem aggRef : Agg Try.prog 47 2 := ⟨⟨_, Try.underlying47⟩, by kernel_rfl⟩
set_option maxRecDepth 100000 in
set_option maxHeartbeats 2000000 in
theorem refscompare_any (s t u : ByteArray) (m n o : Int) (w : World) : Calls Try.prog 5 #[.agg #[.string s, .int .i64 m], .agg #[.string t, .int .i64 n], .agg #[.string u, .int .i64 o]] w fun e w' => e = .returned (.bool true) ∧ Below w.heap.size w w' := by
  obtain ⟨x, hx⟩ : ∃ x, cmpR s t m n = x := ⟨_, rfl⟩
  obtain ⟨y, hy⟩ : ∃ y, cmpR t u n o = y := ⟨_, rfl⟩
  obtain ⟨v, hv⟩ : ∃ v, cmpR s u m o = v := ⟨_, rfl⟩
  have hxr := cmpR_in s t m n
  rw [hx] at hxr
  have htr : x ≤ 0 → y ≤ 0 → v ≤ 0 := fun h1 h2 => by rw [← hv]; exact cmpR_trans s t u m n o (by rw [hx]; exact h1) (by rw [hy]; exact h2)
  have HX : Hid (∀ w, Calls Try.prog 16 #[.agg #[.string s, .int .i64 m], .agg #[.string t, .int .i64 n]] w fun e w' => e = .returned (.int .i64 x) ∧ Below w.heap.size w w') := Lib.hid fun w => by rw [← hx]; exact refcmp_any s t m n w
  have HY : Hid (∀ w, Calls Try.prog 16 #[.agg #[.string t, .int .i64 n], .agg #[.string u, .int .i64 o]] w fun e w' => e = .returned (.int .i64 y) ∧ Below w.heap.size w w') := Lib.hid fun w => by rw [← hy]; exact refcmp_any t u n o w
  have HZ : Hid (∀ w, Calls Try.prog 16 #[.agg #[.string t, .int .i64 n], .agg #[.string s, .int .i64 m]] w fun e w' => e = .returned (.int .i64 (-x)) ∧ Below w.heap.size w w') := Lib.hid fun w => by rw [← hx, ← cmpR_neg]; exact refcmp_any t s n m w
  have HA : Hid (∀ w, Calls Try.prog 16 #[.agg #[.string s, .int .i64 m], .agg #[.string s, .int .i64 m]] w fun e w' => e = .returned (.int .i64 0) ∧ Below w.heap.size w w') := Lib.hid fun w => by rw [← cmpR_self s m]; exact refcmp_any s s m m w
  have HC : Hid (∀ w, Calls Try.prog 16 #[.agg #[.string s, .int .i64 m], .agg #[.string u, .int .i64 o]] w fun e w' => e = .returned (.int .i64 v) ∧ Below w.heap.size w w') := Lib.hid fun w => by rw [← hv]; exact refcmp_any s u m o w
  have HD : Hid (∀ w, Calls Try.prog 17 #[.agg #[.string s, .int .i64 m], .agg #[.string t, .int .i64 n]] w fun e w' => e = .returned (.int .i64 x) ∧ Below w.heap.size w w') := Lib.hid fun w => by rw [← hx]; exact doccmp_any s t m n w
  clear hx hy hv
  go_enter Try.func5, Try.ntmps5
  go_wp2
  have hr : ∃ wx, ((w.alloc (.cells #[.string s, .int .i64 m] 47)).alloc (.cells #[.string t, .int .i64 n] 47)).alloc (.cells #[.string u, .int .i64 o] 47) = wx ∧ ((RowAt wx w.heap.size 47 #[.string s, .int .i64 m] ∧ RowAt wx (w.heap.size + 1) 47 #[.string t, .int .i64 n] ∧ RowAt wx (w.heap.size + 1 + 1) 47 #[.string u, .int .i64 o]) ∧ Below w.heap.size w wx) := by
    refine ⟨_, rfl, ⟨((RowAt.new _ _ _).below (below_alloc _)).below (below_alloc _), ?_, ?_⟩, below_trans (below_trans (below_alloc _) (below_alloc _)) (below_alloc _)⟩
    · have := RowAt.new (w.alloc (.cells #[.string s, .int .i64 m] 47)) 47 #[.string t, .int .i64 n]
      rw [show (w.alloc (.cells #[.string s, .int .i64 m] 47)).heap.size = w.heap.size + 1 by simp] at this
      exact this.below (below_alloc _)
    · have := RowAt.new ((w.alloc (.cells #[.string s, .int .i64 m] 47)).alloc (.cells #[.string t, .int .i64 n] 47)) 47 #[.string u, .int .i64 o]
      rw [show ((w.alloc (.cells #[.string s, .int .i64 m] 47)).alloc (.cells #[.string t, .int .i64 n] 47)).heap.size = w.heap.size + 1 + 1 by simp] at this
      exact this
  have cells : ∀ wx, ((RowAt wx w.heap.size 47 #[.string s, .int .i64 m] ∧ RowAt wx (w.heap.size + 1) 47 #[.string t, .int .i64 n] ∧ RowAt wx (w.heap.size + 1 + 1) 47 #[.string u, .int .i64 o]) ∧ Below w.heap.size w wx) → (wx.cell? ⟨w.heap.size, 0, none⟩ = some (.string s) ∧ wx.cell? ⟨w.heap.size, 1, none⟩ = some (.int .i64 m) ∧ wx.cell? ⟨w.heap.size + 1, 0, none⟩ = some (.string t) ∧ wx.cell? ⟨w.heap.size + 1, 1, none⟩ = some (.int .i64 n) ∧ wx.cell? ⟨w.heap.size + 1 + 1, 0, none⟩ = some (.string u) ∧ wx.cell? ⟨w.heap.size + 1 + 1, 1, none⟩ = some (.int .i64 o)) := fun wx ⟨⟨h1, h2, h3⟩, _⟩ => ⟨h1.cell 0, h1.cell 1, h2.cell 0, h2.cell 1, h3.cell 0, h3.cell 1⟩
  have kept : ∀ wa wx, (((RowAt wa w.heap.size 47 #[.string s, .int .i64 m] ∧ RowAt wa (w.heap.size + 1) 47 #[.string t, .int .i64 n] ∧ RowAt wa (w.heap.size + 1 + 1) 47 #[.string u, .int .i64 o]) ∧ Below w.heap.size w wa)) → Below wa.heap.size wa wx → ((RowAt wx w.heap.size 47 #[.string s, .int .i64 m] ∧ RowAt wx (w.heap.size + 1) 47 #[.string t, .int .i64 n] ∧ RowAt wx (w.heap.size + 1 + 1) 47 #[.string u, .int .i64 o]) ∧ Below w.heap.size w wx) := fun wa wx ⟨⟨h1, h2, h3⟩, h4⟩ hb => ⟨⟨h1.below hb, h2.below hb, h3.below hb⟩, below_trans h4 hb⟩
  obtain ⟨w1, hw1, hr1⟩ := hr
  rw [hw1]
  clear hw1
  have R1 := Lib.hid hr1
  have KE := Lib.hid kept
  have CE := Lib.hid cells
  have hd := fun (wx : World) (h : ∃ x : Bel w1.heap.size w1, wx = x.1) => kept w1 wx hr1 (by obtain ⟨x, rfl⟩ := h; exact x.below)
  have d0 := fun wx h => (hd wx h).1.1
  have d1 := fun wx h => (hd wx h).1.2.1
  have d2 := fun wx h => (hd wx h).1.2.2
  clear kept cells hr1 hd
  haveI := Bel.here w1.heap.size w1
  refine wp_region_below w1.heap.size w1 (by kernel_rfl) (by kernel_rfl) (Below.refl _ _) ?_
  refine quiet_loadRow rfl 47 (.tmp 3) rfl _ rfl d0 aggRef ?_
  simp only [Act.put, List.setIfInBounds_toArray, List.set_cons_succ, List.set_cons_zero]
  refine quiet_loadRow rfl 47 (.tmp 4) rfl _ rfl d1 aggRef ?_
  simp only [Act.put, List.setIfInBounds_toArray, List.set_cons_succ, List.set_cons_zero]
  go_big_quiet_step ((go_at_call 16; exact Calls.bel rfl (HX.out _)))
  refine quiet_loadRow rfl 47 (.tmp 4) rfl _ rfl d1 aggRef ?_
  simp only [Act.put, List.setIfInBounds_toArray, List.set_cons_succ, List.set_cons_zero]
  refine quiet_loadRow rfl 47 (.tmp 5) rfl _ rfl d2 aggRef ?_
  simp only [Act.put, List.setIfInBounds_toArray, List.set_cons_succ, List.set_cons_zero]
  go_big_quiet_step ((go_at_call 16; exact Calls.bel rfl (HY.out _)))
  repeat (go_big_quiet_step (fail))
  refine wpQuiet_nil ?_
  rintro w5 ⟨⟨_, hb5⟩, rfl⟩
  clear d0 d1 d2 this
  have R5 := Lib.hid (KE.out _ _ R1.out hb5)
  obtain ⟨c0, c1, c2, c3, c4, c5⟩ := CE.out _ R5.out
  clear hb5 R1
  by_cases hy : y ≤ 0
  · rcases hxr with rfl | rfl | rfl
    · have hv := htr (by decide) hy
      clear htr
      go_wp2_with fail
      refine (HD.out _).mono ?_
      rintro e w6 ⟨rfl, hb6⟩
      have R6 := Lib.hid (KE.out _ _ R5.out hb6)
      clear c0 c1 c2 c3 c4 c5 hb6
      obtain ⟨c0, c1, c2, c3, c4, c5⟩ := CE.out _ R6.out
      go_wp2_with fail
      refine (HZ.out _).mono ?_
      rintro e w7 ⟨rfl, hb7⟩
      have R7 := Lib.hid (KE.out _ _ R6.out hb7)
      clear c0 c1 c2 c3 c4 c5 hb7
      obtain ⟨c0, c1, c2, c3, c4, c5⟩ := CE.out _ R7.out
      go_wp2_with fail
      refine (HA.out _).mono ?_
      rintro e w8 ⟨rfl, hb8⟩
      have R8 := Lib.hid (KE.out _ _ R7.out hb8)
      clear c0 c1 c2 c3 c4 c5 hb8
      obtain ⟨c0, c1, c2, c3, c4, c5⟩ := CE.out _ R8.out
      go_wp2_with fail
      refine (HC.out _).mono ?_
      rintro e w9 ⟨rfl, hb9⟩
      have R9 := Lib.hid (KE.out _ _ R8.out hb9)
      clear c0 c1 c2 c3 c4 c5 hb9
      obtain ⟨c0, c1, c2, c3, c4, c5⟩ := CE.out _ R9.out
      go_wp2_with fail
      refine (known23_any _).mono ?_
      rintro e w10 ⟨rfl, hb10⟩
      have HB10 := Lib.hid (below_trans R9.out.2 hb10)
      clear c0 c1 c2 c3 c4 c5 hb10
      go_wp2
      go_ret
      refine ⟨?_, HB10.out⟩
      have hd : decide (0 < v) = false := decide_eq_false (by omega)
      show Ending.returned (.bool (!decide (0 < v))) = _
      rw [hd]
      rfl
    · have hv := htr (by decide) hy
      clear htr
      go_wp2_with fail
      refine (HD.out _).mono ?_
      rintro e w6 ⟨rfl, hb6⟩
      have R6 := Lib.hid (KE.out _ _ R5.out hb6)
      clear c0 c1 c2 c3 c4 c5 hb6
      obtain ⟨c0, c1, c2, c3, c4, c5⟩ := CE.out _ R6.out
      go_wp2_with fail
      refine (HZ.out _).mono ?_
      rintro e w7 ⟨rfl, hb7⟩
      have R7 := Lib.hid (KE.out _ _ R6.out hb7)
      clear c0 c1 c2 c3 c4 c5 hb7
      obtain ⟨c0, c1, c2, c3, c4, c5⟩ := CE.out _ R7.out
      go_wp2_with fail
      refine (HA.out _).mono ?_
      rintro e w8 ⟨rfl, hb8⟩
      have R8 := Lib.hid (KE.out _ _ R7.out hb8)
      clear c0 c1 c2 c3 c4 c5 hb8
      obtain ⟨c0, c1, c2, c3, c4, c5⟩ := CE.out _ R8.out
      go_wp2_with fail
      refine (HC.out _).mono ?_
      rintro e w9 ⟨rfl, hb9⟩
      have R9 := Lib.hid (KE.out _ _ R8.out hb9)
      clear c0 c1 c2 c3 c4 c5 hb9
      obtain ⟨c0, c1, c2, c3, c4, c5⟩ := CE.out _ R9.out
      go_wp2_with fail
      refine (known23_any _).mono ?_
      rintro e w10 ⟨rfl, hb10⟩
      have HB10 := Lib.hid (below_trans R9.out.2 hb10)
      clear c0 c1 c2 c3 c4 c5 hb10
      go_wp2
      go_ret
      refine ⟨?_, HB10.out⟩
      have hd : decide (0 < v) = false := decide_eq_false (by omega)
      show Ending.returned (.bool (!decide (0 < v))) = _
      rw [hd]
      rfl
    · clear htr
      go_wp2_with fail
      refine (HD.out _).mono ?_
      rintro e w6 ⟨rfl, hb6⟩
      have R6 := Lib.hid (KE.out _ _ R5.out hb6)
      clear c0 c1 c2 c3 c4 c5 hb6
      obtain ⟨c0, c1, c2, c3, c4, c5⟩ := CE.out _ R6.out
      go_wp2_with fail
      refine (HZ.out _).mono ?_
      rintro e w7 ⟨rfl, hb7⟩
      have R7 := Lib.hid (KE.out _ _ R6.out hb7)
      clear c0 c1 c2 c3 c4 c5 hb7
      obtain ⟨c0, c1, c2, c3, c4, c5⟩ := CE.out _ R7.out
      go_wp2_with fail
      refine (HA.out _).mono ?_
      rintro e w8 ⟨rfl, hb8⟩
      have R8 := Lib.hid (KE.out _ _ R7.out hb8)
      clear c0 c1 c2 c3 c4 c5 hb8
      obtain ⟨c0, c1, c2, c3, c4, c5⟩ := CE.out _ R8.out
      go_wp2_with fail
      refine (known23_any _).mono ?_
      rintro e w10 ⟨rfl, hb10⟩
      have HB10 := Lib.hid (below_trans R8.out.2 hb10)
      clear c0 c1 c2 c3 c4 c5 hb10
      go_wp2
      go_ret
      exact ⟨rfl, HB10.out⟩
  · clear htr
    rcases hxr with rfl | rfl | rfl
    all_goals
      go_wp2_with fail
      refine (HD.out _).mono ?_
      rintro e w6 ⟨rfl, hb6⟩
      have R6 := Lib.hid (KE.out _ _ R5.out hb6)
      clear c0 c1 c2 c3 c4 c5 hb6
      obtain ⟨c0, c1, c2, c3, c4, c5⟩ := CE.out _ R6.out
      go_wp2_with fail
      refine (HZ.out _).mono ?_
      rintro e w7 ⟨rfl, hb7⟩
      have R7 := Lib.hid (KE.out _ _ R6.out hb7)
      clear c0 c1 c2 c3 c4 c5 hb7
      obtain ⟨c0, c1, c2, c3, c4, c5⟩ := CE.out _ R7.out
      go_wp2_with fail
      refine (HA.out _).mono ?_
      rintro e w8 ⟨rfl, hb8⟩
      have R8 := Lib.hid (KE.out _ _ R7.out hb8)
      clear c0 c1 c2 c3 c4 c5 hb8
      obtain ⟨c0, c1, c2, c3, c4, c5⟩ := CE.out _ R8.out
      go_wp2_with fail
      refine (known23_any _).mono ?_
      rintro e w10 ⟨rfl, hb10⟩
      have HB10 := Lib.hid (below_trans R8.out.2 hb10)
      clear c0 c1 c2 c3 c4 c5 hb10
      go_wp2
      go_ret
      exact ⟨rfl, HB10.out⟩
end Go.Proofs.Ytloppjfdflacaaa
