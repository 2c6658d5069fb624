/- The document's Right, in, Targets; the law's same; cmp.Or of errors. -/
import Derived.Test.YtcakdjnnfonijaaRoLo
namespace Go.Proofs.Ytcakdjnnfonijaa
open Go.RowKit

theorem run_eqlRf (w : World) (a b : Rf) : (binOp .eql 25 (.agg #[.string a.1, .int .i64 a.2]) (.agg #[.string b.1, .int .i64 b.2])).run Try.prog w = .ok (.bool (decide (a = b))) w := by
  have h := keyRf.eq w a b
  have h : (Op.equal 25 (.agg #[.string a.1, .int .i64 a.2]) (.agg #[.string b.1, .int .i64 b.2])).run Try.prog w = .ok (decide (a = b)) w := h
  simp only [binOp, Sem.run_bind, h, Result.andThen_ok, Sem.run_pure]
theorem run_neqRf (w : World) (a b : Rf) : (binOp .neq 25 (.agg #[.string a.1, .int .i64 a.2]) (.agg #[.string b.1, .int .i64 b.2])).run Try.prog w = .ok (.bool (!decide (a = b))) w := by
  have h := keyRf.eq w a b
  have h : (Op.equal 25 (.agg #[.string a.1, .int .i64 a.2]) (.agg #[.string b.1, .int .i64 b.2])).run Try.prog w = .ok (decide (a = b)) w := h
  simp only [binOp, Sem.run_bind, h, Result.andThen_ok, Sem.run_pure]
set_option maxRecDepth 100000 in
theorem yieldsIf_eqlRf {ops : Array Oper} {S : World → Prop} {o : Oper} {act : Act} (hw : Region.wanted o (yielded ops act.tmps) = true) (x y : Operand) (ho : o.op = .binOp .eql 25 x y 25) (a b : Rf) (hx : act.eval x = .agg #[.string a.1, .int .i64 a.2]) (hy : act.eval y = .agg #[.string b.1, .int .i64 b.2]) (e : Bool) (he : decide (a = b) = e) : YieldsIf Try.prog ops S o (.bool e) act :=
  .inl ⟨hw, fun w _ => by
    subst he
    unfold execOp
    simp only [ho, hx, hy]
    rw [Sem.run_bind, Sem.run_bind, run_eqGuard_agg w .eql 25 x y _ _ (by kernel_rfl), Result.andThen_ok, run_eqlRf w a b]
    rfl⟩
set_option maxRecDepth 100000 in
theorem yieldsIf_neqRf {ops : Array Oper} {S : World → Prop} {o : Oper} {act : Act} (hw : Region.wanted o (yielded ops act.tmps) = true) (x y : Operand) (ho : o.op = .binOp .neq 25 x y 25) (a b : Rf) (hx : act.eval x = .agg #[.string a.1, .int .i64 a.2]) (hy : act.eval y = .agg #[.string b.1, .int .i64 b.2]) (e : Bool) (he : (!decide (a = b)) = e) : YieldsIf Try.prog ops S o (.bool e) act :=
  .inl ⟨hw, fun w _ => by
    subst he
    unfold execOp
    simp only [ho, hx, hy]
    rw [Sem.run_bind, Sem.run_bind, run_eqGuard_agg w .neq 25 x y _ _ (by kernel_rfl), Result.andThen_ok, run_neqRf w a b]
    rfl⟩
theorem RdRf.get {w : World} {a : Option Addr} {l : List Rf} (h : RdRf w a l) (k : Nat) (hk : k < l.length) : ∃ b off, a = some ⟨b, off, none⟩ ∧ ∀ W, Below w.heap.size w W → CellsAt W rfC b (off + k * 2) l[k] := by
  rcases h with e | ⟨b, off, ha, hlt, hi⟩
  · rw [e] at hk; exact absurd hk (by simp)
  · exact ⟨b, off, ha, fun W hW => (hi k hk).later hW hlt⟩
set_option maxRecDepth 100000 in
set_option maxHeartbeats 1000000 in
theorem docin_any (a : Option Addr) (n c : Nat) (l : List Rf) (v : Rf) (w : World) (hl : l.length = n) (hb : n ≤ 1000000) (hr : RdRf w a l) :
    Calls Try.prog 34 #[.slice a n c, .agg #[.string v.1, .int .i64 v.2]] w fun e w' => e = .returned (.bool (memB v l)) ∧ Below w.heap.size w w' := by
  obtain ⟨g, hg⟩ : ∃ x, w.heap.size = x := ⟨_, rfl⟩
  obtain ⟨w1, hw1⟩ : ∃ x, w.alloc (.cells #[.string v.1, .int .i64 v.2] 25) = x := ⟨_, rfl⟩
  have HB1 : Hid (Below g w w1) := by rw [← hw1, ← hg]; exact below_alloc _
  have HV : Hid (RowAt w1 g 25 #[.string v.1, .int .i64 v.2]) := by rw [← hw1, ← hg]; exact RowAt.new _ _ _
  have HL := Lib.hid hl
  have HR : Hid (RdRf w1 a l) := hr.later (by rw [hg]; exact HB1.out)
  clear hl hr
  go_enter Try.func34, Try.ntmps34
  rw [hg]
  go_wp2
  go_loopw [5] (fun i wr => ∃ k : Nat, i = .int .i64 (k : Int) ∧ k ≤ n ∧ v ∉ l.take k ∧ Below w1.heap.size w1 wr) (fun i _ => n - (intOf i).toNat)
  case atStart => exact ⟨0, rfl, Nat.zero_le _, by simp, Below.refl _ _⟩
  case round =>
    obtain ⟨k, rfl, hk, hni, hbr⟩ := hrel
    by_cases hkn : k < n
    · obtain ⟨b, off, ha, hcell⟩ := HR.out.get k (by rw [HL.out]; exact hkn)
      subst ha
      obtain ⟨t, ht⟩ : ∃ t, l[k]'(by rw [HL.out]; exact hkn) = t := ⟨_, rfl⟩
      rw [ht] at hcell
      have HT : Hid (∃ h : k < l.length, l[k] = t) := ⟨_, ht⟩
      obtain ⟨c1, c2⟩ := rf_cells (hcell wr hbr)
      obtain ⟨c3, c4⟩ := rf_cells (RowAt.rf (RowAt.below HV.out hbr))
      simp only [Nat.zero_add] at c4
      have HNI := Lib.hid hni
      have HBR := Lib.hid hbr
      have hgr : g < wr.heap.size := Nat.lt_of_lt_of_le HV.out.lt hbr.size
      obtain ⟨e, he⟩ : ∃ e, decide (t = v) = e := ⟨_, rfl⟩
      have HEE := Lib.hid he
      have hS0 : wr.drew.cell? ⟨b, off + k * 2, none⟩ = some (.string t.1) ∧ wr.drew.cell? ⟨b, off + k * 2 + 1, none⟩ = some (.int .i64 t.2) ∧ wr.drew.cell? ⟨g, 0, none⟩ = some (.string v.1) ∧ wr.drew.cell? ⟨g, 1, none⟩ = some (.int .i64 v.2) := ⟨c1, c2, c3, c4⟩
      clear hbr hni hcell ht HR c1 c2 c3 c4 he
      go_upto_region 4 with fail
      refine wp_region_held_drew (S := fun w' => w'.cell? ⟨b, off + k * 2, none⟩ = some (.string t.1) ∧ w'.cell? ⟨b, off + k * 2 + 1, none⟩ = some (.int .i64 t.2) ∧ w'.cell? ⟨g, 0, none⟩ = some (.string v.1) ∧ w'.cell? ⟨g, 1, none⟩ = some (.int .i64 v.2)) (by kernel_rfl) hS0 (fun hHeld => ?_)
      refine wpAnyH_take (i := 0) (v := ?_) rfl (by kernel_rfl) (by kernel_rfl) (by kernel_rfl) (fun _ _ _ h => h) (Or.inl ⟨by rfl, ?_⟩) hHeld ?_
      rotate_left
      · intro w' hS'
        (try dsimp only at hS')
        go_simp
        try with_reducible rfl
      try simp only [List.getElem_toArray, List.getElem_cons_zero, Act.put, List.setIfInBounds_toArray, List.set_cons_zero, List.set_cons_succ]
      refine wpAnyH_take (i := 1) (v := ?_) rfl (by kernel_rfl) (by kernel_rfl) (by kernel_rfl) (fun _ _ _ h => h) (Or.inl ⟨by rfl, ?_⟩) hHeld ?_
      rotate_left
      · intro w' hS'
        (try dsimp only at hS')
        go_simp
        try with_reducible rfl
      try simp only [List.getElem_toArray, List.getElem_cons_succ, List.getElem_cons_zero, Act.put, List.setIfInBounds_toArray, List.set_cons_zero, List.set_cons_succ]
      refine wpAnyH_take (i := 2) (v := ?_) rfl (by kernel_rfl) (by kernel_rfl) (by kernel_rfl) (fun _ _ _ h => h) (Or.inl ⟨by rfl, ?_⟩) hHeld ?_
      rotate_left
      · intro w' hS'
        (try dsimp only at hS')
        go_simp
        try with_reducible rfl
      try simp only [List.getElem_toArray, List.getElem_cons_succ, List.getElem_cons_zero, Act.put, List.setIfInBounds_toArray, List.set_cons_zero, List.set_cons_succ]
      refine wpAnyH_take (i := 3) (v := ?_) rfl (by kernel_rfl) (by kernel_rfl) (by kernel_rfl) (fun _ _ _ h => h) (Or.inl ⟨by rfl, ?_⟩) hHeld ?_
      rotate_left
      · intro w' hS'
        (try dsimp only at hS')
        go_simp
        try with_reducible rfl
      try simp only [List.getElem_toArray, List.getElem_cons_succ, List.getElem_cons_zero, Act.put, List.setIfInBounds_toArray, List.set_cons_zero, List.set_cons_succ]
      refine wpAnyH_take (i := 4) (v := ?_) rfl (by kernel_rfl) (by kernel_rfl) (by kernel_rfl) (fun _ _ _ h => h) (Or.inl ⟨by rfl, ?_⟩) hHeld ?_
      rotate_left
      · intro w' hS'
        (try dsimp only at hS')
        go_simp
        try with_reducible rfl
      try simp only [List.getElem_toArray, List.getElem_cons_succ, List.getElem_cons_zero, Act.put, List.setIfInBounds_toArray, List.set_cons_zero, List.set_cons_succ]
      refine wpAnyH_take (i := 5) (v := _) rfl (by kernel_rfl) (by kernel_rfl) (by kernel_rfl) (fun _ _ _ h => h) (yieldsIf_eqlRf (S := fun w' => w'.cell? ⟨b, off + k * 2, none⟩ = some (.string t.1) ∧ w'.cell? ⟨b, off + k * 2 + 1, none⟩ = some (.int .i64 t.2) ∧ w'.cell? ⟨g, 0, none⟩ = some (.string v.1) ∧ w'.cell? ⟨g, 1, none⟩ = some (.int .i64 v.2)) (by rfl) (.tmp 15) (.tmp 16) rfl t v rfl rfl e HEE.out) hHeld ?_
      try simp only [List.getElem_toArray, List.getElem_cons_succ, List.getElem_cons_zero, Act.put, List.setIfInBounds_toArray, List.set_cons_zero, List.set_cons_succ]
      refine wpAnyH_done (by kernel_rfl) ?_ _
      have HBD := Lib.hid (drewN_below HBR.out 1)
      cases e with
      | true =>
        have HR : Hid (memB v l = true) := Lib.hid (memB_iff.2 (by obtain ⟨h, e⟩ := HT.out; have := of_decide_eq_true HEE.out; rw [← this, ← e]; exact List.getElem_mem h))
        go_wp2
        go_ret
        exact ⟨by rw [HR.out]; rfl, HB1.out.trans (HBD.out.mono (by rw [← hw1]; simp [← hg]))⟩
      | false =>
        have HN : Hid (v ∉ l.take (k + 1)) := Lib.hid fun hm => by
          obtain ⟨h, e⟩ := HT.out
          rw [← List.take_append_getElem h, List.mem_append, List.mem_singleton] at hm
          rcases hm with hm | hm
          · exact HNI.out hm
          · exact of_decide_eq_false HEE.out (by rw [← e, hm])
        go_wp2
        exact ⟨⟨k + 1, by go_num, hkn, HN.out, HBD.out⟩, by show n - ((k : Int) + 1).toNat < n - (k : Int).toNat; omega⟩
    · have hkn' : k = n := by omega
      subst hkn'
      have HR : Hid (memB v l = false) := Lib.hid (memB_not.2 (by rw [← HL.out, List.take_length] at hni; exact hni))
      have HB := Lib.hid hbr
      clear hbr hni
      go_wp2
      go_ret
      exact ⟨by rw [HR.out]; rfl, HB1.out.trans (HB.out.mono (by rw [← hw1]; simp [← hg]))⟩
set_option maxRecDepth 100000 in
set_option maxHeartbeats 1000000 in
theorem docright_any (x : Rf) (w : World) : Calls Try.prog 33 #[.agg #[.string x.1, .int .i64 x.2]] w fun e w' => e = .returned (.bool (rightR x)) ∧ Below w.heap.size w w' := by
  obtain ⟨s, z⟩ := x
  obtain ⟨n, hn⟩ : ∃ n, s.size = n := ⟨_, rfl⟩
  have hr : rightR (s, z) = (decide (1 ≤ n) && (decide (n ≤ 128) && (decide (1 ≤ z) && decide (z ≤ 2147483647)))) := by unfold rightR; rw [hn]
  rw [hr]
  clear hr
  dsimp only
  have hb : Below w.heap.size w (w.alloc (.cells #[.string s, .int .i64 z] 25)) := below_alloc _
  have HB := Lib.hid hb
  clear hb
  go_enter Try.func33, Try.ntmps33
  by_cases h1 : 1 ≤ n
  · by_cases h2 : n ≤ 128
    · by_cases h3 : 1 ≤ z
      · by_cases h4 : z ≤ 2147483647
        · have e : (decide (1 ≤ n) && (decide (n ≤ 128) && (decide (1 ≤ z) && decide (z ≤ 2147483647)))) = true := by simp [h1, h2, h3, h4]
          rw [e]
          go_wp2
          go_ret
          exact ⟨rfl, HB.out⟩
        · have e : (decide (1 ≤ n) && (decide (n ≤ 128) && (decide (1 ≤ z) && decide (z ≤ 2147483647)))) = false := by simp [h4]
          rw [e]
          go_wp2
          go_ret
          exact ⟨rfl, HB.out⟩
      · have e : (decide (1 ≤ n) && (decide (n ≤ 128) && (decide (1 ≤ z) && decide (z ≤ 2147483647)))) = false := by simp [h3]
        rw [e]
        go_wp2
        go_ret
        exact ⟨rfl, HB.out⟩
    · have e : (decide (1 ≤ n) && (decide (n ≤ 128) && (decide (1 ≤ z) && decide (z ≤ 2147483647)))) = false := by simp [h2]
      rw [e]
      go_wp2
      go_ret
      exact ⟨rfl, HB.out⟩
  · have e : (decide (1 ≤ n) && (decide (n ≤ 128) && (decide (1 ≤ z) && decide (z ≤ 2147483647)))) = false := by simp [h1]
    rw [e]
    go_wp2
    go_ret
    exact ⟨rfl, HB.out⟩
set_option maxRecDepth 100000 in
set_option maxHeartbeats 1000000 in
theorem lsame_any (a a2 : Option Addr) (n n2 c c2 : Nat) (l l2 : List Rf) (w : World) (hl : l.length = n) (hl2 : l2.length = n2) (hb : n ≤ 1000000) (hb2 : n2 ≤ 1000000) (hr : RdRf w a l) (hr2 : RdRf w a2 l2) :
    Calls Try.prog 8 #[.slice a n c, .slice a2 n2 c2] w fun e w' => e = .returned (.bool (decide (l = l2))) ∧ Below w.heap.size w w' := by
  have HL := Lib.hid hl
  have HL2 := Lib.hid hl2
  have HR := Lib.hid hr
  have HR2 := Lib.hid hr2
  clear hl hl2 hr hr2
  obtain ⟨g, hg⟩ : ∃ x, w.heap.size = x := ⟨_, rfl⟩
  have H0 : Hid (Below g w w) := by rw [← hg]; exact Below.refl _ _
  go_enter Try.func8, Try.ntmps8
  rw [hg]
  by_cases hnn : n = n2
  · subst hnn
    go_wp2
    go_loopw [5] (fun i wr => ∃ k : Nat, i = .int .i64 (k : Int) ∧ k ≤ n ∧ l.take k = l2.take k ∧ Below w.heap.size w wr) (fun i _ => n - (intOf i).toNat)
    case atStart => exact ⟨0, rfl, Nat.zero_le _, by simp, Below.refl _ _⟩
    case round =>
      obtain ⟨k, rfl, hk, hni, hbr⟩ := hrel
      by_cases hkn : k < n
      · obtain ⟨b, off, ha, hcell⟩ := HR.out.get k (by rw [HL.out]; exact hkn)
        obtain ⟨b2, off2, ha2, hcell2⟩ := HR2.out.get k (by rw [HL2.out]; exact hkn)
        subst ha ha2
        obtain ⟨t, ht⟩ : ∃ t, l[k]'(by rw [HL.out]; exact hkn) = t := ⟨_, rfl⟩
        obtain ⟨u, hu⟩ : ∃ t, l2[k]'(by rw [HL2.out]; exact hkn) = t := ⟨_, rfl⟩
        rw [ht] at hcell
        rw [hu] at hcell2
        have HT : Hid (∃ h : k < l.length, l[k] = t) := ⟨_, ht⟩
        have HU : Hid (∃ h : k < l2.length, l2[k] = u) := ⟨_, hu⟩
        obtain ⟨c1, c2⟩ := rf_cells (hcell wr hbr)
        obtain ⟨c3, c4⟩ := rf_cells (hcell2 wr hbr)
        have HNI := Lib.hid hni
        have HBR := Lib.hid (drewN_below hbr 1)
        obtain ⟨e, he⟩ : ∃ e, (!decide (t = u)) = e := ⟨_, rfl⟩
        have HEE := Lib.hid he
        have hS0 : wr.drew.cell? ⟨b, off + k * 2, none⟩ = some (.string t.1) ∧ wr.drew.cell? ⟨b, off + k * 2 + 1, none⟩ = some (.int .i64 t.2) ∧ wr.drew.cell? ⟨b2, off2 + k * 2, none⟩ = some (.string u.1) ∧ wr.drew.cell? ⟨b2, off2 + k * 2 + 1, none⟩ = some (.int .i64 u.2) := ⟨c1, c2, c3, c4⟩
        clear hbr hni hcell hcell2 ht hu HR HR2 c1 c2 c3 c4 he
        go_upto_region 6 with fail
        refine wp_region_held_drew (S := fun w' => w'.cell? ⟨b, off + k * 2, none⟩ = some (.string t.1) ∧ w'.cell? ⟨b, off + k * 2 + 1, none⟩ = some (.int .i64 t.2) ∧ w'.cell? ⟨b2, off2 + k * 2, none⟩ = some (.string u.1) ∧ w'.cell? ⟨b2, off2 + k * 2 + 1, none⟩ = some (.int .i64 u.2)) (by kernel_rfl) hS0 (fun hHeld => ?_)
        refine wpAnyH_take (i := 0) (v := ?_) rfl (by kernel_rfl) (by kernel_rfl) (by kernel_rfl) (fun _ _ _ h => h) (Or.inl ⟨by rfl, ?_⟩) hHeld ?_
        rotate_left
        · intro w' hS'
          (try dsimp only at hS')
          go_simp
          try with_reducible rfl
        try simp only [List.getElem_toArray, List.getElem_cons_zero, Act.put, List.setIfInBounds_toArray, List.set_cons_zero, List.set_cons_succ]
        refine wpAnyH_take (i := 1) (v := ?_) rfl (by kernel_rfl) (by kernel_rfl) (by kernel_rfl) (fun _ _ _ h => h) (Or.inl ⟨by rfl, ?_⟩) hHeld ?_
        rotate_left
        · intro w' hS'
          (try dsimp only at hS')
          go_simp
          try with_reducible rfl
        try simp only [List.getElem_toArray, List.getElem_cons_succ, List.getElem_cons_zero, Act.put, List.setIfInBounds_toArray, List.set_cons_zero, List.set_cons_succ]
        refine wpAnyH_take (i := 2) (v := ?_) rfl (by kernel_rfl) (by kernel_rfl) (by kernel_rfl) (fun _ _ _ h => h) (Or.inl ⟨by rfl, ?_⟩) hHeld ?_
        rotate_left
        · intro w' hS'
          (try dsimp only at hS')
          go_simp
          try with_reducible rfl
        try simp only [List.getElem_toArray, List.getElem_cons_succ, List.getElem_cons_zero, Act.put, List.setIfInBounds_toArray, List.set_cons_zero, List.set_cons_succ]
        refine wpAnyH_take (i := 3) (v := ?_) rfl (by kernel_rfl) (by kernel_rfl) (by kernel_rfl) (fun _ _ _ h => h) (Or.inl ⟨by rfl, ?_⟩) hHeld ?_
        rotate_left
        · intro w' hS'
          (try dsimp only at hS')
          go_simp
          try with_reducible rfl
        try simp only [List.getElem_toArray, List.getElem_cons_succ, List.getElem_cons_zero, Act.put, List.setIfInBounds_toArray, List.set_cons_zero, List.set_cons_succ]
        refine wpAnyH_take (i := 4) (v := ?_) rfl (by kernel_rfl) (by kernel_rfl) (by kernel_rfl) (fun _ _ _ h => h) (Or.inl ⟨by rfl, ?_⟩) hHeld ?_
        rotate_left
        · intro w' hS'
          (try dsimp only at hS')
          go_simp
          try with_reducible rfl
        try simp only [List.getElem_toArray, List.getElem_cons_succ, List.getElem_cons_zero, Act.put, List.setIfInBounds_toArray, List.set_cons_zero, List.set_cons_succ]
        refine wpAnyH_take (i := 5) (v := ?_) rfl (by kernel_rfl) (by kernel_rfl) (by kernel_rfl) (fun _ _ _ h => h) (Or.inl ⟨by rfl, ?_⟩) hHeld ?_
        rotate_left
        · intro w' hS'
          (try dsimp only at hS')
          go_simp
          try with_reducible rfl
        try simp only [List.getElem_toArray, List.getElem_cons_succ, List.getElem_cons_zero, Act.put, List.setIfInBounds_toArray, List.set_cons_zero, List.set_cons_succ]
        refine wpAnyH_take (i := 6) (v := ?_) rfl (by kernel_rfl) (by kernel_rfl) (by kernel_rfl) (fun _ _ _ h => h) (Or.inl ⟨by rfl, ?_⟩) hHeld ?_
        rotate_left
        · intro w' hS'
          (try dsimp only at hS')
          go_simp
          try with_reducible rfl
        try simp only [List.getElem_toArray, List.getElem_cons_succ, List.getElem_cons_zero, Act.put, List.setIfInBounds_toArray, List.set_cons_zero, List.set_cons_succ]
        refine wpAnyH_take (i := 7) (v := ?_) rfl (by kernel_rfl) (by kernel_rfl) (by kernel_rfl) (fun _ _ _ h => h) (Or.inl ⟨by rfl, ?_⟩) hHeld ?_
        rotate_left
        · intro w' hS'
          (try dsimp only at hS')
          go_simp
          try with_reducible rfl
        try simp only [List.getElem_toArray, List.getElem_cons_succ, List.getElem_cons_zero, Act.put, List.setIfInBounds_toArray, List.set_cons_zero, List.set_cons_succ]
        refine wpAnyH_take (i := 8) (v := _) rfl (by kernel_rfl) (by kernel_rfl) (by kernel_rfl) (fun _ _ _ h => h) (yieldsIf_neqRf (S := fun w' => w'.cell? ⟨b, off + k * 2, none⟩ = some (.string t.1) ∧ w'.cell? ⟨b, off + k * 2 + 1, none⟩ = some (.int .i64 t.2) ∧ w'.cell? ⟨b2, off2 + k * 2, none⟩ = some (.string u.1) ∧ w'.cell? ⟨b2, off2 + k * 2 + 1, none⟩ = some (.int .i64 u.2)) (by rfl) (.tmp 20) (.tmp 24) rfl t u rfl rfl e HEE.out) hHeld ?_
        try simp only [List.getElem_toArray, List.getElem_cons_succ, List.getElem_cons_zero, Act.put, List.setIfInBounds_toArray, List.set_cons_zero, List.set_cons_succ]
        refine wpAnyH_done (by kernel_rfl) ?_ _
        cases e with
        | true =>
          have HD : Hid (decide (l = l2) = false) := Lib.hid (decide_eq_false fun el => by
            subst el
            obtain ⟨h, e1⟩ := HT.out
            obtain ⟨h2, e2⟩ := HU.out
            have h3 : decide (t = u) = false := by simpa using HEE.out
            exact of_decide_eq_false h3 (e1.symm.trans e2))
          go_wp2
          go_ret
          exact ⟨by rw [HD.out]; rfl, by rw [← hg]; exact HBR.out⟩
        | false =>
          have HN : Hid (l.take (k + 1) = l2.take (k + 1)) := by
            obtain ⟨h, e1⟩ := HT.out
            obtain ⟨h2, e2⟩ := HU.out
            have h3 : decide (t = u) = true := by simpa using HEE.out
            have h4 : l.take (k + 1) = l2.take (k + 1) := by
              rw [← List.take_append_getElem h, ← List.take_append_getElem h2, HNI.out, e1, e2, of_decide_eq_true h3]
            exact h4
          go_wp2
          exact ⟨⟨k + 1, by go_num, hkn, HN.out, HBR.out⟩, by show n - ((k : Int) + 1).toNat < n - (k : Int).toNat; omega⟩
      · have hkn' : k = n := by omega
        subst hkn'
        have HD : Hid (decide (l = l2) = true) := Lib.hid (decide_eq_true (by
          have h1 := hni
          rw [← HL.out, List.take_length, HL.out, ← HL2.out, List.take_length] at h1
          exact h1))
        have HB := Lib.hid hbr
        clear hbr hni
        go_wp2
        go_ret
        exact ⟨by rw [HD.out]; rfl, by rw [← hg]; exact HB.out⟩
  · have HD : Hid (decide (l = l2) = false) := Lib.hid (decide_eq_false fun el => hnn (by rw [← HL.out, ← HL2.out, el]))
    go_wp2
    go_ret
    exact ⟨by rw [HD.out]; rfl, H0.out⟩
set_option maxRecDepth 100000 in
set_option maxHeartbeats 2000000 in
theorem doctgt_any (a : Option Addr) (n c : Nat) (l : List Rf) (w : World) (hl : l.length = n) (hb : n ≤ 1000000) (hr : RdRf w a l) :
    Calls Try.prog 32 #[.slice a n c] w fun e w' => e = .returned (.int .i64 (tgt l)) ∧ Below w.heap.size w w' := by
  have HL := Lib.hid hl
  have HR := Lib.hid hr
  clear hl hr
  obtain ⟨g, hg⟩ : ∃ x, w.heap.size = x := ⟨_, rfl⟩
  go_enter Try.func32, Try.ntmps32
  rw [hg]
  go_wp2
  go_loopw [3] (fun i wr => ∃ k : Nat, i = .int .i64 (k : Int) ∧ k ≤ n ∧ goodT l k ∧ Below w.heap.size w wr) (fun i _ => n - (intOf i).toNat)
  case atStart => exact ⟨0, rfl, Nat.zero_le _, goodT_zero l, Below.refl _ _⟩
  case round =>
    obtain ⟨k, rfl, hk, hgt, hbr⟩ := hrel
    have HGT := Lib.hid hgt
    have HBR := Lib.hid hbr
    by_cases hkn : k < n
    · obtain ⟨b, off, ha, hcell⟩ := HR.out.get k (by rw [HL.out]; exact hkn)
      have HALL : Hid (∀ j (h : j < l.length), ∀ W, Below w.heap.size w W → CellsAt W rfC b (off + j * 2) l[j]) := fun j h W hW => by
        obtain ⟨b', off', ha', hc'⟩ := HR.out.get j h
        rw [ha] at ha'
        cases ha'
        exact hc' W hW
      subst ha
      obtain ⟨t, ht⟩ : ∃ t, l[k]'(by rw [HL.out]; exact hkn) = t := ⟨_, rfl⟩
      rw [ht] at hcell
      have HT : Hid (∃ h : k < l.length, l[k] = t) := ⟨_, ht⟩
      have HCELL := Lib.hid hcell
      have HRG := Lib.hid (docright_any t wr)
      obtain ⟨rr, hrr⟩ : ∃ b, rightR t = b := ⟨_, rfl⟩
      have HRR := Lib.hid hrr
      rw [hrr] at HRG
      clear hbr hgt hcell ht hrr HR
      cases rr with
      | false =>
        have HE : Hid (tgt l = 2) := by
          obtain ⟨h, e⟩ := HT.out
          exact tgt_bad h (.inl (by rw [e]; exact HRR.out))
        go_wp2_with (first
          | (refine step_loadRf rfl (.tmp 13) rfl (HCELL.out _ HBR.out) rfl ?_)
          | (go_at_call 33; refine HRG.out.mono ?_; rintro e w10 ⟨rfl, hb10⟩))
        go_ret
        exact ⟨by rw [HE.out]; rfl, by rw [← hg]; exact below_trans HBR.out hb10⟩
      | true =>
        go_wp2_with (first
          | (refine step_loadRf rfl (.tmp 13) rfl (HCELL.out _ HBR.out) rfl ?_)
          | (go_at_call 33; refine HRG.out.mono ?_; rintro e w10 ⟨rfl, hb10⟩))
        have hb11 := below_trans HBR.out hb10
        clear hb10
        go_loopw [4] (fun i wr => ∃ j : Nat, i = .int .i64 (j : Int) ∧ j ≤ k ∧ t ∉ l.take j ∧ Below w.heap.size w wr) (fun i _ => k - (intOf i).toNat)
        case atStart => exact ⟨0, rfl, Nat.zero_le _, by simp, hb11⟩
        case round =>
          obtain ⟨j, rfl, hj, hni, hbj⟩ := hrel
          by_cases hjk : j < k
          · have hjn2 : j < n := by omega
            obtain ⟨u, hu⟩ : ∃ t, l[j]'(by rw [HL.out]; omega) = t := ⟨_, rfl⟩
            have HU : Hid (∃ h : j < l.length, l[j] = u) := ⟨_, hu⟩
            have hcu := HALL.out j (by rw [HL.out]; omega) _ hbj
            rw [hu] at hcu
            obtain ⟨c1, c2⟩ := rf_cells hcu
            obtain ⟨c3, c4⟩ := rf_cells (HCELL.out _ hbj)
            have HNI := Lib.hid hni
            rename World => wj
            have HBJ := Lib.hid (drewN_below hbj 1)
            obtain ⟨e, he⟩ : ∃ e, decide (u = t) = e := ⟨_, rfl⟩
            have HEE := Lib.hid he
            have hS0 : wj.drew.cell? ⟨b, off + j * 2, none⟩ = some (.string u.1) ∧ wj.drew.cell? ⟨b, off + j * 2 + 1, none⟩ = some (.int .i64 u.2) ∧ wj.drew.cell? ⟨b, off + k * 2, none⟩ = some (.string t.1) ∧ wj.drew.cell? ⟨b, off + k * 2 + 1, none⟩ = some (.int .i64 t.2) := ⟨c1, c2, c3, c4⟩
            clear hbj hni hcu hu hb11 c1 c2 c3 c4 he
            go_upto_region 9 with fail
            refine wp_region_held_drew (S := fun w' => w'.cell? ⟨b, off + j * 2, none⟩ = some (.string u.1) ∧ w'.cell? ⟨b, off + j * 2 + 1, none⟩ = some (.int .i64 u.2) ∧ w'.cell? ⟨b, off + k * 2, none⟩ = some (.string t.1) ∧ w'.cell? ⟨b, off + k * 2 + 1, none⟩ = some (.int .i64 t.2)) (by kernel_rfl) hS0 (fun hHeld => ?_)
            refine wpAnyH_take (i := 0) (v := ?_) rfl (by kernel_rfl) (by kernel_rfl) (by kernel_rfl) (fun _ _ _ h => h) (Or.inl ⟨by rfl, ?_⟩) hHeld ?_
            rotate_left
            · intro w' hS'
              (try dsimp only at hS')
              go_simp
              try with_reducible rfl
            try simp only [List.getElem_toArray, List.getElem_cons_zero, Act.put, List.setIfInBounds_toArray, List.set_cons_zero, List.set_cons_succ]
            refine wpAnyH_take (i := 1) (v := ?_) rfl (by kernel_rfl) (by kernel_rfl) (by kernel_rfl) (fun _ _ _ h => h) (Or.inl ⟨by rfl, ?_⟩) hHeld ?_
            rotate_left
            · intro w' hS'
              (try dsimp only at hS')
              go_simp
              try with_reducible rfl
            try simp only [List.getElem_toArray, List.getElem_cons_succ, List.getElem_cons_zero, Act.put, List.setIfInBounds_toArray, List.set_cons_zero, List.set_cons_succ]
            refine wpAnyH_take (i := 2) (v := ?_) rfl (by kernel_rfl) (by kernel_rfl) (by kernel_rfl) (fun _ _ _ h => h) (Or.inl ⟨by rfl, ?_⟩) hHeld ?_
            rotate_left
            · intro w' hS'
              (try dsimp only at hS')
              go_simp
              try with_reducible rfl
            try simp only [List.getElem_toArray, List.getElem_cons_succ, List.getElem_cons_zero, Act.put, List.setIfInBounds_toArray, List.set_cons_zero, List.set_cons_succ]
            refine wpAnyH_take (i := 3) (v := ?_) rfl (by kernel_rfl) (by kernel_rfl) (by kernel_rfl) (fun _ _ _ h => h) (Or.inl ⟨by rfl, ?_⟩) hHeld ?_
            rotate_left
            · intro w' hS'
              (try dsimp only at hS')
              go_simp
              try with_reducible rfl
            try simp only [List.getElem_toArray, List.getElem_cons_succ, List.getElem_cons_zero, Act.put, List.setIfInBounds_toArray, List.set_cons_zero, List.set_cons_succ]
            refine wpAnyH_take (i := 4) (v := ?_) rfl (by kernel_rfl) (by kernel_rfl) (by kernel_rfl) (fun _ _ _ h => h) (Or.inl ⟨by rfl, ?_⟩) hHeld ?_
            rotate_left
            · intro w' hS'
              (try dsimp only at hS')
              go_simp
              try with_reducible rfl
            try simp only [List.getElem_toArray, List.getElem_cons_succ, List.getElem_cons_zero, Act.put, List.setIfInBounds_toArray, List.set_cons_zero, List.set_cons_succ]
            refine wpAnyH_take (i := 5) (v := ?_) rfl (by kernel_rfl) (by kernel_rfl) (by kernel_rfl) (fun _ _ _ h => h) (Or.inl ⟨by rfl, ?_⟩) hHeld ?_
            rotate_left
            · intro w' hS'
              (try dsimp only at hS')
              go_simp
              try with_reducible rfl
            try simp only [List.getElem_toArray, List.getElem_cons_succ, List.getElem_cons_zero, Act.put, List.setIfInBounds_toArray, List.set_cons_zero, List.set_cons_succ]
            refine wpAnyH_take (i := 6) (v := ?_) rfl (by kernel_rfl) (by kernel_rfl) (by kernel_rfl) (fun _ _ _ h => h) (Or.inl ⟨by rfl, ?_⟩) hHeld ?_
            rotate_left
            · intro w' hS'
              (try dsimp only at hS')
              go_simp
              try with_reducible rfl
            try simp only [List.getElem_toArray, List.getElem_cons_succ, List.getElem_cons_zero, Act.put, List.setIfInBounds_toArray, List.set_cons_zero, List.set_cons_succ]
            refine wpAnyH_take (i := 7) (v := ?_) rfl (by kernel_rfl) (by kernel_rfl) (by kernel_rfl) (fun _ _ _ h => h) (Or.inl ⟨by rfl, ?_⟩) hHeld ?_
            rotate_left
            · intro w' hS'
              (try dsimp only at hS')
              go_simp
              try with_reducible rfl
            try simp only [List.getElem_toArray, List.getElem_cons_succ, List.getElem_cons_zero, Act.put, List.setIfInBounds_toArray, List.set_cons_zero, List.set_cons_succ]
            refine wpAnyH_take (i := 8) (v := _) rfl (by kernel_rfl) (by kernel_rfl) (by kernel_rfl) (fun _ _ _ h => h) (yieldsIf_eqlRf (S := fun w' => w'.cell? ⟨b, off + j * 2, none⟩ = some (.string u.1) ∧ w'.cell? ⟨b, off + j * 2 + 1, none⟩ = some (.int .i64 u.2) ∧ w'.cell? ⟨b, off + k * 2, none⟩ = some (.string t.1) ∧ w'.cell? ⟨b, off + k * 2 + 1, none⟩ = some (.int .i64 t.2)) (by rfl) (.tmp 25) (.tmp 29) rfl u t rfl rfl e HEE.out) hHeld ?_
            try simp only [List.getElem_toArray, List.getElem_cons_succ, List.getElem_cons_zero, Act.put, List.setIfInBounds_toArray, List.set_cons_zero, List.set_cons_succ]
            refine wpAnyH_done (by kernel_rfl) ?_ _
            cases e with
            | true =>
              have HE : Hid (tgt l = 2) := by
                obtain ⟨h, e⟩ := HT.out
                obtain ⟨h2, e2⟩ := HU.out
                refine tgt_bad h (.inr ?_)
                rw [e, ← of_decide_eq_true HEE.out, ← e2]
                exact List.mem_iff_getElem.2 ⟨j, by rw [List.length_take]; omega, by rw [List.getElem_take]⟩
              go_wp2
              go_ret
              exact ⟨by rw [HE.out]; rfl, by rw [← hg]; exact HBJ.out⟩
            | false =>
              have HN : Hid (t ∉ l.take (j + 1)) := Lib.hid fun hm => by
                obtain ⟨h, e⟩ := HU.out
                rw [← List.take_append_getElem h, List.mem_append, List.mem_singleton] at hm
                rcases hm with hm | hm
                · exact HNI.out hm
                · exact of_decide_eq_false HEE.out (by rw [← e, hm])
              go_wp2
              exact ⟨⟨j + 1, by go_num, hjk, HN.out, HBJ.out⟩, by show k - ((j : Int) + 1).toNat < k - (j : Int).toNat; omega⟩
          · have hjk' : j = k := by omega
            subst hjk'
            have HN : Hid (goodT l (j + 1)) := by
              obtain ⟨h, e⟩ := HT.out
              exact goodT_succ h HGT.out (by rw [e]; exact HRR.out) (by rw [e]; exact hni)
            have HB := Lib.hid hbj
            clear hbj hni hb11
            go_wp2
            exact ⟨⟨j + 1, by go_num, hkn, HN.out, HB.out⟩, by show n - ((j : Int) + 1).toNat < n - (j : Int).toNat; omega⟩
    · have hkn' : k = n := by omega
      subst hkn'
      have HE : Hid (tgt l = if 64 < l.length then 3 else 0) := tgt_good (by rw [HL.out]; exact hgt)
      clear hbr hgt HR
      by_cases h64 : 64 < k
      · have HE2 : Hid (tgt l = 3) := Lib.hid (by rw [HE.out, HL.out, if_pos h64])
        go_wp2
        go_ret
        exact ⟨by rw [HE2.out]; rfl, by rw [← hg]; exact HBR.out⟩
      · have HE2 : Hid (tgt l = 0) := Lib.hid (by rw [HE.out, HL.out, if_neg h64])
        go_wp2
        go_ret
        exact ⟨by rw [HE2.out]; rfl, by rw [← hg]; exact HBR.out⟩
end Go.Proofs.Ytcakdjnnfonijaa
