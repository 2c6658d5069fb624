/- The document's graph: how it lies; Find, asked, Asked. -/
import Derived.Test.YtcakdjnnfonijaaRgRem
import Derived.Test.YtcakdjnnfonijaaRoDocO
namespace Go.Proofs.Ytcakdjnnfonijaa
open Go.RowKit

/-- A graph of the document: its box lies at rb; its rows lie in U, and nobody writes them. -/
structure DocM (w : World) (U : Nat → Prop) (rb : Nat) (vv : Value) (ls : List Lk) (D : List (Rf × List Rf)) : Prop where
  box : RowAt w rb 42 #[vv]
  own : OwnLk w vv ls
  pl : plainL ls = D
  tos : ∀ x ∈ ls, OwnRf w (lkS x) x.ts ∧ ∀ p, (lkS x).ownBlock = some p → U p
  vU : ∀ p, vv.ownBlock = some p → U p
def DocS (w : World) (U : Nat → Prop) (rb : Nat) (D : List (Rf × List Rf)) : Prop := ∃ vv ls, DocM w U rb vv ls D
section
variable {w w' : World} {U : Nat → Prop} {rb : Nat} {vv : Value} {ls : List Lk} {D : List (Rf × List Rf)}
theorem DocM.keep {X : Nat → Prop} (h : DocM w U rb vv ls D) (hk : KeepA X w w') (hX : ∀ k, U k → ¬ X k) (hr : ¬ X rb) : DocM w' U rb vv ls D :=
  ⟨row_keep hk h.box hr, h.own.keep hk fun p hp => hX p (h.vU p hp), h.pl, fun x hx => ⟨(h.tos x hx).1.keep hk fun p hp => hX p ((h.tos x hx).2 p hp), (h.tos x hx).2⟩, h.vU⟩
theorem DocM.later (h : DocM w U rb vv ls D) (hb : Below w.heap.size w w') : DocM w' U rb vv ls D := h.keep (KeepA.of_below (X := fun _ => False) hb) (fun _ _ h => h) (fun h => h)
theorem DocS.keep {X : Nat → Prop} (h : DocS w U rb D) (hk : KeepA X w w') (hX : ∀ k, U k → ¬ X k) (hr : ¬ X rb) : DocS w' U rb D := by
  obtain ⟨vv, ls, h⟩ := h
  exact ⟨vv, ls, h.keep hk hX hr⟩
theorem DocS.later (h : DocS w U rb D) (hb : Below w.heap.size w w') : DocS w' U rb D := by
  obtain ⟨vv, ls, h⟩ := h
  exact ⟨vv, ls, h.later hb⟩
theorem DocS.wider {U' : Nat → Prop} (h : DocS w U rb D) (hU : ∀ k, U k → U' k) : DocS w U' rb D := by
  obtain ⟨vv, ls, h⟩ := h
  exact ⟨vv, ls, h.box, h.own, h.pl, fun x hx => ⟨(h.tos x hx).1, fun p hp => hU p ((h.tos x hx).2 p hp)⟩, fun p hp => hU p (h.vU p hp)⟩
theorem DocM.view (h : DocM w U rb vv ls D) : ∃ a c b off, vv = .slice a D.length c ∧ (0 < D.length → a = some ⟨b, off, none⟩ ∧ b < w.heap.size) ∧ ∀ k (hk : k < D.length), ∃ ta tc, ∀ W, Below w.heap.size w W → LkR W b (off + k * 3) D[k] ta tc := by
  obtain ⟨-, hown, hpl, htos, -⟩ := h
  subst hpl
  obtain ⟨a, c, hv, hr⟩ := hown.rd
  have hl : (plainL ls).length = ls.length := by simp [plainL]
  rcases hr with e | ⟨b, off, ha, hb, hi⟩
  · subst e
    exact ⟨a, c, 0, 0, hv, fun h => absurd h (by simp [plainL]), fun k hk => absurd hk (by simp [plainL])⟩
  · refine ⟨a, c, b, off, by rw [hl]; exact hv, fun _ => ⟨ha, hb⟩, fun k hk => ?_⟩
    have hk' : k < ls.length := by omega
    refine ⟨ls[k].ta, ls[k].tc, fun W hW => ?_⟩
    have hc := (hi k hk').later hW hb
    obtain ⟨a2, c2, e2, -, -, hrd⟩ := (htos ls[k] (List.getElem_mem hk')).1.rd
    unfold lkS at e2
    simp only [Value.slice.injEq] at e2
    obtain ⟨rfl, -, rfl⟩ := e2
    have e : (plainL ls)[k] = (ls[k].fr, ls[k].ts) := by simp [plainL]
    rw [e]
    refine ⟨fun j u hu => hc j u ?_, hc 2 _ rfl, hrd.later hW⟩
    match j, hu with
    | 0, hu => exact hu
    | 1, hu => exact hu
end
/-- The place of a version; -1: it is not there. -/
def findR (D : List (Rf × List Rf)) (v : Rf) : Int := if D.findIdx (fun x => decide (x.1 = v)) < D.length then ((D.findIdx (fun x => decide (x.1 = v)) : Nat) : Int) else -1
theorem findR_at {D : List (Rf × List Rf)} {v : Rf} {i : Nat} (hi : i < D.length) (h : D[i].1 = v) (hb : ∀ k (hk : k < D.length), k < i → D[k].1 ≠ v) : findR D v = (i : Int) := by
  have e : D.findIdx (fun x => decide (x.1 = v)) = i := by
    rw [List.findIdx_eq hi]
    exact ⟨by simp [h], fun j hj => by simpa using hb j (by omega) hj⟩
  unfold findR
  rw [e, if_pos hi]
theorem findR_none {D : List (Rf × List Rf)} {v : Rf} (hb : ∀ k (hk : k < D.length), D[k].1 ≠ v) : findR D v = -1 := by
  have e : D.findIdx (fun x => decide (x.1 = v)) = D.length := by
    rw [List.findIdx_eq_length]
    intro x hx
    obtain ⟨k, hk, rfl⟩ := List.mem_iff_getElem.1 hx
    simpa using hb k hk
  unfold findR
  rw [e, if_neg (by omega)]
theorem findR_in (D : List (Rf × List Rf)) (v : Rf) : (findR D v = -1 ∧ memB v (D.map (·.1)) = false) ∨ ∃ (i : Nat) (h : i < D.length), findR D v = (i : Int) ∧ D[i].1 = v ∧ memB v (D.map (·.1)) = true := by
  by_cases h : D.findIdx (fun x => decide (x.1 = v)) < D.length
  · have e : D[D.findIdx (fun x => decide (x.1 = v))].1 = v := by simpa using List.findIdx_getElem (w := h)
    exact .inr ⟨_, h, by unfold findR; rw [if_pos h], e, memB_iff.2 (by rw [← e]; exact List.mem_map_of_mem (List.getElem_mem h))⟩
  · refine .inl ⟨by unfold findR; rw [if_neg h], memB_not.2 fun hm => ?_⟩
    obtain ⟨x, hx, e⟩ := List.mem_map.1 hm
    exact h (List.findIdx_lt_length_of_exists ⟨x, hx, by simpa using e⟩)
set_option maxRecDepth 100000 in
set_option maxHeartbeats 2000000 in
theorem docfind_any (w : World) (U : Nat → Prop) (rb : Nat) (D : List (Rf × List Rf)) (h : DocS w U rb D) (hd : D.length ≤ 1000) (v : Rf) :
    Calls Try.prog 12 #[.pointer (some ⟨rb, 0, none⟩), .agg #[.string v.1, .int .i64 v.2]] w fun e w' => e = .returned (.int .i64 (findR D v)) ∧ Below w.heap.size w w' := by
  obtain ⟨px, hpx⟩ : ∃ y, w.heap.size = y := ⟨_, rfl⟩
  obtain ⟨w1, hw1⟩ : ∃ y, w.alloc (.cells #[.string v.1, .int .i64 v.2] 25) = y := ⟨_, rfl⟩
  have hb1 : Below w.heap.size w w1 := by rw [← hw1]; exact below_alloc _
  have HP1 : Hid (RowAt w1 px 25 #[.string v.1, .int .i64 v.2]) := by rw [← hw1, ← hpx]; exact RowAt.new _ _ _
  have HB1 := Lib.hid hb1
  obtain ⟨vv, ls, hm⟩ := h.later hb1
  obtain ⟨a, c, b, off, hvv, ha, hrows⟩ := hm.view
  have hbox := hm.box
  rw [hvv] at hbox
  obtain ⟨n, hn⟩ : ∃ y, D.length = y := ⟨_, rfl⟩
  have HN := Lib.hid hn
  rw [hn] at hbox hd ha
  have HBOX := Lib.hid hbox
  have HA := Lib.hid ha
  have HROWS := Lib.hid hrows
  obtain ⟨K, hK⟩ : ∃ K, (fun (e : Ending) (w' : World) => e = .returned (.int .i64 (findR D v)) ∧ Below w.heap.size w w') = K := ⟨_, rfl⟩
  rw [hK]
  have HK : Hid (∀ z W, findR D v = z → Below w1.heap.size w1 W → K (.returned (.int .i64 z)) W) := Lib.hid fun z W hz hW => by
    rw [← hK]
    exact ⟨by rw [hz], below_trans HB1.out hW⟩
  clear h hb1 hm hvv hbox ha hrows hK hn
  go_enter Try.func12, Try.ntmps12
  go_wp2
  go_loopw [5] (fun i wr => ∃ k : Nat, i = .int .i64 (k : Int) ∧ k ≤ n ∧ (∀ j (hj : j < D.length), j < k → D[j].1 ≠ v) ∧ Below w1.heap.size w1 wr) (fun i _ => n - (intOf i).toNat)
  case atStart => exact ⟨0, rfl, Nat.zero_le _, fun j hj h => absurd h (Nat.not_lt_zero _), Below.refl _ _⟩
  case round =>
    obtain ⟨k, rfl, hk, hni, hbr⟩ := hrel
    have HNI := Lib.hid hni
    have HBR := Lib.hid hbr
    have HC0 : Hid (wr.cell? ⟨rb, 0, none⟩ = some (.slice a n c)) := (RowAt.below HBOX.out hbr).cell 0
    clear hni hbr
    by_cases hkn : k < n
    · obtain ⟨ha, hbs⟩ := HA.out (by omega)
      subst ha
      obtain ⟨ta, tc, hrow⟩ := HROWS.out k (by rw [HN.out]; exact hkn)
      obtain ⟨x, hx⟩ : ∃ x, D[k]'(by rw [HN.out]; exact hkn) = x := ⟨_, rfl⟩
      rw [hx] at hrow
      have HX : Hid (∃ h : k < D.length, D[k] = x) := ⟨_, hx⟩
      have HROW := Lib.hid hrow
      obtain ⟨t, ht⟩ : ∃ t, x.1 = t := ⟨_, rfl⟩
      have HT := Lib.hid ht
      obtain ⟨e, he⟩ : ∃ e, decide (t = v) = e := ⟨_, rfl⟩
      have HEE := Lib.hid he
      have hS0 : wr.drew.cell? ⟨rb, 0, none⟩ = some (.slice (some ⟨b, off, none⟩) n c) ∧ wr.drew.cell? ⟨b, off + k * 3, none⟩ = some (.string t.1) ∧ wr.drew.cell? ⟨b, off + k * 3 + 1, none⟩ = some (.int .i64 t.2) ∧ wr.drew.cell? ⟨px, 0, none⟩ = some (.string v.1) ∧ wr.drew.cell? ⟨px, 1, none⟩ = some (.int .i64 v.2) := by
        have hW := HBR.out
        obtain ⟨c1, -, -⟩ := HROW.out wr hW
        rw [ht] at c1
        obtain ⟨c1, c2⟩ := rf_cells c1
        have r2 := RowAt.below HP1.out hW
        exact ⟨HC0.out, c1, c2, r2.cell 0, r2.cell 1⟩
      have hc0 := HC0.out
      clear hrow hx ht he
      go_upto_region 4 with fail
      clear hc0
      refine wp_region_held_drew (S := fun W => W.cell? ⟨rb, 0, none⟩ = some (.slice (some ⟨b, off, none⟩) n c) ∧ W.cell? ⟨b, off + k * 3, none⟩ = some (.string t.1) ∧ W.cell? ⟨b, off + k * 3 + 1, none⟩ = some (.int .i64 t.2) ∧ W.cell? ⟨px, 0, none⟩ = some (.string v.1) ∧ W.cell? ⟨px, 1, none⟩ = some (.int .i64 v.2)) (by kernel_rfl) hS0 (fun hHeld => ?_)
      refine wpAnyH_take (i := 0) (v := ?_) rfl (by kernel_rfl) (by kernel_rfl) (by kernel_rfl) (fun _ _ _ h => h) (Or.inl ⟨by rfl, ?_⟩) hHeld ?_
      rotate_left
      · intro w' hS'
        (try dsimp only at hS')
        go_simp
        try with_reducible rfl
      try simp only [List.getElem_toArray, List.getElem_cons_zero, Act.put, List.setIfInBounds_toArray, List.set_cons_zero, List.set_cons_succ]
      refine wpAnyH_take (i := 1) (v := ?_) rfl (by kernel_rfl) (by kernel_rfl) (by kernel_rfl) (fun _ _ _ h => h) (Or.inl ⟨by rfl, ?_⟩) hHeld ?_
      rotate_left
      · intro w' hS'
        (try dsimp only at hS')
        go_simp
        try with_reducible rfl
      try simp only [List.getElem_toArray, List.getElem_cons_succ, List.getElem_cons_zero, Act.put, List.setIfInBounds_toArray, List.set_cons_zero, List.set_cons_succ]
      refine wpAnyH_take (i := 2) (v := ?_) rfl (by kernel_rfl) (by kernel_rfl) (by kernel_rfl) (fun _ _ _ h => h) (Or.inl ⟨by rfl, ?_⟩) hHeld ?_
      rotate_left
      · intro w' hS'
        (try dsimp only at hS')
        go_simp
        try with_reducible rfl
      try simp only [List.getElem_toArray, List.getElem_cons_succ, List.getElem_cons_zero, Act.put, List.setIfInBounds_toArray, List.set_cons_zero, List.set_cons_succ]
      refine wpAnyH_take (i := 3) (v := ?_) rfl (by kernel_rfl) (by kernel_rfl) (by kernel_rfl) (fun _ _ _ h => h) (Or.inl ⟨by rfl, ?_⟩) hHeld ?_
      rotate_left
      · intro w' hS'
        (try dsimp only at hS')
        go_simp
        try with_reducible rfl
      try simp only [List.getElem_toArray, List.getElem_cons_succ, List.getElem_cons_zero, Act.put, List.setIfInBounds_toArray, List.set_cons_zero, List.set_cons_succ]
      refine wpAnyH_take (i := 4) (v := ?_) rfl (by kernel_rfl) (by kernel_rfl) (by kernel_rfl) (fun _ _ _ h => h) (Or.inl ⟨by rfl, ?_⟩) hHeld ?_
      rotate_left
      · intro w' hS'
        (try dsimp only at hS')
        go_simp
        try with_reducible rfl
      try simp only [List.getElem_toArray, List.getElem_cons_succ, List.getElem_cons_zero, Act.put, List.setIfInBounds_toArray, List.set_cons_zero, List.set_cons_succ]
      refine wpAnyH_take (i := 5) (v := ?_) rfl (by kernel_rfl) (by kernel_rfl) (by kernel_rfl) (fun _ _ _ h => h) (Or.inl ⟨by rfl, ?_⟩) hHeld ?_
      rotate_left
      · intro w' hS'
        (try dsimp only at hS')
        go_simp
        try with_reducible rfl
      try simp only [List.getElem_toArray, List.getElem_cons_succ, List.getElem_cons_zero, Act.put, List.setIfInBounds_toArray, List.set_cons_zero, List.set_cons_succ]
      refine wpAnyH_take (i := 6) (v := ?_) rfl (by kernel_rfl) (by kernel_rfl) (by kernel_rfl) (fun _ _ _ h => h) (Or.inl ⟨by rfl, ?_⟩) hHeld ?_
      rotate_left
      · intro w' hS'
        (try dsimp only at hS')
        go_simp
        try with_reducible rfl
      try simp only [List.getElem_toArray, List.getElem_cons_succ, List.getElem_cons_zero, Act.put, List.setIfInBounds_toArray, List.set_cons_zero, List.set_cons_succ]
      refine wpAnyH_take (i := 7) (v := ?_) rfl (by kernel_rfl) (by kernel_rfl) (by kernel_rfl) (fun _ _ _ h => h) (Or.inl ⟨by rfl, ?_⟩) hHeld ?_
      rotate_left
      · intro w' hS'
        (try dsimp only at hS')
        go_simp
        try with_reducible rfl
      try simp only [List.getElem_toArray, List.getElem_cons_succ, List.getElem_cons_zero, Act.put, List.setIfInBounds_toArray, List.set_cons_zero, List.set_cons_succ]
      refine wpAnyH_take (i := 8) (v := ?_) rfl (by kernel_rfl) (by kernel_rfl) (by kernel_rfl) (fun _ _ _ h => h) (Or.inl ⟨by rfl, ?_⟩) hHeld ?_
      rotate_left
      · intro w' hS'
        (try dsimp only at hS')
        go_simp
        try with_reducible rfl
      try simp only [List.getElem_toArray, List.getElem_cons_succ, List.getElem_cons_zero, Act.put, List.setIfInBounds_toArray, List.set_cons_zero, List.set_cons_succ]
      refine wpAnyH_take (i := 9) (v := _) rfl (by kernel_rfl) (by kernel_rfl) (by kernel_rfl) (fun _ _ _ h => h) (yieldsIf_eqlRf (S := fun W => W.cell? ⟨rb, 0, none⟩ = some (.slice (some ⟨b, off, none⟩) n c) ∧ W.cell? ⟨b, off + k * 3, none⟩ = some (.string t.1) ∧ W.cell? ⟨b, off + k * 3 + 1, none⟩ = some (.int .i64 t.2) ∧ W.cell? ⟨px, 0, none⟩ = some (.string v.1) ∧ W.cell? ⟨px, 1, none⟩ = some (.int .i64 v.2)) (by rfl) (.tmp 22) (.tmp 23) rfl t v rfl rfl e HEE.out) hHeld ?_
      try simp only [List.getElem_toArray, List.getElem_cons_succ, List.getElem_cons_zero, Act.put, List.setIfInBounds_toArray, List.set_cons_zero, List.set_cons_succ]
      refine wpAnyH_done (by kernel_rfl) ?_ _
      have HBD := Lib.hid (drewN_below HBR.out 1)
      cases e with
      | true =>
        have HF : Hid (findR D v = (k : Int)) := by
          obtain ⟨h, e⟩ := HX.out
          exact findR_at h (by rw [e, HT.out]; exact of_decide_eq_true HEE.out) HNI.out
        go_wp2
        exact HK.out _ _ HF.out HBD.out
      | false =>
        have HNN : Hid (∀ j (hj : j < D.length), j < k + 1 → D[j].1 ≠ v) := Lib.hid fun j hj hjk => by
          obtain ⟨h, e⟩ := HX.out
          by_cases hjk2 : j < k
          · exact HNI.out j hj hjk2
          · have : j = k := by omega
            subst this
            rw [e, HT.out]
            exact of_decide_eq_false HEE.out
        go_wp2
        exact ⟨⟨k + 1, by go_num, hkn, HNN.out, HBD.out⟩, by show n - ((k : Int) + 1).toNat < n - (k : Int).toNat; omega⟩
    · have hkn' : k = n := by omega
      subst hkn'
      have HF : Hid (findR D v = -1) := findR_none fun j hj => HNI.out j hj (by rw [← HN.out]; exact hj)
      have hc0 := HC0.out
      go_wp2
      exact HK.out _ _ HF.out HBR.out
set_option maxRecDepth 100000 in
set_option maxHeartbeats 1000000 in
theorem docasked_any (w : World) (U : Nat → Prop) (rb : Nat) (D : List (Rf × List Rf)) (h : DocS w U rb D) (hd : D.length ≤ 1000) (v : Rf) :
    Calls Try.prog 36 #[.pointer (some ⟨rb, 0, none⟩), .agg #[.string v.1, .int .i64 v.2]] w fun e w' => e = .returned (.int .i64 (askR D v)) ∧ Below w.heap.size w w' := by
  obtain ⟨px, hpx⟩ : ∃ y, w.heap.size = y := ⟨_, rfl⟩
  obtain ⟨w1, hw1⟩ : ∃ y, w.alloc (.cells #[.string v.1, .int .i64 v.2] 25) = y := ⟨_, rfl⟩
  have hb1 : Below w.heap.size w w1 := by rw [← hw1]; exact below_alloc _
  have HP1 : Hid (RowAt w1 px 25 #[.string v.1, .int .i64 v.2]) := by rw [← hw1, ← hpx]; exact RowAt.new _ _ _
  have HC1 : Hid (CellsAt w1 rfC px 0 v) := RowAt.rf HP1.out
  have HB1 := Lib.hid hb1
  obtain ⟨rr, hrr⟩ : ∃ b, rightR v = b := ⟨_, rfl⟩
  have HRR := Lib.hid hrr
  have HR : Hid (Calls Try.prog 33 #[.agg #[.string v.1, .int .i64 v.2]] w1 fun e w' => e = .returned (.bool rr) ∧ Below w1.heap.size w1 w') := by rw [← hrr]; exact docright_any v w1
  obtain ⟨i, hi⟩ : ∃ i, findR D v = i := ⟨_, rfl⟩
  have HFI := Lib.hid hi
  have HF : Hid (∀ W, Below w1.heap.size w1 W → Calls Try.prog 12 #[.pointer (some ⟨rb, 0, none⟩), .agg #[.string v.1, .int .i64 v.2]] W fun e w' => e = .returned (.int .i64 i) ∧ Below W.heap.size W w') := Lib.hid fun W hW => by
    rw [← hi]
    exact docfind_any W U rb D (h.later (below_trans hb1 hW)) hd v
  obtain ⟨K, hK⟩ : ∃ K, (fun (e : Ending) (w' : World) => e = .returned (.int .i64 (askR D v)) ∧ Below w.heap.size w w') = K := ⟨_, rfl⟩
  rw [hK]
  have HK : Hid (∀ z W, askR D v = z → Below w1.heap.size w1 W → K (.returned (.int .i64 z)) W) := Lib.hid fun z W hz hW => by
    rw [← hK]
    exact ⟨by rw [hz], below_trans HB1.out hW⟩
  clear h hb1 hK hrr hi
  go_enter Try.func36, Try.ntmps36
  cases rr with
  | false =>
    have HZ : Hid (askR D v = 2) := by
      show askR D v = 2
      unfold askR
      rw [if_neg (by rw [HRR.out]; simp)]
    go_wp2_with (first
      | (refine step_loadRf rfl (.tmp 3) rfl HC1.out rfl ?_)
      | (go_at_call 33; refine HR.out.mono ?_; rintro _ w2 ⟨rfl, hb2⟩; have HB2 := Lib.hid hb2; clear hb2))
    exact HK.out _ _ HZ.out HB2.out
  | true =>
    go_upto_region 3 with (first
      | (refine step_loadRf rfl (.tmp 3) rfl HC1.out rfl ?_)
      | (go_at_call 33; refine HR.out.mono ?_; rintro _ w2 ⟨rfl, hb2⟩; have HB2 := Lib.hid hb2; clear hb2))
    have HC2 : Hid (CellsAt w2 rfC px 0 v) := HC1.out.later HB2.out HP1.out.lt
    by_cases hi0 : i < 0
    · have HZ : Hid (askR D v = 7) := by
        show askR D v = 7
        unfold askR
        rcases findR_in D v with ⟨-, e⟩ | ⟨j, hj, e, -⟩
        · rw [if_pos HRR.out, if_neg (by rw [e]; simp)]
        · rw [HFI.out] at e; omega
      go_wp2_with (first
        | (refine step_loadRf rfl (.tmp 3) rfl HC2.out rfl ?_)
        | (go_at_call 12; refine (HF.out w2 HB2.out).mono ?_; rintro _ w3 ⟨rfl, hb3⟩; have HB3 := Lib.hid hb3; clear hb3))
      exact HK.out _ _ HZ.out (below_trans HB2.out HB3.out)
    · have HZ : Hid (askR D v = 0) := by
        show askR D v = 0
        unfold askR
        rcases findR_in D v with ⟨e, -⟩ | ⟨j, hj, -, -, e⟩
        · rw [HFI.out] at e; omega
        · rw [if_pos HRR.out, if_pos e]
      go_wp2_with (first
        | (refine step_loadRf rfl (.tmp 3) rfl HC2.out rfl ?_)
        | (go_at_call 12; refine (HF.out w2 HB2.out).mono ?_; rintro _ w3 ⟨rfl, hb3⟩; have HB3 := Lib.hid hb3; clear hb3))
      exact HK.out _ _ HZ.out (below_trans HB2.out HB3.out)
set_option maxRecDepth 100000 in
set_option maxHeartbeats 1000000 in
theorem docAsked_any (w : World) (U : Nat → Prop) (rb : Nat) (D : List (Rf × List Rf)) (h : DocS w U rb D) (hd : D.length ≤ 1000) (v : Rf) :
    Calls Try.prog 11 #[.pointer (some ⟨rb, 0, none⟩), .agg #[.string v.1, .int .i64 v.2]] w fun e w' => e = .returned (.int .i64 (askR D v)) ∧ Below w.heap.size w w' := by
  obtain ⟨px, hpx⟩ : ∃ y, w.heap.size = y := ⟨_, rfl⟩
  obtain ⟨w1, hw1⟩ : ∃ y, w.alloc (.cells #[.string v.1, .int .i64 v.2] 25) = y := ⟨_, rfl⟩
  have hb1 : Below w.heap.size w w1 := by rw [← hw1]; exact below_alloc _
  have HP1 : Hid (RowAt w1 px 25 #[.string v.1, .int .i64 v.2]) := by rw [← hw1, ← hpx]; exact RowAt.new _ _ _
  have HC1 : Hid (CellsAt w1 rfC px 0 v) := RowAt.rf HP1.out
  have HB1 := Lib.hid hb1
  obtain ⟨z, hz⟩ : ∃ z, askR D v = z := ⟨_, rfl⟩
  have HAK : Hid (Calls Try.prog 36 #[.pointer (some ⟨rb, 0, none⟩), .agg #[.string v.1, .int .i64 v.2]] w1 fun e w' => e = .returned (.int .i64 z) ∧ Below w1.heap.size w1 w') := by rw [← hz]; exact docasked_any w1 U rb D (h.later hb1) hd v
  rw [hz]
  clear h hb1 hz
  go_enter Try.func11, Try.ntmps11
  go_wp2_with (first
    | (refine step_loadRf rfl (.tmp 3) rfl HC1.out rfl ?_)
    | (go_at_call 36; refine HAK.out.mono ?_; rintro _ w2 ⟨rfl, hb2⟩; have HB2 := Lib.hid hb2; clear hb2))
  go_ret
  exact ⟨rfl, below_trans HB1.out HB2.out⟩
end Go.Proofs.Ytcakdjnnfonijaa
