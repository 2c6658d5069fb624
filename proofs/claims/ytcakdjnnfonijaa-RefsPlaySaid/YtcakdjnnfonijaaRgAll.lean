/- All of the program's graph: the row of its links. -/
import Derived.Test.YtcakdjnnfonijaaRgCloB
namespace Go.Proofs.Ytcakdjnnfonijaa
open Go.RowKit

set_option maxRecDepth 100000 in
/-- All versions, in order. -/
theorem allkeys_any (w : World) (T : Nat → Prop) (gb m1 m2 : Nat) (fT fF : Rf → Option Value) (D : List (Rf × List Rf)) (h : GrM w T gb m1 m2 fT fF D) (ha : AscR (D.map (·.1))) (hd : D.length ≤ 1000) (B : Nat) (hB : w.cell? ⟨B, 0, none⟩ = some (.map (some m1))) :
    Calls Try.prog 40 #[.func (.func 63) #[] #[.pointer (some ⟨B, 0, none⟩)], .func (.func 42) #[] #[]] w fun e w' => ∃ v, e = .returned v ∧ OwnRf w' v (D.map (·.1)) ∧ (∀ g, v.ownBlock = some g → w.heap.size ≤ g) ∧ Below w.heap.size w w' := by
  have eg := enters_of Try.func63 (by kernel_rfl) rfl
  have hlen : (D.map (·.1)).length ≤ 1000 := by rw [List.length_map]; exact hd
  have hkeys : ∀ k, (fT k).isSome = true ↔ k ∈ D.map (·.1) := fun k => by rw [h.has k]; exact memB_iff
  have hN : ∀ xs, KeysOf fT xs → xs.length ≤ 1000 := fun xs hxs => Nat.le_trans (nodup_len xs (D.map (·.1)) hxs.1 fun k hk => (hkeys k).1 (hxs.2 k hk)) hlen
  refine (sortedfunc_any _ _ eg (fun xs => KeysOf fT xs ∧ ∀ k v, fT k = some v → k ∈ xs) 1000 (by omega) (fun xs e => hN xs e.1) w (keys2_stops w B m1 1000 fT hB h.mt hN)).mono ?_
  rintro e w' ⟨v, xs, rfl, ⟨g1, g2⟩, h1, h2, h3⟩
  rw [sortRs_eq ha g1.1 fun k => ⟨fun hk => (hkeys k).1 (g1.2 k hk), fun hk => by
    obtain ⟨z, hz⟩ := Option.isSome_iff_exists.1 ((hkeys k).2 hk)
    exact g2 k z hz⟩] at h1
  exact ⟨v, rfl, h1, h2, h3⟩
theorem keep_low {w w3 W : World} {lb : Nat} (h : Below w.heap.size w w3) (k : KeepA (fun k => k = lb) w3 W) (hl : w.heap.size ≤ lb) : KeepA (fun _ => False) w W :=
  keep_into (KeepA.of_below h) k fun g e => .inr (by rw [e]; exact hl)
theorem yieldsIf_lookupR {ops : Array Oper} {S : World → Prop} {o : Oper} {act : Act} (hw : Region.wanted o (yielded ops act.tmps) = true) (x y : Operand) (ho : o.op = .lookup 54 x y false) {m : Nat} {f : Rf → Option Value} (hS : ∀ w, S w → MapR w m rfV f) (k : Rf) (hx : act.eval x = .map (some m)) (hy : act.eval y = rfV k) (v : Value) (hv : (f k).getD (.slice none 0 0) = v) : YieldsIf Try.prog ops S o v act :=
  Or.inl ⟨hw, fun w hw => by
    unfold execOp
    simp only [ho, hx, hy]
    rw [Sem.run_bind, run_lookup_map keyRf Try.underlying54 (hS w hw) k (.slice none 0 0) (znil _) false]
    subst hv
    rfl⟩
/-- The row so far. -/
structure AlAt (w0 w : World) (lb : Nat) (vv : Value) (ls : List Lk) (D : List (Rf × List Rf)) (j : Nat) : Prop where
  keep : KeepA (fun k => k = lb) w0 w
  box : RowAt w lb 22 #[vv]
  own : OwnLk w vv ls
  pl : plainL ls = D.take j
  low : ∀ g, vv.ownBlock = some g → w0.heap.size ≤ g
set_option maxRecDepth 100000 in
set_option maxHeartbeats 4000000 in
theorem gall_any (w : World) (TT : Nat → Prop) (gb : Nat) (D : List (Rf × List Rf)) (h : GrS w TT gb D) (ha : AscR (D.map (·.1))) (hlk : Lks D) (hd : D.length ≤ 1000) :
    Calls Try.prog 46 #[.pointer (some ⟨gb, 0, none⟩)] w fun e w' => ∃ vv ls, e = .returned (.func (.func 57) #[] #[.pointer (some ⟨w.heap.size, 0, none⟩)]) ∧ RowAt w' w.heap.size 22 #[vv] ∧ OwnLk w' vv ls ∧ plainL ls = D ∧ Below w.heap.size w w' := by
  obtain ⟨lb, hlb⟩ : ∃ y, w.heap.size = y := ⟨_, rfl⟩
  obtain ⟨w1, hw1⟩ : ∃ y, w.alloc (.cells #[.slice none 0 0] 22) = y := ⟨_, rfl⟩
  have hb1 : Below w.heap.size w w1 := by rw [← hw1]; exact below_alloc _
  have HL1 : Hid (RowAt w1 lb 22 #[.slice none 0 0]) := by rw [← hw1, ← hlb]; exact RowAt.new _ _ _
  have HB1 := Lib.hid hb1
  obtain ⟨m1, m2, fT, fF, hg⟩ := h
  have HG := Lib.hid hg
  have HG1 := Lib.hid (hg.later hb1)
  have HAS := Lib.hid ha
  have HLK := Lib.hid hlk
  obtain ⟨n, hn⟩ : ∃ y, D.length = y := ⟨_, rfl⟩
  have HN := Lib.hid hn
  have hn1000 : n ≤ 1000 := by rw [← hn]; exact hd
  have hc1 : w1.cell? ⟨gb, 0, none⟩ = some (.map (some m1)) := HG1.out.cells.1
  have HNO : Hid (Calls Try.prog 37 #[.pointer (some ⟨gb, 0, none⟩)] w1 fun e w' => e = .returned (.bool false) ∧ w1 = w') := gnone_any w1 gb m1 hc1
  have HK2 := Lib.hid (mkeys2_any m1 w1)
  obtain ⟨bk, hbk⟩ : ∃ y, w1.heap.size = y := ⟨_, rfl⟩
  obtain ⟨w2, hw2⟩ : ∃ y, w1.alloc (.cells #[.map (some m1)] 54) = y := ⟨_, rfl⟩
  have hb2 : Below w1.heap.size w1 w2 := by rw [← hw2]; exact below_alloc _
  have HB2 := Lib.hid (below_trans hb1 hb2)
  have hk2 : w2.cell? ⟨bk, 0, none⟩ = some (.map (some m1)) := by
    have : RowAt w2 bk 54 #[.map (some m1)] := by rw [← hw2, ← hbk]; exact RowAt.new _ _ _
    exact this.cell 0
  have HAK := Lib.hid (allkeys_any w2 TT gb m1 m2 fT fF D (hg.later HB2.out) ha hd bk hk2)
  have HL2 : Hid (RowAt w2 lb 22 #[.slice none 0 0]) := RowAt.below HL1.out hb2
  rw [hbk, hw2] at HK2
  obtain ⟨K, hK⟩ : ∃ K, (fun (e : Ending) (w' : World) => ∃ vv ls, e = .returned (.func (.func 57) #[] #[.pointer (some ⟨w.heap.size, 0, none⟩)]) ∧ RowAt w' w.heap.size 22 #[vv] ∧ OwnLk w' vv ls ∧ plainL ls = D ∧ Below w.heap.size w w') = K := ⟨_, rfl⟩
  rw [hK]
  have HK : Hid (∀ vv ls W, RowAt W lb 22 #[vv] → OwnLk W vv ls → plainL ls = D → Below w.heap.size w W → K (.returned (.func (.func 57) #[] #[.pointer (some ⟨lb, 0, none⟩)])) W) := Lib.hid fun vv ls W h1 h2 h3 h4 => by
    rw [← hK]
    exact ⟨vv, ls, by rw [hlb], by rw [hlb]; exact h1, h2, h3, h4⟩
  clear hg ha hlk hd hn hb1 hb2 hk2 hK
  go_enter Try.func46, Try.ntmps46
  go_upto_block 0 with (first
    | (go_at_call 37; refine HNO.out.mono ?_; rintro _ _ ⟨rfl, rfl⟩)
    | (go_at_call 56; refine HK2.out.mono ?_; rintro _ _ ⟨rfl, rfl⟩)
    | (go_at_call 40; refine HAK.out.mono ?_; rintro _ w3 ⟨kv, rfl, ho3, hlow3, hb3⟩; obtain ⟨ka, kc, hkv, -, -, -⟩ := ho3.rd; rw [List.length_map, HN.out] at hkv; subst hkv; have HO3 := Lib.hid ho3; have HW3 := Lib.hid hlow3; have HB3 := Lib.hid hb3; clear ho3 hlow3 hb3))
  have HB03 := Lib.hid (below_trans HB2.out HB3.out)
  have HG3 := Lib.hid (HG.out.later HB03.out)
  have HLB3 : Hid (RowAt w3 lb 22 #[.slice none 0 0]) := RowAt.below HL2.out HB3.out
  have HGL : Hid (¬ gb = lb) := Lib.hid fun e => by have := HG.out.box.lt; omega
  have HKL : Hid (∀ W, KeepA (fun k => k = lb) w3 W → OwnRf W (.slice ka n kc) (D.map (·.1)) ∧ GrM W TT gb m1 m2 fT fF D) := Lib.hid fun W hW => by
    have h1 := HL2.out.lt
    refine ⟨HO3.out.keep hW fun g e e2 => by have := HW3.out g e; omega, ?_⟩
    exact HG.out.keep (keep_low HB03.out hW (by omega)) (fun _ _ h => h)
  go_wp2
  go_loopw [16] (fun kv wr => ∃ (j : Nat) (vv : Value) (ls : List Lk), kv = .int .i64 (j : Int) ∧ j ≤ n ∧ AlAt w3 wr lb vv ls D j) (fun kv _ => n - (intOf kv).toNat)
  case atStart => exact ⟨0, .slice none 0 0, [], rfl, Nat.zero_le _, ⟨KeepA.of_below (Below.refl _ _), HLB3.out, OwnLk.nil _, by rw [List.take_zero]; rfl, fun g e => by simp [Value.ownBlock] at e⟩⟩
  case round =>
    obtain ⟨j, vv, ls, rfl, hj, hat⟩ := hrel
    have HAT := Lib.hid hat
    clear hat
    by_cases hjn : j < n
    · as_aux_lemma =>
      obtain ⟨hok, hgk⟩ := HKL.out wr HAT.out.keep
      obtain ⟨ka', kc', hke, -, -, hrd⟩ := hok.rd
      simp only [Value.slice.injEq] at hke
      obtain ⟨rfl, -, -⟩ := hke
      have hjD : j < D.length := by rw [HN.out]; exact hjn
      obtain ⟨kb, koff, hka, hcell⟩ := hrd.get j (by rw [List.length_map]; exact hjD)
      subst hka
      obtain ⟨y, hy⟩ : ∃ y, D[j] = y := ⟨_, rfl⟩
      obtain ⟨t, ht⟩ : ∃ t, y.1 = t := ⟨_, rfl⟩
      have hcell2 : CellsAt wr rfC kb (koff + j * 2) t := by
        have := hcell wr (Below.refl _ _)
        rw [List.getElem_map, hy, ht] at this
        exact this
      have HCT := Lib.hid hcell2
      have hyD : y ∈ D := by rw [← hy]; exact List.getElem_mem hjD
      obtain ⟨bt, hbt⟩ : ∃ z, wr.heap.size = z := ⟨_, rfl⟩
      obtain ⟨wa, hwa⟩ : ∃ z, wr.alloc (.cells #[.string t.1, .int .i64 t.2] 25) = z := ⟨_, rfl⟩
      have hba : Below wr.heap.size wr wa := by rw [← hwa]; exact below_alloc _
      have HBA := Lib.hid hba
      have HBT : Hid (RowAt wa bt 25 #[.string t.1, .int .i64 t.2]) := by rw [← hwa, ← hbt]; exact RowAt.new _ _ _
      cases hf : fT t with
      | none => exact absurd (by rw [← ht]; exact List.mem_map_of_mem hyD) (hgk.toN t hf)
      | some s =>
        obtain ⟨y2, hy2, hy2v, hown2, -⟩ := hgk.toS t s hf
        have hyy : y2 = y := HLK.out.inj hy2 hyD (hy2v.trans ht.symm)
        subst hyy
        obtain ⟨ta, tc, rfl, -, -, -⟩ := hown2.rd
        have HFV : Hid ((fT t).getD (.slice none 0 0) = .slice ta y2.2.length tc) := by rw [hf]; rfl
        have HS6 : Hid (∀ W, Below wa.heap.size wa W → MapR W m1 rfV fT ∧ W.cell? ⟨gb, 0, none⟩ = some (.map (some m1)) ∧ W.cell? ⟨bt, 0, none⟩ = some (.string t.1) ∧ W.cell? ⟨bt, 1, none⟩ = some (.int .i64 t.2)) := Lib.hid fun W hW => by
          have r2 := (hgk.later (below_trans hba hW)).cells.1
          have r3 := RowAt.below HBT.out hW
          exact ⟨(hgk.later (below_trans hba hW)).mt, r2, r3.cell 0, r3.cell 1⟩
        have HY : Hid (∃ h : j < D.length, D[j] = (t, y2.2)) := ⟨hjD, by rw [hy, ← ht]⟩
        have HSZ : Hid (ls.length ≤ 1000000) := by
          have h1 : (plainL ls).length = ls.length := by simp [plainL]
          have h2 : (D.take j).length ≤ D.length := by rw [List.length_take]; omega
          show _ ≤ _
          rw [← h1, HAT.out.pl]
          have := HN.out
          omega
        have hlc : wa.drew.cell? ⟨lb, 0, none⟩ = some vv := (RowAt.below HAT.out.box hba).cell 0
        obtain ⟨va, vn, vc, hvv⟩ : ∃ a n c, vv = .slice a n c := by
          obtain ⟨a, c, e, -⟩ := HAT.out.own.rd
          exact ⟨a, _, c, e⟩
        clear hok hgk hrd hcell hcell2 hy hba hf hy2 hy2v hown2 hyD
        go_upto_region 6 with (refine step_loadRf rfl (.tmp 18) rfl HCT.out rfl ?_)
        refine wp_region_held_drew (S := fun W => MapR W m1 rfV fT ∧ W.cell? ⟨gb, 0, none⟩ = some (.map (some m1)) ∧ W.cell? ⟨bt, 0, none⟩ = some (.string t.1) ∧ W.cell? ⟨bt, 1, none⟩ = some (.int .i64 t.2)) (by kernel_rfl) (HS6.out wa.drew (drewN_below (Below.refl _ wa) 1)) (fun hHeld => ?_)
        refine wpAnyH_take (i := 1) (v := ?_) rfl (by kernel_rfl) (by kernel_rfl) (by kernel_rfl) (fun _ _ _ h => h) (Or.inl ⟨by rfl, ?_⟩) hHeld ?_
        rotate_left
        · intro w' hS'
          (try dsimp only at hS')
          go_simp
          try with_reducible rfl
        try simp only [List.getElem_toArray, List.getElem_cons_succ, List.getElem_cons_zero, Act.put, List.setIfInBounds_toArray, List.set_cons_zero, List.set_cons_succ]
        refine wpAnyH_take (i := 2) (v := ?_) rfl (by kernel_rfl) (by kernel_rfl) (by kernel_rfl) (fun _ _ _ h => h) (Or.inl ⟨by rfl, ?_⟩) hHeld ?_
        rotate_left
        · intro w' hS'
          (try dsimp only at hS')
          go_simp
          try with_reducible rfl
        try simp only [List.getElem_toArray, List.getElem_cons_succ, List.getElem_cons_zero, Act.put, List.setIfInBounds_toArray, List.set_cons_zero, List.set_cons_succ]
        refine wpAnyH_take (i := 3) (v := ?_) rfl (by kernel_rfl) (by kernel_rfl) (by kernel_rfl) (fun _ _ _ h => h) (Or.inl ⟨by rfl, ?_⟩) hHeld ?_
        rotate_left
        · intro w' hS'
          (try dsimp only at hS')
          go_simp
          try with_reducible rfl
        try simp only [List.getElem_toArray, List.getElem_cons_succ, List.getElem_cons_zero, Act.put, List.setIfInBounds_toArray, List.set_cons_zero, List.set_cons_succ]
        refine wpAnyH_take (i := 4) (v := ?_) rfl (by kernel_rfl) (by kernel_rfl) (by kernel_rfl) (fun _ _ _ h => h) (Or.inl ⟨by rfl, ?_⟩) hHeld ?_
        rotate_left
        · intro w' hS'
          (try dsimp only at hS')
          go_simp
          try with_reducible rfl
        try simp only [List.getElem_toArray, List.getElem_cons_succ, List.getElem_cons_zero, Act.put, List.setIfInBounds_toArray, List.set_cons_zero, List.set_cons_succ]
        refine wpAnyH_take (i := 5) (v := ?_) rfl (by kernel_rfl) (by kernel_rfl) (by kernel_rfl) (fun _ _ _ h => h) (Or.inl ⟨by rfl, ?_⟩) hHeld ?_
        rotate_left
        · intro w' hS'
          (try dsimp only at hS')
          go_simp
          try with_reducible rfl
        try simp only [List.getElem_toArray, List.getElem_cons_succ, List.getElem_cons_zero, Act.put, List.setIfInBounds_toArray, List.set_cons_zero, List.set_cons_succ]
        refine wpAnyH_take (i := 6) (v := ?_) rfl (by kernel_rfl) (by kernel_rfl) (by kernel_rfl) (fun _ _ _ h => h) (Or.inl ⟨by rfl, ?_⟩) hHeld ?_
        rotate_left
        · intro w' hS'
          (try dsimp only at hS')
          go_simp
          try with_reducible rfl
        try simp only [List.getElem_toArray, List.getElem_cons_succ, List.getElem_cons_zero, Act.put, List.setIfInBounds_toArray, List.set_cons_zero, List.set_cons_succ]
        refine wpAnyH_take (i := 7) (v := _) rfl (by kernel_rfl) (by kernel_rfl) (by kernel_rfl) (fun _ _ _ h => h) (yieldsIf_lookupR (S := fun W => MapR W m1 rfV fT ∧ W.cell? ⟨gb, 0, none⟩ = some (.map (some m1)) ∧ W.cell? ⟨bt, 0, none⟩ = some (.string t.1) ∧ W.cell? ⟨bt, 1, none⟩ = some (.int .i64 t.2)) (by rfl) (.tmp 25) (.tmp 26) rfl (fun _ h => h.1) t rfl rfl _ HFV.out) hHeld ?_
        try simp only [List.getElem_toArray, List.getElem_cons_succ, List.getElem_cons_zero, Act.put, List.setIfInBounds_toArray, List.set_cons_zero, List.set_cons_succ]
        refine wpAnyH_take (i := 8) (v := ?_) rfl (by kernel_rfl) (by kernel_rfl) (by kernel_rfl) (fun _ _ _ h => h) (Or.inl ⟨by rfl, ?_⟩) hHeld ?_
        rotate_left
        · intro w' hS'
          (try dsimp only at hS')
          go_simp
          try with_reducible rfl
        try simp only [List.getElem_toArray, List.getElem_cons_succ, List.getElem_cons_zero, Act.put, List.setIfInBounds_toArray, List.set_cons_zero, List.set_cons_succ]
        refine wpAnyH_ready (rs := [0, 9]) (by kernel_rfl) (by simp) (AllReadyH.cons rfl (fun K hK => ?_) (AllReadyH.cons rfl (fun K hK => ?_) AllReadyH.nil))
        · go_simp
          refine hK.out _ _ hHeld (fun hHeld => ?_)
          clear hK K
          try simp only [List.getElem_toArray, List.getElem_cons_succ, List.getElem_cons_zero, Act.put, List.setIfInBounds_toArray, List.set_cons_zero, List.set_cons_succ]
          refine wpAnyH_ready (rs := [9]) (by kernel_rfl) (by simp) (AllReadyH.cons rfl (fun K hK => ?_) AllReadyH.nil)
          go_simp
          obtain ⟨G, hG⟩ : ∃ z, wa.heap.size = z := ⟨_, rfl⟩
          obtain ⟨wb, hwb⟩ : ∃ z, (wa.alloc (.cells #[.string t.1, .int .i64 t.2, .slice ta y2.2.length tc] 28)).drew = z := ⟨_, rfl⟩
          have hbb : Below wa.heap.size wa wb := by rw [← hwb]; exact drewN_below (below_alloc _) 1
          have HBB := Lib.hid hbb
          have HRB : Hid (RowAt wb G 28 #[.string t.1, .int .i64 t.2, .slice ta y2.2.length tc]) := by
            rw [← hwb, ← hG]
            exact RowAt.new wa _ _
          have HCB : Hid (CellsAt wb lkC G 0 ⟨t, ta, y2.2, tc⟩) := Lib.hid fun i u hu => by
            rw [Nat.zero_add]
            match i, hu with
            | 0, hu => exact (HRB.out.cell 0).trans hu
            | 1, hu => exact (HRB.out.cell 1).trans hu
            | 2, hu => exact (HRB.out.cell 2).trans hu
          have hcb : wb.cell? ⟨lb, 0, none⟩ = some vv := (RowAt.below HAT.out.box (below_trans HBA.out HBB.out)).cell 0
          clear hbb
          try simp only [hwb, hG]
          refine hK.out _ _ (HS6.out wb HBB.out) (fun hHeld => ?_)
          clear hK K
          try simp only [List.getElem_toArray, List.getElem_cons_succ, List.getElem_cons_zero, Act.put, List.setIfInBounds_toArray, List.set_cons_zero, List.set_cons_succ]
          refine wpAnyH_ready (rs := [10]) (by kernel_rfl) (by simp) (AllReadyH.cons rfl (fun K hK => ?_) AllReadyH.nil)
          rw [if_pos (by rfl)]
          refine wp_pushLk (.tmp 20) (.tmp 29) rfl vv ls (by rw [hvv]; rfl) G ⟨t, ta, y2.2, tc⟩ rfl (HAT.out.own.keep (KeepA.of_below (X := fun _ => False) (below_trans HBA.out HBB.out)) (fun _ _ h => h)) HCB.out HRB.out.lt HSZ.out ?_
          intro v8 w8 q1 q2 q3
          obtain ⟨a8, n8, c8, hv8⟩ : ∃ a n c, v8 = .slice a n c := by
            obtain ⟨a, c, e, -⟩ := q1.rd
            exact ⟨a, _, c, e⟩
          subst hv8
          have HB8 : Hid (RowAt w8 lb 22 #[vv]) := row_keep (keep_grownO q2) (RowAt.below HAT.out.box (below_trans HBA.out HBB.out)) (fun e => by have := HAT.out.low lb e; have := HLB3.out.lt; omega)
          have HST : Hid (AlAt w3 (w8.setCell ⟨lb, 0, none⟩ (.slice a8 n8 c8)) lb (.slice a8 n8 c8) (ls ++ [⟨t, ta, y2.2, tc⟩]) D (j + 1)) := by
            have k0 : KeepA (fun k => k = lb) w3 wb := HAT.out.keep.trans (KeepA.of_below (below_trans HBA.out HBB.out))
            have k1 : KeepA (fun k => k = lb) w3 w8 := keep_into k0 (keep_grownO q2) fun g e => .inr (HAT.out.low g e)
            have hlow8 : ∀ g, (Value.slice a8 n8 c8).ownBlock = some g → w3.heap.size ≤ g := fun g e => (q3 g e).elim (HAT.out.low g) fun e => Nat.le_trans k0.size e
            refine ⟨k1.trans (keep_grown (grown_setCell _ _ _)), RowAt.set (cs := #[_]) HB8.out 0 _, q1.keep (keep_grown (grown_setCell _ _ _)) fun g e e2 => ?_, ?_, hlow8⟩
            · have := hlow8 g e
              have := HLB3.out.lt
              dsimp only at e2
              omega
            · obtain ⟨h, e⟩ := HY.out
              rw [plainL_append, HAT.out.pl, ← List.take_append_getElem h, e]
              rfl
          have hc8 : w8.cell? ⟨lb, 0, none⟩ = some vv := HB8.out.cell 0
          have hf8 := frozen_of_row w8 lb 0 _ _ HB8.out
          have HS8 : Hid (∀ W, KeepA (fun k => vv.ownBlock = some k ∨ k = lb) wb W → MapR W m1 rfV fT ∧ W.cell? ⟨gb, 0, none⟩ = some (.map (some m1)) ∧ W.cell? ⟨bt, 0, none⟩ = some (.string t.1) ∧ W.cell? ⟨bt, 1, none⟩ = some (.int .i64 t.2)) := Lib.hid fun W hW => by
            have hgg := (HKL.out wr HAT.out.keep).2.later (below_trans HBA.out HBB.out)
            have hnl : ∀ b, b < w3.heap.size → ¬ vv.ownBlock = some b := fun b hb e => by have := HAT.out.low b e; omega
            have r1 := row_keep hW (RowAt.below HBT.out HBB.out) (fun e => by have h1 := HAT.out.box.lt; rcases e with e | e; exact absurd (HAT.out.own.lt e) (by omega); omega)
            refine ⟨hgg.mt.same (hW.same _ hgg.mt.lt fun e => ?_), (row_keep hW hgg.box fun e => ?_).cell 0, r1.cell 0, r1.cell 1⟩
            · rcases e with e | e
              · exact hnl m1 HG3.out.mt.lt e
              · exact row_map_ne HLB3.out HG3.out.mt e.symm
            · rcases e with e | e
              · exact hnl gb HG3.out.box.lt e
              · exact HGL.out e
          have HK8 := Lib.hid (keep_grownO q2)
          clear q1 q2 q3
          refine hK.out _ _ (HS8.out w8 (HK8.out.mono fun _ e => .inl e)) (fun hHeld => ?_)
          clear hK K
          try simp only [List.getElem_toArray, List.getElem_cons_succ, List.getElem_cons_zero, Act.put, List.setIfInBounds_toArray, List.set_cons_zero, List.set_cons_succ]
          refine wpAnyH_ready (rs := [11]) (by kernel_rfl) (by simp) (AllReadyH.cons rfl (fun K hK => ?_) AllReadyH.nil)
          subst hvv
          go_simp
          refine hK.out _ _ (HS8.out _ ((HK8.out.mono fun _ e => .inl e).trans ((keep_grown (grown_setCell _ _ _)).mono fun _ e => .inr e))) (fun hHeld => ?_)
          clear hK K
          try simp only [List.getElem_toArray, List.getElem_cons_succ, List.getElem_cons_zero, Act.put, List.setIfInBounds_toArray, List.set_cons_zero, List.set_cons_succ]
          refine wpAnyH_done (by kernel_rfl) ?_ _
          go_wp2
          exact ⟨⟨j + 1, .slice a8 n8 c8, _, by go_num, hjn, HST.out⟩, by show n - ((j : Int) + 1).toNat < n - (j : Int).toNat; omega⟩
        · go_simp
          obtain ⟨G, hG⟩ : ∃ z, wa.heap.size = z := ⟨_, rfl⟩
          obtain ⟨wb, hwb⟩ : ∃ z, (wa.alloc (.cells #[.string t.1, .int .i64 t.2, .slice ta y2.2.length tc] 28)).drew = z := ⟨_, rfl⟩
          have hbb : Below wa.heap.size wa wb := by rw [← hwb]; exact drewN_below (below_alloc _) 1
          have HBB := Lib.hid hbb
          have HRB : Hid (RowAt wb G 28 #[.string t.1, .int .i64 t.2, .slice ta y2.2.length tc]) := by
            rw [← hwb, ← hG]
            exact RowAt.new wa _ _
          have HCB : Hid (CellsAt wb lkC G 0 ⟨t, ta, y2.2, tc⟩) := Lib.hid fun i u hu => by
            rw [Nat.zero_add]
            match i, hu with
            | 0, hu => exact (HRB.out.cell 0).trans hu
            | 1, hu => exact (HRB.out.cell 1).trans hu
            | 2, hu => exact (HRB.out.cell 2).trans hu
          have hcb : wb.cell? ⟨lb, 0, none⟩ = some vv := (RowAt.below HAT.out.box (below_trans HBA.out HBB.out)).cell 0
          clear hbb
          try simp only [hwb, hG]
          refine hK.out _ _ (HS6.out wb HBB.out) (fun hHeld => ?_)
          clear hK K
          try simp only [List.getElem_toArray, List.getElem_cons_succ, List.getElem_cons_zero, Act.put, List.setIfInBounds_toArray, List.set_cons_zero, List.set_cons_succ]
          refine wpAnyH_ready (rs := [0]) (by kernel_rfl) (by simp) (AllReadyH.cons rfl (fun K hK => ?_) AllReadyH.nil)
          go_simp
          refine hK.out _ _ hHeld (fun hHeld => ?_)
          clear hK K
          try simp only [List.getElem_toArray, List.getElem_cons_succ, List.getElem_cons_zero, Act.put, List.setIfInBounds_toArray, List.set_cons_zero, List.set_cons_succ]
          refine wpAnyH_ready (rs := [10]) (by kernel_rfl) (by simp) (AllReadyH.cons rfl (fun K hK => ?_) AllReadyH.nil)
          rw [if_pos (by rfl)]
          refine wp_pushLk (.tmp 20) (.tmp 29) rfl vv ls (by rw [hvv]; rfl) G ⟨t, ta, y2.2, tc⟩ rfl (HAT.out.own.keep (KeepA.of_below (X := fun _ => False) (below_trans HBA.out HBB.out)) (fun _ _ h => h)) HCB.out HRB.out.lt HSZ.out ?_
          intro v8 w8 q1 q2 q3
          obtain ⟨a8, n8, c8, hv8⟩ : ∃ a n c, v8 = .slice a n c := by
            obtain ⟨a, c, e, -⟩ := q1.rd
            exact ⟨a, _, c, e⟩
          subst hv8
          have HB8 : Hid (RowAt w8 lb 22 #[vv]) := row_keep (keep_grownO q2) (RowAt.below HAT.out.box (below_trans HBA.out HBB.out)) (fun e => by have := HAT.out.low lb e; have := HLB3.out.lt; omega)
          have HST : Hid (AlAt w3 (w8.setCell ⟨lb, 0, none⟩ (.slice a8 n8 c8)) lb (.slice a8 n8 c8) (ls ++ [⟨t, ta, y2.2, tc⟩]) D (j + 1)) := by
            have k0 : KeepA (fun k => k = lb) w3 wb := HAT.out.keep.trans (KeepA.of_below (below_trans HBA.out HBB.out))
            have k1 : KeepA (fun k => k = lb) w3 w8 := keep_into k0 (keep_grownO q2) fun g e => .inr (HAT.out.low g e)
            have hlow8 : ∀ g, (Value.slice a8 n8 c8).ownBlock = some g → w3.heap.size ≤ g := fun g e => (q3 g e).elim (HAT.out.low g) fun e => Nat.le_trans k0.size e
            refine ⟨k1.trans (keep_grown (grown_setCell _ _ _)), RowAt.set (cs := #[_]) HB8.out 0 _, q1.keep (keep_grown (grown_setCell _ _ _)) fun g e e2 => ?_, ?_, hlow8⟩
            · have := hlow8 g e
              have := HLB3.out.lt
              dsimp only at e2
              omega
            · obtain ⟨h, e⟩ := HY.out
              rw [plainL_append, HAT.out.pl, ← List.take_append_getElem h, e]
              rfl
          have hc8 : w8.cell? ⟨lb, 0, none⟩ = some vv := HB8.out.cell 0
          have hf8 := frozen_of_row w8 lb 0 _ _ HB8.out
          have HS8 : Hid (∀ W, KeepA (fun k => vv.ownBlock = some k ∨ k = lb) wb W → MapR W m1 rfV fT ∧ W.cell? ⟨gb, 0, none⟩ = some (.map (some m1)) ∧ W.cell? ⟨bt, 0, none⟩ = some (.string t.1) ∧ W.cell? ⟨bt, 1, none⟩ = some (.int .i64 t.2)) := Lib.hid fun W hW => by
            have hgg := (HKL.out wr HAT.out.keep).2.later (below_trans HBA.out HBB.out)
            have hnl : ∀ b, b < w3.heap.size → ¬ vv.ownBlock = some b := fun b hb e => by have := HAT.out.low b e; omega
            have r1 := row_keep hW (RowAt.below HBT.out HBB.out) (fun e => by have h1 := HAT.out.box.lt; rcases e with e | e; exact absurd (HAT.out.own.lt e) (by omega); omega)
            refine ⟨hgg.mt.same (hW.same _ hgg.mt.lt fun e => ?_), (row_keep hW hgg.box fun e => ?_).cell 0, r1.cell 0, r1.cell 1⟩
            · rcases e with e | e
              · exact hnl m1 HG3.out.mt.lt e
              · exact row_map_ne HLB3.out HG3.out.mt e.symm
            · rcases e with e | e
              · exact hnl gb HG3.out.box.lt e
              · exact HGL.out e
          have HK8 := Lib.hid (keep_grownO q2)
          clear q1 q2 q3
          refine hK.out _ _ (HS8.out w8 (HK8.out.mono fun _ e => .inl e)) (fun hHeld => ?_)
          clear hK K
          try simp only [List.getElem_toArray, List.getElem_cons_succ, List.getElem_cons_zero, Act.put, List.setIfInBounds_toArray, List.set_cons_zero, List.set_cons_succ]
          refine wpAnyH_ready (rs := [11]) (by kernel_rfl) (by simp) (AllReadyH.cons rfl (fun K hK => ?_) AllReadyH.nil)
          subst hvv
          go_simp
          refine hK.out _ _ (HS8.out _ ((HK8.out.mono fun _ e => .inl e).trans ((keep_grown (grown_setCell _ _ _)).mono fun _ e => .inr e))) (fun hHeld => ?_)
          clear hK K
          try simp only [List.getElem_toArray, List.getElem_cons_succ, List.getElem_cons_zero, Act.put, List.setIfInBounds_toArray, List.set_cons_zero, List.set_cons_succ]
          refine wpAnyH_done (by kernel_rfl) ?_ _
          go_wp2
          exact ⟨⟨j + 1, .slice a8 n8 c8, _, by go_num, hjn, HST.out⟩, by show n - ((j : Int) + 1).toNat < n - (j : Int).toNat; omega⟩

    · have hj' : n = j := by omega
      subst hj'
      go_wp2
      have HF := Lib.hid (HK.out vv ls wr HAT.out.box HAT.out.own (by rw [HAT.out.pl, ← HN.out, List.take_length]) (KeepA.below (X := fun _ => False) (keep_low HB03.out HAT.out.keep (by omega)) (Nat.le_refl _) (fun _ h => h.elim)))
      exact HF.out
end Go.Proofs.Ytcakdjnnfonijaa
