/- refs.right, cmp.Or of errors, refs.targets; the document's Right and in. -/
import Derived.Test.YtcakdjnnfonijaaRoHeap2
namespace Go.Proofs.Ytcakdjnnfonijaa
open Go.RowKit

set_option maxRecDepth 100000 in
set_option maxHeartbeats 1000000 in
theorem right_any (x : Rf) (w : World) : Calls Try.prog 26 #[.agg #[.string x.1, .int .i64 x.2]] w fun e w' => e = .returned (.bool (rightR x)) ∧ Below w.heap.size w w' := by
  obtain ⟨s, z⟩ := x
  obtain ⟨n, hn⟩ : ∃ n, s.size = n := ⟨_, rfl⟩
  have hr : rightR (s, z) = (decide (1 ≤ n) && (decide (n ≤ 128) && (decide (1 ≤ z) && decide (z ≤ 2147483647)))) := by unfold rightR; rw [hn]
  rw [hr]
  clear hr
  dsimp only
  have hb : Below w.heap.size w (w.alloc (.cells #[.string s, .int .i64 z] 25)) := below_alloc _
  have HB := Lib.hid hb
  clear hb
  go_enter Try.func26, Try.ntmps26
  by_cases h1 : 1 ≤ n
  · by_cases h2 : n ≤ 128
    · by_cases h3 : 1 ≤ z
      · by_cases h4 : z ≤ 2147483647
        · have e : (decide (1 ≤ n) && (decide (n ≤ 128) && (decide (1 ≤ z) && decide (z ≤ 2147483647)))) = true := by simp [h1, h2, h3, h4]
          rw [e]
          go_wp2
          go_ret
          exact ⟨rfl, HB.out⟩
        · have e : (decide (1 ≤ n) && (decide (n ≤ 128) && (decide (1 ≤ z) && decide (z ≤ 2147483647)))) = false := by simp [h4]
          rw [e]
          go_wp2
          go_ret
          exact ⟨rfl, HB.out⟩
      · have e : (decide (1 ≤ n) && (decide (n ≤ 128) && (decide (1 ≤ z) && decide (z ≤ 2147483647)))) = false := by simp [h3]
        rw [e]
        go_wp2
        go_ret
        exact ⟨rfl, HB.out⟩
    · have e : (decide (1 ≤ n) && (decide (n ≤ 128) && (decide (1 ≤ z) && decide (z ≤ 2147483647)))) = false := by simp [h2]
      rw [e]
      go_wp2
      go_ret
      exact ⟨rfl, HB.out⟩
  · have e : (decide (1 ≤ n) && (decide (n ≤ 128) && (decide (1 ≤ z) && decide (z ≤ 2147483647)))) = false := by simp [h1]
    rw [e]
    go_wp2
    go_ret
    exact ⟨rfl, HB.out⟩
theorem zint (w : World) : (zeroValue 3).run Try.prog w = .ok (.int .i64 0) w := by kernel_rfl
theorem cells_grown {w w' : World} {b r : Nat} (hbr : ¬ b = r) (hb : b < w.heap.size) (g : w.grownBy w' (some r)) {u v : Value} (h : w.cell? ⟨b, 0, none⟩ = some u ∧ w.cell? ⟨b, 1, none⟩ = some v) : w'.cell? ⟨b, 0, none⟩ = some u ∧ w'.cell? ⟨b, 1, none⟩ = some v := by
  have k : ∀ o, w'.cell? ⟨b, o, none⟩ = w.cell? ⟨b, o, none⟩ := fun o => by
    have := g.block b hb (fun e => hbr (by first | exact Option.some.inj e | exact (Option.some.inj e).symm))
    simp only [World.cell?, this]
  rw [k, k]
  exact h
theorem bump_eqf {w : World} {r : Nat} {f : Rf → Option Value} {t : Rf} {u v : Value} (h : MapR w r rfV (fun j => if j = t then some v else if j = t then some u else f j)) : MapR w r rfV (fun j => if j = t then some v else f j) :=
  h.eqf fun k => by by_cases e : k = t <;> simp [e]
theorem bump_keep {w w2 w3 : World} {r : Nat} (g2 : w.grownBy w2 (some r)) (g3 : w2.grownBy w3 (some r)) : KeepA (fun k => k = r) w w3 := (keep_grown g2).trans (keep_grown g3)
open Classical in
/-- How often targets were seen. -/
noncomputable def seenF (l : List Rf) (k : Nat) (t : Rf) : Option Value := if t ∈ l.take k then some (.int .i64 1) else none
theorem seenF_zero (l : List Rf) : seenF l 0 = fun _ => none := funext fun t => by unfold seenF; simp
open Classical in
theorem seenF_get (l : List Rf) (k : Nat) (t : Rf) : (seenF l k t).getD (.int .i64 0) = .int .i64 (if t ∈ l.take k then 1 else 0) := by unfold seenF; split <;> rfl
theorem seenF_succ {l : List Rf} {k : Nat} (hk : k < l.length) (j : Rf) : (if j = l[k] then some (Value.int .i64 1) else seenF l k j) = seenF l (k + 1) j := by
  have hm : j ∈ l.take (k + 1) ↔ j ∈ l.take k ∨ j = l[k] := by
    rw [← List.take_append_getElem hk, List.mem_append, List.mem_singleton]
  unfold seenF
  by_cases e : j = l[k]
  · rw [if_pos e, if_pos (hm.2 (.inr e))]
  · rw [if_neg e]
    by_cases h : j ∈ l.take k
    · rw [if_pos h, if_pos (hm.2 (.inl h))]
    · rw [if_neg h, if_neg (fun h2 => (hm.1 h2).elim h e)]
set_option maxRecDepth 100000 in
set_option maxHeartbeats 2000000 in
theorem targets_any (a : Option Addr) (n c : Nat) (l : List Rf) (w : World) (hl : l.length = n) (hb : n ≤ 1000000) (hr : RdRf w a l) :
    Calls Try.prog 25 #[.slice a n c] w fun e w' => e = .returned (.int .i64 (tgt l)) ∧ Below w.heap.size w w' := by
  obtain ⟨g, hg⟩ : ∃ x, w.heap.size = x := ⟨_, rfl⟩
  have HL := Lib.hid hl
  have HR : Hid (∀ k (h : k < l.length), ∃ b off, a = some ⟨b, off, none⟩ ∧ ∀ W, Below g w W → CellsAt W rfC b (off + k * 2) l[k]) := fun k h => by
    rcases hr with e | ⟨b, off, ha, hlt, hi⟩
    · rw [e] at h; exact absurd h (by simp)
    · exact ⟨b, off, ha, fun W hW => (hi k h).later (by rw [hg]; exact hW) hlt⟩
  clear hl hr
  go_enter Try.func25, Try.ntmps25
  rw [hg]
  go_wp2_with (refine step_makeMapM rfl 53 rfl ?_; intro w1 hw1; rw [hg])
  have hb1 : Below g w w1 := by rw [← hw1, ← hg]; exact below_alloc _
  have hm1 : MapR w1 g rfV (seenF l 0) := by rw [seenF_zero, ← hw1, ← hg]; exact MapR.new w
  clear hw1
  go_loopw [9] (fun i wr => ∃ k : Nat, i = .int .i64 (k : Int) ∧ k ≤ n ∧ goodT l k ∧ Below g w wr ∧ MapR wr g rfV (seenF l k)) (fun i _ => n - (intOf i).toNat)
  case atStart => exact ⟨0, rfl, Nat.zero_le _, goodT_zero l, hb1, hm1⟩
  case round =>
    obtain ⟨k, rfl, hk, hgt, hbr, hmr⟩ := hrel
    clear hb1 hm1
    by_cases hkn : k < n
    · obtain ⟨b, off, ha, hcell⟩ := HR.out k (by rw [HL.out]; exact hkn)
      subst ha
      obtain ⟨t, ht⟩ : ∃ t, l[k]'(by rw [HL.out]; exact hkn) = t := ⟨_, rfl⟩
      rw [ht] at hcell
      have HCELL := Lib.hid (hcell wr hbr)
      have HT : Hid (∃ h : k < l.length, l[k] = t) := ⟨_, ht⟩
      obtain ⟨bt, hbt⟩ : ∃ x, wr.heap.size = x := ⟨_, rfl⟩
      obtain ⟨w5, hw5⟩ : ∃ x, wr.alloc (.cells #[.string t.1, .int .i64 t.2] 25) = x := ⟨_, rfl⟩
      have hb5 : Below wr.heap.size wr w5 := by rw [← hw5]; exact below_alloc _
      have HB5 : Hid (Below g w w5) := hbr.trans (hb5.mono (Nat.le_of_lt hmr.lt))
      have HRT : Hid (RowAt w5 bt 25 #[.string t.1, .int .i64 t.2]) := by rw [← hw5, ← hbt]; exact RowAt.new _ _ _
      have HM : Hid (MapR w5.drew g rfV (seenF l k)) := hmr.same (hb5.block g hmr.lt)
      have hrb : g < bt := by rw [← hbt]; exact hmr.lt
      have hbs5 : bt < w5.heap.size := HRT.out.lt
      have HGT := Lib.hid hgt
      have HBT : Hid (CellsAt w5.drew rfC bt 0 t) := RowAt.rf (w := w5.drew) HRT.out
      obtain ⟨c, hc⟩ : ∃ c : Int, (open Classical in if t ∈ l.take k then (1 : Int) else 0) = c := ⟨_, rfl⟩
      have hc0 : 0 ≤ c := by rw [← hc]; split <;> omega
      have hc1 : c ≤ 1 := by rw [← hc]; split <;> omega
      have HC := Lib.hid hc
      have HCC : Hid ((seenF l k t).getD (.int .i64 0) = .int .i64 c) := Lib.hid (by rw [seenF_get, hc])
      have hbr' : ¬ bt = g := by omega
      have hwr : IntKind.i64.wrap (c + 1) = c + 1 := by
        rcases (by omega : c = 0 ∨ c = 1) with rfl | rfl <;> rfl
      have hbs : bt < w5.drew.heap.size := hbs5
      clear hbr hmr hcell ht hb5 hgt HR hc
      go_upto_region 5 with (refine step_loadRf rfl (.tmp 11) rfl HCELL.out rfl ?_)
      go_cut [] (fun wx => MapR wx g rfV (fun j => if j = t then some (.int .i64 (c + 1)) else seenF l k j) ∧ KeepA (fun x => x = g) w5.drew wx)
      case first =>
        as_aux_lemma =>
        refine wp_region_held_drew (S := fun w' => w'.cell? ⟨bt, 0, none⟩ = some (.string t.1) ∧ w'.cell? ⟨bt, 1, none⟩ = some (.int .i64 t.2)) (by kernel_rfl) (rf_cells HBT.out) (fun hHeld => ?_)
        refine wpAnyH_take (i := 0) (v := ?_) rfl (by kernel_rfl) (by kernel_rfl) (by kernel_rfl) (fun _ _ _ h => h) (Or.inl ⟨by rfl, ?_⟩) hHeld ?_
        rotate_left
        · intro w' hS'
          (try dsimp only at hS')
          go_simp
          try with_reducible rfl
        try simp only [List.getElem_toArray, List.getElem_cons_zero, Act.put, List.setIfInBounds_toArray, List.set_cons_zero, List.set_cons_succ]
        refine wpAnyH_take (i := 1) (v := ?_) rfl (by kernel_rfl) (by kernel_rfl) (by kernel_rfl) (fun _ _ _ h => h) (Or.inl ⟨by rfl, ?_⟩) hHeld ?_
        rotate_left
        · intro w' hS'
          (try dsimp only at hS')
          go_simp
          try with_reducible rfl
        try simp only [List.getElem_toArray, List.getElem_cons_succ, List.getElem_cons_zero, Act.put, List.setIfInBounds_toArray, List.set_cons_zero, List.set_cons_succ]
        refine wpAnyH_ready (rs := [2, 4]) (by kernel_rfl) (by simp) (AllReadyH.cons rfl (fun K hK => ?_) (AllReadyH.cons rfl (fun K hK => ?_) AllReadyH.nil))
        · rw [if_pos (by rfl)]
          refine wp_lookup1 keyRf Try.underlying53 (.tmp 13) (.tmp 14) rfl HM.out t (.int .i64 0) (zint _) rfl rfl (.int .i64 c) HCC.out ?_
          refine hK.out _ _ hHeld (fun hHeld => ?_)
          clear hK K
          try simp only [List.getElem_toArray, List.getElem_cons_succ, List.getElem_cons_zero, Act.put, List.setIfInBounds_toArray, List.set_cons_zero, List.set_cons_succ]
          refine wpAnyH_take (i := 3) (v := ?_) rfl (by kernel_rfl) (by kernel_rfl) (by kernel_rfl) (fun _ _ _ h => h) (Or.inl ⟨by rfl, ?_⟩) hHeld ?_
          rotate_left
          · intro w' hS'
            (try dsimp only at hS')
            go_simp
            try with_reducible rfl
          try simp only [List.getElem_toArray, List.getElem_cons_succ, List.getElem_cons_zero, Act.put, List.setIfInBounds_toArray, List.set_cons_zero, List.set_cons_succ]
          refine wpAnyH_ready (rs := [4]) (by kernel_rfl) (by simp) (AllReadyH.cons rfl (fun K hK => ?_) AllReadyH.nil)
          rw [if_pos (by rfl)]
          refine wp_entryM keyRf Try.underlying53 (.tmp 13) (.tmp 14) rfl HM.out t (.int .i64 0) (zint _) rfl rfl ?_
          intro w2 st g2 me2
          refine hK.out _ _ (cells_grown hbr' hbs g2 hHeld) (fun hHeld => ?_)
          clear hK K
          try simp only [List.getElem_toArray, List.getElem_cons_succ, List.getElem_cons_zero, Act.put, List.setIfInBounds_toArray, List.set_cons_zero, List.set_cons_succ]
          refine wpAnyH_take (i := 5) (v := ?_) rfl (by kernel_rfl) (by kernel_rfl) (by kernel_rfl) (fun _ _ _ h => h) (Or.inl ⟨by rfl, ?_⟩) hHeld ?_
          rotate_left
          · intro w' hS'
            (try dsimp only at hS')
            go_simp
            try with_reducible rfl
          try simp only [List.getElem_toArray, List.getElem_cons_succ, List.getElem_cons_zero, Act.put, List.setIfInBounds_toArray, List.set_cons_zero, List.set_cons_succ]
          refine wpAnyH_ready (rs := [6]) (by kernel_rfl) (by simp) (AllReadyH.cons rfl (fun K hK => ?_) AllReadyH.nil)
          rw [if_pos (by rfl)]
          refine wp_estoreM (.tmp 13) (.tmp 18) (.tmp 16) rfl rfl me2 (.int .i64 (c + 1)) rfl rfl rfl ?_
          intro w3 g3 mr3
          refine hK.out _ _ (cells_grown hbr' (Nat.lt_of_lt_of_le hbs g2.size) g3 hHeld) (fun _ => ?_)
          clear hK K
          try simp only [List.getElem_toArray, List.getElem_cons_succ, List.getElem_cons_zero, Act.put, List.setIfInBounds_toArray, List.set_cons_zero, List.set_cons_succ]
          refine wpAnyH_done (by kernel_rfl) ?_ _
          have HMR := Lib.hid (bump_eqf mr3)
          have HKP := Lib.hid (bump_keep g2 g3)
          clear mr3 g2 g3 me2
          go_wp2
          go_meet
          exact ⟨HMR.out, HKP.out⟩
        · rw [if_pos (by rfl)]
          refine wp_entryM keyRf Try.underlying53 (.tmp 13) (.tmp 14) rfl HM.out t (.int .i64 0) (zint _) rfl rfl ?_
          intro w2 st g2 me2
          refine hK.out _ _ (cells_grown hbr' hbs g2 hHeld) (fun hHeld => ?_)
          clear hK K
          try simp only [List.getElem_toArray, List.getElem_cons_succ, List.getElem_cons_zero, Act.put, List.setIfInBounds_toArray, List.set_cons_zero, List.set_cons_succ]
          refine wpAnyH_take (i := 5) (v := ?_) rfl (by kernel_rfl) (by kernel_rfl) (by kernel_rfl) (fun _ _ _ h => h) (Or.inl ⟨by rfl, ?_⟩) hHeld ?_
          rotate_left
          · intro w' hS'
            (try dsimp only at hS')
            go_simp
            try with_reducible rfl
          try simp only [List.getElem_toArray, List.getElem_cons_succ, List.getElem_cons_zero, Act.put, List.setIfInBounds_toArray, List.set_cons_zero, List.set_cons_succ]
          refine wpAnyH_ready (rs := [2]) (by kernel_rfl) (by simp) (AllReadyH.cons rfl (fun K hK => ?_) AllReadyH.nil)
          rw [if_pos (by rfl)]
          refine wp_lookup1 keyRf Try.underlying53 (.tmp 13) (.tmp 14) rfl me2.map t (.int .i64 0) (zint _) rfl rfl (.int .i64 c) (by rw [if_pos rfl]; exact HCC.out) ?_
          refine hK.out _ _ hHeld (fun hHeld => ?_)
          clear hK K
          try simp only [List.getElem_toArray, List.getElem_cons_succ, List.getElem_cons_zero, Act.put, List.setIfInBounds_toArray, List.set_cons_zero, List.set_cons_succ]
          refine wpAnyH_take (i := 3) (v := ?_) rfl (by kernel_rfl) (by kernel_rfl) (by kernel_rfl) (fun _ _ _ h => h) (Or.inl ⟨by rfl, ?_⟩) hHeld ?_
          rotate_left
          · intro w' hS'
            (try dsimp only at hS')
            go_simp
            try with_reducible rfl
          try simp only [List.getElem_toArray, List.getElem_cons_succ, List.getElem_cons_zero, Act.put, List.setIfInBounds_toArray, List.set_cons_zero, List.set_cons_succ]
          refine wpAnyH_ready (rs := [6]) (by kernel_rfl) (by simp) (AllReadyH.cons rfl (fun K hK => ?_) AllReadyH.nil)
          rw [if_pos (by rfl)]
          refine wp_estoreM (.tmp 13) (.tmp 18) (.tmp 16) rfl rfl me2 (.int .i64 (c + 1)) rfl rfl rfl ?_
          intro w3 g3 mr3
          refine hK.out _ _ (cells_grown hbr' (Nat.lt_of_lt_of_le hbs g2.size) g3 hHeld) (fun _ => ?_)
          clear hK K
          try simp only [List.getElem_toArray, List.getElem_cons_succ, List.getElem_cons_zero, Act.put, List.setIfInBounds_toArray, List.set_cons_zero, List.set_cons_succ]
          refine wpAnyH_done (by kernel_rfl) ?_ _
          have HMR := Lib.hid (bump_eqf mr3)
          have HKP := Lib.hid (bump_keep g2 g3)
          clear mr3 g2 g3 me2
          go_wp2
          go_meet
          exact ⟨HMR.out, HKP.out⟩
      case rest =>
        obtain ⟨hm9, hk9⟩ := hcut
        have HM9 := Lib.hid hm9
        have hr9 : RowAt wc bt 25 #[.string t.1, .int .i64 t.2] := row_keep (w := w5.drew) hk9 HRT.out (by show ¬ bt = g; omega)
        have k1 := hr9.cell 0
        have k2 := hr9.cell 1
        have HB9 : Hid (Below g w wc) := (drewN_below HB5.out 1).trans (hk9.below (by show g ≤ w5.heap.size; omega) (by rintro x rfl; exact Nat.le_refl _))
        have HM9L : Hid (∀ W, Below wc.heap.size wc W → MapR W g rfV (fun j => if j = t then some (.int .i64 (c + 1)) else seenF l k j)) := fun W hW => hm9.same (hW.block g hm9.lt)
        have HRG : Hid (Calls Try.prog 26 #[.agg #[.string t.1, .int .i64 t.2]] wc fun e w' => e = .returned (.bool (rightR t)) ∧ Below wc.heap.size wc w') := right_any t wc
        have HBL : Hid (∀ W, Below wc.heap.size wc W → Below g w W ∧ W.cell? ⟨bt, 0, none⟩ = some (.string t.1) ∧ W.cell? ⟨bt, 1, none⟩ = some (.int .i64 t.2)) := fun W hW => ⟨HB9.out.trans (hW.mono (Nat.le_of_lt hm9.lt)), (RowAt.below hr9 hW).cell 0, (RowAt.below hr9 hW).cell 1⟩
        clear hm9 hk9 hr9 HM HBT HCC HM9
        obtain ⟨rr, hrr⟩ : ∃ b, rightR t = b := ⟨_, rfl⟩
        have HRR := Lib.hid hrr
        rw [hrr] at HRG
        clear hrr
        cases rr with
        | false =>
          have HE : Hid (tgt l = 2) := by
            obtain ⟨h, e⟩ := HT.out
            exact tgt_bad h (.inl (by rw [e]; exact HRR.out))
          go_wp2_with (go_at_call 26; refine HRG.out.mono ?_; rintro e w10 ⟨rfl, hb10⟩; obtain ⟨x1, x2, x3⟩ := HBL.out w10 hb10)
          go_ret
          exact ⟨by rw [HE.out]; rfl, x1⟩
        | true =>
          by_cases hc1 : c = 1
          · have HE : Hid (tgt l = 2) := by
              obtain ⟨h, e⟩ := HT.out
              refine tgt_bad h (.inr ?_)
              rw [e]
              by_cases hin : t ∈ l.take k
              · exact hin
              · have := HC.out
                rw [if_neg hin] at this
                omega
            subst hc1
            go_wp2_with (first
              | (go_at_call 26; refine HRG.out.mono ?_; rintro e w10 ⟨rfl, hb10⟩; obtain ⟨x1, x2, x3⟩ := HBL.out w10 hb10)
              | (refine step_lookup1 keyRf Try.underlying53 (by rfl) (.tmp 23) (.tmp 24) rfl (HM9L.out _ hb10) t (.int .i64 0) (zint _) rfl rfl (.int .i64 2) (by rw [if_pos rfl]; rfl) ?_))
            go_ret
            exact ⟨by rw [HE.out]; rfl, x1⟩
          · have hc00 : c = 0 := by omega
            subst hc00
            have HNI : Hid (¬ t ∈ l.take k) := fun hin => by
              have := HC.out
              rw [if_pos hin] at this
              omega
            go_wp2_with (first
              | (go_at_call 26; refine HRG.out.mono ?_; rintro e w10 ⟨rfl, hb10⟩; obtain ⟨x1, x2, x3⟩ := HBL.out w10 hb10)
              | (refine step_lookup1 keyRf Try.underlying53 (by rfl) (.tmp 23) (.tmp 24) rfl (HM9L.out _ hb10) t (.int .i64 0) (zint _) rfl rfl (.int .i64 1) (by rw [if_pos rfl]; rfl) ?_))
            refine ⟨⟨k + 1, by go_num, hkn, ?_, x1, ?_⟩, ?_⟩
            · obtain ⟨h, e⟩ := HT.out
              exact goodT_succ h HGT.out (by rw [e]; exact HRR.out) (by rw [e]; exact HNI.out)
            · obtain ⟨h, e⟩ := HT.out
              refine (HM9L.out _ hb10).eqf fun j => ?_
              rw [← seenF_succ h j, e]
              rfl
            · show n - ((k : Int) + 1).toNat < n - (k : Int).toNat
              omega
    · have hkn' : k = n := by omega
      subst hkn'
      have HE : Hid (tgt l = if 64 < l.length then 3 else 0) := tgt_good (by rw [HL.out]; exact hgt)
      have HB := Lib.hid hbr
      clear hbr hgt hmr HR
      by_cases h64 : 64 < k
      · have e : tgt l = 3 := by rw [HE.out, HL.out, if_pos h64]
        have HE2 := Lib.hid e
        clear e
        go_wp2
        go_ret
        exact ⟨by rw [HE2.out]; rfl, HB.out⟩
      · have e : tgt l = 0 := by rw [HE.out, HL.out, if_neg h64]
        have HE2 := Lib.hid e
        clear e
        go_wp2
        go_ret
        exact ⟨by rw [HE2.out]; rfl, HB.out⟩
end Go.Proofs.Ytcakdjnnfonijaa
