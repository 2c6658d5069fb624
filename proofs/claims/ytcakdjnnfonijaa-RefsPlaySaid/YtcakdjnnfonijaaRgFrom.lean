/- From of the document's graph. -/
import Derived.Test.YtcakdjnnfonijaaRgDoc
namespace Go.Proofs.Ytcakdjnnfonijaa
open Go.RowKit

/-- Those behind v, when i links and k targets of the next are seen. -/
def frK (D : List (Rf × List Rf)) (v : Rf) (i : Nat) (x : Rf × List Rf) (k : Nat) : List Rf := behd (D.take i) v ++ if memB v (x.2.take k) = true then [x.1] else []
theorem frK_zero (D : List (Rf × List Rf)) (v : Rf) (i : Nat) (x : Rf × List Rf) : frK D v i x 0 = behd (D.take i) v := by
  unfold frK
  have : memB v (x.2.take 0) = false := by simp [memB]
  rw [if_neg (by rw [this]; simp), List.append_nil]
theorem frK_end {D : List (Rf × List Rf)} {v : Rf} {i : Nat} (hi : i < D.length) {x : Rf × List Rf} (hx : D[i] = x) : frK D v i x x.2.length = behd (D.take (i + 1)) v := by
  subst hx
  unfold frK behd
  rw [List.take_length, ← List.take_append_getElem hi, List.filter_append, List.map_append]
  congr 1
  by_cases h : v ∈ D[i].2
  · rw [if_pos (memB_iff.2 h)]
    simp [h]
  · rw [if_neg (by rw [memB_not.2 h]; simp)]
    simp [h]
theorem frK_hit {D : List (Rf × List Rf)} {v : Rf} {i : Nat} {x : Rf × List Rf} {k : Nat} (hk : k < x.2.length) (hn : x.2.Nodup) (h : x.2[k] = v) : frK D v i x k = behd (D.take i) v ∧ frK D v i x (k + 1) = behd (D.take i) v ++ [x.1] := by
  unfold frK
  constructor
  · have : memB v (x.2.take k) = false := memB_not.2 fun hm => by
      obtain ⟨j, hj, e⟩ := List.mem_iff_getElem.1 hm
      rw [List.length_take] at hj
      rw [List.getElem_take, ← h] at e
      exact (List.pairwise_iff_getElem.1 hn) j k (by omega) hk (by omega) e
    rw [if_neg (by rw [this]; simp), List.append_nil]
  · rw [if_pos]
    rw [memB_take_succ hk]
    simp [h]
theorem frK_miss {D : List (Rf × List Rf)} {v : Rf} {i : Nat} {x : Rf × List Rf} {k : Nat} (hk : k < x.2.length) (h : x.2[k] ≠ v) : frK D v i x (k + 1) = frK D v i x k := by
  unfold frK
  rw [memB_take_succ hk]
  simp [Ne.symm h]
theorem behd_take_len (D : List (Rf × List Rf)) (v : Rf) (i : Nat) : (behd (D.take i) v).length ≤ D.length := by
  unfold behd
  rw [List.length_map]
  exact Nat.le_trans (List.length_filter_le _ _) (by rw [List.length_take]; omega)
set_option maxRecDepth 100000 in
set_option maxHeartbeats 4000000 in
theorem docfrom_any (w : World) (U : Nat → Prop) (rb : Nat) (D : List (Rf × List Rf)) (h : DocS w U rb D) (hd : D.length ≤ 1000) (hlk : Lks D) (hts : ∀ x ∈ D, x.2.length ≤ 1000) (v : Rf) :
    Calls Try.prog 20 #[.pointer (some ⟨rb, 0, none⟩), .agg #[.string v.1, .int .i64 v.2]] w fun e w' => ∃ vv, e = .returned vv ∧ OwnRf w' vv (behd D v) ∧ (∀ g, vv.ownBlock = some g → w.heap.size ≤ g) ∧ Below w.heap.size w w' := by
  obtain ⟨px, hpx⟩ : ∃ y, w.heap.size = y := ⟨_, rfl⟩
  obtain ⟨w1, hw1⟩ : ∃ y, w.alloc (.cells #[.string v.1, .int .i64 v.2] 25) = y := ⟨_, rfl⟩
  have hb1 : Below w.heap.size w w1 := by rw [← hw1]; exact below_alloc _
  have HP1 : Hid (RowAt w1 px 25 #[.string v.1, .int .i64 v.2]) := by rw [← hw1, ← hpx]; exact RowAt.new _ _ _
  have HB1 := Lib.hid hb1
  obtain ⟨gv, ls, hm⟩ := h.later hb1
  obtain ⟨a, c, b, off, hvv, ha, hrows⟩ := hm.view
  have hbox := hm.box
  rw [hvv] at hbox
  obtain ⟨n, hn⟩ : ∃ y, D.length = y := ⟨_, rfl⟩
  have HN := Lib.hid hn
  rw [hn] at hbox hd ha
  have HBOX := Lib.hid hbox
  have HA := Lib.hid ha
  have HROWS := Lib.hid hrows
  have HTWO := Lib.hid hlk.two
  have HTS := Lib.hid hts
  obtain ⟨K, hK⟩ : ∃ K, (fun (e : Ending) (w' : World) => ∃ vv, e = .returned vv ∧ OwnRf w' vv (behd D v) ∧ (∀ g, vv.ownBlock = some g → w.heap.size ≤ g) ∧ Below w.heap.size w w') = K := ⟨_, rfl⟩
  rw [hK]
  have HK : Hid (∀ vv W, OwnRf W vv (behd D v) → (∀ g, vv.ownBlock = some g → w1.heap.size ≤ g) → Below w1.heap.size w1 W → K (.returned vv) W) := Lib.hid fun vv W ho hg hW => by
    rw [← hK]
    exact ⟨vv, rfl, ho, fun g e => Nat.le_trans HB1.out.size (hg g e), below_trans HB1.out hW⟩
  have HZ0 : Hid (OwnRf w1 (.slice none 0 0) (behd (D.take 0) v)) := by
    have : behd (D.take 0) v = [] := by simp [behd]
    rw [this]
    exact OwnRf.nil w1
  clear h hb1 hm hvv hbox ha hrows hK hn hlk hts
  go_enter Try.func20, Try.ntmps20
  go_wp2
  go_loopw [5, 6] (fun ov iv wr => ∃ i : Nat, iv = .int .i64 (i : Int) ∧ i ≤ n ∧ OwnRf wr ov (behd (D.take i) v) ∧ (∀ g, ov.ownBlock = some g → w1.heap.size ≤ g) ∧ Below w1.heap.size w1 wr) (fun _ iv _ => n - (intOf iv).toNat)
  case atStart => exact ⟨0, rfl, Nat.zero_le _, HZ0.out, fun g e => by simp [Value.ownBlock] at e, Below.refl _ _⟩
  case round =>
    obtain ⟨i, rfl, hi, hown, hlow, hbr⟩ := hrel
    have HOWN := Lib.hid hown
    have HLOW := Lib.hid hlow
    have HBR := Lib.hid hbr
    have hc0 : wr.cell? ⟨rb, 0, none⟩ = some (.slice a n c) := (RowAt.below HBOX.out hbr).cell 0
    clear hown hlow hbr
    by_cases hin : i < n
    · obtain ⟨ha, hbs⟩ := HA.out (by omega)
      subst ha
      obtain ⟨ta, tc, hrow⟩ := HROWS.out i (by rw [HN.out]; exact hin)
      obtain ⟨x, hx⟩ : ∃ x, D[i]'(by rw [HN.out]; exact hin) = x := ⟨_, rfl⟩
      rw [hx] at hrow
      have HX : Hid (∃ h : i < D.length, D[i] = x) := ⟨_, hx⟩
      have HND : Hid (x.2.Nodup) := by rw [← hx]; exact HTWO.out _ (List.getElem_mem _)
      obtain ⟨m, hm⟩ : ∃ y, x.2.length = y := ⟨_, rfl⟩
      have hm1000 : m ≤ 1000 := by rw [← hm, ← hx]; exact HTS.out _ (List.getElem_mem _)
      have HM := Lib.hid hm
      have HROW : Hid (∀ W, Below w1.heap.size w1 W → CellsAt W rfC b (off + i * 3) x.1 ∧ W.cell? ⟨b, off + i * 3 + 2, none⟩ = some (.slice ta m tc) ∧ RdRf W ta x.2) := Lib.hid fun W hW => by
        have := hrow W hW
        rw [← hm]
        exact this
      have HST0 : Hid (OwnRf wr u5 (frK D v i x 0)) := by
        rw [frK_zero]
        exact HOWN.out
      clear hrow hx hm
      go_wp2
      go_loopw [5, 7] (fun pv jv wx => ∃ k : Nat, jv = .int .i64 (k : Int) ∧ k ≤ m ∧ OwnRf wx pv (frK D v i x k) ∧ (∀ g, pv.ownBlock = some g → w1.heap.size ≤ g) ∧ Below w1.heap.size w1 wx) (fun _ jv _ => m - (intOf jv).toNat)
      case atStart => exact ⟨0, rfl, Nat.zero_le _, HST0.out, HLOW.out, HBR.out⟩
      case round =>
        clear HST0 HLOW HBR HOWN hc0
        obtain ⟨k, rfl, hk, hown, hlow, hbr⟩ := hrel
        rename World => wx
        have HOWN := Lib.hid hown
        have HLOW := Lib.hid hlow
        have HBR := Lib.hid hbr
        have hc0 : wx.cell? ⟨rb, 0, none⟩ = some (.slice (some ⟨b, off, none⟩) n c) := (RowAt.below HBOX.out hbr).cell 0
        obtain ⟨-, hc2, hrd⟩ := HROW.out wx hbr
        clear hown hlow hbr
        by_cases hkm : k < m
        · have hkx : k < x.2.length := by rw [HM.out]; exact hkm
          obtain ⟨tb, toff, hta, hcell⟩ := hrd.get k hkx
          subst hta
          obtain ⟨t, ht⟩ : ∃ t, x.2[k] = t := ⟨_, rfl⟩
          rw [ht] at hcell
          have HT : Hid (∃ h : k < x.2.length, x.2[k] = t) := ⟨hkx, ht⟩
          obtain ⟨e, he⟩ : ∃ e, decide (t = v) = e := ⟨_, rfl⟩
          have HEE := Lib.hid he
          have hS0 : wx.drew.cell? ⟨rb, 0, none⟩ = some (.slice (some ⟨b, off, none⟩) n c) ∧ wx.drew.cell? ⟨b, off + i * 3 + 2, none⟩ = some (.slice (some ⟨tb, toff, none⟩) m tc) ∧ wx.drew.cell? ⟨tb, toff + k * 2, none⟩ = some (.string t.1) ∧ wx.drew.cell? ⟨tb, toff + k * 2 + 1, none⟩ = some (.int .i64 t.2) ∧ wx.drew.cell? ⟨px, 0, none⟩ = some (.string v.1) ∧ wx.drew.cell? ⟨px, 1, none⟩ = some (.int .i64 v.2) := by
            obtain ⟨c3, c4⟩ := rf_cells (hcell wx (Below.refl _ _))
            have r2 := RowAt.below HP1.out HBR.out
            exact ⟨hc0, hc2, c3, c4, r2.cell 0, r2.cell 1⟩
          clear hcell hkx ht hrd he
          go_upto_region 8 with fail
          clear hc0 hc2
          refine wp_region_held_drew (S := fun W => W.cell? ⟨rb, 0, none⟩ = some (.slice (some ⟨b, off, none⟩) n c) ∧ W.cell? ⟨b, off + i * 3 + 2, none⟩ = some (.slice (some ⟨tb, toff, none⟩) m tc) ∧ W.cell? ⟨tb, toff + k * 2, none⟩ = some (.string t.1) ∧ W.cell? ⟨tb, toff + k * 2 + 1, none⟩ = some (.int .i64 t.2) ∧ W.cell? ⟨px, 0, none⟩ = some (.string v.1) ∧ W.cell? ⟨px, 1, none⟩ = some (.int .i64 v.2)) (by kernel_rfl) hS0 (fun hHeld => ?_)
          refine wpAnyH_take (i := 0) (v := ?_) rfl (by kernel_rfl) (by kernel_rfl) (by kernel_rfl) (fun _ _ _ h => h) (Or.inl ⟨by rfl, ?_⟩) hHeld ?_
          rotate_left
          · intro w' hS'
            (try dsimp only at hS')
            go_simp
            try with_reducible rfl
          try simp only [List.getElem_toArray, List.getElem_cons_zero, Act.put, List.setIfInBounds_toArray, List.set_cons_zero, List.set_cons_succ]
          refine wpAnyH_take (i := 1) (v := ?_) rfl (by kernel_rfl) (by kernel_rfl) (by kernel_rfl) (fun _ _ _ h => h) (Or.inl ⟨by rfl, ?_⟩) hHeld ?_
          rotate_left
          · intro w' hS'
            (try dsimp only at hS')
            go_simp
            try with_reducible rfl
          try simp only [List.getElem_toArray, List.getElem_cons_succ, List.getElem_cons_zero, Act.put, List.setIfInBounds_toArray, List.set_cons_zero, List.set_cons_succ]
          refine wpAnyH_take (i := 2) (v := ?_) rfl (by kernel_rfl) (by kernel_rfl) (by kernel_rfl) (fun _ _ _ h => h) (Or.inl ⟨by rfl, ?_⟩) hHeld ?_
          rotate_left
          · intro w' hS'
            (try dsimp only at hS')
            go_simp
            try with_reducible rfl
          try simp only [List.getElem_toArray, List.getElem_cons_succ, List.getElem_cons_zero, Act.put, List.setIfInBounds_toArray, List.set_cons_zero, List.set_cons_succ]
          refine wpAnyH_take (i := 3) (v := ?_) rfl (by kernel_rfl) (by kernel_rfl) (by kernel_rfl) (fun _ _ _ h => h) (Or.inl ⟨by rfl, ?_⟩) hHeld ?_
          rotate_left
          · intro w' hS'
            (try dsimp only at hS')
            go_simp
            try with_reducible rfl
          try simp only [List.getElem_toArray, List.getElem_cons_succ, List.getElem_cons_zero, Act.put, List.setIfInBounds_toArray, List.set_cons_zero, List.set_cons_succ]
          refine wpAnyH_take (i := 4) (v := ?_) rfl (by kernel_rfl) (by kernel_rfl) (by kernel_rfl) (fun _ _ _ h => h) (Or.inl ⟨by rfl, ?_⟩) hHeld ?_
          rotate_left
          · intro w' hS'
            (try dsimp only at hS')
            go_simp
            try with_reducible rfl
          try simp only [List.getElem_toArray, List.getElem_cons_succ, List.getElem_cons_zero, Act.put, List.setIfInBounds_toArray, List.set_cons_zero, List.set_cons_succ]
          refine wpAnyH_take (i := 5) (v := ?_) rfl (by kernel_rfl) (by kernel_rfl) (by kernel_rfl) (fun _ _ _ h => h) (Or.inl ⟨by rfl, ?_⟩) hHeld ?_
          rotate_left
          · intro w' hS'
            (try dsimp only at hS')
            go_simp
            try with_reducible rfl
          try simp only [List.getElem_toArray, List.getElem_cons_succ, List.getElem_cons_zero, Act.put, List.setIfInBounds_toArray, List.set_cons_zero, List.set_cons_succ]
          refine wpAnyH_take (i := 6) (v := ?_) rfl (by kernel_rfl) (by kernel_rfl) (by kernel_rfl) (fun _ _ _ h => h) (Or.inl ⟨by rfl, ?_⟩) hHeld ?_
          rotate_left
          · intro w' hS'
            (try dsimp only at hS')
            go_simp
            try with_reducible rfl
          try simp only [List.getElem_toArray, List.getElem_cons_succ, List.getElem_cons_zero, Act.put, List.setIfInBounds_toArray, List.set_cons_zero, List.set_cons_succ]
          refine wpAnyH_take (i := 7) (v := ?_) rfl (by kernel_rfl) (by kernel_rfl) (by kernel_rfl) (fun _ _ _ h => h) (Or.inl ⟨by rfl, ?_⟩) hHeld ?_
          rotate_left
          · intro w' hS'
            (try dsimp only at hS')
            go_simp
            try with_reducible rfl
          try simp only [List.getElem_toArray, List.getElem_cons_succ, List.getElem_cons_zero, Act.put, List.setIfInBounds_toArray, List.set_cons_zero, List.set_cons_succ]
          refine wpAnyH_take (i := 8) (v := ?_) rfl (by kernel_rfl) (by kernel_rfl) (by kernel_rfl) (fun _ _ _ h => h) (Or.inl ⟨by rfl, ?_⟩) hHeld ?_
          rotate_left
          · intro w' hS'
            (try dsimp only at hS')
            go_simp
            try with_reducible rfl
          try simp only [List.getElem_toArray, List.getElem_cons_succ, List.getElem_cons_zero, Act.put, List.setIfInBounds_toArray, List.set_cons_zero, List.set_cons_succ]
          refine wpAnyH_take (i := 9) (v := ?_) rfl (by kernel_rfl) (by kernel_rfl) (by kernel_rfl) (fun _ _ _ h => h) (Or.inl ⟨by rfl, ?_⟩) hHeld ?_
          rotate_left
          · intro w' hS'
            (try dsimp only at hS')
            go_simp
            try with_reducible rfl
          try simp only [List.getElem_toArray, List.getElem_cons_succ, List.getElem_cons_zero, Act.put, List.setIfInBounds_toArray, List.set_cons_zero, List.set_cons_succ]
          refine wpAnyH_take (i := 10) (v := ?_) rfl (by kernel_rfl) (by kernel_rfl) (by kernel_rfl) (fun _ _ _ h => h) (Or.inl ⟨by rfl, ?_⟩) hHeld ?_
          rotate_left
          · intro w' hS'
            (try dsimp only at hS')
            go_simp
            try with_reducible rfl
          try simp only [List.getElem_toArray, List.getElem_cons_succ, List.getElem_cons_zero, Act.put, List.setIfInBounds_toArray, List.set_cons_zero, List.set_cons_succ]
          refine wpAnyH_take (i := 11) (v := ?_) rfl (by kernel_rfl) (by kernel_rfl) (by kernel_rfl) (fun _ _ _ h => h) (Or.inl ⟨by rfl, ?_⟩) hHeld ?_
          rotate_left
          · intro w' hS'
            (try dsimp only at hS')
            go_simp
            try with_reducible rfl
          try simp only [List.getElem_toArray, List.getElem_cons_succ, List.getElem_cons_zero, Act.put, List.setIfInBounds_toArray, List.set_cons_zero, List.set_cons_succ]
          refine wpAnyH_take (i := 12) (v := _) rfl (by kernel_rfl) (by kernel_rfl) (by kernel_rfl) (fun _ _ _ h => h) (yieldsIf_eqlRf (S := fun W => W.cell? ⟨rb, 0, none⟩ = some (.slice (some ⟨b, off, none⟩) n c) ∧ W.cell? ⟨b, off + i * 3 + 2, none⟩ = some (.slice (some ⟨tb, toff, none⟩) m tc) ∧ W.cell? ⟨tb, toff + k * 2, none⟩ = some (.string t.1) ∧ W.cell? ⟨tb, toff + k * 2 + 1, none⟩ = some (.int .i64 t.2) ∧ W.cell? ⟨px, 0, none⟩ = some (.string v.1) ∧ W.cell? ⟨px, 1, none⟩ = some (.int .i64 v.2)) (by rfl) (.tmp 40) (.tmp 41) rfl t v rfl rfl e HEE.out) hHeld ?_
          try simp only [List.getElem_toArray, List.getElem_cons_succ, List.getElem_cons_zero, Act.put, List.setIfInBounds_toArray, List.set_cons_zero, List.set_cons_succ]
          refine wpAnyH_done (by kernel_rfl) ?_ _
          obtain ⟨wy, hwy⟩ : ∃ y, y = wx.drew := ⟨wx.drew, rfl⟩
          have HBY : Hid (Below w1.heap.size w1 wy) := by rw [hwy]; exact drewN_below HBR.out 1
          have HOY : Hid (OwnRf wy u5 (frK D v i x k)) := by rw [hwy]; exact HOWN.out.later (drewN_below (Below.refl _ wx) 1)
          rw [← hwy]
          clear hwy hS0 HOWN HBR
          have hc0 : wy.cell? ⟨rb, 0, none⟩ = some (.slice (some ⟨b, off, none⟩) n c) := (RowAt.below HBOX.out HBY.out).cell 0
          cases e with
          | true =>
            have HFK : Hid (frK D v i x k = behd (D.take i) v ∧ frK D v i x (k + 1) = behd (D.take i) v ++ [x.1]) := by
              obtain ⟨h, e⟩ := HT.out
              exact frK_hit h HND.out (by rw [e]; exact of_decide_eq_true HEE.out)
            obtain ⟨H, hH⟩ : ∃ y, behd (D.take i) v = y := ⟨_, rfl⟩
            have HSZ : Hid (H.length ≤ 1000000) := by
              rw [← hH]
              exact Nat.le_trans (behd_take_len D v i) (by rw [HN.out]; omega)
            have HFK2 : Hid (frK D v i x (k + 1) = H ++ [x.1]) := by rw [← hH]; exact HFK.out.2
            have HOZ : Hid (OwnRf wy u5 H) := by rw [← hH, ← HFK.out.1]; exact HOY.out
            have HCX := Lib.hid (HROW.out wy HBY.out).1
            obtain ⟨y, hy⟩ : ∃ y, x.1 = y := ⟨_, rfl⟩
            rw [hy] at HCX HFK2
            obtain ⟨G, hG⟩ : ∃ y, wy.heap.size = y := ⟨_, rfl⟩
            obtain ⟨w5, hw5⟩ : ∃ z, wy.alloc (.cells #[.string y.1, .int .i64 y.2] 25) = z := ⟨_, rfl⟩
            have hb5 : Below wy.heap.size wy w5 := by rw [← hw5]; exact below_alloc _
            have HB5 := Lib.hid (below_trans HBY.out hb5)
            have HC5 : Hid (CellsAt w5 rfC G 0 y) := by rw [← hw5, ← hG]; exact RowAt.rf (RowAt.new _ _ _)
            have hG5 : G < w5.heap.size := by rw [← hw5, ← hG]; simp
            have HO5 := Lib.hid (HOZ.out.later hb5)
            clear hH hy hb5 HFK HOZ HOY
            go_wp2_with (first
              | (refine step_loadRf rfl (.tmp 50) rfl HCX.out rfl ?_)
              | (refine step_pushRf eltRf rfl (.tmp 43) (.tmp 52) rfl _ H rfl G y rfl HO5.out HC5.out hG5 HSZ.out ?_; intro v6 w6 ho6 hg6 hn6; have HO6 := Lib.hid ho6; have HG6 := Lib.hid hg6; have HN6 := Lib.hid hn6; clear ho6 hg6 hn6))
            refine ⟨⟨k + 1, by go_num, hkm, by rw [HFK2.out]; exact HO6.out, fun g hg => ?_, below_grown HB5.out HG6.out (by have := HB5.out.size; omega) HLOW.out⟩, by show m - ((k : Int) + 1).toNat < m - (k : Int).toNat; omega⟩
            rcases HN6.out g hg with h | h
            · exact HLOW.out g h
            · have := HB5.out.size
              omega
          | false =>
            have HFK : Hid (frK D v i x (k + 1) = frK D v i x k) := by
              obtain ⟨h, e⟩ := HT.out
              exact frK_miss h (by rw [e]; exact of_decide_eq_false HEE.out)
            go_wp2
            exact ⟨⟨k + 1, by go_num, hkm, by rw [HFK.out]; exact HOY.out, HLOW.out, HBY.out⟩, by show m - ((k : Int) + 1).toNat < m - (k : Int).toNat; omega⟩
        · have hk' : k = m := by omega
          subst hk'
          have HE : Hid (OwnRf wx u5 (behd (D.take (i + 1)) v)) := by
            obtain ⟨h, e⟩ := HX.out
            have h2 := HOWN.out
            rw [← HM.out, frK_end h e] at h2
            exact h2
          go_wp2
          exact ⟨⟨i + 1, by go_num, hin, HE.out, HLOW.out, HBR.out⟩, by show n - ((i : Int) + 1).toNat < n - (i : Int).toNat; omega⟩
    · have hi' : i = n := by omega
      subst hi'
      have HO : Hid (OwnRf wr u5 (behd D v)) := by
        have h2 := HOWN.out
        rw [← HN.out, List.take_length] at h2
        exact h2
      go_wp2
      exact HK.out _ _ HO.out HLOW.out HBR.out
end Go.Proofs.Ytcakdjnnfonijaa
