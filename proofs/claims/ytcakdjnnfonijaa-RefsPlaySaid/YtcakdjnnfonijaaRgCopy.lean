/- Copy of the program's graph. -/
import Derived.Test.YtcakdjnnfonijaaRgCpP
namespace Go.Proofs.Ytcakdjnnfonijaa
open Go.RowKit

set_option maxRecDepth 100000 in
set_option maxHeartbeats 2000000 in
theorem gnewc_any (w : World) (D : List (Rf × List Rf)) : Calls Try.prog 10 #[] w fun e w' => ∃ gb a1 a2, e = .returned (.pointer (some ⟨gb, 0, none⟩)) ∧ CpA w w' D gb a1 a2 [] [] (fun _ => none) (fun _ => none) := by
  obtain ⟨g, hg⟩ : ∃ y, w.heap.size = y := ⟨_, rfl⟩
  obtain ⟨w1, hw1⟩ : ∃ y, w.alloc (.map #[] 0) = y := ⟨_, rfl⟩
  obtain ⟨w2, hw2⟩ : ∃ y, w1.alloc (.map #[] 0) = y := ⟨_, rfl⟩
  obtain ⟨w3, hw3⟩ : ∃ y, w2.alloc (.cells #[.map (some g), .map (some (g + 1))] 69) = y := ⟨_, rfl⟩
  have s1 : w1.heap.size = g + 1 := by rw [← hw1]; simp [hg]
  have s2 : w2.heap.size = g + 2 := by rw [← hw2]; simp [s1]
  have s3 : w3.heap.size = g + 3 := by rw [← hw3]; simp [s2]
  have b1 : Below w.heap.size w w1 := by rw [← hw1]; exact below_alloc _
  have b2 : Below w1.heap.size w1 w2 := by rw [← hw2]; exact below_alloc _
  have b3 : Below w2.heap.size w2 w3 := by rw [← hw3]; exact below_alloc _
  have HE : Hid (∃ gb a1 a2, Ending.returned (.pointer (some ⟨g + 2, 0, none⟩)) = .returned (.pointer (some ⟨gb, 0, none⟩)) ∧ CpA w w3 D gb a1 a2 [] [] (fun _ => none) (fun _ => none)) := by
    have m1 : MapR w1 g rfV (fun _ => none) := by rw [← hw1, ← hg]; exact MapR.new w
    have m2 : MapR w2 (g + 1) rfV (fun _ => none) := by rw [← hw2, ← s1]; exact MapR.new w1
    refine ⟨g + 2, g, g + 1, rfl, ⟨below_trans b1 (below_trans b2 b3), ?_, (m1.same (b2.block g (by omega))).same (b3.block g (by omega)), m2.same (b3.block (g + 1) (by omega)), fun _ _ => rfl, fun u hu => absurd hu (by simp), fun _ _ => rfl, fun u hu => absurd hu (by simp), (fun t t' m h => by cases h), by omega, by omega, by omega, by omega⟩⟩
    rw [← hw3, ← s2]; exact RowAt.new _ _ _
  clear b1 b2 b3 s3
  go_enter Try.func10, Try.ntmps10
  go_wp2_with (first
    | (refine step_makeMapM rfl 54 rfl ?_; intro w1' hw1'; rw [hw1] at hw1'; rw [hg]; subst hw1')
    | (refine step_makeMapM rfl 67 rfl ?_; intro w2' hw2'; rw [hw2] at hw2'; rw [s1]; subst hw2'))
  go_ret
  obtain ⟨gb, a1, a2, h1, h2⟩ := HE.out
  exact ⟨gb, h1, a1, a2, h2⟩
theorem it_ne {κ κ2 : Type} [DecidableEq κ] [DecidableEq κ2] {w : World} {r m a : Nat} {kv : κ → Value} {kv2 : κ2 → Value} {f : κ → Option Value} {f2 : κ2 → Option Value} {S : List κ} (h : ItF w r m kv f S) (hm : MapR w a kv2 f2) : ¬ r = a := fun e => by
  subst e
  obtain ⟨es, c, seen, c0, h1, -⟩ := h
  obtain ⟨es2, c2, h2, -⟩ := hm
  rw [h1] at h2; cases h2
theorem it_nrow {κ : Type} [DecidableEq κ] {w : World} {r m b : Nat} {kv : κ → Value} {f : κ → Option Value} {S : List κ} {t : TypeId} {cs : Array Value} (h : ItF w r m kv f S) (hb : RowAt w b t cs) : ¬ b = r := fun e => by
  subst e
  obtain ⟨es, c, seen, c0, h1, -⟩ := h
  rw [show w.heap[b]? = _ from hb] at h1; cases h1
theorem it_nown {κ : Type} [DecidableEq κ] {w : World} {r m : Nat} {kv : κ → Value} {f : κ → Option Value} {S : List κ} {s : Value} {l : List Rf} (h : ItF w r m kv f S) (ho : OwnRf w s l) : ∀ p, s.ownBlock = some p → ¬ p = r := fun p hp e => by
  subst e
  obtain ⟨es, c, seen, c0, h1, -⟩ := h
  rcases ho.2 with ⟨e2, _⟩ | ⟨g, cap, cur, e2, _, hh, _⟩
  · rw [e2] at hp; simp [Value.ownBlock] at hp
  · rw [e2] at hp
    have : g = p := Option.some.inj hp
    subst this
    rw [h1] at hh; cases hh
/-- The iterator goes on: the copy stays. -/
theorem CpA.turn {w0 w w' : World} {D : List (Rf × List Rf)} {ob a1 a2 r m : Nat} {S1 S2 S : List Rf} {fT1 fF1 f : Rf → Option Value} (h : CpA w0 w D ob a1 a2 S1 S2 fT1 fF1) (it : ItF w r m rfV f S) (hr : w0.heap.size ≤ r) (hk : KeepA (fun x => x = r) w w') : CpA w0 w' D ob a1 a2 S1 S2 fT1 fF1 := by
  refine h.keep hk (h.below.trans (hk.below h.below.size fun k e => by rw [e]; exact hr)) (it_nrow it h.box) (fun e => it_ne it h.mt e.symm) (fun e => it_ne it h.mf e.symm) (fun s l ho _ p hp => it_nown it ho p hp) (fun u m2 hu e => ?_)
  by_cases hS : u ∈ S2
  · obtain ⟨m3, q1, q2, -⟩ := h.fs u hS
    rw [q1] at hu
    simp only [Option.some.injEq, Value.map.injEq] at hu
    subst hu
    exact it_ne it q2 e.symm
  · rw [h.fn u hS] at hu; cases hu
set_option maxRecDepth 100000 in
set_option maxHeartbeats 4000000 in
theorem gcopy_any (w : World) (TT : Nat → Prop) (gb : Nat) (D : List (Rf × List Rf)) (h : GrS w TT gb D) (hts : ∀ y ∈ D, y.2.length ≤ 1000) :
    Calls Try.prog 23 #[.pointer (some ⟨gb, 0, none⟩)] w fun e w' => ∃ ob, e = .returned (.pointer (some ⟨ob, 0, none⟩)) ∧ GrS w' (Span w w') ob D ∧ Below w.heap.size w w' := by
  obtain ⟨m1, m2, fT, fF, hg⟩ := h
  have HG := Lib.hid hg
  have HTS := Lib.hid hts
  have HNO : Hid (Calls Try.prog 37 #[.pointer (some ⟨gb, 0, none⟩)] w fun e w' => e = .returned (.bool false) ∧ w = w') := gnone_any w gb m1 hg.cells.1
  have HNW := Lib.hid (gnewc_any w D)
  obtain ⟨K, hK⟩ : ∃ K, (fun (e : Ending) (w' : World) => ∃ ob, e = .returned (.pointer (some ⟨ob, 0, none⟩)) ∧ GrS w' (Span w w') ob D ∧ Below w.heap.size w w') = K := ⟨_, rfl⟩
  rw [hK]
  have HK : Hid (∀ ob a1 a2 S1 S2 fT1 fF1 W, CpA w W D ob a1 a2 S1 S2 fT1 fF1 → (∀ y ∈ D, y.1 ∈ S1) → (∀ t, behd D t ≠ [] → t ∈ S2) → K (.returned (.pointer (some ⟨ob, 0, none⟩))) W) := Lib.hid fun ob a1 a2 S1 S2 fT1 fF1 W h1 h2 h3 => by
    rw [← hK]
    exact ⟨ob, rfl, ⟨a1, a2, _, _, h1.done h2 h3⟩, h1.below⟩
  clear hg hts hK
  go_enter Try.func23, Try.ntmps23
  go_upto_region 4 with (first
    | (go_at_call 37; refine HNO.out.mono ?_; rintro _ _ ⟨rfl, rfl⟩)
    | (go_at_call 10; refine HNW.out.mono ?_; rintro _ w2 ⟨ob, a1, a2, rfl, hc2⟩; have HC2 := Lib.hid hc2; clear hc2))
  have hg2 := HG.out.later HC2.out.below
  have hc0 : w2.cell? ⟨gb, 0, none⟩ = some (.map (some m1)) := hg2.cells.1
  obtain ⟨w3, hrun, hb3, hit⟩ := run_range_F (P := Try.prog) Try.underlying54 hg2.mt
  obtain ⟨r, hr⟩ : ∃ y, w2.heap.size = y := ⟨_, rfl⟩
  rw [hr] at hrun hit
  have HRUN := Lib.hid hrun
  have HRL : Hid (w.heap.size ≤ r) := by show _ ≤ _; rw [← hr]; exact HC2.out.below.size
  have H0 : Hid (∃ S1 fT1, CpA w w3 D ob a1 a2 S1 [] fT1 (fun _ => none) ∧ ItF w3 r m1 rfV fT S1) := ⟨[], _, HC2.out.later hb3, hit⟩
  clear hrun hb3 hit hg2
  go_wp2_with (refine step_range rfl 54 (.tmp 14) rfl _ rfl _ _ HRUN.out ?_)
  simp only [Act.put, List.setIfInBounds_toArray, List.set_cons_zero, List.set_cons_succ]
  go_loopw [16] (fun _ wr => ∃ S1 fT1, CpA w wr D ob a1 a2 S1 [] fT1 (fun _ => none) ∧ ItF wr r m1 rfV fT S1) (fun _ wr => itLeft wr r)
  case atStart => exact H0.out
  case round =>
    clear H0 HRUN HC2 hc0
    obtain ⟨S1, fT1, hcp, hit⟩ := hrel
    rcases hit.next (P := Try.prog) keyRf.inj 0 with ⟨hall, hrun⟩ | ⟨k, z, wk, hfk, hkS, hrun, hkeep, hit2, hlt2, hent⟩
    · have HRUN := Lib.hid hrun
      have HALL : Hid (∀ y ∈ D, y.1 ∈ S1) := Lib.hid fun y hy => by
        cases hf : fT y.1 with
        | none => exact absurd (List.mem_map_of_mem hy) (HG.out.toN _ hf)
        | some s => exact hall _ s hf
      have HCP := Lib.hid hcp
      clear hall hrun hcp hit
      have hg2 := HG.out.later HCP.out.below
      have hc0 : wr.cell? ⟨gb, 1, none⟩ = some (.map (some m2)) := hg2.cells.2
      obtain ⟨w3', hrun, hb3, hit⟩ := run_range_F (P := Try.prog) Try.underlying67 hg2.mf
      obtain ⟨r2, hr2⟩ : ∃ y, wr.heap.size = y := ⟨_, rfl⟩
      rw [hr2] at hrun hit
      have HRUN2 := Lib.hid hrun
      have HRL2 : Hid (w.heap.size ≤ r2) := by show _ ≤ _; rw [← hr2]; exact HCP.out.below.size
      have H0 : Hid (∃ S2 fF1, CpA w w3' D ob a1 a2 S1 S2 fT1 fF1 ∧ ItF w3' r2 m2 rfV fF S2) := ⟨[], _, HCP.out.later hb3, hit⟩
      clear hrun hb3 hit hg2
      go_wp2_with (first
        | (refine step_next rfl (.tmp 15) rfl _ rfl _ _ HRUN.out ?_)
        | (refine step_range rfl 67 (.tmp 31) rfl _ rfl _ _ HRUN2.out ?_))
      simp only [Act.put, List.setIfInBounds_toArray, List.set_cons_zero, List.set_cons_succ]
      go_loopw [33] (fun _ wq => ∃ S2 fF1, CpA w wq D ob a1 a2 S1 S2 fT1 fF1 ∧ ItF wq r2 m2 rfV fF S2) (fun _ wq => itLeft wq r2)
      case atStart => exact H0.out
      case round =>
        clear H0 HRUN HRUN2 HCP hc0
        obtain ⟨S2, fF1, hcp, hit⟩ := hrel
        rename World => wq
        rcases hit.next (P := Try.prog) keyRf.inj 0 with ⟨hall, hrun⟩ | ⟨k, z, wk, hfk, hkS, hrun, hkeep, hit2, hlt2, hent⟩
        · have HRUN := Lib.hid hrun
          have HFIN := Lib.hid (HK.out ob a1 a2 S1 S2 fT1 fF1 wq hcp HALL.out fun t ht => by
            cases hf : fF t with
            | none => exact absurd (HG.out.frN t hf) ht
            | some s => exact hall t s hf)
          clear hall hrun hcp hit
          go_wp2_with (refine step_next rfl (.tmp 32) rfl _ rfl _ _ HRUN.out ?_)
          exact HFIN.out
        · obtain ⟨m3, rfl, hm3, -⟩ := HG.out.frS k z hfk
          have hcpk := hcp.turn hit HRL2.out hkeep
          obtain ⟨bk, hbk⟩ : ∃ q, wk.heap.size = q := ⟨_, rfl⟩
          obtain ⟨w5, hw5⟩ : ∃ q, wk.alloc (.cells #[.string k.1, .int .i64 k.2] 25) = q := ⟨_, rfl⟩
          have hb5 : Below wk.heap.size wk w5 := by rw [← hw5]; exact below_alloc _
          have HBK : Hid (RowAt w5 bk 25 #[.string k.1, .int .i64 k.2]) := by rw [← hw5, ← hbk]; exact RowAt.new _ _ _
          have HCP5 := Lib.hid (hcpk.later hb5)
          have HIT5 := Lib.hid (hit2.later hb5)
          have hm5 : MapR w5.drew m3 rfV (refF D k) := hm3.same ((drewN_below HCP5.out.below 1).block m3 hm3.lt)
          obtain ⟨mc, hmc⟩ : ∃ q, w5.heap.size = q := ⟨_, rfl⟩
          have HCL : Hid (Calls Try.prog 45 #[.map (some m3)] w5.drew fun e w' => e = .returned (.map (some mc)) ∧ MapR w' mc rfV (refF D k) ∧ Below w5.drew.heap.size w5.drew w') := by
            rw [← hmc]
            exact (rclone_any hm5).mono fun e w' ⟨q1, q2, q3, _⟩ => ⟨q1, q2, q3⟩
          have HS7 : Hid (∀ W, Below w5.heap.size w5 W → W.cell? ⟨ob, 1, none⟩ = some (.map (some a2)) ∧ W.cell? ⟨bk, 0, none⟩ = some (.string k.1) ∧ W.cell? ⟨bk, 1, none⟩ = some (.int .i64 k.2)) := Lib.hid fun W hW => by
            have r1 := HCP5.out.later hW
            have r2 := RowAt.below HBK.out hW
            exact ⟨r1.box.cell 1, r2.cell 0, r2.cell 1⟩
          have HRUN := Lib.hid hrun
          have HENT := Lib.hid hent
          have HLT := Lib.hid hlt2
          have HKS := Lib.hid hkS
          unfold rfV at HRUN HENT
          clear hfk hkS hrun hkeep hit2 hlt2 hent hcp hit hm3 hcpk hb5 hm5
          go_upto_region 11 with (first
            | (refine step_next rfl (.tmp 32) rfl _ rfl _ _ HRUN.out ?_)
            | (refine step_entry rfl (.tmp 32) rfl _ rfl _ _ HENT.out ?_))
          refine wp_region_held_drew (S := fun W => W.cell? ⟨ob, 1, none⟩ = some (.map (some a2)) ∧ W.cell? ⟨bk, 0, none⟩ = some (.string k.1) ∧ W.cell? ⟨bk, 1, none⟩ = some (.int .i64 k.2)) (by kernel_rfl) (HS7.out w5.drew (drewN_below (Below.refl _ w5) 1)) (fun hHeld => ?_)
          refine wpAnyH_take (i := 0) (v := ?_) rfl (by kernel_rfl) (by kernel_rfl) (by kernel_rfl) (fun _ _ _ h => h) (Or.inl ⟨by rfl, ?_⟩) hHeld ?_
          rotate_left
          · intro w' hS'
            (try dsimp only at hS')
            go_simp
            try with_reducible rfl
          try simp only [List.getElem_toArray, List.getElem_cons_zero, Act.put, List.setIfInBounds_toArray, List.set_cons_zero, List.set_cons_succ]
          refine wpAnyH_take (i := 1) (v := ?_) rfl (by kernel_rfl) (by kernel_rfl) (by kernel_rfl) (fun _ _ _ h => h) (Or.inl ⟨by rfl, ?_⟩) hHeld ?_
          rotate_left
          · intro w' hS'
            (try dsimp only at hS')
            go_simp
            try with_reducible rfl
          try simp only [List.getElem_toArray, List.getElem_cons_succ, List.getElem_cons_zero, Act.put, List.setIfInBounds_toArray, List.set_cons_zero, List.set_cons_succ]
          refine wpAnyH_take (i := 2) (v := ?_) rfl (by kernel_rfl) (by kernel_rfl) (by kernel_rfl) (fun _ _ _ h => h) (Or.inl ⟨by rfl, ?_⟩) hHeld ?_
          rotate_left
          · intro w' hS'
            (try dsimp only at hS')
            go_simp
            try with_reducible rfl
          try simp only [List.getElem_toArray, List.getElem_cons_succ, List.getElem_cons_zero, Act.put, List.setIfInBounds_toArray, List.set_cons_zero, List.set_cons_succ]
          refine wpAnyH_take (i := 3) (v := ?_) rfl (by kernel_rfl) (by kernel_rfl) (by kernel_rfl) (fun _ _ _ h => h) (Or.inl ⟨by rfl, ?_⟩) hHeld ?_
          rotate_left
          · intro w' hS'
            (try dsimp only at hS')
            go_simp
            try with_reducible rfl
          try simp only [List.getElem_toArray, List.getElem_cons_succ, List.getElem_cons_zero, Act.put, List.setIfInBounds_toArray, List.set_cons_zero, List.set_cons_succ]
          refine wpAnyH_take (i := 4) (v := ?_) rfl (by kernel_rfl) (by kernel_rfl) (by kernel_rfl) (fun _ _ _ h => h) (Or.inl ⟨by rfl, ?_⟩) hHeld ?_
          rotate_left
          · intro w' hS'
            (try dsimp only at hS')
            go_simp
            try with_reducible rfl
          try simp only [List.getElem_toArray, List.getElem_cons_succ, List.getElem_cons_zero, Act.put, List.setIfInBounds_toArray, List.set_cons_zero, List.set_cons_succ]
          refine wpAnyH_take (i := 5) (v := ?_) rfl (by kernel_rfl) (by kernel_rfl) (by kernel_rfl) (fun _ _ _ h => h) (Or.inl ⟨by rfl, ?_⟩) hHeld ?_
          rotate_left
          · intro w' hS'
            (try dsimp only at hS')
            go_simp
            try with_reducible rfl
          try simp only [List.getElem_toArray, List.getElem_cons_succ, List.getElem_cons_zero, Act.put, List.setIfInBounds_toArray, List.set_cons_zero, List.set_cons_succ]
          refine wpAnyH_ready (rs := [6]) (by kernel_rfl) (by simp) (AllReadyH.cons rfl (fun K hK => ?_) AllReadyH.nil)
          go_simp
          go_wp2_with (go_at_call 45; refine HCL.out.mono ?_; rintro _ w6 ⟨rfl, q1, q3⟩; have Q1 := Lib.hid q1; have Q3 := Lib.hid (below_trans (drewN_below (Below.refl _ w5) 1) q3); clear q1 q3)
          refine hK.out _ _ (HS7.out w6 Q3.out) (fun hHeld => ?_)
          clear hK K
          try simp only [List.getElem_toArray, List.getElem_cons_succ, List.getElem_cons_zero, Act.put, List.setIfInBounds_toArray, List.set_cons_zero, List.set_cons_succ]
          refine wpAnyH_ready (rs := [7]) (by kernel_rfl) (by simp) (AllReadyH.cons rfl (fun K hK => ?_) AllReadyH.nil)
          rw [if_pos (by rfl)]
          refine wp_updateM keyRf Try.underlying67 (.tmp 41) (.tmp 42) (.tmp 44) rfl rfl (HCP5.out.later Q3.out).mf k (.map (some mc)) rfl rfl rfl ?_
          intro w7 g7 hm7
          have HN : Hid (∃ S2 fF1, CpA w w7 D ob a1 a2 S1 S2 fT1 fF1 ∧ ItF w7 r2 m2 rfV fF S2) := by
            have c5 := HCP5.out
            have c6 := c5.later Q3.out
            have c7 := c6.putFrom HKS.out Q1.out (by rw [← hmc]; exact c5.below.size) (fun u hu => by
              by_cases hS : u ∈ S2
              · obtain ⟨m4, q1, q2, -⟩ := c5.fs u hS
                rw [q1] at hu
                simp only [Option.some.injEq, Value.map.injEq] at hu
                have := q2.lt
                omega
              · rw [c5.fn u hS] at hu; cases hu) (fun e => by have := c5.mt.lt; omega) (fun e => by have := c5.mf.lt; omega) g7 hm7
            have i6 := HIT5.out.1.later Q3.out
            exact ⟨_, _, c7, (i6.1.same (g7.block r2 i6.1.lt.1 fun e => it_ne i6.1 c6.mf (Option.some.inj e)) (g7.block m2 i6.1.lt.2.1 fun e => by have h1 := HG.out.mf.lt; have h2 := c6.lows.2.2; have := Option.some.inj e; omega)).1⟩
          have HN2 : Hid (itLeft w7 r2 < itLeft wq r2) := by
            have c6 := HCP5.out.later Q3.out
            have i6 := HIT5.out.1.later Q3.out
            have := (i6.1.same (g7.block r2 i6.1.lt.1 fun e => it_ne i6.1 c6.mf (Option.some.inj e)) (g7.block m2 i6.1.lt.2.1 fun e => by have h1 := HG.out.mf.lt; have h2 := c6.lows.2.2; have := Option.some.inj e; omega)).2
            show _ < _
            rw [this, i6.2, HIT5.out.2]
            exact HLT.out
          have hS7 : w7.cell? ⟨ob, 1, none⟩ = some (.map (some a2)) ∧ w7.cell? ⟨bk, 0, none⟩ = some (.string k.1) ∧ w7.cell? ⟨bk, 1, none⟩ = some (.int .i64 k.2) := by
            obtain ⟨_, _, c7, -⟩ := HN.out
            have hk := row_keep (keep_grown g7) (RowAt.below HBK.out Q3.out) (fun e => row_map_ne (RowAt.below HBK.out Q3.out) (HCP5.out.later Q3.out).mf e)
            exact ⟨c7.box.cell 1, hk.cell 0, hk.cell 1⟩
          clear g7 hm7
          refine hK.out _ _ hS7 (fun hHeld => ?_)
          clear hK K
          try simp only [List.getElem_toArray, List.getElem_cons_succ, List.getElem_cons_zero, Act.put, List.setIfInBounds_toArray, List.set_cons_zero, List.set_cons_succ]
          refine wpAnyH_done (by kernel_rfl) ?_ _
          go_wp2
          exact ⟨HN.out, HN2.out⟩
    · obtain ⟨y, hy, hyk, hown, -⟩ := HG.out.toS k z hfk
      obtain ⟨sa, sc, rfl, -, -, hrd⟩ := hown.rd
      have hcpk := hcp.turn hit HRL.out hkeep
      obtain ⟨bk, hbk⟩ : ∃ q, wk.heap.size = q := ⟨_, rfl⟩
      obtain ⟨w5, hw5⟩ : ∃ q, wk.alloc (.cells #[.string k.1, .int .i64 k.2] 25) = q := ⟨_, rfl⟩
      have hb5 : Below wk.heap.size wk w5 := by rw [← hw5]; exact below_alloc _
      have HBK : Hid (RowAt w5 bk 25 #[.string k.1, .int .i64 k.2]) := by rw [← hw5, ← hbk]; exact RowAt.new _ _ _
      have HCP5 := Lib.hid (hcpk.later hb5)
      have HIT5 := Lib.hid (hit2.later hb5)
      obtain ⟨mm, hmm⟩ : ∃ q, y.2.length = q := ⟨_, rfl⟩
      have hm1000 : mm ≤ 1000 := by rw [← hmm]; exact HTS.out y hy
      have HCL : Hid (Calls Try.prog 38 #[.slice sa mm sc] w5.drew fun e w' => ∃ v, e = .returned v ∧ OwnRf w' v y.2 ∧ (∀ g, v.ownBlock = some g → w5.drew.heap.size ≤ g) ∧ Below w5.drew.heap.size w5.drew w') := clone_any sa mm sc y.2 w5.drew hmm (by omega) (hrd.later (drewN_below HCP5.out.below 1))
      have HS7 : Hid (∀ W, Below w5.heap.size w5 W → W.cell? ⟨ob, 0, none⟩ = some (.map (some a1)) ∧ W.cell? ⟨bk, 0, none⟩ = some (.string k.1) ∧ W.cell? ⟨bk, 1, none⟩ = some (.int .i64 k.2)) := Lib.hid fun W hW => by
        have r1 := HCP5.out.later hW
        have r2 := RowAt.below HBK.out hW
        exact ⟨r1.box.cell 0, r2.cell 0, r2.cell 1⟩
      have HRUN := Lib.hid hrun
      have HENT := Lib.hid hent
      have HLT := Lib.hid hlt2
      have HY : Hid (y ∈ D ∧ y.1 = k) := ⟨hy, hyk⟩
      rw [hmm] at HRUN HENT
      unfold rfV at HRUN HENT
      clear hfk hkS hrun hkeep hit2 hlt2 hent hcp hit hy hyk hown hrd hcpk hb5 hmm
      go_upto_region 7 with (first
        | (refine step_next rfl (.tmp 15) rfl _ rfl _ _ HRUN.out ?_)
        | (refine step_entry rfl (.tmp 15) rfl _ rfl _ _ HENT.out ?_))
      refine wp_region_held_drew (S := fun W => W.cell? ⟨ob, 0, none⟩ = some (.map (some a1)) ∧ W.cell? ⟨bk, 0, none⟩ = some (.string k.1) ∧ W.cell? ⟨bk, 1, none⟩ = some (.int .i64 k.2)) (by kernel_rfl) (HS7.out w5.drew (drewN_below (Below.refl _ w5) 1)) (fun hHeld => ?_)
      refine wpAnyH_take (i := 0) (v := ?_) rfl (by kernel_rfl) (by kernel_rfl) (by kernel_rfl) (fun _ _ _ h => h) (Or.inl ⟨by rfl, ?_⟩) hHeld ?_
      rotate_left
      · intro w' hS'
        (try dsimp only at hS')
        go_simp
        try with_reducible rfl
      try simp only [List.getElem_toArray, List.getElem_cons_zero, Act.put, List.setIfInBounds_toArray, List.set_cons_zero, List.set_cons_succ]
      refine wpAnyH_take (i := 1) (v := ?_) rfl (by kernel_rfl) (by kernel_rfl) (by kernel_rfl) (fun _ _ _ h => h) (Or.inl ⟨by rfl, ?_⟩) hHeld ?_
      rotate_left
      · intro w' hS'
        (try dsimp only at hS')
        go_simp
        try with_reducible rfl
      try simp only [List.getElem_toArray, List.getElem_cons_succ, List.getElem_cons_zero, Act.put, List.setIfInBounds_toArray, List.set_cons_zero, List.set_cons_succ]
      refine wpAnyH_take (i := 2) (v := ?_) rfl (by kernel_rfl) (by kernel_rfl) (by kernel_rfl) (fun _ _ _ h => h) (Or.inl ⟨by rfl, ?_⟩) hHeld ?_
      rotate_left
      · intro w' hS'
        (try dsimp only at hS')
        go_simp
        try with_reducible rfl
      try simp only [List.getElem_toArray, List.getElem_cons_succ, List.getElem_cons_zero, Act.put, List.setIfInBounds_toArray, List.set_cons_zero, List.set_cons_succ]
      refine wpAnyH_take (i := 3) (v := ?_) rfl (by kernel_rfl) (by kernel_rfl) (by kernel_rfl) (fun _ _ _ h => h) (Or.inl ⟨by rfl, ?_⟩) hHeld ?_
      rotate_left
      · intro w' hS'
        (try dsimp only at hS')
        go_simp
        try with_reducible rfl
      try simp only [List.getElem_toArray, List.getElem_cons_succ, List.getElem_cons_zero, Act.put, List.setIfInBounds_toArray, List.set_cons_zero, List.set_cons_succ]
      refine wpAnyH_take (i := 4) (v := ?_) rfl (by kernel_rfl) (by kernel_rfl) (by kernel_rfl) (fun _ _ _ h => h) (Or.inl ⟨by rfl, ?_⟩) hHeld ?_
      rotate_left
      · intro w' hS'
        (try dsimp only at hS')
        go_simp
        try with_reducible rfl
      try simp only [List.getElem_toArray, List.getElem_cons_succ, List.getElem_cons_zero, Act.put, List.setIfInBounds_toArray, List.set_cons_zero, List.set_cons_succ]
      refine wpAnyH_take (i := 5) (v := ?_) rfl (by kernel_rfl) (by kernel_rfl) (by kernel_rfl) (fun _ _ _ h => h) (Or.inl ⟨by rfl, ?_⟩) hHeld ?_
      rotate_left
      · intro w' hS'
        (try dsimp only at hS')
        go_simp
        try with_reducible rfl
      try simp only [List.getElem_toArray, List.getElem_cons_succ, List.getElem_cons_zero, Act.put, List.setIfInBounds_toArray, List.set_cons_zero, List.set_cons_succ]
      refine wpAnyH_ready (rs := [6]) (by kernel_rfl) (by simp) (AllReadyH.cons rfl (fun K hK => ?_) AllReadyH.nil)
      go_simp
      go_wp2_with (go_at_call 38; refine HCL.out.mono ?_; rintro _ w6 ⟨cv, rfl, q1, q2, q3⟩; have Q1 := Lib.hid q1; have Q2 := Lib.hid q2; have Q3 := Lib.hid (below_trans (drewN_below (Below.refl _ w5) 1) q3); clear q1 q2 q3)
      refine hK.out _ _ (HS7.out w6 Q3.out) (fun hHeld => ?_)
      clear hK K
      try simp only [List.getElem_toArray, List.getElem_cons_succ, List.getElem_cons_zero, Act.put, List.setIfInBounds_toArray, List.set_cons_zero, List.set_cons_succ]
      refine wpAnyH_ready (rs := [7]) (by kernel_rfl) (by simp) (AllReadyH.cons rfl (fun K hK => ?_) AllReadyH.nil)
      rw [if_pos (by rfl)]
      refine wp_updateM keyRf Try.underlying54 (.tmp 24) (.tmp 25) (.tmp 27) rfl rfl (HCP5.out.later Q3.out).mt k cv rfl rfl rfl ?_
      intro w7 g7 hm7
      have HN : Hid (∃ S1 fT1, CpA w w7 D ob a1 a2 S1 [] fT1 (fun _ => none) ∧ ItF w7 r m1 rfV fT S1) := by
        have c6 := HCP5.out.later Q3.out
        obtain ⟨hyD, rfl⟩ := HY.out
        have c7 := c6.putTo hyD Q1.out (fun p hp => Nat.le_trans (below_trans HCP5.out.below (drewN_below (Below.refl _ w5) 1)).size (Q2.out p hp)) g7 hm7
        have i6 := HIT5.out.1.later Q3.out
        exact ⟨_, _, c7, (i6.1.same (g7.block r i6.1.lt.1 fun e => it_ne i6.1 c6.mt (Option.some.inj e)) (g7.block m1 i6.1.lt.2.1 fun e => by have h1 := HG.out.mt.lt; have h2 := c6.lows.2.1; have := Option.some.inj e; omega)).1⟩
      have HN2 : Hid (itLeft w7 r < itLeft wr r) := by
        have c6 := HCP5.out.later Q3.out
        have i6 := HIT5.out.1.later Q3.out
        have := (i6.1.same (g7.block r i6.1.lt.1 fun e => it_ne i6.1 c6.mt (Option.some.inj e)) (g7.block m1 i6.1.lt.2.1 fun e => by have h1 := HG.out.mt.lt; have h2 := c6.lows.2.1; have := Option.some.inj e; omega)).2
        show _ < _
        rw [this, i6.2, HIT5.out.2]
        exact HLT.out
      have hS7 : w7.cell? ⟨ob, 0, none⟩ = some (.map (some a1)) ∧ w7.cell? ⟨bk, 0, none⟩ = some (.string k.1) ∧ w7.cell? ⟨bk, 1, none⟩ = some (.int .i64 k.2) := by
        have c7 := HN.out
        obtain ⟨_, _, c7, -⟩ := c7
        have hk := row_keep (keep_grown g7) (RowAt.below HBK.out Q3.out) (fun e => row_map_ne (RowAt.below HBK.out Q3.out) (HCP5.out.later Q3.out).mt e)
        exact ⟨c7.box.cell 0, hk.cell 0, hk.cell 1⟩
      clear g7 hm7
      refine hK.out _ _ hS7 (fun hHeld => ?_)
      clear hK K
      try simp only [List.getElem_toArray, List.getElem_cons_succ, List.getElem_cons_zero, Act.put, List.setIfInBounds_toArray, List.set_cons_zero, List.set_cons_succ]
      refine wpAnyH_done (by kernel_rfl) ?_ _
      go_wp2
      exact ⟨HN.out, HN2.out⟩
end Go.Proofs.Ytcakdjnnfonijaa
