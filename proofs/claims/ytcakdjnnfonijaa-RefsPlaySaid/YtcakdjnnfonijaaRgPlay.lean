/- RefsPlay: the walk. (Printed by gen_rgplay.py.) -/
import Derived.Test.YtcakdjnnfonijaaRgVer
namespace Go.Proofs.Ytcakdjnnfonijaa
open Go.RowKit

attribute [local go_sem] Oper.semAt_some
theorem own_ver {w : World} {base : Nat} {v : Value} {H : List Rf} (h : OwnRf w v H) (hlow : ∀ g, v.ownBlock = some g → base ≤ g) : ∃ a cap gm, v = .slice a H.length cap ∧ base ≤ gm ∧ RdRf w a H ∧ (0 < H.length → a = some ⟨gm, 0, none⟩ ∧ VerRow w gm H.length) := by
  by_cases hp : 0 < H.length
  · obtain ⟨g, cap, rfl, -, -, hv⟩ := VerRow.of_own h hp
    obtain ⟨a2, c2, e2, -, -, hr⟩ := h.rd
    simp only [Value.slice.injEq] at e2
    exact ⟨_, cap, g, rfl, hlow g rfl, by rw [e2.1]; exact hr, fun _ => ⟨rfl, hv⟩⟩
  · obtain ⟨a2, c2, rfl, -, -, hr⟩ := h.rd
    exact ⟨a2, c2, base, rfl, Nat.le_refl _, hr, fun h0 => absurd h0 hp⟩
def zzR : Rf := (⟨#[122, 122]⟩, 9)
set_option maxRecDepth 100000 in
set_option maxHeartbeats 8000000 in
theorem refsplay_any (w : World) (a : Option Addr) (l : List St) (n cap : Nat) (hn : n = l.length) (hn2 : n ≤ 9223372036854775807) (hl : RdSt w a l) :
    Calls Try.prog 4 #[.slice a n cap] w fun e w' => e = .returned (.bool true) ∧ Below w.heap.size w w' := by
  have HN := Lib.hid hn
  have HL := Lib.hid hl
  have HVA := Lib.hid (vast_any w a l n cap hn hn2 hl)
  clear hl hn hn2
  obtain ⟨K, hK⟩ : ∃ K : Ending → World → Prop, (fun (e : Ending) (w' : World) => e = .returned (.bool true) ∧ Below w.heap.size w w') = K := ⟨_, rfl⟩
  have HKT : Hid (∀ w', Below w.heap.size w w' → K (.returned (.bool true)) w') := fun w' h => by rw [← hK]; exact ⟨rfl, h⟩
  rw [hK]
  clear hK
  go_enter Try.func4, Try.ntmps4
  go_wp2_with fail
  refine HVA.out.mono ?_
  rintro _ _ ⟨⟨r, rfl, hr⟩, rfl⟩
  cases r with
  | true =>
    clear hr
    go_wp2_with fail
    refine (known_any _).mono ?_
    rintro _ w3 ⟨rfl, hb3⟩
    have HB3 := Lib.hid hb3
    clear hb3
    go_wp2
    exact HKT.out _ HB3.out
  | false =>
  obtain ⟨hn60, hts⟩ := hr rfl
  have HTS := Lib.hid hts
  clear hr hts HVA
  go_wp2_with fail
  refine (gnew_any w).mono ?_
  rintro _ w1 ⟨gb, rfl, hg1, hb1⟩
  have HG1 := Lib.hid hg1
  have HB1 := Lib.hid hb1
  clear hg1 hb1
  go_wp2_with fail
  refine (gnew_any w1).mono ?_
  rintro _ w2 ⟨ob, rfl, hg2, hb2⟩
  obtain ⟨F, hlw⟩ := Lw.new HB1.out hb2 HG1.out hg2
  obtain ⟨rb, hrb⟩ : ∃ x, w2.heap.size = x := ⟨_, rfl⟩
  obtain ⟨w3, hw3⟩ : ∃ y, w2.alloc (.cells #[.slice none 0 0] 42) = y := ⟨_, rfl⟩
  have hs3 : w3.heap.size = rb + 1 := by rw [← hw3, ← hrb]; simp
  obtain ⟨w4, hw4⟩ : ∃ y, w3.alloc (.cells #[.slice none 0 0] 42) = y := ⟨_, rfl⟩
  rw [hw3, hw4, hrb] at hlw
  have HLW0 := Lib.hid hlw
  clear HG1 HB1 hg2 hb2 hlw
  go_wp2_with fail
  clear hs3 hw3 hw4 hrb
  go_loopw [3, 4, 5, 6, 7] (fun gv ov rv sv iv wr => ∃ (k gb ob rb wb : Nat) (F : Nat → Prop) (D D' : List (Rf × List Rf)), k ≤ n ∧ gv = .pointer (some ⟨gb, 0, none⟩) ∧ ov = .pointer (some ⟨ob, 0, none⟩) ∧ rv = .pointer (some ⟨rb, 0, none⟩) ∧ sv = .pointer (some ⟨wb, 0, none⟩) ∧ iv = .int .i64 (k : Int) ∧ Lw w wr F gb rb ob wb D D' k) (fun _ _ _ _ iv _ => n - (intOf iv).toNat)
  case atStart => exact ⟨0, gb, ob, rb, rb + 1, F, [], [], Nat.zero_le _, rfl, rfl, rfl, rfl, rfl, HLW0.out⟩
  case round =>
    obtain ⟨k, gb, ob, rb, wb, F, D, D', hk, rfl, rfl, rfl, rfl, rfl, hlw⟩ := hrel
    have HLW := Lib.hid hlw
    clear hlw HLW0
    by_cases hkn : k < n
    · have hkl : k < l.length := by rw [← HN.out]; exact hkn
      have hk60 : k ≤ 60 := by omega
      obtain ⟨b2, off, rfl, hlt, hrow⟩ := HL.out.resolve_left (by intro e; rw [e] at hkl; simp at hkl)
      have hst := hrow k hkl
      have hss := HTS.out l[k] (List.getElem_mem hkl)
      obtain ⟨s, hs'⟩ : ∃ s, l[k] = s := ⟨_, rfl⟩
      rw [hs'] at hst hss
      have HC : Hid (∀ i v, (stC s)[i]? = some v → wr.cell? ((⟨b2, off + k * 4, none⟩ : Addr).add i) = some v) := fun i v hv => by
        rw [Addr.add_mid]
        exact CellsAt.later HLW.out.below hlt hst.cells i v hv
      have HRT : Hid (RdRf w s.ta s.ts) := hst.rd
      have hb1 : (k : Int) < (n : Int) := by omega
      obtain ⟨kd, v, ta, ts, tc⟩ := s
      dsimp only [stC] at HC HRT hss
      obtain ⟨nt, hnt⟩ : ∃ x, ts.length = x := ⟨_, rfl⟩
      rw [hnt] at HC hss
      have HNT := Lib.hid hnt
      clear hrow hst hs' hnt
      obtain ⟨tb, htb⟩ : ∃ x, wr.heap.size = x := ⟨_, rfl⟩
      go_upto_region 9 with (refine step_loadCells rfl 44 (.tmp 41) rfl ⟨b2, off + k * 4, none⟩ rfl _ aggSt HC.out ?_)
      obtain ⟨w3, hw3⟩ : ∃ x, wr.alloc (.cells #[.int .i64 kd, .string v.1, .int .i64 v.2, .slice ta nt tc] 44) = x := ⟨_, rfl⟩
      have HT3 : Hid (RowAt w3 tb 44 #[.int .i64 kd, .string v.1, .int .i64 v.2, .slice ta nt tc]) := by rw [← hw3, ← htb]; exact RowAt.new _ _ _
      have hb3 : Below wr.heap.size wr w3 := by rw [← hw3]; exact below_alloc _
      have e1 := HT3.out.cell 1
      have e2 := HT3.out.cell 2
      simp only [List.getElem?_toArray, List.getElem?_cons_zero, List.getElem?_cons_succ] at e1 e2
      have HLW3 := Lib.hid (HLW.out.later hb3)
      have HTF : Hid (¬ F tb) := HLW.out.apart (.inl (Nat.le_of_eq htb))
      have HTW : Hid (w.heap.size ≤ tb) := by show _ ≤ _; rw [← htb]; exact HLW.out.below.size
      rw [hw3]
      clear hb3 hw3 htb HLW HC
      have h2 := run_eqGrNil w3 gb
      go_wp2_with fail
      refine (HLW3.out.asked hk60 v).mono ?_
      rintro _ w4 ⟨rfl, hb4⟩
      have HLW4 := Lib.hid (HLW3.out.later hb4)
      have HT4 := Lib.hid (RowAt.below HT3.out hb4)
      clear hb4 h2 e1 e2 HT3 HLW3
      have e1 := HT4.out.cell 1
      have e2 := HT4.out.cell 2
      simp only [List.getElem?_toArray, List.getElem?_cons_zero, List.getElem?_cons_succ] at e1 e2
      go_wp2_with fail
      refine (HLW4.out.find hk60 v).mono ?_
      rintro _ w5 ⟨rfl, hb5⟩
      have HLW5 := Lib.hid (HLW4.out.later hb5)
      have HT5 := Lib.hid (RowAt.below HT4.out hb5)
      clear hb5 e1 e2 HT4 HLW4
      have e0 := HT5.out.cell 0
      have e1 := HT5.out.cell 1
      have e2 := HT5.out.cell 2
      have e3 := HT5.out.cell 3
      simp only [List.getElem?_toArray, List.getElem?_cons_zero, List.getElem?_cons_succ] at e0 e1 e2 e3
      obtain ⟨no, hno⟩ : ∃ x, askR D v = x := ⟨_, rfl⟩
      obtain ⟨fz, hfz⟩ : ∃ x, findR D v = x := ⟨_, rfl⟩
      have HNO := Lib.hid hno
      have HFZ := Lib.hid hfz
      rw [hno, hfz]
      clear hno hfz
      go_upto_block 2 with fail
      go_cut [3, 4, 5, 6] (fun gv ov rv sv wx => ∃ (gb ob rb wb : Nat) (F : Nat → Prop) (D D' : List (Rf × List Rf)), gv = .pointer (some ⟨gb, 0, none⟩) ∧ ov = .pointer (some ⟨ob, 0, none⟩) ∧ rv = .pointer (some ⟨rb, 0, none⟩) ∧ sv = .pointer (some ⟨wb, 0, none⟩) ∧ Lw w wx F gb rb ob wb D D' (k + 1))
      case first =>
        have HTL : Hid (tb < w5.heap.size) := HT5.out.lt
        by_cases hk1 : kd = 1
        · as_aux_lemma =>
          subst hk1
          go_upto_region 15 with fail
          go_cut [11] (fun mv wx => ∃ (gm cm : Nat), mv = .slice (some ⟨gm, 0, none⟩) nt cm ∧ OwnRf wx (.slice (some ⟨gm, 0, none⟩) (nt + 1) cm) (ts ++ [zzR]) ∧ Below w5.heap.size w5 wx ∧ w5.heap.size ≤ gm)
          case first =>
            as_aux_lemma =>
            refine wp_region_held_drew (S := fun w' => w'.cell? ⟨tb, 3, none⟩ = some (.slice ta nt tc)) (by kernel_rfl) (show w5.drew.cell? ⟨tb, 3, none⟩ = some (.slice ta nt tc) from e3) (fun hHeld => ?_)
            refine wpAnyH_take (i := 0) (v := ?_) rfl (by kernel_rfl) (by kernel_rfl) (by kernel_rfl) (fun _ _ _ h => h) (Or.inl ⟨by rfl, ?_⟩) hHeld ?_
            rotate_left
            · intro w' hS'
              (try dsimp only at hS')
              go_simp
              try with_reducible rfl
            try simp only [List.getElem_toArray, List.getElem_cons_zero, Act.put, List.setIfInBounds_toArray, List.set_cons_zero, List.set_cons_succ]
            refine wpAnyH_take (i := 1) (v := ?_) rfl (by kernel_rfl) (by kernel_rfl) (by kernel_rfl) (fun _ _ _ h => h) (Or.inl ⟨by rfl, ?_⟩) hHeld ?_
            rotate_left
            · intro w' hS'
              (try dsimp only at hS')
              go_simp
              try with_reducible rfl
            try simp only [List.getElem_toArray, List.getElem_cons_succ, List.getElem_cons_zero, Act.put, List.setIfInBounds_toArray, List.set_cons_zero, List.set_cons_succ]
            refine wpAnyH_take (i := 3) (v := ?_) rfl (by kernel_rfl) (by kernel_rfl) (by kernel_rfl) (fun _ _ _ h => h) (Or.inl ⟨by rfl, ?_⟩) hHeld ?_
            rotate_left
            · intro w' hS'
              (try dsimp only at hS')
              go_simp
              try with_reducible rfl
            try simp only [List.getElem_toArray, List.getElem_cons_succ, List.getElem_cons_zero, Act.put, List.setIfInBounds_toArray, List.set_cons_zero, List.set_cons_succ]
            refine wpAnyH_take (i := 6) (v := ?_) rfl (by kernel_rfl) (by kernel_rfl) (by kernel_rfl) (fun _ _ _ h => h) (Or.inl ⟨by rfl, ?_⟩) hHeld ?_
            rotate_left
            · intro w' hS'
              (try dsimp only at hS')
              go_simp
              try with_reducible rfl
            try simp only [List.getElem_toArray, List.getElem_cons_succ, List.getElem_cons_zero, Act.put, List.setIfInBounds_toArray, List.set_cons_zero, List.set_cons_succ]
            refine wpAnyH_take (i := 7) (v := ?_) rfl (by kernel_rfl) (by kernel_rfl) (by kernel_rfl) (fun _ _ _ h => h) (Or.inl ⟨by rfl, ?_⟩) hHeld ?_
            rotate_left
            · intro w' hS'
              (try dsimp only at hS')
              go_simp
              try with_reducible rfl
            try simp only [List.getElem_toArray, List.getElem_cons_succ, List.getElem_cons_zero, Act.put, List.setIfInBounds_toArray, List.set_cons_zero, List.set_cons_succ]
            refine wpAnyH_take (i := 8) (v := ?_) rfl (by kernel_rfl) (by kernel_rfl) (by kernel_rfl) (fun _ _ _ h => h) (Or.inl ⟨by rfl, ?_⟩) hHeld ?_
            rotate_left
            · intro w' hS'
              (try dsimp only at hS')
              go_simp
              try with_reducible rfl
            try simp only [List.getElem_toArray, List.getElem_cons_succ, List.getElem_cons_zero, Act.put, List.setIfInBounds_toArray, List.set_cons_zero, List.set_cons_succ]
            refine wpAnyH_ready (rs := [2, 4]) (by kernel_rfl) (by simp) (AllReadyH.cons rfl (fun K hK => ?_) (AllReadyH.cons rfl (fun K hK => ?_) AllReadyH.nil))
            · try rw [if_pos (by rfl)]
              refine wp_appendRf (.const (.slice none 0 0)) (.tmp 58) rfl (.slice none 0 0) [] rfl ta nt tc ts HNT.out rfl (OwnRf.nil _) (HRT.out.later (below_trans HLW5.out.below (drewN_below (Below.refl _ _) 1))) (by simp) (by omega) ?_
              intro v4 w6 h1 h2 h3
              have HO4 : Hid (OwnRf w6 v4 ts) := h1
              have hbA : Below w5.drew.heap.size w5.drew w6 := keep_none h2
              have hlow : ∀ p, v4.ownBlock = some p → w5.drew.heap.size ≤ p := fun p hp => (h3 p hp).resolve_left (by simp [Value.ownBlock])
              have hb4 : Below w5.heap.size w5 w6 := (drewN_below (Below.refl _ _) 1).trans hbA
              have HB4 := Lib.hid hb4
              have HLO : Hid (∀ p, v4.ownBlock = some p → w5.heap.size ≤ p) := Lib.hid hlow
              clear h1 h2 h3 hb4 hbA hlow
              refine hK.out _ _ (cell_later HB4.out HTL.out e3) (fun hHeld => ?_)
              try simp only [List.getElem_toArray, List.getElem_cons_succ, List.getElem_cons_zero, Act.put, List.setIfInBounds_toArray, List.set_cons_zero, List.set_cons_succ]
              clear hK K
              refine wpAnyH_ready (rs := [4]) (by kernel_rfl) (by simp) (AllReadyH.cons rfl (fun K hK => ?_) AllReadyH.nil)
              obtain ⟨g7, hg7⟩ : ∃ y, w6.heap.size = y := ⟨_, rfl⟩
              obtain ⟨w7, hw7⟩ : ∃ y, w6.alloc (.cells #[.string ⟨#[122, 122]⟩, .int .i64 9] 25) = y := ⟨_, rfl⟩
              have hb5 : Below w6.heap.size w6 w7 := by rw [← hw7]; exact below_alloc _
              have hr7 : RowAt w7 g7 25 #[.string ⟨#[122, 122]⟩, .int .i64 9] := by rw [← hw7, ← hg7]; exact RowAt.new _ _ _
              have HC7 : Hid (CellsAt w7 rfC g7 0 zzR) := RowAt.rf hr7
              have HG7 : Hid (g7 < w7.heap.size) := hr7.lt
              have HB5 : Hid (Below w5.heap.size w5 w7) := HB4.out.trans (hb5.mono HB4.out.size)
              have HO5 : Hid (OwnRf w7 v4 ts) := HO4.out.later hb5
              go_simp
              try rw [hw7]
              clear hb5 hw7 hg7 hr7
              refine hK.out _ _ (cell_later HB5.out HTL.out e3) (fun hHeld => ?_)
              try simp only [List.getElem_toArray, List.getElem_cons_succ, List.getElem_cons_zero, Act.put, List.setIfInBounds_toArray, List.set_cons_zero, List.set_cons_succ]
              clear hK K
              refine wpAnyH_ready (rs := [5]) (by kernel_rfl) (by simp) (AllReadyH.cons rfl (fun K hK => ?_) AllReadyH.nil)
              try rw [if_pos (by rfl)]
              refine wp_pushRf eltRf (.tmp 59) (.tmp 61) rfl v4 ts rfl g7 zzR rfl HO5.out HC7.out HG7.out (by rw [HNT.out]; omega) ?_
              intro v6 w6 h1 h2 h3
              have HO6 := Lib.hid h1
              have HB6 : Hid (Below w5.heap.size w5 w6) := HB5.out.trans (below_of_grown h2 HB5.out.size fun g hg => HLO.out g hg)
              have HL6 : Hid (∀ p, v6.ownBlock = some p → w5.heap.size ≤ p) := Lib.hid fun p hp => by
                rcases h3 p hp with q | q
                · exact HLO.out p q
                · exact Nat.le_trans HB5.out.size q
              obtain ⟨g6, c6, hv6, hc6, hc7, -⟩ := VerRow.of_own h1 (by simp)
              have hl6 : (ts ++ [zzR]).length = nt + 1 := by rw [List.length_append, HNT.out]; rfl
              rw [hl6] at hv6 hc6
              subst hv6
              have hnb0 : (0 : Int) ≤ (nt : Int) := by omega
              have hnb1 : (nt : Int) ≤ (c6 : Int) := by omega
              have hnb2 : nt ≤ c6 := by omega
              clear h1 h2 h3 hl6
              refine hK.out _ _ (cell_later HB6.out HTL.out e3) (fun hHeld => ?_)
              try simp only [List.getElem_toArray, List.getElem_cons_succ, List.getElem_cons_zero, Act.put, List.setIfInBounds_toArray, List.set_cons_zero, List.set_cons_succ]
              clear hK K
              refine wpAnyH_take (i := 9) (v := ?_) rfl (by kernel_rfl) (by kernel_rfl) (by kernel_rfl) (fun _ _ _ h => h) (Or.inl ⟨by rfl, ?_⟩) hHeld ?_
              rotate_left
              · intro w' hS'
                (try dsimp only at hS')
                go_simp
                try with_reducible rfl
              try simp only [List.getElem_toArray, List.getElem_cons_succ, List.getElem_cons_zero, Act.put, List.setIfInBounds_toArray, List.set_cons_zero, List.set_cons_succ]
              refine wpAnyH_take (i := 10) (v := ?_) rfl (by kernel_rfl) (by kernel_rfl) (by kernel_rfl) (fun _ _ _ h => h) (Or.inl ⟨by rfl, ?_⟩) hHeld ?_
              rotate_left
              · intro w' hS'
                (try dsimp only at hS')
                go_simp
                try with_reducible rfl
              try simp only [List.getElem_toArray, List.getElem_cons_succ, List.getElem_cons_zero, Act.put, List.setIfInBounds_toArray, List.set_cons_zero, List.set_cons_succ]
              refine wpAnyH_done (by kernel_rfl) ?_ _
              go_wp2
              go_meet
              exact ⟨g6, c6, rfl, HO6.out, HB6.out, HL6.out g6 rfl⟩
            · obtain ⟨g7, hg7⟩ : ∃ y, w5.heap.size = y := ⟨_, rfl⟩
              go_simp
              obtain ⟨w7, hw7⟩ : ∃ y, (w5.alloc (.cells #[.string ⟨#[122, 122]⟩, .int .i64 9] 25)).drew = y := ⟨_, rfl⟩
              have hb5 : Below w5.heap.size w5 w7 := by rw [← hw7]; exact drewN_below (below_alloc _) 1
              have HR7 : Hid (RowAt w7 g7 25 #[.string ⟨#[122, 122]⟩, .int .i64 9]) := by show RowAt _ _ _ _; rw [← hw7, ← hg7]; exact RowAt.new _ _ _
              have HB7 := Lib.hid hb5
              try rw [hw7]
              try rw [hg7]
              clear hb5 hw7 hg7
              refine hK.out _ _ (cell_later HB7.out HTL.out e3) (fun hHeld => ?_)
              try simp only [List.getElem_toArray, List.getElem_cons_succ, List.getElem_cons_zero, Act.put, List.setIfInBounds_toArray, List.set_cons_zero, List.set_cons_succ]
              clear hK K
              refine wpAnyH_ready (rs := [2]) (by kernel_rfl) (by simp) (AllReadyH.cons rfl (fun K hK => ?_) AllReadyH.nil)
              try rw [if_pos (by rfl)]
              refine wp_appendRf (.const (.slice none 0 0)) (.tmp 58) rfl (.slice none 0 0) [] rfl ta nt tc ts HNT.out rfl (OwnRf.nil _) (HRT.out.later (below_trans HLW5.out.below HB7.out)) (by simp) (by omega) ?_
              intro v4 w8 h1 h2 h3
              have HO4 : Hid (OwnRf w8 v4 ts) := h1
              have hbA : Below w7.heap.size w7 w8 := keep_none h2
              have hlow : ∀ p, v4.ownBlock = some p → w7.heap.size ≤ p := fun p hp => (h3 p hp).resolve_left (by simp [Value.ownBlock])
              have HB5 : Hid (Below w5.heap.size w5 w8) := HB7.out.trans (hbA.mono HB7.out.size)
              have hr8 : RowAt w8 g7 25 #[.string ⟨#[122, 122]⟩, .int .i64 9] := RowAt.below HR7.out hbA
              have HC7 : Hid (CellsAt w8 rfC g7 0 zzR) := RowAt.rf hr8
              have HG7 : Hid (g7 < w8.heap.size) := hr8.lt
              have HLO : Hid (∀ p, v4.ownBlock = some p → w5.heap.size ≤ p) := Lib.hid fun p hp => Nat.le_trans HB7.out.size (hlow p hp)
              have HO5 := HO4
              clear h1 h2 h3 hbA hlow hr8
              refine hK.out _ _ (cell_later HB5.out HTL.out e3) (fun hHeld => ?_)
              try simp only [List.getElem_toArray, List.getElem_cons_succ, List.getElem_cons_zero, Act.put, List.setIfInBounds_toArray, List.set_cons_zero, List.set_cons_succ]
              clear hK K
              refine wpAnyH_ready (rs := [5]) (by kernel_rfl) (by simp) (AllReadyH.cons rfl (fun K hK => ?_) AllReadyH.nil)
              try rw [if_pos (by rfl)]
              refine wp_pushRf eltRf (.tmp 59) (.tmp 61) rfl v4 ts rfl g7 zzR rfl HO5.out HC7.out HG7.out (by rw [HNT.out]; omega) ?_
              intro v6 w6 h1 h2 h3
              have HO6 := Lib.hid h1
              have HB6 : Hid (Below w5.heap.size w5 w6) := HB5.out.trans (below_of_grown h2 HB5.out.size fun g hg => HLO.out g hg)
              have HL6 : Hid (∀ p, v6.ownBlock = some p → w5.heap.size ≤ p) := Lib.hid fun p hp => by
                rcases h3 p hp with q | q
                · exact HLO.out p q
                · exact Nat.le_trans HB5.out.size q
              obtain ⟨g6, c6, hv6, hc6, hc7, -⟩ := VerRow.of_own h1 (by simp)
              have hl6 : (ts ++ [zzR]).length = nt + 1 := by rw [List.length_append, HNT.out]; rfl
              rw [hl6] at hv6 hc6
              subst hv6
              have hnb0 : (0 : Int) ≤ (nt : Int) := by omega
              have hnb1 : (nt : Int) ≤ (c6 : Int) := by omega
              have hnb2 : nt ≤ c6 := by omega
              clear h1 h2 h3 hl6
              refine hK.out _ _ (cell_later HB6.out HTL.out e3) (fun hHeld => ?_)
              try simp only [List.getElem_toArray, List.getElem_cons_succ, List.getElem_cons_zero, Act.put, List.setIfInBounds_toArray, List.set_cons_zero, List.set_cons_succ]
              clear hK K
              refine wpAnyH_take (i := 9) (v := ?_) rfl (by kernel_rfl) (by kernel_rfl) (by kernel_rfl) (fun _ _ _ h => h) (Or.inl ⟨by rfl, ?_⟩) hHeld ?_
              rotate_left
              · intro w' hS'
                (try dsimp only at hS')
                go_simp
                try with_reducible rfl
              try simp only [List.getElem_toArray, List.getElem_cons_succ, List.getElem_cons_zero, Act.put, List.setIfInBounds_toArray, List.set_cons_zero, List.set_cons_succ]
              refine wpAnyH_take (i := 10) (v := ?_) rfl (by kernel_rfl) (by kernel_rfl) (by kernel_rfl) (fun _ _ _ h => h) (Or.inl ⟨by rfl, ?_⟩) hHeld ?_
              rotate_left
              · intro w' hS'
                (try dsimp only at hS')
                go_simp
                try with_reducible rfl
              try simp only [List.getElem_toArray, List.getElem_cons_succ, List.getElem_cons_zero, Act.put, List.setIfInBounds_toArray, List.set_cons_zero, List.set_cons_succ]
              refine wpAnyH_done (by kernel_rfl) ?_ _
              go_wp2
              go_meet
              exact ⟨g6, c6, rfl, HO6.out, HB6.out, HL6.out g6 rfl⟩
          case rest =>
            obtain ⟨gm, cm, rfl, hom, hbm, hgm⟩ := hcut
            have HOM : Hid (OwnRf wc (.slice (some ⟨gm, 0, none⟩) nt cm) ts) := by
              have h := hom.take
              rw [HNT.out] at h
              exact h
            have hlen1 : (ts ++ [zzR]).length = nt + 1 := by rw [List.length_append, HNT.out]; rfl
            obtain ⟨g9, c9, e9, hc9, hc10, hver⟩ := VerRow.of_own hom (by simp)
            rw [hlen1] at e9 hc9 hver
            simp only [Value.slice.injEq, Option.some.injEq, Addr.mk.injEq, and_true, true_and] at e9
            obtain ⟨rfl, rfl⟩ := e9
            have HVER : Hid (VerRow wc gm nt) := hver.less (by omega)
            have hz9 : wc.cell? ⟨gm, nt * 2 + 1, none⟩ = some (.int .i64 9) := by
              obtain ⟨g8, c8, cs8, e8, -, -, -, -, -, h8⟩ := hom.at (by simp)
              rw [hlen1] at e8
              simp only [Value.slice.injEq, Option.some.injEq, Addr.mk.injEq, and_true, true_and] at e8
              obtain ⟨rfl, -⟩ := e8
              have h := h8 nt (by rw [hlen1]; omega) 1 (.int .i64 9) (by
                rw [List.getElem_append_right (by rw [HNT.out]; exact Nat.le_refl _)]
                simp [HNT.out, zzR, rfC])
              exact h
            have HGF : Hid (¬ F gm) := HLW5.out.apart (.inl hgm)
            have HLWC := Lib.hid (HLW5.out.later hbm)
            have HTC := Lib.hid (RowAt.below HT5.out hbm)
            have hgl : gm < wc.heap.size := hver.lt
            have HGL := Lib.hid hgl
            have HGM : Hid (w.heap.size ≤ gm) := Nat.le_trans HLW5.out.below.size hgm
            have HSS : Hid (∀ W, KeepA F wc W → W.cell? ⟨tb, 1, none⟩ = some (.string v.1) ∧ W.cell? ⟨tb, 2, none⟩ = some (.int .i64 v.2) ∧ W.cell? ⟨tb, 3, none⟩ = some (.slice ta nt tc) ∧ W.cell? ⟨gm, nt * 2 + 1, none⟩ = some (.int .i64 9)) := Lib.hid fun W hW => by
              have r1 := row_keep hW HTC.out HTF.out
              exact ⟨r1.cell 1, r1.cell 2, r1.cell 3, hW.cell hz9 HGF.out⟩
            have HADD := Lib.hid ((HLWC.out.later (drewN_below (Below.refl _ wc) 1)).add hk60 v (some ⟨gm, 0, none⟩) nt cm ts HNT.out (by omega) ((HOM.out.later (drewN_below (Below.refl _ wc) 1)).rd.elim fun a9 h => by obtain ⟨c9, e9, -, -, r9⟩ := h; simp only [Value.slice.injEq] at e9; rw [e9.1]; exact r9) (fun b o e _ => by cases e; exact HGF.out))
            obtain ⟨ad, had⟩ : ∃ x, addR D v ts = x := ⟨_, rfl⟩
            rw [had] at HADD
            have had2 : (ad != ad) = false := by simp
            have hnt1 : (0 : Int) ≤ (nt : Int) + 1 := by omega
            have hnt2 : (nt : Int) + 1 ≤ (cm : Int) := by omega
            have hnt3 : (nt : Int) < (nt : Int) + 1 := by omega
            have hnt4 : nt + 1 ≤ cm := hc9
            have hnt5 : IntKind.i64.wrap ((nt : Int) + 1) = (nt : Int) + 1 := IntWalk.i64_in _ (by omega)
            have hnt6 : ((nt : Int) + 1).toNat = nt + 1 := by omega
            clear hom hbm hlen1 hver hz9 e0 e1 e2 e3 had hgm hc9 hc10
            go_upto_region 16 with fail
            refine wp_region_held_drew (S := fun W => W.cell? ⟨tb, 1, none⟩ = some (.string v.1) ∧ W.cell? ⟨tb, 2, none⟩ = some (.int .i64 v.2) ∧ W.cell? ⟨tb, 3, none⟩ = some (.slice ta nt tc) ∧ W.cell? ⟨gm, nt * 2 + 1, none⟩ = some (.int .i64 9)) (by kernel_rfl) (HSS.out wc.drew (KeepA.of_below (drewN_below (Below.refl _ wc) 1))) (fun hHeld => ?_)
            refine wpAnyH_take (i := 0) (v := ?_) rfl (by kernel_rfl) (by kernel_rfl) (by kernel_rfl) (fun _ _ _ h => h) (Or.inl ⟨by rfl, ?_⟩) hHeld ?_
            rotate_left
            · intro w' hS'
              (try dsimp only at hS')
              go_simp
              try with_reducible rfl
            try simp only [List.getElem_toArray, List.getElem_cons_zero, Act.put, List.setIfInBounds_toArray, List.set_cons_zero, List.set_cons_succ]
            refine wpAnyH_take (i := 1) (v := ?_) rfl (by kernel_rfl) (by kernel_rfl) (by kernel_rfl) (fun _ _ _ h => h) (Or.inl ⟨by rfl, ?_⟩) hHeld ?_
            rotate_left
            · intro w' hS'
              (try dsimp only at hS')
              go_simp
              try with_reducible rfl
            try simp only [List.getElem_toArray, List.getElem_cons_succ, List.getElem_cons_zero, Act.put, List.setIfInBounds_toArray, List.set_cons_zero, List.set_cons_succ]
            refine wpAnyH_take (i := 2) (v := ?_) rfl (by kernel_rfl) (by kernel_rfl) (by kernel_rfl) (fun _ _ _ h => h) (Or.inl ⟨by rfl, ?_⟩) hHeld ?_
            rotate_left
            · intro w' hS'
              (try dsimp only at hS')
              go_simp
              try with_reducible rfl
            try simp only [List.getElem_toArray, List.getElem_cons_succ, List.getElem_cons_zero, Act.put, List.setIfInBounds_toArray, List.set_cons_zero, List.set_cons_succ]
            refine wpAnyH_take (i := 3) (v := ?_) rfl (by kernel_rfl) (by kernel_rfl) (by kernel_rfl) (fun _ _ _ h => h) (Or.inl ⟨by rfl, ?_⟩) hHeld ?_
            rotate_left
            · intro w' hS'
              (try dsimp only at hS')
              go_simp
              try with_reducible rfl
            try simp only [List.getElem_toArray, List.getElem_cons_succ, List.getElem_cons_zero, Act.put, List.setIfInBounds_toArray, List.set_cons_zero, List.set_cons_succ]
            refine wpAnyH_take (i := 5) (v := ?_) rfl (by kernel_rfl) (by kernel_rfl) (by kernel_rfl) (fun _ _ _ h => h) (Or.inl ⟨by rfl, ?_⟩) hHeld ?_
            rotate_left
            · intro w' hS'
              (try dsimp only at hS')
              go_simp
              try with_reducible rfl
            try simp only [List.getElem_toArray, List.getElem_cons_succ, List.getElem_cons_zero, Act.put, List.setIfInBounds_toArray, List.set_cons_zero, List.set_cons_succ]
            refine wpAnyH_take (i := 6) (v := ?_) rfl (by kernel_rfl) (by kernel_rfl) (by kernel_rfl) (fun _ _ _ h => h) (Or.inl ⟨by rfl, ?_⟩) hHeld ?_
            rotate_left
            · intro w' hS'
              (try dsimp only at hS')
              go_simp
              try with_reducible rfl
            try simp only [List.getElem_toArray, List.getElem_cons_succ, List.getElem_cons_zero, Act.put, List.setIfInBounds_toArray, List.set_cons_zero, List.set_cons_succ]
            refine wpAnyH_take (i := 7) (v := ?_) rfl (by kernel_rfl) (by kernel_rfl) (by kernel_rfl) (fun _ _ _ h => h) (Or.inl ⟨by rfl, ?_⟩) hHeld ?_
            rotate_left
            · intro w' hS'
              (try dsimp only at hS')
              go_simp
              try with_reducible rfl
            try simp only [List.getElem_toArray, List.getElem_cons_succ, List.getElem_cons_zero, Act.put, List.setIfInBounds_toArray, List.set_cons_zero, List.set_cons_succ]
            refine wpAnyH_take (i := 8) (v := ?_) rfl (by kernel_rfl) (by kernel_rfl) (by kernel_rfl) (fun _ _ _ h => h) (Or.inl ⟨by rfl, ?_⟩) hHeld ?_
            rotate_left
            · intro w' hS'
              (try dsimp only at hS')
              go_simp
              try with_reducible rfl
            try simp only [List.getElem_toArray, List.getElem_cons_succ, List.getElem_cons_zero, Act.put, List.setIfInBounds_toArray, List.set_cons_zero, List.set_cons_succ]
            refine wpAnyH_take (i := 9) (v := ?_) rfl (by kernel_rfl) (by kernel_rfl) (by kernel_rfl) (fun _ _ _ h => h) (Or.inl ⟨by rfl, ?_⟩) hHeld ?_
            rotate_left
            · intro w' hS'
              (try dsimp only at hS')
              go_simp
              try with_reducible rfl
            try simp only [List.getElem_toArray, List.getElem_cons_succ, List.getElem_cons_zero, Act.put, List.setIfInBounds_toArray, List.set_cons_zero, List.set_cons_succ]
            refine wpAnyH_ready (rs := [4]) (by kernel_rfl) (by simp) (AllReadyH.cons rfl (fun K hK => ?_) AllReadyH.nil)
            try rw [if_pos (by rfl)]
            go_wp2_with fail
            refine HADD.out.mono ?_
            rintro _ w7 ⟨rfl, hk7, hd7⟩
            have HK7 := Lib.hid ((KeepA.of_below (X := F) (drewN_below (Below.refl _ wc) 1)).trans hk7)
            have HD7 := Lib.hid (hd7 ta tc (HRT.out.later (HLWC.out.below.trans (HK7.out.below HLWC.out.below.size fun k q => (HLWC.out.lim k q).1))))
            clear hk7 hd7
            refine hK.out _ _ (HSS.out w7 HK7.out) (fun hHeld => ?_)
            try simp only [List.getElem_toArray, List.getElem_cons_succ, List.getElem_cons_zero, Act.put, List.setIfInBounds_toArray, List.set_cons_zero, List.set_cons_succ]
            clear hK K
            refine wpAnyH_ready (rs := [10]) (by kernel_rfl) (by simp) (AllReadyH.cons rfl (fun K hK => ?_) AllReadyH.nil)
            try rw [if_pos (by rfl)]
            go_wp2_with fail
            refine HD7.out.mono ?_
            rintro _ w8 ⟨rfl, hk8, F2, D2, hF2, hlw2⟩
            have HK8 := Lib.hid (HK7.out.trans hk8)
            have HLW2 := Lib.hid hlw2
            have HF2 := Lib.hid hF2
            clear hk8 hF2 hlw2
            refine hK.out _ _ (HSS.out w8 HK8.out) (fun hHeld => ?_)
            try simp only [List.getElem_toArray, List.getElem_cons_succ, List.getElem_cons_zero, Act.put, List.setIfInBounds_toArray, List.set_cons_zero, List.set_cons_succ]
            clear hK K
            refine wpAnyH_take (i := 11) (v := ?_) rfl (by kernel_rfl) (by kernel_rfl) (by kernel_rfl) (fun _ _ _ h => h) (Or.inl ⟨by rfl, ?_⟩) hHeld ?_
            rotate_left
            · intro w' hS'
              (try dsimp only at hS')
              go_simp
              try with_reducible rfl
            try simp only [List.getElem_toArray, List.getElem_cons_succ, List.getElem_cons_zero, Act.put, List.setIfInBounds_toArray, List.set_cons_zero, List.set_cons_succ]
            refine wpAnyH_take (i := 12) (v := ?_) rfl (by kernel_rfl) (by kernel_rfl) (by kernel_rfl) (fun _ _ _ h => h) (Or.inl ⟨by rfl, ?_⟩) hHeld ?_
            rotate_left
            · intro w' hS'
              (try dsimp only at hS')
              go_simp
              try with_reducible rfl
            try simp only [List.getElem_toArray, List.getElem_cons_succ, List.getElem_cons_zero, Act.put, List.setIfInBounds_toArray, List.set_cons_zero, List.set_cons_succ]
            refine wpAnyH_take (i := 13) (v := ?_) rfl (by kernel_rfl) (by kernel_rfl) (by kernel_rfl) (fun _ _ _ h => h) (Or.inl ⟨by rfl, ?_⟩) hHeld ?_
            rotate_left
            · intro w' hS'
              (try dsimp only at hS')
              go_simp
              try with_reducible rfl
            try simp only [List.getElem_toArray, List.getElem_cons_succ, List.getElem_cons_zero, Act.put, List.setIfInBounds_toArray, List.set_cons_zero, List.set_cons_succ]
            refine wpAnyH_take (i := 14) (v := ?_) rfl (by kernel_rfl) (by kernel_rfl) (by kernel_rfl) (fun _ _ _ h => h) (Or.inl ⟨by rfl, ?_⟩) hHeld ?_
            rotate_left
            · intro w' hS'
              (try dsimp only at hS')
              go_simp
              try with_reducible rfl
            try simp only [List.getElem_toArray, List.getElem_cons_succ, List.getElem_cons_zero, Act.put, List.setIfInBounds_toArray, List.set_cons_zero, List.set_cons_succ]
            refine wpAnyH_take (i := 15) (v := ?_) rfl (by kernel_rfl) (by kernel_rfl) (by kernel_rfl) (fun _ _ _ h => h) (Or.inl ⟨by rfl, ?_⟩) hHeld ?_
            rotate_left
            · intro w' hS'
              (try dsimp only at hS')
              go_simp
              try with_reducible rfl
            try simp only [List.getElem_toArray, List.getElem_cons_succ, List.getElem_cons_zero, Act.put, List.setIfInBounds_toArray, List.set_cons_zero, List.set_cons_succ]
            have HSA : Hid (Calls Try.prog 8 #[.slice (some ⟨gm, 0, none⟩) nt cm, .slice ta nt tc] w8 fun e w' => e = .returned (.bool true) ∧ Below w8.heap.size w8 w') := by
              have h := lsame_any (some ⟨gm, 0, none⟩) ta nt nt cm tc ts ts w8 HNT.out HNT.out (by omega) (by omega) ((HOM.out.keep HK8.out fun p hp q => HGF.out (by cases hp; exact q)).rd.elim fun a9 h => by obtain ⟨c9, e9, -, -, r9⟩ := h; simp only [Value.slice.injEq] at e9; rw [e9.1]; exact r9) (HRT.out.later (HLWC.out.below.trans (HK8.out.below HLWC.out.below.size fun k q => (HLWC.out.lim k q).1)))
              simp only [decide_true] at h
              exact h
            refine wpAnyH_ready (rs := [16]) (by kernel_rfl) (by simp) (AllReadyH.cons rfl (fun K hK => ?_) AllReadyH.nil)
            try rw [if_pos (by rfl)]
            go_wp2_with fail
            refine HSA.out.mono ?_
            rintro _ w9 ⟨rfl, hb9⟩
            have HB9 := Lib.hid hb9
            have HK9 := Lib.hid (HK8.out.trans (KeepA.of_below hb9))
            clear hb9 HSA
            refine hK.out _ _ (HSS.out w9 HK9.out) (fun hHeld => ?_)
            try simp only [List.getElem_toArray, List.getElem_cons_succ, List.getElem_cons_zero, Act.put, List.setIfInBounds_toArray, List.set_cons_zero, List.set_cons_succ]
            clear hK K
            refine wpAnyH_take (i := 17) (v := ?_) rfl (by kernel_rfl) (by kernel_rfl) (by kernel_rfl) (fun _ _ _ h => h) (Or.inl ⟨by rfl, ?_⟩) hHeld ?_
            rotate_left
            · intro w' hS'
              (try dsimp only at hS')
              go_simp
              try with_reducible rfl
            try simp only [List.getElem_toArray, List.getElem_cons_succ, List.getElem_cons_zero, Act.put, List.setIfInBounds_toArray, List.set_cons_zero, List.set_cons_succ]
            refine wpAnyH_take (i := 18) (v := ?_) rfl (by kernel_rfl) (by kernel_rfl) (by kernel_rfl) (fun _ _ _ h => h) (Or.inl ⟨by rfl, ?_⟩) hHeld ?_
            rotate_left
            · intro w' hS'
              (try dsimp only at hS')
              go_simp
              try with_reducible rfl
            try simp only [List.getElem_toArray, List.getElem_cons_succ, List.getElem_cons_zero, Act.put, List.setIfInBounds_toArray, List.set_cons_zero, List.set_cons_succ]
            refine wpAnyH_take (i := 19) (v := ?_) rfl (by kernel_rfl) (by kernel_rfl) (by kernel_rfl) (fun _ _ _ h => h) (Or.inl ⟨by rfl, ?_⟩) hHeld ?_
            rotate_left
            · intro w' hS'
              (try dsimp only at hS')
              go_simp
              try with_reducible rfl
            try simp only [List.getElem_toArray, List.getElem_cons_succ, List.getElem_cons_zero, Act.put, List.setIfInBounds_toArray, List.set_cons_zero, List.set_cons_succ]
            refine wpAnyH_take (i := 20) (v := ?_) rfl (by kernel_rfl) (by kernel_rfl) (by kernel_rfl) (fun _ _ _ h => h) (Or.inl ⟨by rfl, ?_⟩) hHeld ?_
            rotate_left
            · intro w' hS'
              (try dsimp only at hS')
              go_simp
              try with_reducible rfl
            try simp only [List.getElem_toArray, List.getElem_cons_succ, List.getElem_cons_zero, Act.put, List.setIfInBounds_toArray, List.set_cons_zero, List.set_cons_succ]
            refine wpAnyH_take (i := 21) (v := ?_) rfl (by kernel_rfl) (by kernel_rfl) (by kernel_rfl) (fun _ _ _ h => h) (Or.inl ⟨by rfl, ?_⟩) hHeld ?_
            rotate_left
            · intro w' hS'
              (try dsimp only at hS')
              go_simp
              try with_reducible rfl
            try simp only [List.getElem_toArray, List.getElem_cons_succ, List.getElem_cons_zero, Act.put, List.setIfInBounds_toArray, List.set_cons_zero, List.set_cons_succ]
            refine wpAnyH_take (i := 22) (v := ?_) rfl (by kernel_rfl) (by kernel_rfl) (by kernel_rfl) (fun _ _ _ h => h) (Or.inl ⟨by rfl, ?_⟩) hHeld ?_
            rotate_left
            · intro w' hS'
              (try dsimp only at hS')
              go_simp
              try with_reducible rfl
            try simp only [List.getElem_toArray, List.getElem_cons_succ, List.getElem_cons_zero, Act.put, List.setIfInBounds_toArray, List.set_cons_zero, List.set_cons_succ]
            refine wpAnyH_take (i := 23) (v := ?_) rfl (by kernel_rfl) (by kernel_rfl) (by kernel_rfl) (fun _ _ _ h => h) (Or.inl ⟨by rfl, ?_⟩) hHeld ?_
            rotate_left
            · intro w' hS'
              (try dsimp only at hS')
              go_simp
              try with_reducible rfl
            try simp only [List.getElem_toArray, List.getElem_cons_succ, List.getElem_cons_zero, Act.put, List.setIfInBounds_toArray, List.set_cons_zero, List.set_cons_succ]
            refine wpAnyH_take (i := 24) (v := ?_) rfl (by kernel_rfl) (by kernel_rfl) (by kernel_rfl) (fun _ _ _ h => h) (Or.inl ⟨by rfl, ?_⟩) hHeld ?_
            rotate_left
            · intro w' hS'
              (try dsimp only at hS')
              go_simp
              try with_reducible rfl
            try simp only [List.getElem_toArray, List.getElem_cons_succ, List.getElem_cons_zero, Act.put, List.setIfInBounds_toArray, List.set_cons_zero, List.set_cons_succ]
            refine wpAnyH_take (i := 25) (v := ?_) rfl (by kernel_rfl) (by kernel_rfl) (by kernel_rfl) (fun _ _ _ h => h) (Or.inl ⟨by rfl, ?_⟩) hHeld ?_
            rotate_left
            · intro w' hS'
              (try dsimp only at hS')
              go_simp
              try with_reducible rfl
            try simp only [List.getElem_toArray, List.getElem_cons_succ, List.getElem_cons_zero, Act.put, List.setIfInBounds_toArray, List.set_cons_zero, List.set_cons_succ]
            refine wpAnyH_take (i := 26) (v := ?_) rfl (by kernel_rfl) (by kernel_rfl) (by kernel_rfl) (fun _ _ _ h => h) (Or.inl ⟨by rfl, ?_⟩) hHeld ?_
            rotate_left
            · intro w' hS'
              (try dsimp only at hS')
              go_simp
              try with_reducible rfl
            try simp only [List.getElem_toArray, List.getElem_cons_succ, List.getElem_cons_zero, Act.put, List.setIfInBounds_toArray, List.set_cons_zero, List.set_cons_succ]
            refine wpAnyH_take (i := 27) (v := ?_) rfl (by kernel_rfl) (by kernel_rfl) (by kernel_rfl) (fun _ _ _ h => h) (Or.inl ⟨by rfl, ?_⟩) hHeld ?_
            rotate_left
            · intro w' hS'
              (try dsimp only at hS')
              go_simp
              try with_reducible rfl
            try simp only [List.getElem_toArray, List.getElem_cons_succ, List.getElem_cons_zero, Act.put, List.setIfInBounds_toArray, List.set_cons_zero, List.set_cons_succ]
            refine wpAnyH_take (i := 28) (v := ?_) rfl (by kernel_rfl) (by kernel_rfl) (by kernel_rfl) (fun _ _ _ h => h) (Or.inl ⟨by rfl, ?_⟩) hHeld ?_
            rotate_left
            · intro w' hS'
              (try dsimp only at hS')
              go_simp
              try with_reducible rfl
            try simp only [List.getElem_toArray, List.getElem_cons_succ, List.getElem_cons_zero, Act.put, List.setIfInBounds_toArray, List.set_cons_zero, List.set_cons_succ]
            refine wpAnyH_take (i := 29) (v := ?_) rfl (by kernel_rfl) (by kernel_rfl) (by kernel_rfl) (fun _ _ _ h => h) (Or.inl ⟨by rfl, ?_⟩) hHeld ?_
            rotate_left
            · intro w' hS'
              (try dsimp only at hS')
              go_simp
              try with_reducible rfl
            try simp only [List.getElem_toArray, List.getElem_cons_succ, List.getElem_cons_zero, Act.put, List.setIfInBounds_toArray, List.set_cons_zero, List.set_cons_succ]
            refine wpAnyH_take (i := 30) (v := ?_) rfl (by kernel_rfl) (by kernel_rfl) (by kernel_rfl) (fun _ _ _ h => h) (Or.inl ⟨by rfl, ?_⟩) hHeld ?_
            rotate_left
            · intro w' hS'
              (try dsimp only at hS')
              go_simp
              try with_reducible rfl
            try simp only [List.getElem_toArray, List.getElem_cons_succ, List.getElem_cons_zero, Act.put, List.setIfInBounds_toArray, List.set_cons_zero, List.set_cons_succ]
            refine wpAnyH_take (i := 31) (v := ?_) rfl (by kernel_rfl) (by kernel_rfl) (by kernel_rfl) (fun _ _ _ h => h) (Or.inl ⟨by rfl, ?_⟩) hHeld ?_
            rotate_left
            · intro w' hS'
              (try dsimp only at hS')
              go_simp
              try with_reducible rfl
            try simp only [List.getElem_toArray, List.getElem_cons_succ, List.getElem_cons_zero, Act.put, List.setIfInBounds_toArray, List.set_cons_zero, List.set_cons_succ]
            refine wpAnyH_done (by kernel_rfl) ?_ _
            clear hHeld had2 hnt1 hnt2 hnt3 hnt4 hnt5 hnt6
            have HL9 : Hid (Lw w w9 F2 gb rb ob wb D2 D' (k + 1)) := HLW2.out.later HB9.out
            have HV9 : Hid (VerRow w9 gm nt) := HVER.out.keep HK9.out HGF.out
            have HGF2 : Hid (∀ q, F2 q → ¬ q = gm) := Lib.hid fun q hq e => by
              rcases HF2.out q hq with h | h
              · exact HGF.out (e ▸ h)
              · have := HGL.out; subst e; simp at h; omega
            go_wp2_with fail
            go_loopw [12] (fun iv wr => ∃ j : Nat, j ≤ nt ∧ iv = .int .i64 (j : Int) ∧ KeepA (fun q => q = gm) w9 wr ∧ VerRow wr gm nt) (fun iv _ => nt - (intOf iv).toNat)
            case atStart => exact ⟨0, Nat.zero_le _, rfl, KeepA.refl _ _, HV9.out⟩
            case round =>
              obtain ⟨j, hj, rfl, hkk, hvv⟩ := hrel
              have HKK := Lib.hid hkk
              have HVV := Lib.hid hvv
              clear hkk hvv
              by_cases hjn : j < nt
              · obtain ⟨z, hz, hf⟩ := HVV.out.at hjn
                have hjI : (j : Int) < (nt : Int) := by omega
                go_wp2
                exact ⟨⟨j + 1, by omega, by go_num, HKK.out.trans (HVV.out.set hjn _).2, (HVV.out.set hjn _).1⟩, by simp [intOf]; omega⟩
              · obtain rfl : j = nt := by omega
                go_wp2
                go_meet
                exact ⟨gb, ob, rb, wb, F2, D2, D', rfl, rfl, rfl, rfl, HL9.out.keep HKK.out HGF2.out (fun q e => by rw [e]; exact HGM.out)⟩
        by_cases hk2 : kd = 2
        · as_aux_lemma =>
          subst hk2
          have HSS : Hid (∀ W, KeepA F w5 W → W.cell? ⟨tb, 1, none⟩ = some (.string v.1) ∧ W.cell? ⟨tb, 2, none⟩ = some (.int .i64 v.2)) := Lib.hid fun W hW => by
            have r1 := row_keep hW HT5.out HTF.out
            exact ⟨r1.cell 1, r1.cell 2⟩
          have HREM := Lib.hid ((HLW5.out.later (drewN_below (Below.refl _ w5) 1)).rem hk60 v)
          obtain ⟨ad, had⟩ : ∃ x, remR D v = x := ⟨_, rfl⟩
          rw [had] at HREM
          have had2 : (ad != ad) = false := by simp
          clear e0 e1 e2 e3 had
          go_upto_region 23 with fail
          refine wp_region_held_drew (S := fun W => W.cell? ⟨tb, 1, none⟩ = some (.string v.1) ∧ W.cell? ⟨tb, 2, none⟩ = some (.int .i64 v.2)) (by kernel_rfl) (HSS.out w5.drew (KeepA.of_below (drewN_below (Below.refl _ w5) 1))) (fun hHeld => ?_)
          refine wpAnyH_take (i := 0) (v := ?_) rfl (by kernel_rfl) (by kernel_rfl) (by kernel_rfl) (fun _ _ _ h => h) (Or.inl ⟨by rfl, ?_⟩) hHeld ?_
          rotate_left
          · intro w' hS'
            (try dsimp only at hS')
            go_simp
            try with_reducible rfl
          try simp only [List.getElem_toArray, List.getElem_cons_zero, Act.put, List.setIfInBounds_toArray, List.set_cons_zero, List.set_cons_succ]
          refine wpAnyH_take (i := 1) (v := ?_) rfl (by kernel_rfl) (by kernel_rfl) (by kernel_rfl) (fun _ _ _ h => h) (Or.inl ⟨by rfl, ?_⟩) hHeld ?_
          rotate_left
          · intro w' hS'
            (try dsimp only at hS')
            go_simp
            try with_reducible rfl
          try simp only [List.getElem_toArray, List.getElem_cons_succ, List.getElem_cons_zero, Act.put, List.setIfInBounds_toArray, List.set_cons_zero, List.set_cons_succ]
          refine wpAnyH_take (i := 2) (v := ?_) rfl (by kernel_rfl) (by kernel_rfl) (by kernel_rfl) (fun _ _ _ h => h) (Or.inl ⟨by rfl, ?_⟩) hHeld ?_
          rotate_left
          · intro w' hS'
            (try dsimp only at hS')
            go_simp
            try with_reducible rfl
          try simp only [List.getElem_toArray, List.getElem_cons_succ, List.getElem_cons_zero, Act.put, List.setIfInBounds_toArray, List.set_cons_zero, List.set_cons_succ]
          refine wpAnyH_take (i := 4) (v := ?_) rfl (by kernel_rfl) (by kernel_rfl) (by kernel_rfl) (fun _ _ _ h => h) (Or.inl ⟨by rfl, ?_⟩) hHeld ?_
          rotate_left
          · intro w' hS'
            (try dsimp only at hS')
            go_simp
            try with_reducible rfl
          try simp only [List.getElem_toArray, List.getElem_cons_succ, List.getElem_cons_zero, Act.put, List.setIfInBounds_toArray, List.set_cons_zero, List.set_cons_succ]
          refine wpAnyH_take (i := 5) (v := ?_) rfl (by kernel_rfl) (by kernel_rfl) (by kernel_rfl) (fun _ _ _ h => h) (Or.inl ⟨by rfl, ?_⟩) hHeld ?_
          rotate_left
          · intro w' hS'
            (try dsimp only at hS')
            go_simp
            try with_reducible rfl
          try simp only [List.getElem_toArray, List.getElem_cons_succ, List.getElem_cons_zero, Act.put, List.setIfInBounds_toArray, List.set_cons_zero, List.set_cons_succ]
          refine wpAnyH_take (i := 6) (v := ?_) rfl (by kernel_rfl) (by kernel_rfl) (by kernel_rfl) (fun _ _ _ h => h) (Or.inl ⟨by rfl, ?_⟩) hHeld ?_
          rotate_left
          · intro w' hS'
            (try dsimp only at hS')
            go_simp
            try with_reducible rfl
          try simp only [List.getElem_toArray, List.getElem_cons_succ, List.getElem_cons_zero, Act.put, List.setIfInBounds_toArray, List.set_cons_zero, List.set_cons_succ]
          refine wpAnyH_ready (rs := [3]) (by kernel_rfl) (by simp) (AllReadyH.cons rfl (fun K hK => ?_) AllReadyH.nil)
          try rw [if_pos (by rfl)]
          go_wp2_with fail
          refine HREM.out.mono ?_
          rintro _ w7 ⟨rfl, hk7, hd7⟩
          have HK7 := Lib.hid ((KeepA.of_below (X := F) (drewN_below (Below.refl _ w5) 1)).trans hk7)
          have HD7 := Lib.hid hd7
          clear hk7 hd7
          refine hK.out _ _ (HSS.out w7 HK7.out) (fun hHeld => ?_)
          try simp only [List.getElem_toArray, List.getElem_cons_succ, List.getElem_cons_zero, Act.put, List.setIfInBounds_toArray, List.set_cons_zero, List.set_cons_succ]
          clear hK K
          refine wpAnyH_ready (rs := [7]) (by kernel_rfl) (by simp) (AllReadyH.cons rfl (fun K hK => ?_) AllReadyH.nil)
          try rw [if_pos (by rfl)]
          go_wp2_with fail
          refine HD7.out.mono ?_
          rintro _ w8 ⟨rfl, hk8, F2, D2, hF2, hlw2⟩
          have HK8 := Lib.hid (HK7.out.trans hk8)
          have HLW2 := Lib.hid hlw2
          clear hk8 hF2 hlw2
          refine hK.out _ _ (HSS.out w8 HK8.out) (fun hHeld => ?_)
          try simp only [List.getElem_toArray, List.getElem_cons_succ, List.getElem_cons_zero, Act.put, List.setIfInBounds_toArray, List.set_cons_zero, List.set_cons_succ]
          clear hK K
          refine wpAnyH_take (i := 8) (v := ?_) rfl (by kernel_rfl) (by kernel_rfl) (by kernel_rfl) (fun _ _ _ h => h) (Or.inl ⟨by rfl, ?_⟩) hHeld ?_
          rotate_left
          · intro w' hS'
            (try dsimp only at hS')
            go_simp
            try with_reducible rfl
          try simp only [List.getElem_toArray, List.getElem_cons_succ, List.getElem_cons_zero, Act.put, List.setIfInBounds_toArray, List.set_cons_zero, List.set_cons_succ]
          refine wpAnyH_done (by kernel_rfl) ?_ _
          go_wp2_with fail
          go_meet
          exact ⟨gb, ob, rb, wb, F2, D2, D', rfl, rfl, rfl, rfl, HLW2.out⟩
        by_cases hk3 : kd = 3
        · as_aux_lemma =>
          subst hk3
          have HH := Lib.hid (HLW5.out.has v)
          rcases findR_in D v with ⟨q1, q2⟩ | ⟨i, hi, q1, -, q2⟩
          all_goals
            rw [q2] at HH
            rw [HFZ.out] at q1
            subst q1
            clear q2
            go_wp2_with fail
            refine HH.out.mono ?_
            rintro _ w6 ⟨rfl, hb6⟩
            have HL6 : Hid (Lw w w6 F gb rb ob wb D D' (k + 1)) := (HLW5.out.later hb6).more (Nat.le_succ k)
            clear hb6
            go_wp2_with fail
            go_meet
            exact ⟨gb, ob, rb, wb, F, D, D', rfl, rfl, rfl, rfl, HL6.out⟩
        by_cases hk4 : kd = 4
        · as_aux_lemma =>
          subst hk4
          by_cases h0 : no = 0
          · subst h0
            have HF := Lib.hid (HLW5.out.to hk60 v)
            rw [HNO.out] at HF
            obtain ⟨rk, hinv⟩ := HLW5.out.iD
            obtain ⟨i, hi, hfi, hDi, -⟩ := (findR_in D v).resolve_left (fun h => by
              have := ask_in HNO.out
              exact memB_not.1 h.2 this)
            rw [HFZ.out] at hfi
            subst hfi
            go_wp2_with fail
            refine HF.out.mono ?_
            rintro _ w6 ⟨vv, rfl, -, hq, hb6⟩
            obtain ⟨x, hx, hxv, ho, hlow⟩ := hq (by simp)
            have hDx : D[i] = x := by
              obtain ⟨j, hj, rfl⟩ := List.mem_iff_getElem.1 hx
              have hnd := hinv.asc.nodup
              have : i = j := (List.getElem_inj (h₀ := by simpa using hi) (h₁ := by simpa using hj) hnd).1 (by rw [List.getElem_map, List.getElem_map, hDi, hxv])
              subst this
              rfl
            have hxl : x.2.length ≤ 64 := hinv.tgl x hx
            have HL6 := Lib.hid (HLW5.out.later hb6)
            obtain ⟨a6, c6, gm, rfl, hgm, hr6, hvr⟩ := own_ver ho hlow
            have HR6 := Lib.hid hr6
            have HVR := Lib.hid hvr
            obtain ⟨n6, hn6⟩ : ∃ y, x.2.length = y := ⟨_, rfl⟩
            have HN6 := Lib.hid hn6
            rw [hn6] at HVR hxl
            have hn61 : n6 ≤ 1000000 := by omega
            obtain ⟨da, dc, db, doff, hbx, hdp, hdr⟩ := HL6.out.rows
            obtain ⟨rfl, -⟩ := hdp (by omega)
            obtain ⟨ta9, tc9, hrow9⟩ := hdr i hi
            have hrow8 := hrow9 w6 (Below.refl _ _)
            rw [hDx] at hrow8
            obtain ⟨-, d2, hr9⟩ := hrow8
            rw [hn6] at d2
            have hi0 : (0 : Int) ≤ (i : Int) := by omega
            have hi1 : (i : Int) < (D.length : Int) := by omega
            have hi2 : i < D.length := hi
            obtain ⟨dl, hdl⟩ : ∃ y, D.length = y := ⟨_, rfl⟩
            rw [hdl] at hbx hi1 hi2
            have HGF : Hid (¬ F gm) := HLW5.out.apart (.inl hgm)
            have HGM : Hid (w.heap.size ≤ gm) := Nat.le_trans HLW5.out.below.size hgm
            have HSM : Hid (Calls Try.prog 8 #[.slice a6 n6 c6, .slice ta9 n6 tc9] w6 fun e w' => e = .returned (.bool true) ∧ Below w6.heap.size w6 w') := by
              have h := lsame_any a6 ta9 n6 n6 c6 tc9 _ _ w6 HN6.out HN6.out hn61 hn61 HR6.out hr9
              simp only [decide_true] at h
              exact h
            try rw [hn6]
            clear hrow9 hq hx hxv ho hlow hDx hb6 hr6 hvr hn6 hdp hdr hr9 e0 e1 e2 e3 hDi hi hdl hinv hgm
            go_wp2_with fail
            refine HSM.out.mono ?_
            rintro _ w7 ⟨rfl, hb7⟩
            have HL7 : Hid (Lw w w7 F gb rb ob wb D D' (k + 1)) := (HL6.out.later hb7).more (Nat.le_succ k)
            have HV7 : Hid (0 < n6 → a6 = some ⟨gm, 0, none⟩ ∧ VerRow w7 gm n6) := Lib.hid fun h => ⟨(HVR.out h).1, (HVR.out h).2.keep (X := fun _ => False) (KeepA.of_below hb7) (fun h => h)⟩
            clear hb7 hbx d2
            go_wp2_with fail
            go_loopw [15] (fun iv wr => ∃ j : Nat, j ≤ n6 ∧ iv = .int .i64 (j : Int) ∧ KeepA (fun q => q = gm) w7 wr ∧ (0 < n6 → VerRow wr gm n6)) (fun iv _ => n6 - (intOf iv).toNat)
            case atStart => exact ⟨0, Nat.zero_le _, rfl, KeepA.refl _ _, fun h => (HV7.out h).2⟩
            case round =>
              obtain ⟨j, hj, rfl, hkk, hvv⟩ := hrel
              have HKK := Lib.hid hkk
              have HVV := Lib.hid hvv
              clear hkk hvv
              by_cases hjn : j < n6
              · obtain ⟨rfl, -⟩ := HV7.out (by omega)
                have HV9 := Lib.hid (HVV.out (by omega))
                obtain ⟨z, hz, hf⟩ := HV9.out.at hjn
                have hjI : (j : Int) < (n6 : Int) := by omega
                go_wp2
                exact ⟨⟨j + 1, by omega, by go_num, HKK.out.trans (HV9.out.set hjn _).2, fun _ => (HV9.out.set hjn _).1⟩, by simp [intOf]; omega⟩
              · obtain rfl : j = n6 := by omega
                go_wp2
                go_meet
                exact ⟨gb, ob, rb, wb, F, D, D', rfl, rfl, rfl, rfl, HL7.out.keep HKK.out (fun q hq e => HGF.out (e ▸ hq)) (fun q e => by rw [e]; exact HGM.out)⟩
          · have HF := Lib.hid (HLW5.out.to hk60 v)
            rw [HNO.out] at HF
            have hno1 : (no != 0) = true := by simpa using h0
            have hno2 : (no == 0) = false := by simpa using h0
            go_wp2_with fail
            refine HF.out.mono ?_
            rintro _ w6 ⟨vv, rfl, hq, -, hb6⟩
            have hvv := hq h0
            subst hvv
            have HL6 : Hid (Lw w w6 F gb rb ob wb D D' (k + 1)) := (HLW5.out.later hb6).more (Nat.le_succ k)
            clear hq hb6 h0
            go_wp2_with fail
            go_loopw [15] (fun iv wr => iv = .int .i64 0 ∧ wr = w6) (fun iv _ => 0)
            case atStart => exact ⟨rfl, rfl⟩
            case round =>
              obtain ⟨rfl, rfl⟩ := hrel
              go_wp2
              go_meet
              exact ⟨gb, ob, rb, wb, F, D, D', rfl, rfl, rfl, rfl, HL6.out⟩
        by_cases hk5 : kd = 5
        · as_aux_lemma =>
          subst hk5
          by_cases h0 : no = 0
          · subst h0
            have HF := Lib.hid (HLW5.out.from_ hk60 v)
            rw [HNO.out] at HF
            go_wp2_with fail
            refine HF.out.mono ?_
            rintro _ w6 ⟨vv, rfl, -, hq, hb6⟩
            obtain ⟨ho, hlow⟩ := hq (by simp)
            have HL6 := Lib.hid (HLW5.out.later hb6)
            have HT6 := Lib.hid (RowAt.below HT5.out hb6)
            obtain ⟨a6, c6, rfl, -, -, hr6⟩ := ho.rd
            have HR6 := Lib.hid hr6
            obtain ⟨n6, hn6⟩ : ∃ x, (behd D v).length = x := ⟨_, rfl⟩
            have HN6 := Lib.hid hn6
            have hn61 : n6 ≤ 1000000 := by
              rw [← hn6]
              obtain ⟨rk, hinv⟩ := HLW5.out.iD
              have := behd_len D v
              have := hinv.len
              omega
            have HD := Lib.hid (HL6.out.dfrom hk60 v)
            try rw [hn6]
            clear hq ho hlow hr6 hb6 hn6 e0 e1 e2 e3
            have e1 := HT6.out.cell 1
            have e2 := HT6.out.cell 2
            simp only [List.getElem?_toArray, List.getElem?_cons_zero, List.getElem?_cons_succ] at e1 e2
            go_wp2_with fail
            refine HD.out.mono ?_
            rintro _ w7 ⟨v7, rfl, ho7, -, hb7⟩
            obtain ⟨a7, c7, rfl, -, -, hr7⟩ := ho7.rd
            have HL7 := Lib.hid (HL6.out.later hb7)
            have HSM : Hid (Calls Try.prog 8 #[.slice a6 n6 c6, .slice a7 n6 c7] w7 fun e w' => e = .returned (.bool true) ∧ Below w7.heap.size w7 w') := by
              have h := lsame_any a6 a7 n6 n6 c6 c7 _ _ w7 HN6.out HN6.out hn61 hn61 (HR6.out.later hb7) hr7
              simp only [decide_true] at h
              exact h
            rw [HN6.out]
            clear ho7 hb7 hr7 e1 e2
            go_wp2_with fail
            refine HSM.out.mono ?_
            rintro _ w8 ⟨rfl, hb8⟩
            have HL8 : Hid (Lw w w8 F gb rb ob wb D D' (k + 1)) := (HL7.out.later hb8).more (Nat.le_succ k)
            clear hb8
            go_wp2_with fail
            go_meet
            exact ⟨gb, ob, rb, wb, F, D, D', rfl, rfl, rfl, rfl, HL8.out⟩
          · have HF := Lib.hid (HLW5.out.from_ hk60 v)
            rw [HNO.out] at HF
            have hno1 : (no != 0) = true := by simpa using h0
            have hno2 : (no == 0) = false := by simpa using h0
            go_wp2_with fail
            refine HF.out.mono ?_
            rintro _ w6 ⟨vv, rfl, hq, -, hb6⟩
            have hvv := hq h0
            subst hvv
            have HL6 : Hid (Lw w w6 F gb rb ob wb D D' (k + 1)) := (HLW5.out.later hb6).more (Nat.le_succ k)
            clear hq hb6 h0
            go_wp2_with fail
            go_meet
            exact ⟨gb, ob, rb, wb, F, D, D', rfl, rfl, rfl, rfl, HL6.out⟩
        by_cases hk6 : kd = 6
        · as_aux_lemma =>
          subst hk6
          by_cases h0 : no = 0
          · subst h0
            have HF := Lib.hid (HLW5.out.clo hk60 v)
            rw [HNO.out] at HF
            go_wp2_with fail
            refine HF.out.mono ?_
            rintro _ w6 ⟨vv, rfl, -, hq, hb6⟩
            obtain ⟨ho, hlow⟩ := hq (by simp)
            have HL6 := Lib.hid (HLW5.out.later hb6)
            have HT6 := Lib.hid (RowAt.below HT5.out hb6)
            obtain ⟨a6, c6, rfl, -, -, hr6⟩ := ho.rd
            have HR6 := Lib.hid hr6
            obtain ⟨n6, hn6⟩ : ∃ x, (wlkR D 201 v []).length = x := ⟨_, rfl⟩
            have HN6 := Lib.hid hn6
            have hn61 : n6 ≤ 1000000 := by
              rw [← hn6]
              exact HLW5.out.clolen hk60 v
            have HD := Lib.hid (HL6.out.dclo hk60 v HNO.out)
            try rw [hn6]
            clear hq ho hlow hr6 hb6 hn6 e0 e1 e2 e3
            have e1 := HT6.out.cell 1
            have e2 := HT6.out.cell 2
            simp only [List.getElem?_toArray, List.getElem?_cons_zero, List.getElem?_cons_succ] at e1 e2
            go_wp2_with fail
            refine HD.out.mono ?_
            rintro _ w7 ⟨v7, rfl, ho7, -, hb7⟩
            obtain ⟨a7, c7, rfl, -, -, hr7⟩ := ho7.rd
            have HL7 := Lib.hid (HL6.out.later hb7)
            have HSM : Hid (Calls Try.prog 8 #[.slice a6 n6 c6, .slice a7 n6 c7] w7 fun e w' => e = .returned (.bool true) ∧ Below w7.heap.size w7 w') := by
              have h := lsame_any a6 a7 n6 n6 c6 c7 _ _ w7 HN6.out HN6.out hn61 hn61 (HR6.out.later hb7) hr7
              simp only [decide_true] at h
              exact h
            rw [HN6.out]
            clear ho7 hb7 hr7 e1 e2
            go_wp2_with fail
            refine HSM.out.mono ?_
            rintro _ w8 ⟨rfl, hb8⟩
            have HL8 : Hid (Lw w w8 F gb rb ob wb D D' (k + 1)) := (HL7.out.later hb8).more (Nat.le_succ k)
            clear hb8
            go_wp2_with fail
            go_meet
            exact ⟨gb, ob, rb, wb, F, D, D', rfl, rfl, rfl, rfl, HL8.out⟩
          · have HF := Lib.hid (HLW5.out.clo hk60 v)
            rw [HNO.out] at HF
            have hno1 : (no != 0) = true := by simpa using h0
            have hno2 : (no == 0) = false := by simpa using h0
            go_wp2_with fail
            refine HF.out.mono ?_
            rintro _ w6 ⟨vv, rfl, hq, -, hb6⟩
            have hvv := hq h0
            subst hvv
            have HL6 : Hid (Lw w w6 F gb rb ob wb D D' (k + 1)) := (HLW5.out.later hb6).more (Nat.le_succ k)
            clear hq hb6 h0
            go_wp2_with fail
            go_meet
            exact ⟨gb, ob, rb, wb, F, D, D', rfl, rfl, rfl, rfl, HL6.out⟩
        by_cases hk7 : kd = 7
        · as_aux_lemma =>
          subst hk7
          have HCP := Lib.hid (HLW5.out.copy hk60)
          clear e0 e1 e2 e3
          go_wp2_with fail
          refine HCP.out.mono ?_
          rintro _ w6 ⟨nb, rfl, hb6, ca, cn, cc, ls, hls, hcn, hcell, hrows, hfin⟩
          have HFIN := Lib.hid hfin
          have HROWS := Lib.hid hrows
          clear hb6 hrows hfin HCP
          go_wp2_with (refine step_appendLk rfl (.const (.slice none 0 0)) (.tmp 262) rfl (.slice none 0 0) [] rfl ca cn cc ls hls rfl (OwnLk.nil _) HROWS.out (by simp) (by omega) ?_; intro v7 w7 h1 h2 h3; have HF7 := Lib.hid (HFIN.out v7 w7 h1 (keep_none h2) (fun p hp => (h3 p hp).resolve_left (by simp [Value.ownBlock]))); obtain ⟨a7, c7, hv7, -⟩ := h1.rd; rw [List.nil_append, hls] at hv7; subst hv7; clear h1 h2 h3)
          go_meet
          obtain ⟨F2, h⟩ := HF7.out
          exact ⟨nb, gb, w7.heap.size, rb, F2, D, D, rfl, rfl, rfl, rfl, h.more (Nat.le_succ k)⟩
        as_aux_lemma =>
        have HL6 : Hid (Lw w w5 F gb rb ob wb D D' (k + 1)) := HLW5.out.more (Nat.le_succ k)
        go_wp2_with fail
        go_meet
        exact ⟨gb, ob, rb, wb, F, D, D', rfl, rfl, rfl, rfl, HL6.out⟩
      case rest =>
        as_aux_lemma =>
        obtain ⟨gb2, ob2, rb2, wb2, F2, D2, D3, rfl, rfl, rfl, rfl, hlw⟩ := hcut
        have HLC := Lib.hid hlw
        have HTE := Lib.hid (hlw.tells (by omega))
        clear hlw e0 e1 e2 e3
        go_wp2_with fail
        refine HTE.out.mono ?_
        rintro _ w9 ⟨rfl, hb9⟩
        have HL9 := Lib.hid (HLC.out.later hb9)
        clear hb9
        go_wp2_with fail
        exact ⟨⟨k + 1, gb2, ob2, rb2, wb2, F2, D2, D3, by omega, rfl, rfl, rfl, rfl, by go_num, HL9.out⟩, by simp [intOf]; omega⟩
    · obtain rfl : k = n := by omega
      obtain ⟨wo, rfl⟩ : ∃ x, x = wr := ⟨_, rfl⟩
      have HSW : Hid (Lw w wo F ob wb gb rb D' D k) := HLW.out.swap
      obtain ⟨nd, hnd⟩ : ∃ x, D'.length = x := ⟨_, rfl⟩
      have HND := Lib.hid hnd
      have hk60 : k ≤ 60 := hn60
      obtain ⟨a9, c9, b9, o9, hc9, hp9, hr9⟩ := HSW.out.rows
      rw [hnd] at hc9 hp9
      have HP9 := Lib.hid hp9
      have HR9 := Lib.hid hr9
      have HC9 : Hid (∀ W, Below wo.heap.size wo W → W.cell? ⟨wb, 0, none⟩ = some (.slice a9 nd c9)) := Lib.hid fun W hW => (hW.cell (p := ⟨wb, 0, none⟩) (World.block_lt_of_cell? wo _ hc9)).trans hc9
      have hnd60 : nd ≤ 60 := by
        obtain ⟨rk, h⟩ := HSW.out.iD
        have := h.len
        omega
      clear hc9 hp9 hr9 hnd
      go_wp2_with fail
      go_loopw [20] (fun iv wr => ∃ j : Nat, j ≤ nd ∧ iv = .int .i64 (j : Int) ∧ Below wo.heap.size wo wr) (fun iv _ => nd - (intOf iv).toNat)
      case atStart => exact ⟨0, Nat.zero_le _, rfl, Below.refl _ _⟩
      case round =>
        obtain ⟨j, hj, rfl, hbq⟩ := hrel
        have HBQ := Lib.hid hbq
        have hc9 := HC9.out wr hbq
        by_cases hjn : j < nd
        · have hjd : j < D'.length := by rw [HND.out]; exact hjn
          obtain ⟨rfl, -⟩ := HP9.out (by omega)
          obtain ⟨ta, tc, hrow⟩ := HR9.out j hjd
          obtain ⟨hrf, -, -⟩ := hrow wr hbq
          have hmem : D'[j] ∈ D' := List.getElem_mem hjd
          obtain ⟨v, hv⟩ : ∃ v, D'[j].1 = v := ⟨_, rfl⟩
          rw [hv] at hrf
          have hask : askR D' v = 0 := by
            unfold askR
            rw [if_pos (by rw [← hv]; exact HSW.out.rt _ hmem), if_pos (memB_iff.2 (by rw [← hv]; exact List.mem_map_of_mem hmem))]
          obtain ⟨d0, d1⟩ := rf_cells hrf
          have HSQ := Lib.hid (HSW.out.later hbq)
          obtain ⟨px, hpx⟩ : ∃ y, wr.heap.size = y := ⟨_, rfl⟩
          obtain ⟨w1, hw1⟩ : ∃ y, wr.alloc (.cells #[.string v.1, .int .i64 v.2] 25) = y := ⟨_, rfl⟩
          have hb1 : Below wr.heap.size wr w1 := by rw [← hw1]; exact below_alloc _
          have HP1 : Hid (RowAt w1 px 25 #[.string v.1, .int .i64 v.2]) := by rw [← hw1, ← hpx]; exact RowAt.new _ _ _
          have HL1 := Lib.hid (HSQ.out.later hb1)
          have HB1 := Lib.hid (below_trans hbq hb1)
          have hjI : (j : Int) < (nd : Int) := by omega
          have hlen : (behd D' v).length ≤ 1000000 := by
            have := behd_len D' v
            have := HND.out
            omega
          clear hbq hrow hrf hmem hv hb1
          have p0 := HP1.out.cell 0
          have p1 := HP1.out.cell 1
          simp only [List.getElem?_toArray, List.getElem?_cons_zero, List.getElem?_cons_succ] at p0 p1
          have HF := Lib.hid (HL1.out.from_ hk60 v)
          rw [hask] at HF
          clear hask
          go_wp2_with fail
          refine HF.out.mono ?_
          rintro _ w6 ⟨vv, rfl, -, hq, hb6⟩
          obtain ⟨ho, hlow⟩ := hq (by simp)
          have HL6 := Lib.hid (HL1.out.later hb6)
          have HP6 := Lib.hid (RowAt.below HP1.out hb6)
          have HB6 := Lib.hid (below_trans HB1.out hb6)
          obtain ⟨a6, c6, rfl, -, -, hr6⟩ := ho.rd
          have HR6 := Lib.hid hr6
          obtain ⟨n6, hn6⟩ : ∃ x, (behd D' v).length = x := ⟨_, rfl⟩
          have HN6 := Lib.hid hn6
          rw [hn6] at hlen
          try rw [hn6]
          have HD := Lib.hid (HL6.out.dfrom hk60 v)
          clear hq ho hlow hr6 hb6 hn6 p0 p1 d0 d1 hc9 hw1 hpx
          have p0 := HP6.out.cell 0
          have p1 := HP6.out.cell 1
          simp only [List.getElem?_toArray, List.getElem?_cons_zero, List.getElem?_cons_succ] at p0 p1
          go_wp2_with fail
          refine HD.out.mono ?_
          rintro _ w7 ⟨v7, rfl, ho7, -, hb7⟩
          obtain ⟨a7, c7, rfl, -, -, hr7⟩ := ho7.rd
          have HB7 := Lib.hid (below_trans HB6.out hb7)
          have HSM : Hid (Calls Try.prog 8 #[.slice a6 n6 c6, .slice a7 n6 c7] w7 fun e w' => e = .returned (.bool true) ∧ Below w7.heap.size w7 w') := by
            have h := lsame_any a6 a7 n6 n6 c6 c7 _ _ w7 HN6.out HN6.out hlen hlen (HR6.out.later hb7) hr7
            simp only [decide_true] at h
            exact h
          rw [HN6.out]
          clear ho7 hb7 hr7 p0 p1
          go_wp2_with fail
          refine HSM.out.mono ?_
          rintro _ w8 ⟨rfl, hb8⟩
          have HB8 := Lib.hid (below_trans HB7.out hb8)
          clear hb8
          go_wp2_with fail
          exact ⟨⟨j + 1, by omega, by go_num, HB8.out⟩, by simp [intOf]; omega⟩
        · obtain rfl : j = nd := by omega
          have HTE := Lib.hid ((HSW.out.later HBQ.out).tells hk60)
          have HBW : Hid (Below w.heap.size w wr) := HSW.out.below.trans (HBQ.out.mono HSW.out.below.size)
          clear hbq
          go_wp2_with fail
          refine HTE.out.mono ?_
          rintro _ w8 ⟨rfl, hb8⟩
          have HB8 : Hid (Below w.heap.size w w8) := below_trans HBW.out hb8
          clear hb8
          go_wp2_with fail
          refine (known_any _).mono ?_
          rintro _ w9 ⟨rfl, hb9⟩
          have HB9 : Hid (Below w.heap.size w w9) := below_trans HB8.out hb9
          clear hb9
          go_wp2
          exact HKT.out _ HB9.out
end Go.Proofs.Ytcakdjnnfonijaa
