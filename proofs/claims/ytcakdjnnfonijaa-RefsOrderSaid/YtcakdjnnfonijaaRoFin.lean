/- RefsOrder answers true for any links: its walk. -/
import Derived.Test.YtcakdjnnfonijaaRoCp
import Derived.Test.YtcakdjnnfonijaaRoKnown
namespace Go.Proofs.Ytcakdjnnfonijaa
open Go.RowKit

theorem LkR.cells {W : World} {b o : Nat} {x : Rf × List Rf} {ta : Option Addr} {m tc : Nat} (h : LkR W b o x ta tc) (hm : x.2.length = m) : W.cell? ⟨b, o, none⟩ = some (.string x.1.1) ∧ W.cell? ⟨b, o + 1, none⟩ = some (.int .i64 x.1.2) ∧ W.cell? ⟨b, o + 2, none⟩ = some (.slice ta m tc) := by
  have h2 := h.2.1
  rw [hm] at h2
  exact ⟨h.1 0 _ rfl, h.1 1 _ rfl, h2⟩
set_option maxRecDepth 100000 in
set_option maxHeartbeats 8000000 in
theorem refsorder_any (a : Option Addr) (n c : Nat) (ls : List Lk) (w : World) (hl : n = ls.length) (hr : RdLk w a ls) :
    Calls Try.prog 3 #[.slice a n c] w fun e w' => e = .returned (.bool true) ∧ Below w.heap.size w w' := by
  obtain ⟨g, hg⟩ : ∃ x, w.heap.size = x := ⟨_, rfl⟩
  obtain ⟨K, hK⟩ : ∃ K, (fun (e : Ending) (w' : World) => e = .returned (.bool true) ∧ Below w.heap.size w w') = K := ⟨_, rfl⟩
  rw [hK]
  have HK : Hid (∀ W, Below g w W → K (.returned (.bool true)) W) := Lib.hid fun W hW => by rw [← hK, hg]; exact ⟨rfl, hW⟩
  have HKN : Hid (∀ W, Below g w W → Calls Try.prog 5 #[] W fun e w' => e = .returned (.bool true) ∧ Below g w w') := Lib.hid fun W hW => (known_any W).mono fun e w' ⟨q1, q2⟩ => ⟨q1, hW.trans (q2.mono (by rw [← hg]; exact hW.size))⟩
  have HBR0 : Hid (Below g w w) := Lib.hid (Below.refl _ _)
  clear hK
  by_cases h40 : 40 < n
  · clear hr hl
    go_enter Try.func3, Try.ntmps3
    go_wp2_with (go_at_call 5; refine (HKN.out _ HBR0.out).mono ?_; rintro _ w2 ⟨rfl, hb2⟩; have HB2 := Lib.hid hb2; clear hb2)
    exact HK.out _ HB2.out
  have hn40 : n ≤ 40 := by omega
  obtain ⟨L, hL⟩ : ∃ L, plainL ls = L := ⟨_, rfl⟩
  have hLn : L.length = n := by rw [← hL, hl]; simp [plainL]
  have HLN := Lib.hid hLn
  obtain ⟨b, off, ha, hrows⟩ := hr.rows
  rw [hL] at hrows ha
  rw [hg] at hrows ha
  have HROWS := Lib.hid hrows
  have HA := Lib.hid ha
  clear hr hrows ha hl hL hLn
  go_enter Try.func3, Try.ntmps3
  go_wp2
  go_loopw [3, 4] (fun mv iv wr => ∃ (k : Nat) (cs : List Lk) (ma : Option Addr) (mc : Nat), mv = .slice ma k mc ∧ iv = .int .i64 (k : Int) ∧ k ≤ n ∧ CpSt w wr g (.slice ma k mc) cs ∧ plainL cs = L.take k ∧ ∀ x ∈ L.take k, x.2.length ≤ 100) (fun _ iv _ => n - (intOf iv).toNat)
  case atStart => exact ⟨0, [], none, 0, rfl, rfl, Nat.zero_le _, CpSt.start w g, by simp [plainL], by simp⟩
  case round =>
    obtain ⟨k, cs, ma, mc, rfl, rfl, hk, hcp, hcs, hts⟩ := hrel
    have HCP := Lib.hid hcp
    have HCS := Lib.hid hcs
    have HTS := Lib.hid hts
    have HBR := Lib.hid hcp.below
    have hgr : g ≤ wr.heap.size := by rw [← hg]; exact hcp.below.size
    clear hcp hcs hts
    by_cases hkn : k < n
    · as_aux_lemma =>
      obtain ⟨ha, hbs⟩ := HA.out (by rw [HLN.out]; omega)
      subst ha
      obtain ⟨ta, tc, hrow⟩ := HROWS.out k (by rw [HLN.out]; omega)
      obtain ⟨x, hx⟩ : ∃ x, L[k]'(by rw [HLN.out]; omega) = x := ⟨_, rfl⟩
      rw [hx] at hrow
      have HX : Hid (∃ h : k < L.length, L[k] = x) := ⟨_, hx⟩
      have HROW := Lib.hid hrow
      obtain ⟨m, hm⟩ : ∃ m, x.2.length = m := ⟨_, rfl⟩
      have HM := Lib.hid hm
      have hS : Hid (∀ W, Below g w W → W.cell? ⟨b, off + k * 3, none⟩ = some (.string x.1.1) ∧ W.cell? ⟨b, off + k * 3 + 1, none⟩ = some (.int .i64 x.1.2) ∧ W.cell? ⟨b, off + k * 3 + 2, none⟩ = some (.slice ta m tc)) := Lib.hid fun W hW => (hrow W hW).cells hm
      obtain ⟨s0, hs0⟩ : ∃ y, x.1.1.size = y := ⟨_, rfl⟩
      obtain ⟨c1, c2, c3⟩ := hS.out wr HBR.out
      clear hrow hx hm
      by_cases h100 : 100 < m
      · clear HCP HCS HTS HX HROW HM
        go_wp2_with (go_at_call 5; refine (HKN.out _ HBR.out).mono ?_; rintro _ w2 ⟨rfl, hb2⟩; have HB2 := Lib.hid hb2; clear hb2)
        exact HK.out _ HB2.out
      by_cases h1000 : 1000 < s0
      · clear HCP HCS HTS HX HROW HM
        go_wp2_with (go_at_call 5; refine (HKN.out _ HBR.out).mono ?_; rintro _ w2 ⟨rfl, hb2⟩; have HB2 := Lib.hid hb2; clear hb2)
        exact HK.out _ HB2.out
      have hm100 : m ≤ 100 := by omega
      have hs1000 : s0 ≤ 1000 := by omega
      clear h100 h1000
      go_upto_region 9 with fail
      clear c1 c2 c3
      refine wp_region_held_drew (S := fun W => W.cell? ⟨b, off + k * 3, none⟩ = some (.string x.1.1) ∧ W.cell? ⟨b, off + k * 3 + 1, none⟩ = some (.int .i64 x.1.2) ∧ W.cell? ⟨b, off + k * 3 + 2, none⟩ = some (.slice ta m tc)) (by kernel_rfl) (hS.out wr.drew (drewN_below HBR.out 1)) (fun hHeld => ?_)
      refine wpAnyH_take (i := 0) (v := ?_) rfl (by kernel_rfl) (by kernel_rfl) (by kernel_rfl) (fun _ _ _ h => h) (Or.inl ⟨by rfl, ?_⟩) hHeld ?_
      rotate_left
      · intro w' hS'
        (try dsimp only at hS')
        go_simp
        try with_reducible rfl
      try simp only [List.getElem_toArray, List.getElem_cons_zero, Act.put, List.setIfInBounds_toArray, List.set_cons_zero, List.set_cons_succ]
      refine wpAnyH_take (i := 1) (v := ?_) rfl (by kernel_rfl) (by kernel_rfl) (by kernel_rfl) (fun _ _ _ h => h) (Or.inl ⟨by rfl, ?_⟩) hHeld ?_
      rotate_left
      · intro w' hS'
        (try dsimp only at hS')
        go_simp
        try with_reducible rfl
      try simp only [List.getElem_toArray, List.getElem_cons_succ, List.getElem_cons_zero, Act.put, List.setIfInBounds_toArray, List.set_cons_zero, List.set_cons_succ]
      refine wpAnyH_take (i := 2) (v := ?_) rfl (by kernel_rfl) (by kernel_rfl) (by kernel_rfl) (fun _ _ _ h => h) (Or.inl ⟨by rfl, ?_⟩) hHeld ?_
      rotate_left
      · intro w' hS'
        (try dsimp only at hS')
        go_simp
        try with_reducible rfl
      try simp only [List.getElem_toArray, List.getElem_cons_succ, List.getElem_cons_zero, Act.put, List.setIfInBounds_toArray, List.set_cons_zero, List.set_cons_succ]
      refine wpAnyH_take (i := 3) (v := ?_) rfl (by kernel_rfl) (by kernel_rfl) (by kernel_rfl) (fun _ _ _ h => h) (Or.inl ⟨by rfl, ?_⟩) hHeld ?_
      rotate_left
      · intro w' hS'
        (try dsimp only at hS')
        go_simp
        try with_reducible rfl
      try simp only [List.getElem_toArray, List.getElem_cons_succ, List.getElem_cons_zero, Act.put, List.setIfInBounds_toArray, List.set_cons_zero, List.set_cons_succ]
      refine wpAnyH_take (i := 4) (v := ?_) rfl (by kernel_rfl) (by kernel_rfl) (by kernel_rfl) (fun _ _ _ h => h) (Or.inl ⟨by rfl, ?_⟩) hHeld ?_
      rotate_left
      · intro w' hS'
        (try dsimp only at hS')
        go_simp
        try with_reducible rfl
      try simp only [List.getElem_toArray, List.getElem_cons_succ, List.getElem_cons_zero, Act.put, List.setIfInBounds_toArray, List.set_cons_zero, List.set_cons_succ]
      refine wpAnyH_take (i := 5) (v := ?_) rfl (by kernel_rfl) (by kernel_rfl) (by kernel_rfl) (fun _ _ _ h => h) (Or.inl ⟨by rfl, ?_⟩) hHeld ?_
      rotate_left
      · intro w' hS'
        (try dsimp only at hS')
        go_simp
        try with_reducible rfl
      try simp only [List.getElem_toArray, List.getElem_cons_succ, List.getElem_cons_zero, Act.put, List.setIfInBounds_toArray, List.set_cons_zero, List.set_cons_succ]
      refine wpAnyH_take (i := 6) (v := ?_) rfl (by kernel_rfl) (by kernel_rfl) (by kernel_rfl) (fun _ _ _ h => h) (Or.inl ⟨by rfl, ?_⟩) hHeld ?_
      rotate_left
      · intro w' hS'
        (try dsimp only at hS')
        go_simp
        try with_reducible rfl
      try simp only [List.getElem_toArray, List.getElem_cons_succ, List.getElem_cons_zero, Act.put, List.setIfInBounds_toArray, List.set_cons_zero, List.set_cons_succ]
      refine wpAnyH_take (i := 7) (v := ?_) rfl (by kernel_rfl) (by kernel_rfl) (by kernel_rfl) (fun _ _ _ h => h) (Or.inl ⟨by rfl, ?_⟩) hHeld ?_
      rotate_left
      · intro w' hS'
        (try dsimp only at hS')
        go_simp
        try with_reducible rfl
      try simp only [List.getElem_toArray, List.getElem_cons_succ, List.getElem_cons_zero, Act.put, List.setIfInBounds_toArray, List.set_cons_zero, List.set_cons_succ]
      refine wpAnyH_take (i := 8) (v := ?_) rfl (by kernel_rfl) (by kernel_rfl) (by kernel_rfl) (fun _ _ _ h => h) (Or.inl ⟨by rfl, ?_⟩) hHeld ?_
      rotate_left
      · intro w' hS'
        (try dsimp only at hS')
        go_simp
        try with_reducible rfl
      try simp only [List.getElem_toArray, List.getElem_cons_succ, List.getElem_cons_zero, Act.put, List.setIfInBounds_toArray, List.set_cons_zero, List.set_cons_succ]
      refine wpAnyH_take (i := 9) (v := ?_) rfl (by kernel_rfl) (by kernel_rfl) (by kernel_rfl) (fun _ _ _ h => h) (Or.inl ⟨by rfl, ?_⟩) hHeld ?_
      rotate_left
      · intro w' hS'
        (try dsimp only at hS')
        go_simp
        try with_reducible rfl
      try simp only [List.getElem_toArray, List.getElem_cons_succ, List.getElem_cons_zero, Act.put, List.setIfInBounds_toArray, List.set_cons_zero, List.set_cons_succ]
      refine wpAnyH_take (i := 10) (v := ?_) rfl (by kernel_rfl) (by kernel_rfl) (by kernel_rfl) (fun _ _ _ h => h) (Or.inl ⟨by rfl, ?_⟩) hHeld ?_
      rotate_left
      · intro w' hS'
        (try dsimp only at hS')
        go_simp
        try with_reducible rfl
      try simp only [List.getElem_toArray, List.getElem_cons_succ, List.getElem_cons_zero, Act.put, List.setIfInBounds_toArray, List.set_cons_zero, List.set_cons_succ]
      refine wpAnyH_ready (rs := [11]) (by kernel_rfl) (by simp) (AllReadyH.cons rfl (fun K hK => ?_) AllReadyH.nil)
      rw [if_pos (by rfl)]
      refine wp_copyRf (.const (.slice none 0 0)) (.tmp 48) rfl rfl ta m tc x.2 HM.out rfl ((HROW.out wr.drew (drewN_below HBR.out 1)).2.2) (by omega) ?_
      intro a1 c1 w1 q1 q2 q3
      have hbd : Below wr.heap.size wr wr.drew := drewN_below (Below.refl _ wr) 1
      have kb1 : Below wr.heap.size wr w1 := hbd.grown q2 (Nat.le_refl _) (fun k hk => by cases hk)
      have KB1 := Lib.hid kb1
      have Q1 := Lib.hid q1
      have Q3 : Hid (NewRow wr (.slice none 0 0) (.slice a1 m c1)) := Lib.hid q3
      have HB1 : Hid (Below g w w1) := HBR.out.trans (kb1.mono hgr)
      clear q1 q2 q3 kb1 hbd
      refine hK.out _ _ (hS.out _ HB1.out) (fun hHeld => ?_)
      clear hK K
      try simp only [List.getElem_toArray, List.getElem_cons_succ, List.getElem_cons_zero, Act.put, List.setIfInBounds_toArray, List.set_cons_zero, List.set_cons_succ]
      refine wpAnyH_take (i := 12) (v := ?_) rfl (by kernel_rfl) (by kernel_rfl) (by kernel_rfl) (fun _ _ _ h => h) (Or.inl ⟨by rfl, ?_⟩) hHeld ?_
      rotate_left
      · intro w' hS'
        (try dsimp only at hS')
        go_simp
        try with_reducible rfl
      try simp only [List.getElem_toArray, List.getElem_cons_succ, List.getElem_cons_zero, Act.put, List.setIfInBounds_toArray, List.set_cons_zero, List.set_cons_succ]
      obtain ⟨G, hG⟩ : ∃ y, w1.heap.size = y := ⟨_, rfl⟩
      obtain ⟨w2, hw2⟩ : ∃ y, w1.alloc (.cells #[.string x.1.1, .int .i64 x.1.2, .slice a1 m c1] 28) = y := ⟨_, rfl⟩
      have hb2 : Below w1.heap.size w1 w2 := by rw [← hw2]; exact below_alloc _
      have HB2 := Lib.hid hb2
      have hr2 : RowAt w2 G 28 #[.string x.1.1, .int .i64 x.1.2, .slice a1 m c1] := by rw [← hw2, ← hG]; exact RowAt.new _ _ _
      have HC2 : Hid (CellsAt w2 lkC G 0 ⟨x.1, a1, x.2, c1⟩) := Lib.hid fun j v hv => by
        rw [Nat.zero_add, hr2.cell j]
        unfold lkC at hv
        dsimp only at hv
        rw [HM.out] at hv
        rw [List.getElem?_toArray]
        exact hv
      have HGl : Hid (G < w2.heap.size) := hr2.lt
      have HOW : Hid (OwnLk w2 (.slice ma k mc) cs) := HCP.out.own.keep (KeepA.of_below (X := fun _ => False) (below_trans KB1.out hb2)) (fun _ _ h => h)
      have HLC : Hid (cs.length ≤ 40) := by
        have := congrArg List.length HCS.out
        simp only [plainL, List.length_map, List.length_take] at this
        exact Lib.hid (by omega)
      clear hb2 hr2
      refine wpAnyH_ready (rs := [13]) (by kernel_rfl) (by simp) (AllReadyH.cons rfl (fun K hK => ?_) AllReadyH.nil)
      go_simp
      refine hK.out _ _ (hS.out _ (HB1.out.trans (HB2.out.mono (by have := KB1.out.size; omega)))) (fun hHeld => ?_)
      clear hK K
      try simp only [List.getElem_toArray, List.getElem_cons_succ, List.getElem_cons_zero, Act.put, List.setIfInBounds_toArray, List.set_cons_zero, List.set_cons_succ]
      refine wpAnyH_ready (rs := [14]) (by kernel_rfl) (by simp) (AllReadyH.cons rfl (fun K hK => ?_) AllReadyH.nil)
      rw [if_pos (by rfl)]
      refine wp_pushLk (.tmp 38) (.tmp 51) rfl (.slice ma k mc) cs rfl G ⟨x.1, a1, x.2, c1⟩ rfl HOW.out HC2.out HGl.out (by have := HLC.out; omega) ?_
      intro v3 w3 q1 q2 q3
      have HCP3 : Hid (CpSt w w3 g v3 (cs ++ [⟨x.1, a1, x.2, c1⟩])) := by
        refine HCP.out.push hg KB1.out ?_ ?_ HB2.out q1 q2 q3
        · have := Q1.out
          unfold lkS
          dsimp only
          rw [HM.out]
          exact this
        · unfold lkS
          dsimp only
          rw [HM.out]
          exact Q3.out
      have HN : Hid (plainL (cs ++ [⟨x.1, a1, x.2, c1⟩]) = L.take (k + 1) ∧ ∀ y ∈ L.take (k + 1), y.2.length ≤ 100) := by
        obtain ⟨h, e1⟩ := HX.out
        refine ⟨?_, fun y hy => ?_⟩
        · rw [← List.take_append_getElem h, e1, ← HCS.out]
          simp [plainL]
        · rcases (mem_take_succ h y).1 hy with hy | hy
          · exact HTS.out y hy
          · rw [hy, e1, HM.out]; exact hm100
      obtain ⟨ma3, mc3, hv3, -⟩ := q1.rd
      have hlk : (cs ++ [(⟨x.1, a1, x.2, c1⟩ : Lk)]).length = k + 1 := by
        have := congrArg List.length HCS.out
        simp only [plainL, List.length_map, List.length_take] at this
        have := HLN.out
        rw [List.length_append, List.length_singleton]
        omega
      rw [hlk] at hv3
      subst hv3
      refine hK.out _ _ (hS.out _ HCP3.out.below) (fun hHeld => ?_)
      clear hK K q1 q2 q3 hlk
      try simp only [List.getElem_toArray, List.getElem_cons_succ, List.getElem_cons_zero, Act.put, List.setIfInBounds_toArray, List.set_cons_zero, List.set_cons_succ]
      refine wpAnyH_take (i := 15) (v := ?_) rfl (by kernel_rfl) (by kernel_rfl) (by kernel_rfl) (fun _ _ _ h => h) (Or.inl ⟨by rfl, ?_⟩) hHeld ?_
      rotate_left
      · intro w' hS'
        (try dsimp only at hS')
        go_simp
        try with_reducible rfl
      try simp only [List.getElem_toArray, List.getElem_cons_succ, List.getElem_cons_zero, Act.put, List.setIfInBounds_toArray, List.set_cons_zero, List.set_cons_succ]
      refine wpAnyH_done (by kernel_rfl) ?_ _
      go_wp2
      exact ⟨⟨k + 1, _, ma3, mc3, rfl, by go_num, hkn, HCP3.out, HN.out⟩, by show n - ((k : Int) + 1).toNat < n - (k : Int).toNat; omega⟩
    · have hk' : k = n := by omega
      subst hk'
      have htk : L.take k = L := List.take_of_length_le (by rw [HLN.out]; exact Nat.le_refl _)
      rw [htk] at HCS HTS
      obtain ⟨ma2, mc2, b2, off2, hmv, ha2, hrows2⟩ := HCP.out.rows HCS.out
      rw [HLN.out] at hmv
      cases hmv
      obtain ⟨w3, hw3⟩ : ∃ y, y = wr := ⟨wr, rfl⟩
      subst hw3
      obtain ⟨ol, oz, hO⟩ : ∃ ol oz, ordR ltR L = (ol, oz) := ⟨_, _, rfl⟩
      obtain ⟨on, hon⟩ : ∃ y, ol.length = y := ⟨_, rfl⟩
      have HON := Lib.hid hon
      have honb : on ≤ 40 := by
        have := ordR_len ltR L
        rw [hO, HLN.out] at this
        rw [← hon]
        exact Nat.le_trans this hn40
      have hend : ∀ w e w', OrdEnd L w e w' → ∃ oa oc, e = .returned (.tuple #[.slice oa on oc, .int .i64 oz]) ∧ RdRf w' oa ol ∧ Below w.heap.size w w' := fun w e w' h => by
        unfold OrdEnd at h
        rw [hO] at h
        dsimp only at h
        rw [hon] at h
        exact h
      have HORD : Hid (Calls Try.prog 6 #[.slice ma k mc] w3 fun e w' => ∃ oa oc, e = .returned (.tuple #[.slice oa on oc, .int .i64 oz]) ∧ RdRf w' oa ol ∧ Below w3.heap.size w3 w') := Lib.hid ((order_any ma k mc L w3 b2 off2 HLN.out hn40 HTS.out ha2 hrows2).mono fun e w' h => hend _ _ _ h)
      have HDOC : Hid (∀ W, Below g w W → Calls Try.prog 7 #[.slice a k c] W fun e w' => ∃ oa oc, e = .returned (.tuple #[.slice oa on oc, .int .i64 oz]) ∧ RdRf w' oa ol ∧ Below W.heap.size W w') := Lib.hid fun W hW =>
        (docorder_any a k c L W b off HLN.out hn40 HTS.out (fun h => ⟨(HA.out h).1, by have := (HA.out h).2; have := hW.size; omega⟩) (fun i hi => by
          obtain ⟨ta, tc, hrow⟩ := HROWS.out i hi
          exact ⟨ta, tc, fun W2 hW2 => hrow W2 (hW.trans (hW2.mono (by have := hW.size; omega)))⟩)).mono fun e w' h => hend _ _ _ h
      have HROWS2 := Lib.hid hrows2
      have HA2 := Lib.hid ha2
      clear hO hon hend hrows2 ha2 htk HCP
      go_wp2_with (first
        | (go_at_call 6; refine HORD.out.mono ?_; rintro _ w4 ⟨oa, oc, rfl, hro4, hb4⟩; have HRO4 := Lib.hid hro4; have HB4 := Lib.hid hb4; have HBG4 : Hid (Below g w w4) := (HBR.out.trans (hb4.mono hgr)); clear hro4 hb4)
        | (go_at_call 7; refine (HDOC.out w4 HBG4.out).mono ?_; rintro _ w5 ⟨pa, pc, rfl, hro5, hb5⟩; have HRO5 := Lib.hid hro5; have HR45 := Lib.hid (HRO4.out.later hb5); have HB5 := Lib.hid (below_trans HB4.out hb5); have HBG5 : Hid (Below g w w5) := (HBR.out.trans (HB5.out.mono hgr)); clear hro5 hb5))
      go_loopw [9] (fun iv wr => ∃ k2 : Nat, iv = .int .i64 (k2 : Int) ∧ k2 ≤ k ∧ Below w5.heap.size w5 wr) (fun iv _ => k - (intOf iv).toNat)
      case atStart => exact ⟨0, rfl, Nat.zero_le _, Below.refl _ _⟩
      case round =>
        obtain ⟨i, rfl, hin, hbr⟩ := hrel
        have HBI := Lib.hid hbr
        have HB3I : Hid (Below w3.heap.size w3 wr) := below_trans HB5.out hbr
        have HBGI : Hid (Below g w wr) := HBR.out.trans (HB3I.out.mono hgr)
        clear hbr
        by_cases hilt : i < k
        · as_aux_lemma =>
          obtain ⟨ha, hbs⟩ := HA.out (by rw [HLN.out]; omega)
          subst ha
          obtain ⟨ha2, hbs2⟩ := HA2.out (by rw [HLN.out]; omega)
          subst ha2
          obtain ⟨ta, tc, hrow⟩ := HROWS.out i (by rw [HLN.out]; omega)
          obtain ⟨ta2, tc2, hrow2⟩ := HROWS2.out i (by rw [HLN.out]; omega)
          obtain ⟨x, hx⟩ : ∃ x, L[i]'(by rw [HLN.out]; omega) = x := ⟨_, rfl⟩
          rw [hx] at hrow hrow2
          obtain ⟨m, hm⟩ : ∃ m, x.2.length = m := ⟨_, rfl⟩
          have hmb : m ≤ 100 := by rw [← hm, ← hx]; exact HTS.out _ (List.getElem_mem _)
          have hS : Hid (∀ W, Below wr.heap.size wr W → W.cell? ⟨b, off + i * 3, none⟩ = some (.string x.1.1) ∧ W.cell? ⟨b, off + i * 3 + 1, none⟩ = some (.int .i64 x.1.2) ∧ W.cell? ⟨b, off + i * 3 + 2, none⟩ = some (.slice ta m tc) ∧ W.cell? ⟨b2, off2 + i * 3, none⟩ = some (.string x.1.1) ∧ W.cell? ⟨b2, off2 + i * 3 + 1, none⟩ = some (.int .i64 x.1.2) ∧ W.cell? ⟨b2, off2 + i * 3 + 2, none⟩ = some (.slice ta2 m tc2)) := Lib.hid fun W hW => by
            obtain ⟨q1, q2, q3⟩ := (hrow W (HBGI.out.trans (hW.mono (by have := HBGI.out.size; omega)))).cells hm
            obtain ⟨q4, q5, q6⟩ := (hrow2 W (below_trans HB3I.out hW)).cells hm
            exact ⟨q1, q2, q3, q4, q5, q6⟩
          have HSM : Hid (Calls Try.prog 8 #[.slice ta2 m tc2, .slice ta m tc] wr.drew fun e w' => e = .returned (.bool true) ∧ Below wr.heap.size wr w') := Lib.hid ((lsame_any ta2 ta m m tc2 tc x.2 x.2 wr.drew hm hm (by omega) (by omega) (hrow2 wr.drew (below_trans HB3I.out (drewN_below (Below.refl _ wr) 1))).2.2 (hrow wr.drew (drewN_below HBGI.out 1)).2.2).mono fun e w' ⟨q1, q2⟩ => ⟨by rw [q1]; simp, below_trans (drewN_below (Below.refl _ wr) 1) q2⟩)
          clear hrow hrow2 hx hm HDOC HORD HROWS HROWS2 HCS HTS HRO4 HRO5 HR45
          go_upto_region 15 with fail
          refine wp_region_held_drew (S := fun W => W.cell? ⟨b, off + i * 3, none⟩ = some (.string x.1.1) ∧ W.cell? ⟨b, off + i * 3 + 1, none⟩ = some (.int .i64 x.1.2) ∧ W.cell? ⟨b, off + i * 3 + 2, none⟩ = some (.slice ta m tc) ∧ W.cell? ⟨b2, off2 + i * 3, none⟩ = some (.string x.1.1) ∧ W.cell? ⟨b2, off2 + i * 3 + 1, none⟩ = some (.int .i64 x.1.2) ∧ W.cell? ⟨b2, off2 + i * 3 + 2, none⟩ = some (.slice ta2 m tc2)) (by kernel_rfl) (hS.out wr.drew (drewN_below (Below.refl _ wr) 1)) (fun hHeld => ?_)
          refine wpAnyH_take (i := 0) (v := ?_) rfl (by kernel_rfl) (by kernel_rfl) (by kernel_rfl) (fun _ _ _ h => h) (Or.inl ⟨by rfl, ?_⟩) hHeld ?_
          rotate_left
          · intro w' hS'
            (try dsimp only at hS')
            go_simp
            try with_reducible rfl
          try simp only [List.getElem_toArray, List.getElem_cons_zero, Act.put, List.setIfInBounds_toArray, List.set_cons_zero, List.set_cons_succ]
          refine wpAnyH_take (i := 1) (v := ?_) rfl (by kernel_rfl) (by kernel_rfl) (by kernel_rfl) (fun _ _ _ h => h) (Or.inl ⟨by rfl, ?_⟩) hHeld ?_
          rotate_left
          · intro w' hS'
            (try dsimp only at hS')
            go_simp
            try with_reducible rfl
          try simp only [List.getElem_toArray, List.getElem_cons_succ, List.getElem_cons_zero, Act.put, List.setIfInBounds_toArray, List.set_cons_zero, List.set_cons_succ]
          refine wpAnyH_take (i := 2) (v := ?_) rfl (by kernel_rfl) (by kernel_rfl) (by kernel_rfl) (fun _ _ _ h => h) (Or.inl ⟨by rfl, ?_⟩) hHeld ?_
          rotate_left
          · intro w' hS'
            (try dsimp only at hS')
            go_simp
            try with_reducible rfl
          try simp only [List.getElem_toArray, List.getElem_cons_succ, List.getElem_cons_zero, Act.put, List.setIfInBounds_toArray, List.set_cons_zero, List.set_cons_succ]
          refine wpAnyH_take (i := 3) (v := ?_) rfl (by kernel_rfl) (by kernel_rfl) (by kernel_rfl) (fun _ _ _ h => h) (Or.inl ⟨by rfl, ?_⟩) hHeld ?_
          rotate_left
          · intro w' hS'
            (try dsimp only at hS')
            go_simp
            try with_reducible rfl
          try simp only [List.getElem_toArray, List.getElem_cons_succ, List.getElem_cons_zero, Act.put, List.setIfInBounds_toArray, List.set_cons_zero, List.set_cons_succ]
          refine wpAnyH_take (i := 4) (v := ?_) rfl (by kernel_rfl) (by kernel_rfl) (by kernel_rfl) (fun _ _ _ h => h) (Or.inl ⟨by rfl, ?_⟩) hHeld ?_
          rotate_left
          · intro w' hS'
            (try dsimp only at hS')
            go_simp
            try with_reducible rfl
          try simp only [List.getElem_toArray, List.getElem_cons_succ, List.getElem_cons_zero, Act.put, List.setIfInBounds_toArray, List.set_cons_zero, List.set_cons_succ]
          refine wpAnyH_take (i := 5) (v := ?_) rfl (by kernel_rfl) (by kernel_rfl) (by kernel_rfl) (fun _ _ _ h => h) (Or.inl ⟨by rfl, ?_⟩) hHeld ?_
          rotate_left
          · intro w' hS'
            (try dsimp only at hS')
            go_simp
            try with_reducible rfl
          try simp only [List.getElem_toArray, List.getElem_cons_succ, List.getElem_cons_zero, Act.put, List.setIfInBounds_toArray, List.set_cons_zero, List.set_cons_succ]
          refine wpAnyH_take (i := 6) (v := ?_) rfl (by kernel_rfl) (by kernel_rfl) (by kernel_rfl) (fun _ _ _ h => h) (Or.inl ⟨by rfl, ?_⟩) hHeld ?_
          rotate_left
          · intro w' hS'
            (try dsimp only at hS')
            go_simp
            try with_reducible rfl
          try simp only [List.getElem_toArray, List.getElem_cons_succ, List.getElem_cons_zero, Act.put, List.setIfInBounds_toArray, List.set_cons_zero, List.set_cons_succ]
          refine wpAnyH_take (i := 7) (v := ?_) rfl (by kernel_rfl) (by kernel_rfl) (by kernel_rfl) (fun _ _ _ h => h) (Or.inl ⟨by rfl, ?_⟩) hHeld ?_
          rotate_left
          · intro w' hS'
            (try dsimp only at hS')
            go_simp
            try with_reducible rfl
          try simp only [List.getElem_toArray, List.getElem_cons_succ, List.getElem_cons_zero, Act.put, List.setIfInBounds_toArray, List.set_cons_zero, List.set_cons_succ]
          refine wpAnyH_take (i := 8) (v := ?_) rfl (by kernel_rfl) (by kernel_rfl) (by kernel_rfl) (fun _ _ _ h => h) (Or.inl ⟨by rfl, ?_⟩) hHeld ?_
          rotate_left
          · intro w' hS'
            (try dsimp only at hS')
            go_simp
            try with_reducible rfl
          try simp only [List.getElem_toArray, List.getElem_cons_succ, List.getElem_cons_zero, Act.put, List.setIfInBounds_toArray, List.set_cons_zero, List.set_cons_succ]
          refine wpAnyH_take (i := 9) (v := ?_) rfl (by kernel_rfl) (by kernel_rfl) (by kernel_rfl) (fun _ _ _ h => h) (Or.inl ⟨by rfl, ?_⟩) hHeld ?_
          rotate_left
          · intro w' hS'
            (try dsimp only at hS')
            go_simp
            try with_reducible rfl
          try simp only [List.getElem_toArray, List.getElem_cons_succ, List.getElem_cons_zero, Act.put, List.setIfInBounds_toArray, List.set_cons_zero, List.set_cons_succ]
          refine wpAnyH_take (i := 10) (v := _) rfl (by kernel_rfl) (by kernel_rfl) (by kernel_rfl) (fun _ _ _ h => h) (yieldsIf_neqRf (S := fun W => W.cell? ⟨b, off + i * 3, none⟩ = some (.string x.1.1) ∧ W.cell? ⟨b, off + i * 3 + 1, none⟩ = some (.int .i64 x.1.2) ∧ W.cell? ⟨b, off + i * 3 + 2, none⟩ = some (.slice ta m tc) ∧ W.cell? ⟨b2, off2 + i * 3, none⟩ = some (.string x.1.1) ∧ W.cell? ⟨b2, off2 + i * 3 + 1, none⟩ = some (.int .i64 x.1.2) ∧ W.cell? ⟨b2, off2 + i * 3 + 2, none⟩ = some (.slice ta2 m tc2)) (by rfl) (.tmp 73) (.tmp 78) rfl x.1 x.1 rfl rfl false (by simp)) hHeld ?_
          try simp only [List.getElem_toArray, List.getElem_cons_succ, List.getElem_cons_zero, Act.put, List.setIfInBounds_toArray, List.set_cons_zero, List.set_cons_succ]
          refine wpAnyH_take (i := 11) (v := ?_) rfl (by kernel_rfl) (by kernel_rfl) (by kernel_rfl) (fun _ _ _ h => h) (Or.inl ⟨by rfl, ?_⟩) hHeld ?_
          rotate_left
          · intro w' hS'
            (try dsimp only at hS')
            go_simp
            try with_reducible rfl
          try simp only [List.getElem_toArray, List.getElem_cons_succ, List.getElem_cons_zero, Act.put, List.setIfInBounds_toArray, List.set_cons_zero, List.set_cons_succ]
          refine wpAnyH_take (i := 12) (v := ?_) rfl (by kernel_rfl) (by kernel_rfl) (by kernel_rfl) (fun _ _ _ h => h) (Or.inl ⟨by rfl, ?_⟩) hHeld ?_
          rotate_left
          · intro w' hS'
            (try dsimp only at hS')
            go_simp
            try with_reducible rfl
          try simp only [List.getElem_toArray, List.getElem_cons_succ, List.getElem_cons_zero, Act.put, List.setIfInBounds_toArray, List.set_cons_zero, List.set_cons_succ]
          refine wpAnyH_take (i := 13) (v := ?_) rfl (by kernel_rfl) (by kernel_rfl) (by kernel_rfl) (fun _ _ _ h => h) (Or.inl ⟨by rfl, ?_⟩) hHeld ?_
          rotate_left
          · intro w' hS'
            (try dsimp only at hS')
            go_simp
            try with_reducible rfl
          try simp only [List.getElem_toArray, List.getElem_cons_succ, List.getElem_cons_zero, Act.put, List.setIfInBounds_toArray, List.set_cons_zero, List.set_cons_succ]
          refine wpAnyH_take (i := 14) (v := ?_) rfl (by kernel_rfl) (by kernel_rfl) (by kernel_rfl) (fun _ _ _ h => h) (Or.inl ⟨by rfl, ?_⟩) hHeld ?_
          rotate_left
          · intro w' hS'
            (try dsimp only at hS')
            go_simp
            try with_reducible rfl
          try simp only [List.getElem_toArray, List.getElem_cons_succ, List.getElem_cons_zero, Act.put, List.setIfInBounds_toArray, List.set_cons_zero, List.set_cons_succ]
          refine wpAnyH_take (i := 15) (v := ?_) rfl (by kernel_rfl) (by kernel_rfl) (by kernel_rfl) (fun _ _ _ h => h) (Or.inl ⟨by rfl, ?_⟩) hHeld ?_
          rotate_left
          · intro w' hS'
            (try dsimp only at hS')
            go_simp
            try with_reducible rfl
          try simp only [List.getElem_toArray, List.getElem_cons_succ, List.getElem_cons_zero, Act.put, List.setIfInBounds_toArray, List.set_cons_zero, List.set_cons_succ]
          refine wpAnyH_take (i := 16) (v := ?_) rfl (by kernel_rfl) (by kernel_rfl) (by kernel_rfl) (fun _ _ _ h => h) (Or.inl ⟨by rfl, ?_⟩) hHeld ?_
          rotate_left
          · intro w' hS'
            (try dsimp only at hS')
            go_simp
            try with_reducible rfl
          try simp only [List.getElem_toArray, List.getElem_cons_succ, List.getElem_cons_zero, Act.put, List.setIfInBounds_toArray, List.set_cons_zero, List.set_cons_succ]
          refine wpAnyH_take (i := 17) (v := ?_) rfl (by kernel_rfl) (by kernel_rfl) (by kernel_rfl) (fun _ _ _ h => h) (Or.inl ⟨by rfl, ?_⟩) hHeld ?_
          rotate_left
          · intro w' hS'
            (try dsimp only at hS')
            go_simp
            try with_reducible rfl
          try simp only [List.getElem_toArray, List.getElem_cons_succ, List.getElem_cons_zero, Act.put, List.setIfInBounds_toArray, List.set_cons_zero, List.set_cons_succ]
          refine wpAnyH_take (i := 18) (v := ?_) rfl (by kernel_rfl) (by kernel_rfl) (by kernel_rfl) (fun _ _ _ h => h) (Or.inl ⟨by rfl, ?_⟩) hHeld ?_
          rotate_left
          · intro w' hS'
            (try dsimp only at hS')
            go_simp
            try with_reducible rfl
          try simp only [List.getElem_toArray, List.getElem_cons_succ, List.getElem_cons_zero, Act.put, List.setIfInBounds_toArray, List.set_cons_zero, List.set_cons_succ]
          refine wpAnyH_take (i := 19) (v := ?_) rfl (by kernel_rfl) (by kernel_rfl) (by kernel_rfl) (fun _ _ _ h => h) (Or.inl ⟨by rfl, ?_⟩) hHeld ?_
          rotate_left
          · intro w' hS'
            (try dsimp only at hS')
            go_simp
            try with_reducible rfl
          try simp only [List.getElem_toArray, List.getElem_cons_succ, List.getElem_cons_zero, Act.put, List.setIfInBounds_toArray, List.set_cons_zero, List.set_cons_succ]
          refine wpAnyH_take (i := 20) (v := ?_) rfl (by kernel_rfl) (by kernel_rfl) (by kernel_rfl) (fun _ _ _ h => h) (Or.inl ⟨by rfl, ?_⟩) hHeld ?_
          rotate_left
          · intro w' hS'
            (try dsimp only at hS')
            go_simp
            try with_reducible rfl
          try simp only [List.getElem_toArray, List.getElem_cons_succ, List.getElem_cons_zero, Act.put, List.setIfInBounds_toArray, List.set_cons_zero, List.set_cons_succ]
          refine wpAnyH_take (i := 21) (v := ?_) rfl (by kernel_rfl) (by kernel_rfl) (by kernel_rfl) (fun _ _ _ h => h) (Or.inl ⟨by rfl, ?_⟩) hHeld ?_
          rotate_left
          · intro w' hS'
            (try dsimp only at hS')
            go_simp
            try with_reducible rfl
          try simp only [List.getElem_toArray, List.getElem_cons_succ, List.getElem_cons_zero, Act.put, List.setIfInBounds_toArray, List.set_cons_zero, List.set_cons_succ]
          refine wpAnyH_ready (rs := [22]) (by kernel_rfl) (by simp) (AllReadyH.cons rfl (fun K hK => ?_) AllReadyH.nil)
          go_simp
          go_wp2_with (go_at_call 8; refine HSM.out.mono ?_; rintro _ w4 ⟨rfl, hb4⟩; have HBQ := Lib.hid hb4; clear hb4)
          refine hK.out _ _ (hS.out _ HBQ.out) (fun hHeld => ?_)
          try simp only [List.getElem_toArray, List.getElem_cons_succ, List.getElem_cons_zero, Act.put, List.setIfInBounds_toArray, List.set_cons_zero, List.set_cons_succ]
          clear hK K
          refine wpAnyH_take (i := 23) (v := ?_) rfl (by kernel_rfl) (by kernel_rfl) (by kernel_rfl) (fun _ _ _ h => h) (Or.inl ⟨by rfl, ?_⟩) hHeld ?_
          rotate_left
          · intro w' hS'
            (try dsimp only at hS')
            go_simp
            try with_reducible rfl
          try simp only [List.getElem_toArray, List.getElem_cons_succ, List.getElem_cons_zero, Act.put, List.setIfInBounds_toArray, List.set_cons_zero, List.set_cons_succ]
          refine wpAnyH_take (i := 24) (v := ?_) rfl (by kernel_rfl) (by kernel_rfl) (by kernel_rfl) (fun _ _ _ h => h) (Or.inl ⟨by rfl, ?_⟩) hHeld ?_
          rotate_left
          · intro w' hS'
            (try dsimp only at hS')
            go_simp
            try with_reducible rfl
          try simp only [List.getElem_toArray, List.getElem_cons_succ, List.getElem_cons_zero, Act.put, List.setIfInBounds_toArray, List.set_cons_zero, List.set_cons_succ]
          refine wpAnyH_done (by kernel_rfl) ?_ _
          have HBE : Hid (Below w5.heap.size w5 w4) := below_trans HBI.out HBQ.out
          go_wp2
          exact ⟨⟨i + 1, by go_num, hilt, HBE.out⟩, by show k - ((i : Int) + 1).toNat < k - (i : Int).toNat; omega⟩
        · have hik : i = k := by omega
          subst hik
          have HSM : Hid (Calls Try.prog 8 #[.slice oa on oc, .slice pa on pc] wr fun e w' => e = .returned (.bool true) ∧ Below wr.heap.size wr w') := Lib.hid ((lsame_any oa pa on on oc pc ol ol wr HON.out HON.out (by omega) (by omega) (HR45.out.later HBI.out) (HRO5.out.later HBI.out)).mono fun e w' ⟨q1, q2⟩ => ⟨by rw [q1]; simp, q2⟩)
          clear HDOC HORD HROWS HROWS2 HCS HTS HRO4 HRO5 HR45
          go_wp2_with (first
            | (go_at_call 8; refine HSM.out.mono ?_; rintro _ w6 ⟨rfl, hb6⟩; have HB6 : Hid (Below g w w6) := (HBGI.out.trans (hb6.mono (by have := HBGI.out.size; omega))); clear hb6)
            | (go_at_call 5; refine (HKN.out _ HB6.out).mono ?_; rintro _ w7 ⟨rfl, hb7⟩; have HB7 := Lib.hid hb7; clear hb7))
          exact HK.out _ HB7.out
end Go.Proofs.Ytcakdjnnfonijaa
