/- DiskCrash: the walk. -/
import Derived.Test.YtchdipakekglmaaDkRnd
import Derived.Test.YtchdipakekglmaaDkKnown
import Derived.Test.YtchdipakekglmaaRow
import Derived.Great.BuildSlice
namespace Go.Proofs.Ytchdipakekglmaa
open Go.RowKit

attribute [local go_sem] Oper.semAt_some
/-- A row of Bools is made. -/
theorem eltBo : Elt Try.prog 35 4 1 1 (.bool false) := ⟨Try.underlying35, by kernel_rfl, by kernel_rfl, by decide⟩
theorem step_makeBo {ops : Array Oper} {rest : List Oper} {o : Oper} {act : Act} {Q : Exit → Act → World → Prop} {w : World} (hgd : o.guard = none) (l c : Operand) (ho : o.op = .makeSlice 35 l c) (n : Nat) (hl : act.eval l = .int .i64 (n : Int)) (hc : act.eval c = .int .i64 (n : Int)) (hm : n ≤ 281474976710656)
    (h : ∀ w', RowAt w' w.heap.size 4 ((List.replicate n false).map Value.bool).toArray → Below w.heap.size w w' → wpList Try.prog ops Q rest (act.put o.dst (.slice (some ⟨w.heap.size, 0, none⟩) n n)) w') : wpList Try.prog ops Q (o :: rest) act w := by
  obtain ⟨i, hi, hz0, hs, hby⟩ := info_parts eltBo.info
  refine wpList_plain hgd fun K hK => ?_
  obtain ⟨w', hrun, r1, r2⟩ := run_make_full (P := Try.prog) w w.heap.size _ _ i _ 1 eltBo.und hi hz0 hs .i64 .i64 n (by rw [hby]; omega) (by unfold maxLen; omega) (Nat.le_refl _)
  unfold Oper.wp execOp
  simp only [ho, hl, hc, Sem.run_bind, Sem.run_pure, Result.andThen_ok, hrun]
  refine hK _ _ (h w' ?_ ⟨r2.os, r2.tape, r2.output, r2.size, fun k hk => r2.block k hk (by simp)⟩)
  · rw [show (Value.bool false).cells = #[Value.bool false] from rfl, Nat.mul_one, toList_madeCells_one] at r1
    rcases r1.2 with ⟨h1, _⟩ | ⟨g, cap, cur, h1, _, hg, h3, _, h4, h5⟩
    · cases h1
    · simp only [Value.slice.injEq, Option.some.injEq, Addr.mk.injEq, and_true, true_and] at h1
      obtain ⟨rfl, rfl⟩ := h1
      rw [Nat.mul_one] at h4 h5
      rw [List.take_of_length_le (by rw [Array.length_toList]; omega)] at h5
      unfold RowAt
      rw [hg, List.map_replicate]
      congr 2
      apply Array.toList_inj.1
      rw [h5]
theorem vals_nonnil (w : World) (f : Fn) (x y : Array Value) : (binOp .eql 33 (.func f x y) .nilFunc).run Try.prog w = .ok (.bool false) w := rfl
set_option maxRecDepth 100000 in
set_option maxHeartbeats 4000000 in
theorem diskcrash_any (w : World) (sz : Int) (fa : Option Addr) (fs : List Ft) (nf cf : Nat) (sa : Option Addr) (l : List Sp) (ns cs : Nat) (pa : Option Addr) (ps : List Int) (np cp : Nat)
    (hf1 : nf = fs.length) (hf2 : nf ≤ 9223372036854775807) (hf : RdFt w fa fs) (hs1 : ns = l.length) (hs2 : ns ≤ 9223372036854775807) (hsl : ∀ s ∈ l, s.bs.length ≤ 9223372036854775807 ∧ s.fs.length ≤ 9223372036854775807 ∧ s.pn ≤ 9223372036854775807) (hs : RdSt w sa l)
    (hp1 : np = ps.length) (hp2 : np ≤ 9223372036854775807) (hp3 : np ≤ cp) (hp4 : ∀ x ∈ ps, x < 9223372036854775808) (hp : RdI w pa ps) :
    Calls Try.prog 3 #[.agg #[.int .i64 sz, .slice fa nf cf, .slice sa ns cs, .slice pa np cp]] w fun e w' => e = .returned (.bool true) ∧ Below w.heap.size w w' := by
  obtain ⟨g, hg⟩ : ∃ x, w.heap.size = x := ⟨_, rfl⟩
  have HF1 := Lib.hid hf1
  have HF := Lib.hid hf
  have HS1 := Lib.hid hs1
  have HSL := Lib.hid hsl
  have HS := Lib.hid hs
  have HP1 := Lib.hid hp1
  have HP4 := Lib.hid hp4
  have HP := Lib.hid hp
  have HVA := Lib.hid (fun (w : World) (h : RdSt w sa l) => vast_any w sz sa l ns cs hs1 hs2 hsl h)
  have HRI := Lib.hid (fun (w : World) (h : RdFt w fa fs) => rright_any fa fs nf cf w hf1 hf2 h)
  clear hf1 hf hs1 hsl hs hp1 hp4 hp
  rw [hg]
  obtain ⟨K, hK⟩ : ∃ K : Ending → World → Prop, (fun (e : Ending) (w' : World) => e = .returned (.bool true) ∧ Below g w w') = K := ⟨_, rfl⟩
  have HKT : Hid (∀ w', Below g w w' → K (.returned (.bool true)) w') := fun w' h => by rw [← hK]; exact ⟨rfl, h⟩
  rw [hK]
  clear hK
  refine calls_of_wp_marks Try.func3 rfl ?_
  simp only [Try.ntmps3, List.size_toArray, List.length_cons, List.length_nil, Nat.reduceAdd, Nat.reduceSub, Array.replicate_succ, Array.replicate_zero, List.push_toArray, List.append_toArray, List.nil_append, List.cons_append]
  go_upto_region 1 with fail
  obtain ⟨W0, hW0⟩ : ∃ x, (w.alloc (.cells #[.int .i64 sz, .slice fa nf cf, .slice sa ns cs, .slice pa np cp] 26)).alloc (.cells #[.bool false] 4) = x := ⟨_, rfl⟩
  obtain ⟨rb, hrb⟩ : ∃ x, g + 1 = x := ⟨_, rfl⟩
  have HA0 : Hid (RowAt W0 g 26 #[.int .i64 sz, .slice fa nf cf, .slice sa ns cs, .slice pa np cp]) := by rw [← hW0, ← hg]; exact RowAt.below (RowAt.new _ _ _) (below_alloc _)
  have HRB : Hid (Box W0 rb 4 (.bool false)) := by
    have h := Box.new (w.alloc (.cells #[.int .i64 sz, .slice fa nf cf, .slice sa ns cs, .slice pa np cp] 26)) 4 (.bool false)
    rw [World.size_alloc] at h
    rw [← hW0, ← hrb, ← hg]
    exact h
  have HBX : Hid (Below g w W0) := by rw [← hW0, ← hg]; exact below_trans (below_alloc _) (below_alloc _)
  have hWs : W0.heap.size = g + 2 := by rw [← hW0, ← hg]; simp
  have HGX : Hid (g ≤ W0.heap.size) := by show _ ≤ _; omega
  have HBW : Hid (Below w.heap.size w W0) := by rw [hg]; exact HBX.out
  have HF0 := Lib.hid (HF.out.later HBW.out)
  have HS0 := Lib.hid (HS.out.later HBW.out)
  have HP0 := Lib.hid (HP.out.later HBW.out)
  rw [hW0]
  clear hW0
  have i0 := HA0.out.cell 0
  have i1 := HA0.out.cell 1
  have i2 := HA0.out.cell 2
  have i3 := HA0.out.cell 3
  simp only [List.getElem?_toArray, List.getElem?_cons_zero, List.getElem?_cons_succ] at i0 i1 i2 i3
  by_cases h1 : 100 < (nf : Int)
  · go_wp2_with fail
    refine (known_any _).mono ?_
    rintro e wk ⟨rfl, hbk⟩
    have hc := (HRB.out.below hbk).cell
    have hf := (HRB.out.below hbk).frozen
    have hbx := HRB.out.below hbk
    have HRk := Lib.hid (hbx.set (.bool true))
    have HBk := Lib.hid ((HBX.out.trans (hbk.mono HGX.out)).setCell (p := ⟨rb, 0, none⟩) (by dsimp only; omega) (.bool true))
    have HGk : Hid (g ≤ wk.heap.size) := Nat.le_trans HGX.out hbk.size
    clear hbx hbk
    go_wp2
    refine post_marks [] rfl (by simp) (by simp) fun w' hk => ⟨.bool true, ?_, HKT.out _ ?_⟩
    · exact results_box rfl rfl (HRk.out.keepA hk (by simp)) rfl Try.underlying4
    · exact HBk.out.trans (hk.below (by simpa [World.setCell] using HGk.out) (by simp))
  go_wp2_with fail
  refine (HVA.out W0 HS0.out).mono ?_
  rintro _ w1 ⟨⟨r, rfl, hr⟩, rfl⟩
  cases r with
  | true =>
    go_wp2_with fail
    refine (known_any _).mono ?_
    rintro e wk ⟨rfl, hbk⟩
    have hc := (HRB.out.below hbk).cell
    have hf := (HRB.out.below hbk).frozen
    have hbx := HRB.out.below hbk
    have HRk := Lib.hid (hbx.set (.bool true))
    have HBk := Lib.hid ((HBX.out.trans (hbk.mono HGX.out)).setCell (p := ⟨rb, 0, none⟩) (by dsimp only; omega) (.bool true))
    have HGk : Hid (g ≤ wk.heap.size) := Nat.le_trans HGX.out hbk.size
    clear hbx hbk
    go_wp2
    refine post_marks [] rfl (by simp) (by simp) fun w' hk => ⟨.bool true, ?_, HKT.out _ ?_⟩
    · exact results_box rfl rfl (HRk.out.keepA hk (by simp)) rfl Try.underlying4
    · exact HBk.out.trans (hk.below (by simpa [World.setCell] using HGk.out) (by simp))
  | false =>
  obtain ⟨hn60, hsm⟩ := hr rfl
  have HSM := Lib.hid hsm
  clear hr hsm
  by_cases h3 : sz < 1
  · go_wp2_with fail
    refine (known_any _).mono ?_
    rintro e wk ⟨rfl, hbk⟩
    have hc := (HRB.out.below hbk).cell
    have hf := (HRB.out.below hbk).frozen
    have hbx := HRB.out.below hbk
    have HRk := Lib.hid (hbx.set (.bool true))
    have HBk := Lib.hid ((HBX.out.trans (hbk.mono HGX.out)).setCell (p := ⟨rb, 0, none⟩) (by dsimp only; omega) (.bool true))
    have HGk : Hid (g ≤ wk.heap.size) := Nat.le_trans HGX.out hbk.size
    clear hbx hbk
    go_wp2
    refine post_marks [] rfl (by simp) (by simp) fun w' hk => ⟨.bool true, ?_, HKT.out _ ?_⟩
    · exact results_box rfl rfl (HRk.out.keepA hk (by simp)) rfl Try.underlying4
    · exact HBk.out.trans (hk.below (by simpa [World.setCell] using HGk.out) (by simp))
  by_cases h4 : 100 < sz
  · go_wp2_with fail
    refine (known_any _).mono ?_
    rintro e wk ⟨rfl, hbk⟩
    have hc := (HRB.out.below hbk).cell
    have hf := (HRB.out.below hbk).frozen
    have hbx := HRB.out.below hbk
    have HRk := Lib.hid (hbx.set (.bool true))
    have HBk := Lib.hid ((HBX.out.trans (hbk.mono HGX.out)).setCell (p := ⟨rb, 0, none⟩) (by dsimp only; omega) (.bool true))
    have HGk : Hid (g ≤ wk.heap.size) := Nat.le_trans HGX.out hbk.size
    clear hbx hbk
    go_wp2
    refine post_marks [] rfl (by simp) (by simp) fun w' hk => ⟨.bool true, ?_, HKT.out _ ?_⟩
    · exact results_box rfl rfl (HRk.out.keepA hk (by simp)) rfl Try.underlying4
    · exact HBk.out.trans (hk.below (by simpa [World.setCell] using HGk.out) (by simp))
  go_wp2_with fail
  refine (HRI.out w1 HF0.out).mono ?_
  rintro _ w2 ⟨rfl, rfl⟩
  cases hok : fs.all Ft.ok with
  | false =>
    have HOK := Lib.hid hok
    clear hok
    go_wp2_with fail
    refine (known_any _).mono ?_
    rintro e wk ⟨rfl, hbk⟩
    have hc := (HRB.out.below hbk).cell
    have hf := (HRB.out.below hbk).frozen
    have hbx := HRB.out.below hbk
    have HRk := Lib.hid (hbx.set (.bool true))
    have HBk := Lib.hid ((HBX.out.trans (hbk.mono HGX.out)).setCell (p := ⟨rb, 0, none⟩) (by dsimp only; omega) (.bool true))
    have HGk : Hid (g ≤ wk.heap.size) := Nat.le_trans HGX.out hbk.size
    clear hbx hbk
    go_wp2
    refine post_marks [] rfl (by simp) (by simp) fun w' hk => ⟨.bool true, ?_, HKT.out _ ?_⟩
    · exact results_box rfl rfl (HRk.out.keepA hk (by simp)) rfl Try.underlying4
    · exact HBk.out.trans (hk.below (by simpa [World.setCell] using HGk.out) (by simp))
  | true =>
  have HOK := Lib.hid hok
  clear hok
  by_cases h6 : 300 < (np : Int)
  · go_wp2_with fail
    refine (known_any _).mono ?_
    rintro e wk ⟨rfl, hbk⟩
    have hc := (HRB.out.below hbk).cell
    have hf := (HRB.out.below hbk).frozen
    have hbx := HRB.out.below hbk
    have HRk := Lib.hid (hbx.set (.bool true))
    have HBk := Lib.hid ((HBX.out.trans (hbk.mono HGX.out)).setCell (p := ⟨rb, 0, none⟩) (by dsimp only; omega) (.bool true))
    have HGk : Hid (g ≤ wk.heap.size) := Nat.le_trans HGX.out hbk.size
    clear hbx hbk
    go_wp2
    refine post_marks [] rfl (by simp) (by simp) fun w' hk => ⟨.bool true, ?_, HKT.out _ ?_⟩
    · exact results_box rfl rfl (HRk.out.keepA hk (by simp)) rfl Try.underlying4
    · exact HBk.out.trans (hk.below (by simpa [World.setCell] using HGk.out) (by simp))
  obtain ⟨size, rfl⟩ : ∃ n : Nat, sz = (n : Int) := ⟨sz.toNat, by omega⟩
  have HPY := Lib.hid (play_any w2 size fa fs nf cf sa l ns cs (by omega) (by omega) HF1.out (by omega) HF0.out HOK.out HS1.out hn60 HSM.out HS0.out)
  go_wp2_with fail
  refine HPY.out.mono ?_
  rintro _ w3 ⟨⟨b, rfl, D, hDs, hDo, hDp, hdk⟩, hb3⟩
  obtain ⟨ob, hob⟩ : ∃ x, w3.heap.size = x := ⟨_, rfl⟩
  obtain ⟨w4, hw4⟩ : ∃ x, w3.alloc (.cells #[.slice none 0 0] 24) = x := ⟨_, rfl⟩
  have HO4 : Hid (RowAt w4 ob 24 #[.slice none 0 0]) := by rw [← hw4, ← hob]; exact RowAt.new _ _ _
  have hb34 : Below w3.heap.size w3 w4 := by rw [← hw4]; exact below_alloc _
  have hs4 : w4.heap.size = ob + 1 := by rw [← hw4, ← hob]; simp
  have HD3 := Lib.hid hdk
  have HD4 := Lib.hid (hdk.later hb34)
  have HB34 := Lib.hid hb34
  have HB3 := Lib.hid hb3
  have hs3 := hb3.size
  rw [hob] at hs3
  have HDO := Lib.hid hDo
  obtain ⟨nq, hnq⟩ : ∃ x, D.pcs.length = x := ⟨_, rfl⟩
  have HNQ := Lib.hid hnq
  have HPC := Lib.hid (pieces_any w4 _ b D _ HD4.out (by omega))
  rw [hnq] at HPC hDp
  clear hdk hb34 hb3 hDo hnq i0 i1 i2 i3
  go_upto_region 5 with fail
  clear hw4
  go_wp2_with fail
  refine HPC.out.mono ?_
  rintro _ w5 ⟨⟨bx, va, vc, rfl, hvb, hvg, hvc, hvr, hvo⟩, hb5⟩
  have h0 := vals_nonnil w5 (.func 31) #[] #[.pointer (some ⟨bx, 0, none⟩)]
  have HB5 := Lib.hid hb5
  have HVB := Lib.hid hvb
  have HVR := Lib.hid hvr
  have HVO := Lib.hid hvo
  have hs5 := hb5.size
  rw [hs4] at hs5
  have hB5 : Hid (Below w2.heap.size w2 w5) := (HB3.out.trans (HB34.out.mono (by omega))).trans (hb5.mono (by omega))
  have j0 : w5.cell? ⟨g, 0, none⟩ = some (.int .i64 (size : Int)) := (hB5.out.cell (p := ⟨g, 0, none⟩) (by dsimp only; omega)).trans (HA0.out.cell 0)
  obtain ⟨tbr, htbr⟩ : ∃ x, w5.heap.size = x := ⟨_, rfl⟩
  clear hvb hvr hvo hb5
  go_upto_region 9 with (first | (refine step_makeBo rfl (.tmp 78) (.tmp 78) rfl size rfl rfl (by omega) ?_; rw [htbr]; intro w6 m1 m2))
  obtain ⟨tb, htb⟩ : ∃ x, w6.heap.size = x := ⟨_, rfl⟩
  obtain ⟨w7, hw7⟩ : ∃ x, w6.alloc (.cells #[.slice (some ⟨tbr, 0, none⟩) size size] 35) = x := ⟨_, rfl⟩
  have HT7 : Hid (RowAt w7 tb 35 #[.slice (some ⟨tbr, 0, none⟩) size size]) := by rw [← hw7, ← htb]; exact RowAt.new _ _ _
  have hb67 : Below w6.heap.size w6 w7 := by rw [← hw7]; exact below_alloc _
  have hs7 : w7.heap.size = tb + 1 := by rw [← hw7, ← htb]; simp
  have hs6 : tbr < tb := by rw [← htb]; exact m1.lt
  have HR7 : Hid (RowAt w7 tbr 4 (rowB (List.replicate size false))) := RowAt.below m1 hb67
  have HB57 : Hid (Below w5.heap.size w5 w7) := by rw [htbr]; exact m2.trans (hb67.mono (by omega))
  have HO7 := Lib.hid (RowAt.below (RowAt.below HO4.out HB5.out) HB57.out)
  have hbxl : bx < w5.heap.size := HVB.out.lt
  have HV7 := Lib.hid (RowAt.below HVB.out HB57.out)
  have HVR7 := Lib.hid (RdI.later HB57.out HVR.out)
  have HB7 : Hid (Below w2.heap.size w2 w7) := hB5.out.trans (HB57.out.mono (by omega))
  have HA7 := Lib.hid (RowAt.below HA0.out HB7.out)
  have hg2 : g < w2.heap.size := HA0.out.lt
  have hrb2 : rb < w2.heap.size := HRB.out.lt
  rw [hw7, htb]
  clear m1 m2 hb67 j0 h0 HPC HO4 HVB hw7
  go_wp2_with fail
  have hmap : Hid (nq = (D.pcs.map (·.1)).length) := by show _ = _; rw [List.length_map, HNQ.out]
  have hXk : ∀ k, touchX ob tbr (tb + 1) k → k ≠ w7.heap.size ∧ k ≠ w7.heap.size + 1 := fun k hk => by
    rw [hs7]
    rcases hk with rfl | rfl | h <;> omega
  have hst := values_stops w7 bx va nq vc (D.pcs.map (·.1)) hmap (by omega) (HV7.out.cell 0) HVR7.out (touchX ob tbr (tb + 1)) (fun b' off ha h1 hx => by
    have h2 := HVO.out _ ha
    dsimp only at h2
    obtain ⟨b3, o3, h3, hlt3, _⟩ := HVR.out.at h1
    rw [ha] at h3
    cases h3
    rcases hx with h | h | h <;> omega)
  rw [← hmap.out] at hst
  refine wp_rangeY (gf := 31) (lb := #[.pointer (some ⟨bx, 0, none⟩)]) rfl (enters_of Try.func31 (by kernel_rfl) rfl) (touchX ob tbr (tb + 1)) (len := nq) hst hXk ?cps
    (fun k W => (∃ v, RowAt W ob 24 #[v] ∧ OwnI W (tb + 1 + 2) v (List.replicate k 1)) ∧ ∃ T, RowAt W tbr 4 (rowB T) ∧ Tch size (D.pcs.take k) T) (fun _ _ _ => False) ?cG ?cGx ?c0 ?cround ?cdone ?cstop
  case cps => rintro j args W ⟨x, _, rfl⟩; rfl
  case cG => exact fun j W W' h hs => ⟨h.1.imp fun v h => ⟨row_stays hs h.1, own_stays hs h.2⟩, h.2.imp fun T h => ⟨row_stays hs h.1, h.2⟩⟩
  case cGx => exact fun c j W W' h hs => h
  case c0 => exact ⟨⟨_, HO7.out, OwnI.nil _ _⟩, _, HR7.out, Tch.nil size⟩
  case cstop => exact fun D c k W _ _ _ h _ => h.elim
  case cround =>
    rintro lp k args W hk ⟨x, hget, rfl⟩ hkw ⟨⟨v, hbx2, hown⟩, T, hrow, htch⟩
    have hkl : k < D.pcs.length := by rw [HNQ.out]; exact hk
    obtain ⟨hx1, hx2, -⟩ := HD3.out.psec D.pcs[k] (List.getElem_mem hkl)
    have hxe : D.pcs[k].1 = x := by
      rw [List.getElem?_map, List.getElem?_eq_getElem hkl] at hget
      exact Option.some.inj hget
    rw [hxe] at hx1 hx2
    obtain ⟨j, rfl⟩ : ∃ j : Nat, x = (j : Int) := ⟨x.toNat, by omega⟩
    have hjs : j < size := by omega
    have HTN : Hid (Tch size (D.pcs.take (k + 1)) (T.set j true)) := by
      rw [List.take_succ_eq_append_getElem hkl]
      exact htch.snoc hxe
    have hTl := htch.1
    obtain ⟨va2, vc2, hv2, -, -⟩ := hown.rd
    rw [List.length_replicate] at hv2
    subst hv2
    have hkwb : Below ob w7 W := hkw.below (by rw [hs7]; omega) fun x hx => by rcases hx with h | h | h <;> omega
    have HKW := Lib.hid hkw
    have HBX2 := Lib.hid hbx2
    have HOW := Lib.hid hown
    have HROW := Lib.hid hrow
    clear hbx2 hown hrow htch hget hxe hkwb hkw hst
    gi_wp2
    refine ⟨KeepA.refl _ _, fun W2 hs2 hk2 hsz2 => ?_⟩
    rw [hs7] at hsz2
    have b1 := row_stays hs2 HBX2.out
    have b2 := own_stays hs2 HOW.out
    have b3 := row_stays hs2 HROW.out
    obtain ⟨f1, f2, f3, f4, f5⟩ := rnd_world (j := j) b1 b2 b3 (by omega) (by omega) (by omega) hsz2
    have c0 : W2.cell? ⟨g, 0, none⟩ = some (.int .i64 (size : Int)) := hk2.cell (HA7.out.cell 0) (by rintro (h | h | h) <;> (dsimp only at h; omega))
    have c1 : W2.cell? ⟨tb, 0, none⟩ = some (.slice (some ⟨tbr, 0, none⟩) size size) := hk2.cell (HT7.out.cell 0) (by rintro (h | h | h) <;> (dsimp only at h; omega))
    have c2 : W2.cell? ⟨tbr, j, none⟩ = some (.bool T[j]) := by
      rw [b3.cell]
      simp [rowB, hTl, hjs]
    have c3 := b3.frozen j
    have F2 := Lib.hid f2
    have F3 := Lib.hid f3
    have F4 := Lib.hid f4
    have F5 := Lib.hid f5
    have h0j : (0 : Int) ≤ (j : Int) := by omega
    have h1j : (j : Int) < (size : Int) := by omega
    clear f2 f3 f4 f5 b1 b2 b3 hs2 hk2
    gi_wp2_with (first | (refine step_pushIn rfl (.tmp 93) (.tmp 94) rfl (tb + 1 + 2) _ (List.replicate k 1) rfl W2.heap.size 1 rfl F2.out F3.out (by simp; omega) F4.out ?_; intro v' W5 q1 q2 q3; obtain ⟨g1, g2, g3, g4, g5, g6⟩ := F5.out v' W5 q1 q2 q3; have q9 := q1; obtain ⟨a9, c9, q7, q8⟩ := OwnI.rd q9; rw [List.length_append, List.length_replicate] at q7; subst q7; clear q8 q9))
    exact ⟨g3, ⟨_, g4, g5⟩, _, g6, HTN.out⟩
  case cdone =>
    rintro Dm W hDm hkw ⟨⟨v, hbx2, hown⟩, T, hrow, htch⟩ hdf
    clear hst
    rw [List.take_of_length_le (by rw [HNQ.out]; exact Nat.le_refl _)] at htch
    have HB3W : Hid (Below w3.heap.size w3 W) := by
      have h1 := HB34.out
      have h2 := HB5.out
      rw [hob] at h1
      show Below _ _ _
      rw [hob]
      exact ((h1.trans (h2.mono (by omega))).trans (HB57.out.mono (by omega))).trans (hkw.below (by omega) (fun x hx => by rcases hx with h | h | h <;> omega))
    have HDW := Lib.hid (HD3.out.later HB3W.out)
    have HBW : Hid (Below w2.heap.size w2 W) := HB3.out.trans (HB3W.out.mono (by rw [hob]; exact hs3))
    have HIN : Hid (Inp w W g rb Dm #[.int .i64 (size : Int), .slice fa nf cf, .slice sa ns cs, .slice pa np cp] pa ps) := ⟨RowAt.below HA0.out HBW.out, HRB.out.below HBW.out, RdI.later HBW.out HP0.out, hdf, HBX.out.trans (HBW.out.mono (by omega))⟩
    obtain ⟨oa, oc, hv2, hoc, hor⟩ := hown.rd
    rw [List.length_replicate] at hv2 hoc
    subst hv2
    have HOR := Lib.hid hor
    have HTC := Lib.hid htch
    have HROW := Lib.hid hrow
    have HTB := Lib.hid (row_keep hkw HT7.out (by rintro (h | h | h) <;> omega))
    have c1 := hbx2.cell 0
    have HCR1 := Lib.hid (crash_ok W _ b D _ HDW.out oa (List.replicate nq 1) nq oc (by simp) hoc HOR.out (by rw [HNQ.out]; omega) (by omega) (fun x hx => by rw [List.eq_of_mem_replicate hx]; omega) (by simp))
    have hWs : tb + 1 ≤ W.heap.size := by have := hkw.size; rw [hs7] at this; exact this
    clear hkw hbx2 hown hrow htch hdf hor
    have hones : (crs D.last (List.replicate nq 1) D.pcs).1 = laid D.last D.pcs := by rw [← HNQ.out]; exact crs_ones _ _
    rw [hones] at HCR1
    clear hones
    have HD7 := HDW
    have HIN7 := HIN
    have HTB7 := HTB
    have HROW7 := HROW
    rw [hDs] at HCR1
    have hDmb : tb + 1 ≤ Dm := by rw [← hs7]; exact hDm
    go_wp2_with fail
    refine HCR1.out.mono ?_
    rintro _ w8 ⟨⟨ba, rfl, hda⟩, hb8⟩
    have HD8 := Lib.hid (HD7.out.later hb8)
    have HIN8 := Lib.hid (HIN7.out.later hb8)
    have HTB8 := Lib.hid (RowAt.below HTB7.out hb8)
    have HROW8 := Lib.hid (RowAt.below HROW7.out hb8)
    have HDA8 := Lib.hid hda
    have HCR2 := Lib.hid (crash_ok w8 _ b D _ HD8.out none [] 0 0 rfl (Nat.le_refl _) (.inl rfl) (by rw [HNQ.out]; omega) (by omega) (fun x hx => by cases hx) rfl)
    rw [hDs, crs_none] at HCR2
    clear c1 hda hb8
    go_wp2_with fail
    refine HCR2.out.mono ?_
    rintro _ w9 ⟨⟨bb, rfl, hdb⟩, hb9⟩
    have HD9 := Lib.hid (HD8.out.later hb9)
    have HIN9 := Lib.hid (HIN8.out.later hb9)
    have HTB9 := Lib.hid (RowAt.below HTB8.out hb9)
    have HROW9 := Lib.hid (RowAt.below HROW8.out hb9)
    have HDA9 := Lib.hid (HDA8.out.later hb9)
    have HDB9 := Lib.hid hdb
    have i3 : w9.cell? ⟨g, 3, none⟩ = some (.slice pa np cp) := HIN9.out.row.cell 3
    clear hdb hb9
    obtain ⟨L, hL⟩ : ∃ L, laid D.last D.pcs = L := ⟨_, rfl⟩
    have HL := Lib.hid hL
    have hLl : ∀ k, (L k).length = 512 := by rw [← hL]; exact laid_len HD3.out.sec _ fun p hp => (HD3.out.psec p hp).2.2
    have hLo : ∀ k, (k < 0 ∨ (size : Int) ≤ k) → L k = nought := by
      rw [← hL]
      have h := HDO.out
      unfold DK.Out at h
      rw [hDs] at h
      exact laid_out h _ fun p hp => by have := HD3.out.psec p hp; rw [hDs] at this; exact ⟨this.1, this.2.1⟩
    rw [hL] at HDA9
    have HLL := Lib.hid hLl
    have HLO := Lib.hid hLo
    clear hL hLl hLo
    have hps : size ≤ 100 := by omega
    have hnp3 : np ≤ 300 := by omega
    have hDp2 : D.pcs.length ≤ 1000000 := by rw [HNQ.out]; omega
    obtain ⟨NB, hNB⟩ : ∃ l, flatS L 0 size = l := ⟨_, rfl⟩
    obtain ⟨nn, hnn⟩ : ∃ n, size * 512 = n := ⟨_, rfl⟩
    have HNB := Lib.hid hNB
    have HNL : Hid (NB.length = nn) := by show _ = _; rw [← hNB, flatS_len HLL.out, hnn]
    obtain ⟨YB, hYB⟩ : ∃ l, flatS D.last 0 size = l := ⟨_, rfl⟩
    have HYB := Lib.hid hYB
    have HYL : Hid (YB.length = nn) := by show _ = _; rw [← hYB, flatS_len HD3.out.sec, hnn]
    clear hNB hYB
    obtain ⟨S, hS⟩ : ∃ S, str NB = S := ⟨_, rfl⟩
    have HS := Lib.hid hS
    clear hS
    by_cases hall : ps.all (fun x => decide (0 ≤ x)) = true
    · have HCR3 := Lib.hid (crash_ok w9 _ b D _ HD9.out pa ps np cp HP1.out hp3 HIN9.out.picks hDp2 (by omega) HP4.out hall)
      rw [hDs] at HCR3
      obtain ⟨M, hM⟩ : ∃ M, (crs D.last ps D.pcs).1 = M := ⟨_, rfl⟩
      have hMl : ∀ k, (M k).length = 512 := by rw [← hM]; exact crs_len HD3.out.sec _ _ fun p hp => (HD3.out.psec p hp).2.2
      have HM := Lib.hid hM
      have HML := Lib.hid hMl
      rw [hM] at HCR3
      clear hM hMl
      go_wp2_with fail
      refine HCR3.out.mono ?_
      rintro _ w10 ⟨⟨bc, rfl, hdc⟩, hb⟩
      have HD10 := Lib.hid (HD9.out.later hb)
      have HIN10 := Lib.hid (HIN9.out.later hb)
      have HTB10 := Lib.hid (RowAt.below HTB9.out hb)
      have HROW10 := Lib.hid (RowAt.below HROW9.out hb)
      have HDA10 := Lib.hid (HDA9.out.later hb)
      have HDB10 := Lib.hid (HDB9.out.later hb)
      have HDC10 := Lib.hid hdc
      clear hdc hb i3
      have HRD1 := Lib.hid (read_any w10 _ b D _ 0 size HD10.out hDp2 (by omega) (by rw [hDs]; omega))
      rw [HL.out, HNB.out] at HRD1
      have i0 : w10.cell? ⟨g, 0, none⟩ = some (.int .i64 (size : Int)) := HIN10.out.row.cell 0
      go_wp2_with fail
      refine HRD1.out.mono ?_
      rintro _ w11 ⟨⟨v, rfl, hv⟩, hb⟩
      obtain ⟨na, nc, hv2, hnc, hnr⟩ := OwnB.rd hv
      rw [HNL.out] at hv2 hnc
      subst hv2
      have HD11 := Lib.hid (HD10.out.later hb)
      have HIN11 := Lib.hid (HIN10.out.later hb)
      have HTB11 := Lib.hid (RowAt.below HTB10.out hb)
      have HROW11 := Lib.hid (RowAt.below HROW10.out hb)
      have HDA11 := Lib.hid (HDA10.out.later hb)
      have HDB11 := Lib.hid (HDB10.out.later hb)
      have HDC11 := Lib.hid (HDC10.out.later hb)
      have HNR11 := Lib.hid hnr
      clear hv hnr hb i0
      have HRD2 := Lib.hid (read_any w11 _ ba ⟨size, L, []⟩ _ 0 size HDA11.out (Nat.zero_le _) (by omega) (by dsimp only; omega))
      rw [show flatS (laid (⟨size, L, []⟩ : DK).last (⟨size, L, []⟩ : DK).pcs) 0 size = NB from HNB.out] at HRD2
      have i0 : w11.cell? ⟨g, 0, none⟩ = some (.int .i64 (size : Int)) := HIN11.out.row.cell 0
      go_wp2_with fail
      refine HRD2.out.mono ?_
      rintro _ w12 ⟨⟨v, rfl, hv⟩, hb⟩
      obtain ⟨xa, xc, hv2, hxc, hxr⟩ := OwnB.rd hv
      rw [HNL.out] at hv2 hxc
      subst hv2
      have HD12 := Lib.hid (HD11.out.later hb)
      have HIN12 := Lib.hid (HIN11.out.later hb)
      have HTB12 := Lib.hid (RowAt.below HTB11.out hb)
      have HROW12 := Lib.hid (RowAt.below HROW11.out hb)
      have HDA12 := Lib.hid (HDA11.out.later hb)
      have HDB12 := Lib.hid (HDB11.out.later hb)
      have HDC12 := Lib.hid (HDC11.out.later hb)
      have HNR12 := Lib.hid (HNR11.out.mono hb)
      have HXR12 := Lib.hid hxr
      clear hv hxr hb i0
      have HRD3 := Lib.hid (read_any w12 _ bb ⟨size, D.last, []⟩ _ 0 size HDB12.out (Nat.zero_le _) (by omega) (by dsimp only; omega))
      rw [show flatS (laid (⟨size, D.last, []⟩ : DK).last (⟨size, D.last, []⟩ : DK).pcs) 0 size = YB from HYB.out] at HRD3
      have i0 : w12.cell? ⟨g, 0, none⟩ = some (.int .i64 (size : Int)) := HIN12.out.row.cell 0
      go_wp2_with fail
      refine HRD3.out.mono ?_
      rintro _ w13 ⟨⟨v, rfl, hv⟩, hb⟩
      obtain ⟨ya, yc, hv2, hyc, hyr⟩ := OwnB.rd hv
      rw [HYL.out] at hv2 hyc
      subst hv2
      have HD13 := Lib.hid (HD12.out.later hb)
      have HIN13 := Lib.hid (HIN12.out.later hb)
      have HTB13 := Lib.hid (RowAt.below HTB12.out hb)
      have HROW13 := Lib.hid (RowAt.below HROW12.out hb)
      have HDA13 := Lib.hid (HDA12.out.later hb)
      have HDB13 := Lib.hid (HDB12.out.later hb)
      have HDC13 := Lib.hid (HDC12.out.later hb)
      have HNR13 := Lib.hid (HNR12.out.mono hb)
      have HXR13 := Lib.hid (HXR12.out.mono hb)
      have HYR13 := Lib.hid hyr
      clear hv hyr hb i0
      have hcv1 := convB na NB nn nc S HNL.out.symm HS.out w13 HNR13.out
      have hcv2 := convB xa NB nn xc S HNL.out.symm HS.out w13 HXR13.out
      have HRD4 := Lib.hid (read_any w13 _ bc ⟨size, M, []⟩ _ 0 size HDC13.out (Nat.zero_le _) (by omega) (by dsimp only; omega))
      obtain ⟨ZB, hZB⟩ : ∃ l, flatS M 0 size = l := ⟨_, rfl⟩
      have HZB := Lib.hid hZB
      have HZL : Hid (ZB.length = nn) := by show _ = _; rw [← hZB, flatS_len HML.out, hnn]
      clear hZB
      rw [show flatS (laid (⟨size, M, []⟩ : DK).last (⟨size, M, []⟩ : DK).pcs) 0 size = ZB from HZB.out] at HRD4
      have i0 : w13.cell? ⟨g, 0, none⟩ = some (.int .i64 (size : Int)) := HIN13.out.row.cell 0
      go_wp2_with fail
      refine HRD4.out.mono ?_
      rintro _ w14 ⟨⟨v, rfl, hv⟩, hb⟩
      obtain ⟨za, zc, hv2, hzc, hzr⟩ := OwnB.rd hv
      rw [HZL.out] at hv2 hzc
      subst hv2
      have HD14 := Lib.hid (HD13.out.later hb)
      have HIN14 := Lib.hid (HIN13.out.later hb)
      have HTB14 := Lib.hid (RowAt.below HTB13.out hb)
      have HROW14 := Lib.hid (RowAt.below HROW13.out hb)
      have HDA14 := Lib.hid (HDA13.out.later hb)
      have HDB14 := Lib.hid (HDB13.out.later hb)
      have HDC14 := Lib.hid (HDC13.out.later hb)
      have HNR14 := Lib.hid (HNR13.out.mono hb)
      have HXR14 := Lib.hid (HXR13.out.mono hb)
      have HYR14 := Lib.hid (HYR13.out.mono hb)
      have HZR14 := Lib.hid hzr
      clear hv hzr hb i0 hcv1 hcv2
      go_wp2_with fail
      go_loopw [22] (fun i wr => Below w14.heap.size w14 wr ∧ ∃ k : Nat, k ≤ nn ∧ i = .int .i64 k) (fun i _ => nn - (intOf i).toNat)
      case atStart => exact ⟨Below.refl _ _, 0, Nat.zero_le _, rfl⟩
      case round =>
        obtain ⟨hbr, k, hk, rfl⟩ := hrel
        have HBR := Lib.hid hbr
        by_cases hkn : k < nn
        · have hq : k / 512 < size := by omega
          have hTl : T.length = size := HTC.out.1
          have d0 := (RowAt.below HTB14.out hbr).cell 0
          have d1 := (RowAt.below HROW14.out hbr).cell (k / 512)
          obtain ⟨tv, htv⟩ : ∃ tv, T[k / 512]? = some tv := ⟨_, List.getElem?_eq_getElem (by rw [hTl]; exact hq)⟩
          have htch := HTC.out.2 (k / 512) hq
          rw [htv] at htch
          simp only [rowB, List.getElem?_toArray, List.getElem?_map, htv, Option.map_some, List.getElem?_cons_zero] at d0 d1
          obtain ⟨nb, no, hn1, -, hn2⟩ := (HNR14.out.mono hbr).at (by rw [HNL.out]; omega)
          obtain ⟨yb, yo, hy1, -, hy2⟩ := (HYR14.out.mono hbr).at (by rw [HYL.out]; omega)
          obtain ⟨zb, zo, hz1, -, hz2⟩ := (HZR14.out.mono hbr).at (by rw [HZL.out]; omega)
          subst hn1
          subst hy1
          subst hz1
          have hk1 : k < NB.length := by rw [HNL.out]; exact hkn
          have hk2 : k < YB.length := by rw [HYL.out]; exact hkn
          have hk3 : k < ZB.length := by rw [HZL.out]; exact hkn
          have e1 := hn2 k hk1
          have e2 := hy2 k hk2
          have e3 := hz2 k hk3
          have hdiv : ((k : Int)).tdiv 512 = ((k / 512 : Nat) : Int) := by rw [Int.tdiv_eq_ediv_of_nonneg (by omega)]; omega
          have hq0 : (0 : Int) ≤ ((k / 512 : Nat) : Int) := by omega
          have hq1 : ((k / 512 : Nat) : Int) < (size : Int) := by omega
          have hk0 : (0 : Int) ≤ (k : Int) := by omega
          have hkI : (k : Int) < (nn : Int) := by omega
          have hfar : tv = false → NB[k]? = YB[k]? ∧ NB[k]? = ZB[k]? := fun ht => by
            have hno : ∀ p ∈ D.pcs, p.1 ≠ ((k / 512 : Nat) : Int) := fun p hp he => by
              have := htch.2 ⟨p, hp, he⟩
              rw [ht] at this
              cases this
            rw [← HNB.out, ← HYB.out, ← HZB.out]
            refine ⟨flat_far HLL.out HD3.out.sec (by omega) ?_, flat_far HLL.out HML.out (by omega) ?_⟩
            · rw [← HL.out]; exact laid_far _ _ _ hno
            · rw [← HL.out, ← HM.out, laid_far _ _ _ hno, crs_far _ _ _ _ hno]
          have hkk : Hid (∀ nq, Below w14.heap.size w14 (wr.drewN nq)) := fun nq => drewN_below HBR.out nq
          cases tv with
          | true =>
            clear hfar htch hn2 hy2 hz2 e1 e2 e3 hbr htv
            go_wp2_with fail
            go_quiet (fail)
            go_wp2
            exact ⟨⟨hkk.out _, k + 1, by omega, by go_num⟩, by simp [intOf]; omega⟩
          | false =>
            obtain ⟨h1, h2⟩ := hfar rfl
            have h1 : YB[k] = NB[k] := by rw [List.getElem?_eq_getElem hk1, List.getElem?_eq_getElem hk2] at h1; exact (Option.some.inj h1).symm
            have h2 : ZB[k] = NB[k] := by rw [List.getElem?_eq_getElem hk1, List.getElem?_eq_getElem hk3] at h2; exact (Option.some.inj h2).symm
            rw [h1] at e2
            rw [h2] at e3
            obtain ⟨t, ht⟩ : ∃ t : Int, ((NB[k]).toNat : Int) = t := ⟨_, rfl⟩
            rw [ht] at e1 e2 e3
            clear hfar htch hn2 hy2 hz2 hbr h1 h2 ht htv
            go_wp2_with fail
            go_quiet (fail)
            go_wp2
            exact ⟨⟨hkk.out _, k + 1, by omega, by go_num⟩, by simp [intOf]; omega⟩
        · have HD15 := Lib.hid (HD14.out.later HBR.out)
          have HIN15 := Lib.hid (HIN14.out.later HBR.out)
          have HTB15 := Lib.hid (RowAt.below HTB14.out HBR.out)
          have HROW15 := Lib.hid (RowAt.below HROW14.out HBR.out)
          have HDA15 := Lib.hid (HDA14.out.later HBR.out)
          have HDB15 := Lib.hid (HDB14.out.later HBR.out)
          have HDC15 := Lib.hid (HDC14.out.later HBR.out)
          have HNR15 := Lib.hid (HNR14.out.mono HBR.out)
          have HXR15 := Lib.hid (HXR14.out.mono HBR.out)
          have HYR15 := Lib.hid (HYR14.out.mono HBR.out)
          have HZR15 := Lib.hid (HZR14.out.mono HBR.out)
          have HCP := Lib.hid (copy_any wr _ ba ⟨size, L, []⟩ 0 HDA15.out (Nat.zero_le _) (Nat.zero_le _))
          clear hbr
          go_wp2_with fail
          refine HCP.out.mono ?_
          rintro _ w16 ⟨⟨bs, rfl, hds⟩, hb⟩
          have HD16 := Lib.hid (HD15.out.later hb)
          have HIN16 := Lib.hid (HIN15.out.later hb)
          have HTB16 := Lib.hid (RowAt.below HTB15.out hb)
          have HROW16 := Lib.hid (RowAt.below HROW15.out hb)
          have HDA16 := Lib.hid (HDA15.out.later hb)
          have HDB16 := Lib.hid (HDB15.out.later hb)
          have HDC16 := Lib.hid (HDC15.out.later hb)
          have HNR16 := Lib.hid (HNR15.out.mono hb)
          have HXR16 := Lib.hid (HXR15.out.mono hb)
          have HYR16 := Lib.hid (HYR15.out.mono hb)
          have HZR16 := Lib.hid (HZR15.out.mono hb)
          have HDS16 := Lib.hid hds
          have i3 : w16.cell? ⟨g, 3, none⟩ = some (.slice pa np cp) := HIN16.out.row.cell 3
          have HCS := Lib.hid (crash_ok w16 _ bs ⟨size, L, []⟩ 0 HDS16.out pa ps np cp HP1.out hp3 HIN16.out.picks (Nat.zero_le _) (by omega) HP4.out hall)
          rw [show (crs (⟨size, L, []⟩ : DK).last ps (⟨size, L, []⟩ : DK).pcs).1 = L from rfl] at HCS
          clear hds hb
          go_wp2_with fail
          refine HCS.out.mono ?_
          rintro _ w17 ⟨⟨bu, rfl, hdu⟩, hb⟩
          have HD17 := Lib.hid (HD16.out.later hb)
          have HIN17 := Lib.hid (HIN16.out.later hb)
          have HTB17 := Lib.hid (RowAt.below HTB16.out hb)
          have HROW17 := Lib.hid (RowAt.below HROW16.out hb)
          have HDA17 := Lib.hid (HDA16.out.later hb)
          have HDB17 := Lib.hid (HDB16.out.later hb)
          have HDC17 := Lib.hid (HDC16.out.later hb)
          have HNR17 := Lib.hid (HNR16.out.mono hb)
          have HXR17 := Lib.hid (HXR16.out.mono hb)
          have HYR17 := Lib.hid (HYR16.out.mono hb)
          have HZR17 := Lib.hid (HZR16.out.mono hb)
          have HDU17 := Lib.hid hdu
          clear hdu hb i3
          have i0 : w17.cell? ⟨g, 0, none⟩ = some (.int .i64 (size : Int)) := HIN17.out.row.cell 0
          have HNW := Lib.hid (new_any none [] 0 0 size w17 rfl (by omega) (.inl rfl) (by omega) (by omega) rfl)
          obtain ⟨gn, hgn⟩ : ∃ x, w17.heap.size = x := ⟨_, rfl⟩
          rw [hgn] at HNW
          go_wp2_with fail
          refine HNW.out.mono ?_
          rintro _ wa ⟨⟨bw, rfl, hdw⟩, hba⟩
          have HDWa := Lib.hid hdw
          have HBa := Lib.hid hba
          have HNRa := Lib.hid (HNR17.out.mono (by rw [hgn]; exact hba))
          have hgna : gn ≤ wa.heap.size := by rw [← hgn]; exact hba.size
          have hsepN : NB ≠ [] → ∀ ad, na = some ad → ad.block < gn := fun hne ad ha => by
            rcases HNR17.out with h | ⟨b3, o3, h3, hlt3, _⟩
            · exact absurd (List.map_eq_nil_iff.1 h) hne
            · rw [ha] at h3; cases h3; rw [← hgn]; exact hlt3
          have hnl := HNL.out
          have HWR := Lib.hid (write_any wa gn bw ⟨size, fun _ => nought, []⟩ 0 0 na NB nn nc HDWa.out hgna HNL.out.symm hnc HNRa.out hsepN (by dsimp only; rw [hnl]; simp; omega) (by rw [hnl]; omega))
          clear hdw hba i0 hsepN
          go_wp2_with fail
          refine HWR.out.mono ?_
          rintro _ wb ⟨⟨kw, er, -, -, hkw, rfl, hdw⟩, hbb⟩
          obtain ⟨hkw1, hkw2⟩ := hkw (by first | rfl | trivial) (by omega) (by omega) (by (try dsimp only); rw [hnl]; omega)
          have hkw3 : kw = size := by rw [hkw1, hnl]; omega
          subst hkw2
          subst hkw3
          have HDWb := Lib.hid hdw
          have HBb : Hid (Below gn w17 wb) := HBa.out.trans hbb
          have hgnb : gn ≤ wb.heap.size := by rw [← hgn]; exact HBb.out.size
          have hwl : ([] ++ wps 0 NB kw).length = kw := by simp [wps]
          have HSY := Lib.hid (sync_any wb gn bw ⟨kw, fun _ => nought, [] ++ wps 0 NB kw⟩ 0 HDWb.out hgnb (by dsimp only; rw [hwl]; omega))
          clear hdw hbb hkw hkw1
          go_wp2_with fail
          refine HSY.out.mono ?_
          rintro _ wc ⟨⟨ks, -, er, hks, rfl, hdw⟩, hbc⟩
          obtain ⟨hks1, hks2⟩ := hks (by first | rfl | trivial)
          subst hks2
          subst hks1
          have HDWc : Hid (IsDk wc gn bw ⟨kw, L, []⟩ 0) := by
            have h := hdw
            try dsimp only at h
            rw [List.take_of_length_le (Nat.le_refl _), List.drop_of_length_le (Nat.le_refl _), List.nil_append, ← HNB.out, laid_all HLL.out kw HLO.out] at h
            exact h
          have HBc : Hid (Below w17.heap.size w17 wc) := by show Below _ _ _; rw [hgn]; exact HBb.out.trans hbc
          clear hdw hbc hks
          have HD18 := Lib.hid (HD17.out.later HBc.out)
          have HIN18 := Lib.hid (HIN17.out.later HBc.out)
          have HTB18 := Lib.hid (RowAt.below HTB17.out HBc.out)
          have HROW18 := Lib.hid (RowAt.below HROW17.out HBc.out)
          have HDA18 := Lib.hid (HDA17.out.later HBc.out)
          have HDB18 := Lib.hid (HDB17.out.later HBc.out)
          have HDC18 := Lib.hid (HDC17.out.later HBc.out)
          have HNR18 := Lib.hid (HNR17.out.mono HBc.out)
          have HXR18 := Lib.hid (HXR17.out.mono HBc.out)
          have HYR18 := Lib.hid (HYR17.out.mono HBc.out)
          have HZR18 := Lib.hid (HZR17.out.mono HBc.out)
          have HDU18 := Lib.hid (HDU17.out.later HBc.out)
          have i3 : wc.cell? ⟨g, 3, none⟩ = some (.slice pa np cp) := HIN18.out.row.cell 3
          have HCV := Lib.hid (crash_ok wc _ bw ⟨kw, L, []⟩ 0 HDWc.out pa ps np cp HP1.out hp3 HIN18.out.picks (Nat.zero_le _) (by omega) HP4.out hall)
          rw [show (crs (⟨kw, L, []⟩ : DK).last ps (⟨kw, L, []⟩ : DK).pcs).1 = L from rfl] at HCV
          go_wp2_with fail
          refine HCV.out.mono ?_
          rintro _ w19 ⟨⟨bv, rfl, hdv⟩, hb⟩
          have HD19 := Lib.hid (HD18.out.later hb)
          have HIN19 := Lib.hid (HIN18.out.later hb)
          have HTB19 := Lib.hid (RowAt.below HTB18.out hb)
          have HROW19 := Lib.hid (RowAt.below HROW18.out hb)
          have HDA19 := Lib.hid (HDA18.out.later hb)
          have HDB19 := Lib.hid (HDB18.out.later hb)
          have HDC19 := Lib.hid (HDC18.out.later hb)
          have HNR19 := Lib.hid (HNR18.out.mono hb)
          have HXR19 := Lib.hid (HXR18.out.mono hb)
          have HYR19 := Lib.hid (HYR18.out.mono hb)
          have HZR19 := Lib.hid (HZR18.out.mono hb)
          have HDU19 := Lib.hid (HDU18.out.later hb)
          have HDV19 := Lib.hid hdv
          clear hdv hb i3
          have HSM1 := Lib.hid (same_any w19 _ _ bu ba _ _ kw L HDU19.out HDA19.out)
          go_wp2_with fail
          refine HSM1.out.mono ?_
          rintro _ w20 ⟨rfl, hb⟩
          have HD20 := Lib.hid (HD19.out.later hb)
          have HIN20 := Lib.hid (HIN19.out.later hb)
          have HTB20 := Lib.hid (RowAt.below HTB19.out hb)
          have HROW20 := Lib.hid (RowAt.below HROW19.out hb)
          have HDA20 := Lib.hid (HDA19.out.later hb)
          have HDB20 := Lib.hid (HDB19.out.later hb)
          have HDC20 := Lib.hid (HDC19.out.later hb)
          have HNR20 := Lib.hid (HNR19.out.mono hb)
          have HXR20 := Lib.hid (HXR19.out.mono hb)
          have HYR20 := Lib.hid (HYR19.out.mono hb)
          have HZR20 := Lib.hid (HZR19.out.mono hb)
          have HDU20 := Lib.hid (HDU19.out.later hb)
          have HDV20 := Lib.hid (HDV19.out.later hb)
          have HSM2 := Lib.hid (same_any w20 _ _ bv ba _ _ kw L HDV20.out HDA20.out)
          clear hb
          go_wp2_with fail
          refine HSM2.out.mono ?_
          rintro _ w21 ⟨rfl, hb⟩
          have HD21 := Lib.hid (HD20.out.later hb)
          have HIN21 := Lib.hid (HIN20.out.later hb)
          have HTB21 := Lib.hid (RowAt.below HTB20.out hb)
          have HROW21 := Lib.hid (RowAt.below HROW20.out hb)
          have HDA21 := Lib.hid (HDA20.out.later hb)
          have HDB21 := Lib.hid (HDB20.out.later hb)
          have HDC21 := Lib.hid (HDC20.out.later hb)
          have HNR21 := Lib.hid (HNR20.out.mono hb)
          have HXR21 := Lib.hid (HXR20.out.mono hb)
          have HYR21 := Lib.hid (HYR20.out.mono hb)
          have HZR21 := Lib.hid (HZR20.out.mono hb)
          have HDU21 := Lib.hid (HDU20.out.later hb)
          have HDV21 := Lib.hid (HDV20.out.later hb)
          clear hb
          go_wp2_with fail
          refine (known_any _).mono ?_
          rintro e wk ⟨rfl, hbk⟩
          have hin := HIN21.out.later hbk
          have hc := hin.res.cell
          have hf := hin.res.frozen
          have HRk := Lib.hid (hin.res.set (.bool true))
          have hDr : Dm ≠ rb := by omega
          have HMk : Hid ((wk.setCell ⟨rb, 0, none⟩ (.bool true)).heap[Dm]? = some (.deferred (some []))) := (heap_setCell_other wk ⟨rb, 0, none⟩ Dm _ hDr).trans hin.mark
          have HBk := Lib.hid (hin.bel.setCell (p := ⟨rb, 0, none⟩) (by dsimp only; omega) (.bool true))
          have HGk : Hid (g ≤ wk.heap.size) := Nat.le_of_lt hin.row.lt
          clear hin hbk
          go_wp2
          refine post_marks [Dm] rfl (by simp) (by intro x hx; simp at hx; rw [hx]; exact HMk.out) fun w' hk => ⟨.bool true, ?_, HKT.out _ ?_⟩
          · exact results_box rfl rfl (HRk.out.keepA hk (fun hx => by simp at hx; omega)) rfl Try.underlying4
          · exact HBk.out.trans (hk.below (by simpa [World.setCell] using HGk.out) (fun x hx => by simp at hx; subst hx; omega))
    · have hall2 : ps.all (fun x => decide (0 ≤ x)) = false := by simpa using hall
      have HCR3 := Lib.hid (crash_bad w9 _ b D _ HD9.out pa ps np cp HP1.out hp3 HIN9.out.picks (by omega) hall2)
      clear hall hall2
      go_wp2_with fail
      refine HCR3.out.mono ?_
      rintro _ w10 ⟨rfl, hb⟩
      have HD10 := Lib.hid (HD9.out.later hb)
      have HIN10 := Lib.hid (HIN9.out.later hb)
      have HTB10 := Lib.hid (RowAt.below HTB9.out hb)
      have HROW10 := Lib.hid (RowAt.below HROW9.out hb)
      have HDA10 := Lib.hid (HDA9.out.later hb)
      have HDB10 := Lib.hid (HDB9.out.later hb)
      clear hb i3
      have HRD1 := Lib.hid (read_any w10 _ b D _ 0 size HD10.out hDp2 (by omega) (by rw [hDs]; omega))
      rw [HL.out, HNB.out] at HRD1
      have i0 : w10.cell? ⟨g, 0, none⟩ = some (.int .i64 (size : Int)) := HIN10.out.row.cell 0
      go_wp2_with fail
      refine HRD1.out.mono ?_
      rintro _ w11 ⟨⟨v, rfl, hv⟩, hb⟩
      obtain ⟨na, nc, hv2, hnc, hnr⟩ := OwnB.rd hv
      rw [HNL.out] at hv2 hnc
      subst hv2
      have HD11 := Lib.hid (HD10.out.later hb)
      have HIN11 := Lib.hid (HIN10.out.later hb)
      have HTB11 := Lib.hid (RowAt.below HTB10.out hb)
      have HROW11 := Lib.hid (RowAt.below HROW10.out hb)
      have HDA11 := Lib.hid (HDA10.out.later hb)
      have HDB11 := Lib.hid (HDB10.out.later hb)
      have HNR11 := Lib.hid hnr
      clear hv hnr hb i0
      have HRD2 := Lib.hid (read_any w11 _ ba ⟨size, L, []⟩ _ 0 size HDA11.out (Nat.zero_le _) (by omega) (by dsimp only; omega))
      rw [show flatS (laid (⟨size, L, []⟩ : DK).last (⟨size, L, []⟩ : DK).pcs) 0 size = NB from HNB.out] at HRD2
      have i0 : w11.cell? ⟨g, 0, none⟩ = some (.int .i64 (size : Int)) := HIN11.out.row.cell 0
      go_wp2_with fail
      refine HRD2.out.mono ?_
      rintro _ w12 ⟨⟨v, rfl, hv⟩, hb⟩
      obtain ⟨xa, xc, hv2, hxc, hxr⟩ := OwnB.rd hv
      rw [HNL.out] at hv2 hxc
      subst hv2
      have HD12 := Lib.hid (HD11.out.later hb)
      have HIN12 := Lib.hid (HIN11.out.later hb)
      have HTB12 := Lib.hid (RowAt.below HTB11.out hb)
      have HROW12 := Lib.hid (RowAt.below HROW11.out hb)
      have HDA12 := Lib.hid (HDA11.out.later hb)
      have HDB12 := Lib.hid (HDB11.out.later hb)
      have HNR12 := Lib.hid (HNR11.out.mono hb)
      have HXR12 := Lib.hid hxr
      clear hv hxr hb i0
      have HRD3 := Lib.hid (read_any w12 _ bb ⟨size, D.last, []⟩ _ 0 size HDB12.out (Nat.zero_le _) (by omega) (by dsimp only; omega))
      rw [show flatS (laid (⟨size, D.last, []⟩ : DK).last (⟨size, D.last, []⟩ : DK).pcs) 0 size = YB from HYB.out] at HRD3
      have i0 : w12.cell? ⟨g, 0, none⟩ = some (.int .i64 (size : Int)) := HIN12.out.row.cell 0
      go_wp2_with fail
      refine HRD3.out.mono ?_
      rintro _ w13 ⟨⟨v, rfl, hv⟩, hb⟩
      obtain ⟨ya, yc, hv2, hyc, hyr⟩ := OwnB.rd hv
      rw [HYL.out] at hv2 hyc
      subst hv2
      have HD13 := Lib.hid (HD12.out.later hb)
      have HIN13 := Lib.hid (HIN12.out.later hb)
      have HTB13 := Lib.hid (RowAt.below HTB12.out hb)
      have HROW13 := Lib.hid (RowAt.below HROW12.out hb)
      have HDA13 := Lib.hid (HDA12.out.later hb)
      have HDB13 := Lib.hid (HDB12.out.later hb)
      have HNR13 := Lib.hid (HNR12.out.mono hb)
      have HXR13 := Lib.hid (HXR12.out.mono hb)
      have HYR13 := Lib.hid hyr
      clear hv hyr hb i0
      have hcv1 := convB na NB nn nc S HNL.out.symm HS.out w13 HNR13.out
      have hcv2 := convB xa NB nn xc S HNL.out.symm HS.out w13 HXR13.out
      go_wp2_with fail
      refine (known_any _).mono ?_
      rintro e wk ⟨rfl, hbk⟩
      have hin := HIN13.out.later hbk
      have hc := hin.res.cell
      have hf := hin.res.frozen
      have HRk := Lib.hid (hin.res.set (.bool true))
      have hDr : Dm ≠ rb := by omega
      have HMk : Hid ((wk.setCell ⟨rb, 0, none⟩ (.bool true)).heap[Dm]? = some (.deferred (some []))) := (heap_setCell_other wk ⟨rb, 0, none⟩ Dm _ hDr).trans hin.mark
      have HBk := Lib.hid (hin.bel.setCell (p := ⟨rb, 0, none⟩) (by dsimp only; omega) (.bool true))
      have HGk : Hid (g ≤ wk.heap.size) := Nat.le_of_lt hin.row.lt
      clear hin hbk
      go_wp2
      refine post_marks [Dm] rfl (by simp) (by intro x hx; simp at hx; rw [hx]; exact HMk.out) fun w' hk => ⟨.bool true, ?_, HKT.out _ ?_⟩
      · exact results_box rfl rfl (HRk.out.keepA hk (fun hx => by simp at hx; omega)) rfl Try.underlying4
      · exact HBk.out.trans (hk.below (by simpa [World.setCell] using HGk.out) (fun x hx => by simp at hx; subst hx; omega))
end Go.Proofs.Ytchdipakekglmaa
