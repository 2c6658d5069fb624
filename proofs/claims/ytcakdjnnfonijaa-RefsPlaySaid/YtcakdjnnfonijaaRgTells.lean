/- tells of lexiconlaw23: a graph tells what the document's has. (Printed by gen_rgtells.py.) -/
import Derived.Test.YtcakdjnnfonijaaRgAllS
import Derived.Test.YtcakdjnnfonijaaRgDoc
import Derived.Test.YtcakdjnnfonijaaRound
namespace Go.Proofs.Ytcakdjnnfonijaa
open Go.RowKit

attribute [local go_sem] Oper.semAt_some
/-- A range over a function where a round is left by one break alone, behind which all goes on as behind the loop's end. -/
theorem wp_rangeC {P : Program} {g : Operand} {ps : Array Tmp} {assign body : Code} {Q : Exit → Act → World → Prop} {a : Act} {w : World}
    {gf : Nat} {lb : Array Value} (hg : a.eval g = .func (.func gf) #[] lb) (eg : ∀ args w, (callFunc gf args).run P w = .ok (.enter gf args) w) (id : Nat) (hid : ∀ a w, Q .normal a w → (Code.exit id).wp P Q a w)
    (X : Nat → Prop) {N : Nat → Array Value → World → Prop} {len : Nat} (hseq : Stops P gf lb X N len w) (hX : ∀ k, X k → k < w.heap.size) (hps : ∀ k args W, N k args W → args.size = ps.size)
    (G : Nat → World → Prop) (hG : ∀ s W W', G s W → Stays w.heap.size W W' → G s W') (h0 : G 0 w)
    (hround : ∀ (l k : Nat) (args : Array Value) (W : World), k < len → N k args W → KeepA X w W → G k W →
      assign.wpIn (Fence.wide.inRound l) 2 P (Exit.then (fun a1 W1 => KeepA X W W1 ∧ ∀ W2, Stays w.heap.size W1 W2 → KeepA X w W2 → body.wpIn (Fence.wide.inRound l) 2 P (rndPost X G (fun c j W => c = .exit id ∧ G j W) (k + 1) W2) a1 W2) (fun _ _ _ => False))
        { tmps := (ps.zip args).foldl (fun t (p, v) => t.setIfInBounds p v) a.tmps, defers := [] } W)
    (hdone : ∀ (D k : Nat) (W : World), w.heap.size ≤ D → k ≤ len → KeepA X w W → G k W → W.heap[D]? = some (.deferred (some [])) → Q .normal { a with defers := { target := .collected D, args := #[] } :: a.defers } W) :
    (Code.rangeFunc g ps assign body).wp P Q a w := by
  refine wp_range hg eg X hseq hX hps G (fun c j W => c = .exit id ∧ G j W) hG (fun c s W W' h hs => ⟨h.1, hG _ _ _ h.2 hs⟩) h0 hround (fun D W hD hk hG' hd => hdone D len W hD (Nat.le_refl _) hk hG' hd) ?_
  rintro D c k W hD hk hkw ⟨rfl, hg2⟩ hd
  exact hid _ _ (hdone D (k + 1) W hD hk hkw hg2 hd)
theorem quiet_neqRf {o : Oper} {a : Act} {C : World → Prop} {K : Act → Prop} (x y : Operand) (ho : o.op = .binOp .neq 25 x y 25) (u v : Rf) (hx : a.eval x = .agg #[.string u.1, .int .i64 u.2]) (hy : a.eval y = .agg #[.string v.1, .int .i64 v.2]) (e : Bool) (he : (!decide (u = v)) = e) (hK : K (a.put o.dst (.bool e))) : o.quiet Try.prog a C K :=
  ⟨.bool e, fun w _ => by
    subst he
    unfold Oper.quietAt execOp
    simp only [ho, hx, hy]
    rw [Sem.run_bind, Sem.run_bind, run_eqGuard_agg w .neq 25 x y _ _ (by kernel_rfl), Result.andThen_ok, run_neqRf w u v]
    exact ⟨rfl, rfl⟩, hK⟩
set_option maxRecDepth 100000 in
set_option maxHeartbeats 8000000 in
theorem tells_any (w : World) (TT : Nat → Prop) (gb : Nat) (D : List (Rf × List Rf)) (h : GrS w TT gb D) (hasc : AscR (D.map (·.1))) (hlk : Lks D) (hd : D.length ≤ 1000) (UU : Nat → Prop) (rb : Nat) (hr : DocS w UU rb D) :
    Calls Try.prog 24 #[.pointer (some ⟨gb, 0, none⟩), .pointer (some ⟨rb, 0, none⟩)] w fun e w' => e = .returned (.bool true) ∧ Below w.heap.size w w' := by
  have HR := Lib.hid hr
  obtain ⟨m, hm⟩ : ∃ y, D.length = y := ⟨_, rfl⟩
  have HM := Lib.hid hm
  have hm1000 : m ≤ 1000 := by rw [← hm]; exact hd
  refine calls_of_wp_marks Try.func24 rfl ?_
  simp only [Try.ntmps24, List.size_toArray, List.length_cons, List.length_nil, Nat.reduceAdd, Nat.reduceSub, Array.replicate_succ, Array.replicate_zero, List.push_toArray, List.append_toArray, List.nil_append, List.cons_append]
  go_upto_region 1 with fail
  have ha := (Box.new w 40 (.pointer (some ⟨rb, 0, none⟩))).below (below_alloc (.cells #[.bool false] 4))
  have hrb := Box.new (w.alloc (.cells #[.pointer (some ⟨rb, 0, none⟩)] 40)) 4 (.bool false)
  have hb0 := below_trans (below_alloc (w := w) (.cells #[.pointer (some ⟨rb, 0, none⟩)] 40)) (below_alloc (.cells #[.bool false] 4))
  simp only [World.size_alloc] at hrb
  have hs0 : ((w.alloc (.cells #[.pointer (some ⟨rb, 0, none⟩)] 40)).alloc (.cells #[.bool false] 4)).heap.size = w.heap.size + 2 := by simp
  generalize (w.alloc (.cells #[.pointer (some ⟨rb, 0, none⟩)] 40)).alloc (.cells #[.bool false] 4) = W0 at *
  obtain ⟨g0, hg0⟩ : ∃ x, w.heap.size = x := ⟨_, rfl⟩
  have HB0 : Hid (Below g0 w W0) := by show Below _ _ _; rw [← hg0]; exact hb0
  have HBW : Hid (Below w.heap.size w W0) := hb0
  rw [hg0] at ha hrb hs0
  have HA := Lib.hid ha
  have HRB := Lib.hid hrb
  have HG0 := Lib.hid hg0
  have HBC := Lib.hid (gall_any W0 TT gb D (h.later hb0) hasc hlk hd)
  rw [hg0]
  clear ha hrb hb0 hg0 h hr hasc hlk hd hm
  go_wp2_with fail
  refine HBC.out.mono ?_
  rintro e w3 ⟨vv, ls, rfl, hbx, hown, hpl, hb3⟩
  obtain ⟨av, cv, rfl, hrow3⟩ := hown.rd
  obtain ⟨n, hn⟩ : ∃ y, ls.length = y := ⟨_, rfl⟩
  have hnm : n = m := by rw [← hn, ← HM.out, ← hpl]; simp [plainL]
  subst hnm
  have HPL := Lib.hid hpl
  have HN : Hid (n = ls.length) := Lib.hid hn.symm
  rw [hn] at hbx
  obtain ⟨B, hB⟩ : ∃ y, W0.heap.size = y := ⟨_, rfl⟩
  rw [hB] at hbx
  have hgB : g0 + 2 ≤ B := by omega
  have HBX := Lib.hid hbx
  have HROW3 := Lib.hid hrow3
  have HBS : Hid (Below w.heap.size w w3) := HBW.out.trans (hb3.mono HBW.out.size)
  have HR3 : Hid (DocS w3 UU rb D) := HR.out.later HBS.out
  have HA3 := Lib.hid (HA.out.below hb3)
  have HRB3 := Lib.hid (HRB.out.below hb3)
  have HB3 : Hid (Below g0 w w3) := HB0.out.trans (hb3.mono (by omega))
  have hs3 : g0 + 2 ≤ w3.heap.size := by have := hb3.size; omega
  have hBl : B < w3.heap.size := hbx.lt
  rw [hB]
  clear hbx hown hpl hb3 hrow3 hn HA HRB HBC HR HB0 HBW hs0 hB
  have hfn : ∀ (w : World) (f : Fn) (x y : Array Value), Hid ((binOp .eql 79 (.func f x y) .nilFunc).run Try.prog w = .ok (.bool false) w) := fun _ _ _ _ => rfl
  have h0 := (hfn w3 (.func 57) #[] #[.pointer (some ⟨B, 0, none⟩)]).out
  clear hfn
  go_wp2_with fail
  clear h0
  obtain ⟨T, hT⟩ : ∃ T, w3.heap.size = T := ⟨_, rfl⟩
  obtain ⟨V, hV⟩ : ∃ V, w3.alloc (.cells #[.int .i64 0] 3) = V := ⟨_, rfl⟩
  have HT0 : Hid (Box V T 3 (.int .i64 0)) := by show Box _ _ _ _; rw [← hV, ← hT]; exact Box.new _ _ _
  have HBV : Hid (Below w3.heap.size w3 V) := by show Below _ _ _; rw [← hV]; exact below_alloc _
  have HTl : Hid (w3.heap.size ≤ T) := Nat.le_of_eq hT
  have HTV : Hid (V.heap.size = T + 1) := by show _ = _; rw [← hV, ← hT]; simp
  have hdat : ∀ k (hk : k < n) W, Below w3.heap.size w3 W → ∃ x b2 off2 c2 ta tc, ls[k]? = some x ∧ W.cell? ⟨rb, 0, none⟩ = some (.slice (some ⟨b2, off2, none⟩) n c2) ∧ W.cell? ⟨b2, off2 + k * 3, none⟩ = some (.string x.fr.1) ∧ W.cell? ⟨b2, off2 + k * 3 + 1, none⟩ = some (.int .i64 x.fr.2) ∧ W.cell? ⟨b2, off2 + k * 3 + 2, none⟩ = some (.slice ta x.ts.length tc) := fun k hk W hW => by
    have hkl : k < ls.length := by rw [← HN.out]; exact hk
    obtain ⟨vv2, ls2, hm2⟩ := HR3.out.later hW
    obtain ⟨a2, c2, b2, off2, hvv2, ha2, hrows2⟩ := hm2.view
    have hbox2 := hm2.box
    rw [hvv2, HM.out] at hbox2
    obtain ⟨rfl, -⟩ := ha2 (by rw [HM.out]; omega)
    obtain ⟨ta, tc, hrow⟩ := hrows2 k (by rw [HM.out]; exact hk)
    have hrow := hrow W (Below.refl _ _)
    have hDk : D[k]'(by rw [HM.out]; exact hk) = (ls[k].fr, ls[k].ts) := by
      have e := HPL.out
      subst e
      simp [plainL]
    rw [hDk] at hrow
    obtain ⟨c1, c3, -⟩ := hrow
    obtain ⟨c1, c4⟩ := rf_cells c1
    exact ⟨ls[k], b2, off2, c2, ta, tc, List.getElem?_eq_getElem hkl, hbox2.cell 0, c1, c4, c3⟩
  have HDAT := Lib.hid hdat
  have hlen : ∀ W, Below w3.heap.size w3 W → ∃ a2 c2, W.cell? ⟨rb, 0, none⟩ = some (.slice a2 n c2) := fun W hW => by
    obtain ⟨vv2, ls2, hm2⟩ := HR3.out.later hW
    obtain ⟨a2, c2, b2, off2, hvv2, -, -⟩ := hm2.view
    have hbox2 := hm2.box
    rw [hvv2, HM.out] at hbox2
    exact ⟨a2, c2, hbox2.cell 0⟩
  have HLEN := Lib.hid hlen
  clear hdat hlen
  try rw [hV]
  try rw [hT]
  clear hT hV
  refine wp_loop_rounds 3 ?_
  rw [rounds_succ]
  have hct := HT0.out.cell
  go_wp2_with fail
  obtain ⟨N, hN⟩ : ∃ N, V.heap.size = N := ⟨_, rfl⟩
  obtain ⟨U, hU⟩ : ∃ U, V.alloc (.cells #[.int .i64 0] 3) = U := ⟨_, rfl⟩
  have HN0 : Hid (Box U N 3 (.int .i64 0)) := by show Box _ _ _ _; rw [← hU, ← hN]; exact Box.new _ _ _
  have HUV : Hid (Below V.heap.size V U) := by show Below _ _ _; rw [← hU]; exact below_alloc _
  have HUs : Hid (U.heap.size = N + 1) := by show _ = _; rw [← hU, ← hN]; simp
  have HBU : Hid (Below w3.heap.size w3 U) := HBV.out.trans (HUV.out.mono HBV.out.size)
  have HTU := Lib.hid (HT0.out.below HUV.out)
  have hTN : T < N := by rw [← hN]; exact HT0.out.lt
  have hNw : w3.heap.size ≤ N := Nat.le_trans HTl.out (Nat.le_of_lt hTN)
  have HNV := Lib.hid hN
  try rw [hU]
  try rw [hN]
  clear hN hU hct
  have hst := all_stops U B av n cv ls HN.out (by omega) ((RowAt.below HBX.out HBU.out).cell 0) (RowsAt.imp HROW3.out HBU.out.size fun _ _ _ hlt h => h.later HBU.out hlt) (fun x => x = N) (fun b off e h0 => by obtain ⟨b9, off9, e9, hlt9, -⟩ := HROW3.out.resolve_left (fun e => by rw [e] at h0; exact absurd h0 (by simp)); rw [e] at e9; cases e9; omega)
  rw [← HN.out] at hst
  refine wp_rangeC (gf := 57) (lb := #[.pointer (some ⟨B, 0, none⟩)]) rfl (enters_of Try.func57 (by kernel_rfl) rfl) 2 (fun a w h => wp_exit h) (fun x => x = N) (len := n) hst (fun k hk => by rw [HUs.out]; omega) ?cps0 (fun k W => Box W N 3 (.int .i64 (k : Int))) ?cG0 ?c00 ?cround0 ?cdone0
  case cps0 => rintro j args W ⟨x, _, rfl⟩; rfl
  case cG0 => exact fun j W W' h hs => h.stays hs
  case c00 => exact HN0.out
  case cround0 =>
    rintro lp k args W hk ⟨x, hget, rfl⟩ hkw hg
    have hbW : Below w3.heap.size w3 W := HBU.out.trans (hkw.below HBU.out.size (by rintro x rfl; exact hNw))
    obtain ⟨g5, hg5⟩ : ∃ y, W.heap.size = y := ⟨_, rfl⟩
    obtain ⟨w5, hw5⟩ : ∃ y, W.alloc (.cells #[.string x.fr.1, .int .i64 x.fr.2] 25) = y := ⟨_, rfl⟩
    have hb5 : Below W.heap.size W w5 := by rw [← hw5]; exact below_alloc _
    have hr5 : RowAt w5 g5 25 #[.string x.fr.1, .int .i64 x.fr.2] := by rw [← hw5, ← hg5]; exact RowAt.new _ _ _
    have HG := Lib.hid (hg.below hb5)
    have HGET := Lib.hid hget
    have HR5 := Lib.hid hr5
    have HB5 := Lib.hid hb5
    clear hg hget hr5 hb5 hst
    gi_wp2
    refine ⟨KeepA.of_below HB5.out, fun W2 hs2 hk2 => ?_⟩
    have q0 := HG.out.stays hs2
    have c0 := q0.cell
    have z0 := q0.frozen
    have r5 : RowAt W2 g5 25 #[.string x.fr.1, .int .i64 x.fr.2] := hs2 _ _ HR5.out (.inr rfl)
    have hbW2 : Below w3.heap.size w3 W2 := HBU.out.trans (hk2.below HBU.out.size (by rintro x rfl; exact hNw))
    have ca := (HA3.out.below hbW2).cell
    have qt : Box W2 T 3 (.int .i64 0) := HTU.out.keepA hk2 (by omega)
    have ct := qt.cell
    obtain ⟨x9, b2, off2, c2, ta, tc, hget9, cb, d0, d1, d2⟩ := HDAT.out k hk W2 hbW2
    rw [HGET.out] at hget9
    cases hget9
    have e0 := r5.cell 0
    have e1 := r5.cell 1
    obtain ⟨tt, htt⟩ : ∃ y, x.fr = y := ⟨_, rfl⟩
    obtain ⟨mt, hmt⟩ : ∃ y, x.ts.length = y := ⟨_, rfl⟩
    rw [htt] at d0 d1 e0 e1
    rw [hmt] at d2 ⊢
    have hkm : decide (n ≤ k) = false := by simpa using hk
    have hkmd : decide (k < n) = true := by simpa using hk
    have hkm2 : (k : Int) < (n : Int) := by omega
    have Q0 := Lib.hid q0
    have QT := Lib.hid qt
    clear q0 qt hs2 hk2 r5 HG HR5 HGET htt hmt hbW hw5
    gi_wp2_with fail
    refine wpIn_region_quiet_round (by kernel_rfl) (by kernel_rfl) (by kernel_rfl) ?_
    iterate 17 (go_big_quiet_step (fail))
    go_big_quiet_want
    refine quiet_neqRf (.tmp 29) (.tmp 37) rfl tt tt rfl rfl false (by simp) ?_
    go_big_quiet_on
    try simp only [Act.put, List.setIfInBounds_toArray, List.set_cons_zero, List.set_cons_succ]
    repeat (go_big_quiet_step (fail))
    refine wpQuiet_nil ?_
    rintro _ ⟨nq, rfl⟩
    obtain ⟨W4, hW4⟩ : ∃ x, W2.drewN nq = x := ⟨_, rfl⟩
    have hb4 : Below W2.heap.size W2 W4 := by rw [← hW4]; exact drewN_below (Below.refl _ W2) nq
    have HK4 := Lib.hid (KeepA.of_below (X := fun x => x = N) hb4)
    have Q4 := Lib.hid (Q0.out.below hb4)
    have QT4 := Lib.hid (QT.out.below hb4)
    rw [hW4]
    clear hW4 hb4 c0 z0 ca ct cb d0 d1 d2 e0 e1 Q0 QT
    have c0 := Q4.out.cell
    have z0 := Q4.out.frozen
    have ct := QT4.out.cell
    have HE := Lib.hid (Q4.out.set (.int .i64 ((k : Int) + 1)))
    have hce := HE.out.cell
    have hct := (QT4.out.other (a := ⟨N, 0, none⟩) (.int .i64 ((k : Int) + 1)) (by dsimp only; omega)).cell
    have HKE := Lib.hid (HK4.out.setCell (a := ⟨N, 0, none⟩) (v := .int .i64 ((k : Int) + 1)) rfl)
    by_cases hk2 : (k : Int) + 1 = 2
    · have hkb2 : ((k : Int) + 1 == 2) = true := by simpa using hk2
      clear hk2
      gi_wp2
      exact ⟨HKE.out, rfl, by have := HE.out; exact this⟩
    · have hkb2 : ((k : Int) + 1 == 2) = false := by simpa using hk2
      clear hk2
      gi_wp2
      exact ⟨HKE.out, by have := HE.out; exact this⟩
  case cdone0 =>
    rintro D0 k W5 hD hk hkw hg hdf
    have hbW : Below w3.heap.size w3 W5 := HBU.out.trans (hkw.below HBU.out.size (by rintro x rfl; exact hNw))
    have hcn := hg.cell
    have hcw := (HA3.out.below hbW).cell
    obtain ⟨al, cl, hcl⟩ := HLEN.out W5 hbW
    have hqt := HTU.out.keepA hkw (by omega)
    have hctw := hqt.cell
    have HQT := Lib.hid hqt
    have HDl : Hid (N + 1 ≤ D0) := by show _ ≤ _; rw [← HUs.out]; exact hD
    have HKW := Lib.hid hkw
    have HDF0 := Lib.hid hdf
    have HBW5 := Lib.hid hbW
    clear hg hqt hkw hD hdf hst hbW
    go_wp2_with fail
    go_big_quiet (fail)
    obtain ⟨Wd, hWd⟩ : ∃ x, W5.drewN nq = x := ⟨_, rfl⟩
    have hbd : Below W5.heap.size W5 Wd := by rw [← hWd]; exact drewN_below (Below.refl _ W5) nq
    have HBWW : Hid (Below w3.heap.size w3 Wd) := HBW5.out.trans (hbd.mono HBW5.out.size)
    have hctd := (HQT.out.below hbd).cell
    have HDF := Lib.hid ((hbd.block D0 (Array.getElem?_eq_some_iff.1 HDF0.out).1).trans HDF0.out)
    rw [hWd]
    clear hWd hbd hcn hcw hcl hctw HDF0 HBW5 HQT HKW
    go_wp2_with fail
    obtain ⟨T2, hT⟩ : ∃ T, Wd.heap.size = T := ⟨_, rfl⟩
    obtain ⟨V2, hV⟩ : ∃ V, Wd.alloc (.cells #[.int .i64 1] 3) = V := ⟨_, rfl⟩
    have HT1 : Hid (Box V2 T2 3 (.int .i64 1)) := by show Box _ _ _ _; rw [← hV, ← hT]; exact Box.new _ _ _
    have hbv : Below Wd.heap.size Wd V2 := by rw [← hV]; exact below_alloc _
    have HBV2 : Hid (Below w3.heap.size w3 V2) := HBWW.out.trans (hbv.mono HBWW.out.size)
    have HTl2 : Hid (w3.heap.size ≤ T2) := by show _ ≤ _; rw [← hT]; exact HBWW.out.size
    have HM0 := Lib.hid ((hbv.block D0 (Array.getElem?_eq_some_iff.1 HDF.out).1).trans HDF.out)
    try rw [hV]
    try rw [hT]
    have hD0w : w3.heap.size ≤ D0 := by have := HDl.out; omega
    clear hT hV hbv hctd hTN hNw HT0 HBV HTl HTV HN0 HUV HUs HBU HTU HNV HDF HDl HBWW
    have HT1' := HT1
    clear HT1
    rw [rounds_succ]
    have hct := HT1'.out.cell
    go_wp2_with fail
    obtain ⟨N, hN⟩ : ∃ N, V2.heap.size = N := ⟨_, rfl⟩
    obtain ⟨U, hU⟩ : ∃ U, V2.alloc (.cells #[.int .i64 0] 3) = U := ⟨_, rfl⟩
    have HN0 : Hid (Box U N 3 (.int .i64 0)) := by show Box _ _ _ _; rw [← hU, ← hN]; exact Box.new _ _ _
    have HUV : Hid (Below V2.heap.size V2 U) := by show Below _ _ _; rw [← hU]; exact below_alloc _
    have HUs : Hid (U.heap.size = N + 1) := by show _ = _; rw [← hU, ← hN]; simp
    have HBU : Hid (Below w3.heap.size w3 U) := HBV2.out.trans (HUV.out.mono HBV2.out.size)
    have HTU := Lib.hid (HT1'.out.below HUV.out)
    have hTN : T2 < N := by rw [← hN]; exact HT1'.out.lt
    have hNw : w3.heap.size ≤ N := Nat.le_trans HTl2.out (Nat.le_of_lt hTN)
    have HNV := Lib.hid hN
    try rw [hU]
    try rw [hN]
    clear hN hU hct
    have hst := all_stops U B av n cv ls HN.out (by omega) ((RowAt.below HBX.out HBU.out).cell 0) (RowsAt.imp HROW3.out HBU.out.size fun _ _ _ hlt h => h.later HBU.out hlt) (fun x => x = N) (fun b off e h0 => by obtain ⟨b9, off9, e9, hlt9, -⟩ := HROW3.out.resolve_left (fun e => by rw [e] at h0; exact absurd h0 (by simp)); rw [e] at e9; cases e9; omega)
    rw [← HN.out] at hst
    refine wp_range (gf := 57) (lb := #[.pointer (some ⟨B, 0, none⟩)]) rfl (enters_of Try.func57 (by kernel_rfl) rfl) (fun x => x = N) (len := n) hst (fun k hk => by rw [HUs.out]; omega) ?cps1 (fun k W => Box W N 3 (.int .i64 (k : Int))) (fun _ _ _ => False) ?cG1 ?cGx1 ?c01 ?cround1 ?cdone1 ?cstop1
    case cGx1 => exact fun c j W W' h hs => h
    case cstop1 => exact fun D c k W _ _ _ h _ => h.elim
    case cps1 => rintro j args W ⟨x, _, rfl⟩; rfl
    case cG1 => exact fun j W W' h hs => h.stays hs
    case c01 => exact HN0.out
    case cround1 =>
      rintro lp k args W hk ⟨x, hget, rfl⟩ hkw hg
      have hbW : Below w3.heap.size w3 W := HBU.out.trans (hkw.below HBU.out.size (by rintro x rfl; exact hNw))
      obtain ⟨g5, hg5⟩ : ∃ y, W.heap.size = y := ⟨_, rfl⟩
      obtain ⟨w5, hw5⟩ : ∃ y, W.alloc (.cells #[.string x.fr.1, .int .i64 x.fr.2] 25) = y := ⟨_, rfl⟩
      have hb5 : Below W.heap.size W w5 := by rw [← hw5]; exact below_alloc _
      have hr5 : RowAt w5 g5 25 #[.string x.fr.1, .int .i64 x.fr.2] := by rw [← hw5, ← hg5]; exact RowAt.new _ _ _
      have HG := Lib.hid (hg.below hb5)
      have HGET := Lib.hid hget
      have HR5 := Lib.hid hr5
      have HB5 := Lib.hid hb5
      clear hg hget hr5 hb5 hst
      gi_wp2
      refine ⟨KeepA.of_below HB5.out, fun W2 hs2 hk2 => ?_⟩
      have q0 := HG.out.stays hs2
      have c0 := q0.cell
      have z0 := q0.frozen
      have r5 : RowAt W2 g5 25 #[.string x.fr.1, .int .i64 x.fr.2] := hs2 _ _ HR5.out (.inr rfl)
      have hbW2 : Below w3.heap.size w3 W2 := HBU.out.trans (hk2.below HBU.out.size (by rintro x rfl; exact hNw))
      have ca := (HA3.out.below hbW2).cell
      have qt : Box W2 T2 3 (.int .i64 1) := HTU.out.keepA hk2 (by omega)
      have ct := qt.cell
      obtain ⟨x9, b2, off2, c2, ta, tc, hget9, cb, d0, d1, d2⟩ := HDAT.out k hk W2 hbW2
      rw [HGET.out] at hget9
      cases hget9
      have e0 := r5.cell 0
      have e1 := r5.cell 1
      obtain ⟨tt, htt⟩ : ∃ y, x.fr = y := ⟨_, rfl⟩
      obtain ⟨mt, hmt⟩ : ∃ y, x.ts.length = y := ⟨_, rfl⟩
      rw [htt] at d0 d1 e0 e1
      rw [hmt] at d2 ⊢
      have hkm : decide (n ≤ k) = false := by simpa using hk
      have hkmd : decide (k < n) = true := by simpa using hk
      have hkm2 : (k : Int) < (n : Int) := by omega
      have Q0 := Lib.hid q0
      have QT := Lib.hid qt
      clear q0 qt hs2 hk2 r5 HG HR5 HGET htt hmt hbW hw5
      gi_wp2_with fail
      refine wpIn_region_quiet_round (by kernel_rfl) (by kernel_rfl) (by kernel_rfl) ?_
      iterate 17 (go_big_quiet_step (fail))
      go_big_quiet_want
      refine quiet_neqRf (.tmp 29) (.tmp 37) rfl tt tt rfl rfl false (by simp) ?_
      go_big_quiet_on
      try simp only [Act.put, List.setIfInBounds_toArray, List.set_cons_zero, List.set_cons_succ]
      repeat (go_big_quiet_step (fail))
      refine wpQuiet_nil ?_
      rintro _ ⟨nq, rfl⟩
      obtain ⟨W4, hW4⟩ : ∃ x, W2.drewN nq = x := ⟨_, rfl⟩
      have hb4 : Below W2.heap.size W2 W4 := by rw [← hW4]; exact drewN_below (Below.refl _ W2) nq
      have HK4 := Lib.hid (KeepA.of_below (X := fun x => x = N) hb4)
      have Q4 := Lib.hid (Q0.out.below hb4)
      have QT4 := Lib.hid (QT.out.below hb4)
      rw [hW4]
      clear hW4 hb4 c0 z0 ca ct cb d0 d1 d2 e0 e1 Q0 QT
      have c0 := Q4.out.cell
      have z0 := Q4.out.frozen
      have ct := QT4.out.cell
      have HE := Lib.hid (Q4.out.set (.int .i64 ((k : Int) + 1)))
      have hce := HE.out.cell
      have hct := (QT4.out.other (a := ⟨N, 0, none⟩) (.int .i64 ((k : Int) + 1)) (by dsimp only; omega)).cell
      have HKE := Lib.hid (HK4.out.setCell (a := ⟨N, 0, none⟩) (v := .int .i64 ((k : Int) + 1)) rfl)
      gi_wp2
      exact ⟨HKE.out, by have := HE.out; exact this⟩
    case cdone1 =>
      rintro D1 W6 hD hkw hg hdf
      have hbW : Below w3.heap.size w3 W6 := HBU.out.trans (hkw.below HBU.out.size (by rintro x rfl; exact hNw))
      have hcn := hg.cell
      have hcw := (HA3.out.below hbW).cell
      obtain ⟨al, cl, hcl⟩ := HLEN.out W6 hbW
      have hqt := HTU.out.keepA hkw (by omega)
      have hctw := hqt.cell
      have HQT := Lib.hid hqt
      have HDl : Hid (N + 1 ≤ D1) := by show _ ≤ _; rw [← HUs.out]; exact hD
      have HKW := Lib.hid hkw
      have HDF0 := Lib.hid hdf
      have HBW5 := Lib.hid hbW
      clear hg hqt hkw hD hdf hst hbW
      go_wp2_with fail
      go_big_quiet (fail)
      obtain ⟨Wd, hWd⟩ : ∃ x, W6.drewN nq = x := ⟨_, rfl⟩
      have hbd : Below W6.heap.size W6 Wd := by rw [← hWd]; exact drewN_below (Below.refl _ W6) nq
      have HBWW : Hid (Below w3.heap.size w3 Wd) := HBW5.out.trans (hbd.mono HBW5.out.size)
      have hctd := (HQT.out.below hbd).cell
      have HDF := Lib.hid ((hbd.block D1 (Array.getElem?_eq_some_iff.1 HDF0.out).1).trans HDF0.out)
      have HDZ := Lib.hid ((hbd.block D0 (by have := (Array.getElem?_eq_some_iff.1 HM0.out).1; have := HUV.out.size; have := HKW.out.size; omega)).trans ((HKW.out.same D0 (by have := (Array.getElem?_eq_some_iff.1 HM0.out).1; have := HUV.out.size; omega) (by have := (Array.getElem?_eq_some_iff.1 HM0.out).1; have := HNV.out; omega)).trans ((HUV.out.block D0 (Array.getElem?_eq_some_iff.1 HM0.out).1).trans HM0.out)))
      have HD01 : Hid (D1 ≠ D0) := by show _ ≠ _; have := (Array.getElem?_eq_some_iff.1 HM0.out).1; have := HNV.out; have := HDl.out; omega
      rw [hWd]
      clear hWd hbd hcn hcw hcl hctw HDF0 HBW5 HQT HKW
      go_wp2_with fail
      obtain ⟨T3, hT⟩ : ∃ T, Wd.heap.size = T := ⟨_, rfl⟩
      obtain ⟨V3, hV⟩ : ∃ V, Wd.alloc (.cells #[.int .i64 2] 3) = V := ⟨_, rfl⟩
      have HT3 : Hid (Box V3 T3 3 (.int .i64 2)) := by show Box _ _ _ _; rw [← hV, ← hT]; exact Box.new _ _ _
      have hbv : Below Wd.heap.size Wd V3 := by rw [← hV]; exact below_alloc _
      have HBV3 : Hid (Below w3.heap.size w3 V3) := HBWW.out.trans (hbv.mono HBWW.out.size)
      have HTl2 : Hid (w3.heap.size ≤ T3) := by show _ ≤ _; rw [← hT]; exact HBWW.out.size
      have HM1 := Lib.hid ((hbv.block D1 (Array.getElem?_eq_some_iff.1 HDF.out).1).trans HDF.out)
      have HMZ := Lib.hid ((hbv.block D0 (Array.getElem?_eq_some_iff.1 HDZ.out).1).trans HDZ.out)
      try rw [hV]
      try rw [hT]
      rw [rounds_succ]
      have hct := HT3.out.cell
      have hrb := HRB3.out.below HBV3.out
      have hrc := hrb.cell
      have hrf := hrb.frozen
      have HR9 := Lib.hid (hrb.set (.bool true))
      have HE1 : Hid ((V3.setCell ⟨g0 + 1, 0, none⟩ (.bool true)).heap[D1]? = some (.deferred (some []))) := (heap_setCell_other V3 _ D1 _ (by have := HDl.out; dsimp only; omega)).trans HM1.out
      have HE0 : Hid ((V3.setCell ⟨g0 + 1, 0, none⟩ (.bool true)).heap[D0]? = some (.deferred (some []))) := (heap_setCell_other V3 _ D0 _ (by dsimp only; omega)).trans HMZ.out
      have HBF : Hid (Below g0 w (V3.setCell ⟨g0 + 1, 0, none⟩ (.bool true))) := (HB3.out.trans (HBV3.out.mono (by omega))).setCell (p := ⟨g0 + 1, 0, none⟩) (by dsimp only; omega) (.bool true)
      clear hrb
      go_wp2
      refine post_marks [D1, D0] rfl (by simp [HD01.out]) (by intro x hx; simp at hx; rcases hx with rfl | rfl; exact HE1.out; exact HE0.out) fun w' hk => ⟨.bool true, ?_, rfl, ?_⟩
      · exact results_box rfl rfl (HR9.out.keepA hk (by have := HDl.out; simp; omega)) rfl Try.underlying4
      · rw [HG0.out]
        exact HBF.out.trans (hk.below (by have := HBF.out.size; have := HG0.out; omega) (fun x hx => by have := HDl.out; simp at hx; omega))
end Go.Proofs.Ytcakdjnnfonijaa
