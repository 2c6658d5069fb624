/- (*disk.Disk).Read. -/
import Derived.Test.YtmbpacpkabbcgaaDkFill
namespace Go.Proofs.Ytmbpacpkabbcgaa
open Go.RowKit

set_option maxRecDepth 100000 in
theorem step_lookup {ops : Array Oper} {rest : List Oper} {o : Oper} {act : Act} {Q : Exit → Act → World → Prop} {w : World} (hgd : o.guard = none) (x y : Operand) (ho : o.op = .lookup 64 x y false) {m : Nat} {es : Array MapEntry} {clock : Nat} {last : Int → List UInt8}
    (h : w.heap[m]? = some (.map es clock)) (hm : MapIs clock es.toList last) (k : Int) (hx : act.eval x = .map (some m)) (hy : act.eval y = .int .i64 k)
    (hK : wpList Try.prog ops Q rest (act.put o.dst (.agg ((last k).map bv).toArray)) w) : wpList Try.prog ops Q (o :: rest) act w :=
  wpList_plain hgd fun K hK' => by
    unfold Oper.wp execOp
    simp only [ho, hx, hy]
    rw [Sem.run_bind, lookup_run h hm k]
    exact hK' _ _ hK
theorem sec_store {s : List UInt8} (hs : s.length = 512) : Hid ((Try.prog.info? 84).map (·.size) = some (s.map bv).toArray.size) ∧ Hid (zeroS.size = (s.map bv).toArray.size) ∧ Hid ((s.map bv).toArray.all (·.oneCell') = true) := by
  have h : (s.map bv).toArray.size = 512 := by rw [List.size_toArray, List.length_map, hs]
  refine ⟨?_, ?_, ?_⟩
  · show _ = _
    rw [h]; kernel_rfl
  · show _ = _
    rw [h]; kernel_rfl
  · show _ = _
    simp only [List.all_toArray, List.all_eq_true]
    exact bv_one s
theorem own_of_row {w : World} {g n base : Nat} {T : TypeId} {l : List UInt8} (h : RowAt w g T (l.map bv).toArray) (hn : l.length = n) (hm : n ≤ maxLen) (hb : base ≤ g) : OwnB w base T (.slice (some ⟨g, 0, none⟩) n n) l := by
  subst hn
  refine ⟨by simp, .inr ⟨g, _, _, rfl, hb, h, Nat.le_refl _, hm, by simp, ?_⟩⟩
  rw [List.take_of_length_le (by simp)]
theorem step_copyG {ops : Array Oper} {o : Oper} {a : Act} {w : World} {K : Act → World → Prop} {Q : Exit → Act → World → Prop} {E : Prop} (hgd : o.guard = none) (d s : Operand)
    (ho : o.op = .call { callee := .builtin .copy, args := #[d, s], argTypes := #[41, 41] })
    (g off dLen dCap : Nat) (ad : Addr) (sLen sCap : Nat) (hd : a.eval d = .slice (some ⟨g, off, none⟩) dLen dCap) (hs : a.eval s = .slice (some ad) sLen sCap)
    (cur : List Value) (hg : RowAt w g 5 cur.toArray) (cs : List Value) (hn : cs.length = Nat.min sLen dLen)
    (hsrc : ∀ j v, cs[j]? = some v → w.cell? (ad.add j) = some v) (hfit : off + cs.length ≤ cur.length) (h1 : ∀ v ∈ cs, v.oneCell' = true)
    (h : ∀ w', RowAt w' g 5 (splice cur off cs).toArray → w.grownBy w' (some g) → K (a.put o.dst (goInt cs.length)) w') :
    if Region.wanted o (yielded ops a.tmps) = true then Oper.wp Try.prog o a w K Q else E := by
  have hw : Region.wanted o (yielded ops a.tmps) = true := by simp [Region.wanted, hgd]
  rw [if_pos hw]
  have hrun := run_copy_row (P := Try.prog) w 41 41 o.type 5 g off dLen dCap ad sLen sCap cur.toArray 5 cs Try.underlying41 (by kernel_rfl) hg hn hsrc (by simpa using hfit) h1
  unfold Oper.wp
  simp [execOp, ho, resolve, invoke, builtin, hd, hs, hrun, Result.andThen]
  refine h _ (show _ = _ by simpa [splice] using setRow_heap w g _ _ _ _ hg) (grown_setRow w g _)
set_option maxRecDepth 100000 in
set_option maxHeartbeats 1000000 in
theorem read_any (w : World) (base b : Nat) (D : DK) (F : Nat) (at_ : Int) (n : Nat) (hI : IsDk w base b D F) (hp : D.pcs.length ≤ 1000000) (h1 : 0 ≤ at_) (h2 : at_ + (n : Int) ≤ D.size) :
    Calls Try.prog 51 #[.pointer (some ⟨b, 0, none⟩), .int .i64 at_, .int .i64 (n : Int)] w fun e w' =>
      (∃ v, e = .returned (.tuple #[v, .int .i64 0]) ∧ OwnB w' w.heap.size 5 v (flatS (laid D.last D.pcs) at_ n)) ∧ Below w.heap.size w w' := by
  obtain ⟨m, pv, fv, fl, st, h, hF⟩ := hI
  obtain ⟨np, hnp⟩ : ∃ x, D.pcs.length = x := ⟨_, rfl⟩
  obtain ⟨pa, pc, hpv, hpc, hrd⟩ := Rd.of_own h.pcs
  rw [hnp] at hpv hpc hp
  subst hpv
  have HN := Lib.hid hnp
  have HRD := Lib.hid (show RdPc w pa D.pcs from hrd)
  clear hrd hnp
  have HNO := Lib.hid (fun w hh => none_any w b D.size (.map (some m)) (.slice pa np pc) fv st hh h.size.1)
  have HAS := Lib.hid (fun w at_ n hh => asked_any w b D.size (.map (some m)) (.slice pa np pc) fv st at_ n hh h.size.2)
  have hask : Hid (askB D.size at_ (n : Int) = true) := by
    show _ = _
    simp only [askB, Bool.and_eq_true, decide_eq_true_eq]
    exact ⟨h1, by omega, by omega⟩
  have hds := h.size.2
  have hnn : n ≤ 65536 := by omega
  obtain ⟨es, cl, hm, hmi⟩ := h.map
  have HM := Lib.hid hm
  have HMI := Lib.hid hmi
  have HL := Lib.hid h.sec
  have H5 := Lib.hid h.psec
  have HD := Lib.hid h
  clear h hm hmi
  have hw1 : IntKind.i64.wrap ((n : Int) * 512) = ((n * 512 : Nat) : Int) := by rw [IntWalk.i64_in _ (by omega)]; omega
  go_enter Try.func51, Try.ntmps51
  go_wp2_with fail
  refine (HNO.out _ HD.out.hd).mono ?_
  rintro _ w0 ⟨rfl, rfl⟩
  go_wp2_with fail
  refine (HAS.out _ _ _ HD.out.hd).mono ?_
  rw [hask.out]
  rintro _ w0 ⟨rfl, rfl⟩
  obtain ⟨g, hg⟩ : ∃ x, w0.heap.size = x := ⟨_, rfl⟩
  go_wp2_with (refine step_makeB rfl (.tmp 28) (.tmp 28) rfl (n * 512) rfl rfl (by omega) ?_; rw [hg]; intro w2 q1 q2)
  have hR2 : RowAt w2 g 5 ((flatS (upTo D.last at_ 0) at_ n).map bv).toArray := by rw [upTo_none]; exact q1
  have HR2 := Lib.hid hR2
  have HB2 := Lib.hid q2
  clear q1 q2 hR2
  go_loopw [31] (fun i wr => RowAt wr g 5 ((flatS (upTo D.last at_ (intOf i).toNat) at_ n).map bv).toArray ∧ Below g w0 wr ∧ ∃ j : Nat, j ≤ n ∧ i = .int .i64 j) (fun i _ => n - (intOf i).toNat)
  case atStart => exact ⟨HR2.out, HB2.out, 0, Nat.zero_le _, rfl⟩
  case round =>
    obtain ⟨hr, hb, j, hj, rfl⟩ := hrel
    rw [show (intOf (.int .i64 (j : Int))).toNat = j by simp [intOf]] at hr
    have HR := Lib.hid hr
    have HB := Lib.hid hb
    clear hr hb
    by_cases hjn : j < n
    · have hb1 : (j : Int) < (n : Int) := by omega
      obtain ⟨c0, c1, c2, c3, c4⟩ := HD.out.hd.cells
      have hbs : b < w0.heap.size := HD.out.hd.lt
      have hms : m < w0.heap.size := (Array.getElem?_eq_some_iff.1 HM.out).1
      have e1 : wr.cell? ⟨b, 1, none⟩ = some (.map (some m)) := (HB.out.cell (p := ⟨b, 1, none⟩) (by dsimp only; omega)).trans c1
      have HMr : Hid (wr.heap[m]? = some (.map es cl)) := (HB.out.block m (by omega)).trans HM.out
      obtain ⟨s, hs⟩ : ∃ s, D.last (at_ + (j : Int)) = s := ⟨_, rfl⟩
      have hs5 : s.length = 512 := by rw [← hs]; exact HL.out _
      obtain ⟨t1, t2, t3⟩ := sec_store hs5
      obtain ⟨S, hS⟩ : ∃ S, s.map bv = S := ⟨_, rfl⟩
      have hSl : S.length = 512 := by rw [← hS, List.length_map, hs5]
      have hS1 : Hid (∀ v ∈ S, v.oneCell' = true) := by rw [← hS]; exact bv_one _
      rw [hS] at t1 t2 t3
      have hjw : IntKind.i64.wrap ((j : Int) * 512) = (j : Int) * 512 := IntWalk.i64_in _ (by omega)
      have hj1 : j * 512 ≤ n * 512 := by omega
      have hj2 : (0 : Int) ≤ (j : Int) * 512 := by omega
      have hj3 : (j : Int) * 512 ≤ ((n * 512 : Nat) : Int) := by omega
      have hj4 : ((j : Int) * 512).toNat = j * 512 := by omega
      have hcap1 : ¬ n * 512 = j * 512 := by omega
      have hgs : g < wr.heap.size := HR.out.lt
      clear c0 c1 c2 c3 c4
      obtain ⟨bx, hbx⟩ : ∃ x, wr.heap.size = x := ⟨_, rfl⟩
      go_wp2_with (first
        | (refine step_lookup rfl (.tmp 37) (.tmp 40) rfl HMr.out HMI.out (at_ + (j : Int)) rfl rfl ?_; rw [hs, hS])
        | (refine step_allocZ rfl 84 rfl zeroS zero_sec ?_; intro w3 q1 q2 q3; rw [hbx] at q1 q3 ⊢)
        | (refine step_storeRow rfl 84 (.tmp 11) (.tmp 41) rfl rfl bx S.toArray rfl rfl 84 zeroS q1 t1.out t2.out t3.out ?_; intro w4 q4 q5))
      simp only [Act.put, List.setIfInBounds_toArray, List.set_cons_zero, List.set_cons_succ]
      have hb4 : Below wr.heap.size wr w4 := below_grown q2 q5 (by omega) (by intro x hx; have := Option.some.inj hx; omega)
      have HB4 := Lib.hid (show Below g w0 w4.drew from drewN_below (HB.out.trans (hb4.mono (Nat.le_of_lt hgs))) 1)
      have HR4 : Hid (RowAt w4.drew g 5 ((flatS (upTo D.last at_ j) at_ n).map bv).toArray) := RowAt.below HR.out (show Below wr.heap.size wr w4.drew from drewN_below hb4 1)
      have HS4 : Hid (∀ jj v, S[jj]? = some v → w4.drew.cell? ((⟨bx, 0, none⟩ : Addr).add jj) = some v) := fun jj v hv => by
        rw [Addr.add_mid, Nat.zero_add]
        have := RowAt.cell (w := w4.drew) q4 jj
        rw [this, List.getElem?_toArray]
        exact hv
      obtain ⟨C, hC⟩ : ∃ C, (flatS (upTo D.last at_ j) at_ n).map bv = C := ⟨_, rfl⟩
      have hCl : C.length = n * 512 := by rw [← hC, List.length_map, flatS_len (upTo_len HL.out at_ j)]
      rw [hC] at HR4
      have HC := Lib.hid hC
      have HSS := Lib.hid hS
      have HS := Lib.hid hs
      clear q1 q2 q3 q4 q5 hb4 t1 t2 t3 hC hS hs
      go_region_held_law (fun _ => True) (trivial) (first
        | (refine step_copy_splice rfl (.tmp 45) (.tmp 46) 41 41 rfl 5 Try.underlying41 (by kernel_rfl) _ _ _ _ _ _ rfl rfl g (j * 512) C 5 HR4.out S (by rw [hSl]; exact (Nat.min_eq_left (by omega)).symm) (fun _ => ⟨rfl, _, rfl, HS4.out⟩) (by rw [hSl, hCl]; omega) hS1.out g w0 HB4.out (Nat.le_refl _) ?_; intro w5 q6 q7))
      go_wp2
      refine ⟨⟨?_, q7, j + 1, by omega, by go_num⟩, by simp [intOf]; omega⟩
      rw [show (intOf (.int .i64 ((j : Int) + 1))).toNat = j + 1 by simp [intOf]]
      have h := q6.out
      rw [← HC.out, ← HSS.out, splice_map, flatS_splice (upTo_len HL.out at_ j) at_ s hs5 j n hjn, ← HS.out, upTo_succ] at h
      exact h
    · have hjk2 : j = n := by omega
      subst hjk2
      rw [upTo_all] at HR
      obtain ⟨c0, c1, c2, c3, c4⟩ := HD.out.hd.cells
      have hbs : b < w0.heap.size := HD.out.hd.lt
      have e2 : wr.cell? ⟨b, 2, none⟩ = some (.slice pa np pc) := (HB.out.cell (p := ⟨b, 2, none⟩) (by dsimp only; omega)).trans c2
      clear c0 c1 c2 c3 c4 HB2 HR2
      go_wp2
      clear e2
      go_loopw [54] (fun i wq => RowAt wq g 5 ((flatS (laid D.last (D.pcs.take (intOf i).toNat)) at_ j).map bv).toArray ∧ Below g w0 wq ∧ ∃ k : Nat, k ≤ np ∧ i = .int .i64 k) (fun i _ => np - (intOf i).toNat)
      case atStart => exact ⟨HR.out, HB.out, 0, Nat.zero_le _, rfl⟩
      case round =>
        clear HR HB
        obtain ⟨hr, hb, k, hk, rfl⟩ := hrel
        rw [show (intOf (.int .i64 (k : Int))).toNat = k by simp [intOf]] at hr
        have HR := Lib.hid hr
        have HB := Lib.hid hb
        clear hr hb
        have hLL : Hid (∀ x, (laid D.last (D.pcs.take k) x).length = 512) := laid_len HL.out _ fun p hp => (H5.out p (List.mem_of_mem_take hp)).2.2
        by_cases hkn : k < np
        · have hkl : k < D.pcs.length := by rw [HN.out]; exact hkn
          obtain ⟨g2, o2, rfl, hg2, hrow⟩ := (RdPc.rows HRD.out fun p hp => (H5.out p hp).2.2).resolve_left (by intro e; rw [e] at hkl; simp at hkl)
          have hcell := hrow k hkl
          have hls := laid_succ D.last hkl
          obtain ⟨p, hp'⟩ : ∃ p, D.pcs[k] = p := ⟨_, rfl⟩
          have hp5 := H5.out p (by rw [← hp']; exact List.getElem_mem hkl)
          obtain ⟨hp1, hp2, hp5⟩ := hp5
          rw [hp'] at hcell hls
          have HC : Hid (∀ i v, (pcC p)[i]? = some v → wr.cell? ((⟨g2, o2 + k * 513, none⟩ : Addr).add i) = some v) := fun i v hv => by
            rw [Addr.add_mid]
            refine (HB.out.cell (p := ⟨g2, _, none⟩) (by dsimp only; omega)).trans (hcell i v ?_)
            rw [pcD_eq hp5]; exact hv
          have HLS := Lib.hid hls
          have hAg : Agg Try.prog 87 (pcC p).length := by rw [pcC_len hp5]; exact aggP
          obtain ⟨t1, t2, t3⟩ := piece_store hp5
          clear hrow hcell hls hp'
          obtain ⟨bx, hbx⟩ : ∃ x, wr.heap.size = x := ⟨_, rfl⟩
          have hgs : g < wr.heap.size := HR.out.lt
          have hb1 : (k : Int) < (np : Int) := by omega
          obtain ⟨x, hx⟩ : ∃ x, p.1 = x := ⟨_, rfl⟩
          by_cases hin : at_ ≤ x ∧ x < at_ + (j : Int)
          · go_wp2_with (first
              | (refine step_loadCells rfl 87 (.tmp 56) rfl ⟨g2, o2 + k * 513, none⟩ rfl (pcC p) hAg HC.out ?_)
              | (refine step_allocZ rfl 87 rfl zeroP zero_piece ?_; intro w2 q1 q2 q3; rw [hbx] at q1 q3 ⊢)
              | (refine step_storeRow rfl 87 (.tmp 13) (.tmp 57) rfl rfl bx (pcC p).toArray rfl rfl 87 zeroP q1 t1.out t2.out t3.out ?_; intro w3 q4 q5; obtain ⟨r0, r1⟩ := q4.range; rw [hx] at r0))
            obtain ⟨i, hi⟩ : ∃ i : Nat, x - at_ = (i : Int) := ⟨(x - at_).toNat, by omega⟩
            have hij : i < j := by omega
            have hiw0 : IntKind.i64.wrap (i : Int) = (i : Int) := IntWalk.i64_in _ (by omega)
            have hiw : IntKind.i64.wrap ((i : Int) * 512) = (i : Int) * 512 := IntWalk.i64_in _ (by omega)
            have hi2 : (0 : Int) ≤ (i : Int) * 512 := by omega
            have hi3 : (i : Int) * 512 ≤ ((j * 512 : Nat) : Int) := by omega
            have hi4 : ((i : Int) * 512).toNat = i * 512 := by omega
            have hcap1 : ¬ j * 512 = i * 512 := by omega
            have hne1 : ¬ j = i := by omega
            have hne2 : ¬ i = j := by omega
            have hiI : (i : Int) < (j : Int) := by omega
            have hb4 : Below wr.heap.size wr w3 := below_grown q2 q5 (by omega) (by intro x hx; have := Option.some.inj hx; omega)
            have HB4 := Lib.hid (show Below g w0 w3.drew from drewN_below (HB.out.trans (hb4.mono (Nat.le_of_lt hgs))) 1)
            have HR4 : Hid (RowAt w3.drew g 5 ((flatS (laid D.last (D.pcs.take k)) at_ j).map bv).toArray) := RowAt.below HR.out (show Below wr.heap.size wr w3.drew from drewN_below hb4 1)
            obtain ⟨S, hS⟩ : ∃ S, p.2.map bv = S := ⟨_, rfl⟩
            have hSl : S.length = 512 := by rw [← hS, List.length_map, hp5]
            have hS1 : Hid (∀ v ∈ S, v.oneCell' = true) := by rw [← hS]; exact bv_one _
            rw [hS] at r1
            have HS4 : Hid (∀ jj v, S[jj]? = some v → w3.drew.cell? ((⟨bx, 1, none⟩ : Addr).add jj) = some v) := fun jj v hv => by
              rw [Addr.add_mid]
              exact r1 jj v hv
            obtain ⟨C, hC⟩ : ∃ C, (flatS (laid D.last (D.pcs.take k)) at_ j).map bv = C := ⟨_, rfl⟩
            have hCl : C.length = j * 512 := by rw [← hC, List.length_map, flatS_len hLL.out]
            rw [hC] at HR4
            have hbg : ¬ bx = g := by omega
            have hk1 : w3.drew.cell? ⟨bx, 0, none⟩ = some (.int .i64 x) := r0
            have HC2 := Lib.hid hC
            have HSS := Lib.hid hS
            have HX := Lib.hid hx
            have HI := Lib.hid hi
            have HP5 := Lib.hid hp5
            clear q1 q2 q3 q4 q5 r0 r1 hb4 t1 t2 t3 hC hS hx hAg HC hp5
            go_region_held_law (fun w' => w'.cell? ⟨bx, 0, none⟩ = some (.int .i64 x)) (first | assumption) (first
              | (refine step_copyG rfl (.tmp 76) (.tmp 78) rfl g (i * 512) _ _ ⟨bx, 1, none⟩ _ _ rfl rfl C HR4.out S (by rw [hSl]; exact (Nat.min_eq_left (by omega)).symm) HS4.out (by rw [hSl, hCl]; omega) hS1.out ?_; intro w5 q6 q7; have hk2 : w5.cell? ⟨bx, 0, none⟩ = some (.int .i64 x) := (keep_grownO q7).cell hk1 (fun e => hbg (Option.some.inj e).symm)))
            go_wp2
            refine ⟨⟨?_, HB4.out.trans (KeepA.below (keep_grownO q7) (Nat.le_of_lt (RowAt.lt HR4.out)) fun y e => Nat.le_of_eq (Option.some.inj e)), k + 1, by omega, by go_num⟩, by simp [intOf]; omega⟩
            rw [show (intOf (.int .i64 ((k : Int) + 1))).toNat = k + 1 by simp [intOf]]
            have h := q6
            rw [← HC2.out, ← HSS.out, splice_map, flatS_splice hLL.out at_ p.2 HP5.out i j hij, ← HI.out, ← HX.out, show at_ + (p.1 - at_) = p.1 by omega] at h
            rw [HLS.out]
            exact h
          · have hin2 : decide (at_ ≤ x) = true → decide (x < at_ + (j : Int)) = false := fun h => decide_eq_false (fun h2 => hin ⟨of_decide_eq_true h, h2⟩)
            by_cases hin3 : at_ ≤ x
            · have hin4 : ¬ x < at_ + (j : Int) := fun h => hin ⟨hin3, h⟩
              clear hin hin2
              go_wp2_with (first
                | (refine step_loadCells rfl 87 (.tmp 56) rfl ⟨g2, o2 + k * 513, none⟩ rfl (pcC p) hAg HC.out ?_)
                | (refine step_allocZ rfl 87 rfl zeroP zero_piece ?_; intro w2 q1 q2 q3; rw [hbx] at q1 q3 ⊢)
                | (refine step_storeRow rfl 87 (.tmp 13) (.tmp 57) rfl rfl bx (pcC p).toArray rfl rfl 87 zeroP q1 t1.out t2.out t3.out ?_; intro w3 q4 q5; obtain ⟨r0, r1⟩ := q4.range; rw [hx] at r0))
              have hb4 : Below wr.heap.size wr w3 := below_grown q2 q5 (by omega) (by intro x hx; have := Option.some.inj hx; omega)
              refine ⟨⟨?_, HB.out.trans (hb4.mono (Nat.le_of_lt hgs)), k + 1, by omega, by go_num⟩, by simp [intOf]; omega⟩
              rw [show (intOf (.int .i64 ((k : Int) + 1))).toNat = k + 1 by simp [intOf], HLS.out, flatS_out _ _ _ _ (by rw [hx]; exact fun h => hin4 h.2)]
              exact RowAt.below HR.out hb4
            · clear hin hin2
              go_wp2_with (first
                | (refine step_loadCells rfl 87 (.tmp 56) rfl ⟨g2, o2 + k * 513, none⟩ rfl (pcC p) hAg HC.out ?_)
                | (refine step_allocZ rfl 87 rfl zeroP zero_piece ?_; intro w2 q1 q2 q3; rw [hbx] at q1 q3 ⊢)
                | (refine step_storeRow rfl 87 (.tmp 13) (.tmp 57) rfl rfl bx (pcC p).toArray rfl rfl 87 zeroP q1 t1.out t2.out t3.out ?_; intro w3 q4 q5; obtain ⟨r0, r1⟩ := q4.range; rw [hx] at r0))
              have hb4 : Below wr.heap.size wr w3 := below_grown q2 q5 (by omega) (by intro x hx; have := Option.some.inj hx; omega)
              refine ⟨⟨?_, HB.out.trans (hb4.mono (Nat.le_of_lt hgs)), k + 1, by omega, by go_num⟩, by simp [intOf]; omega⟩
              rw [show (intOf (.int .i64 ((k : Int) + 1))).toNat = k + 1 by simp [intOf], HLS.out, flatS_out _ _ _ _ (by rw [hx]; exact fun h => hin3 h.1)]
              exact RowAt.below HR.out hb4
        · have hkk : k = np := by omega
          subst hkk
          go_wp2_with fail
          go_ret2
          have h := HR.out
          rw [List.take_of_length_le (by rw [HN.out]; exact Nat.le_refl _)] at h
          rw [hg]
          exact ⟨⟨_, rfl, own_of_row h (flatS_len (laid_len HL.out _ fun p hp => (H5.out p hp).2.2) at_ j) (by unfold maxLen; omega) (Nat.le_refl _)⟩, HB.out⟩
end Go.Proofs.Ytmbpacpkabbcgaa
