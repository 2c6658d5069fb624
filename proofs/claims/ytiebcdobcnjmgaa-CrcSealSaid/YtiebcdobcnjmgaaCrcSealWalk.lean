/- lexiconlaw01.CrcSeal answers true, whatever the bytes, the place and the change; nothing that was there is changed. -/
import Derived.Test.YtiebcdobcnjmgaaCrcKnown
import Derived.Test.YtiebcdobcnjmgaaPlainCrc
import Derived.Deep.RegionHeld3
namespace Go.Proofs.Ytiebcdobcnjmgaa
open Go.RowKit Go.BigFrame

set_option maxRecDepth 100000 in
set_option maxHeartbeats 4000000 in
theorem crcseal_any (a : Option Addr) (l : List UInt8) (n cap : Nat) (at_ : Int) (y : UInt8) (w : World) (hn : n = l.length) (hc : n ≤ cap) (hl : RdB w a l) :
    Calls Try.prog 4 #[.slice a n cap, .int .i64 at_, .int .u8 (y.toNat : Int)] w fun e w' => e = .returned (.bool true) ∧ Below w.heap.size w w' := by
  have HL := Lib.hid hl
  have HN := Lib.hid hn
  clear hl hn
  by_cases hbig : 20000 < n
  · go_enter Try.func4, Try.ntmps4
    go_wp2_with (go_at_call 6; refine (known_any _).mono ?_; rintro e w1 ⟨rfl, hb1⟩)
    go_ret
    exact ⟨rfl, hb1⟩
  · go_enter Try.func4, Try.ntmps4
    go_wp2_with fail
    refine (seal_any a l n cap w HN.out (by omega) HL.out).mono ?_
    rintro e w1 ⟨vs, rfl, h1, h2⟩
    have hql : (l ++ lowB (sum32 l) 4).length = n + 4 := by rw [List.length_append, lowB_length, ← HN.out]
    have hos := opened_sealed l
    have hch := opened_changed l
    have HW := Lib.hid (OwnW.of_own h1)
    obtain ⟨sa, cs, rfl, hcs, hrs⟩ := h1.rd
    rw [hql] at hcs HW ⊢
    generalize hq : l ++ lowB (sum32 l) 4 = q at *
    have HRS := Lib.hid hrs
    have HB1 := Lib.hid h2
    have HQ := Lib.hid hq
    have HQL := Lib.hid hql
    have HOS := Lib.hid hos
    have HCH := Lib.hid hch
    clear h1 h2 hrs hq hql hos hch
    go_wp2_with fail
    go_upto_region 4 with fail
    go_cut [28] (fun s wx => s = .bool false ∧ Below w1.heap.size w1 wx)
    case first =>
      have hcv : ∀ w', Below w1.heap.size w1 w' → (convert 22 9 (.slice sa (n + 4) cs)).run Try.prog w' = .ok (.string (str q)) w' := fun w' h => run_str w' _ _ _ sa (n + 4) cs q Try.underlying22 Try.underlying5 Try.underlying9 HQL.out.symm (HRS.out.mono h)
      go_region_held (fun w' => Below w1.heap.size w1 w') (first | assumption | exact (Below.refl _ _).drew) (first
        | (go_at_call 14; refine (refseal_any a l n cap _ HN.out (by omega) ((HL.out.mono HB1.out).mono (by assumption))).mono ?_; rintro e w2 ⟨v2, rfl, h3, h4⟩; rw [HQ.out] at h3; obtain ⟨a3, c3, rfl, hc3, h5⟩ := h3.rd; rw [HQL.out]; have hs2 := run_str (P := Try.prog) w2 22 9 5 a3 (n + 4) c3 q Try.underlying22 Try.underlying5 Try.underlying9 HQL.out.symm h5; have hk : Below w1.heap.size w1 w2 := below_trans (by assumption) h4; clear h3 h4 h5 hc3))
      go_wp2_with fail
      go_meet
      exact ⟨rfl, by assumption⟩
    case rest =>
      obtain ⟨rfl, hbx⟩ := hcut
      have HBX := Lib.hid hbx
      clear hbx
      have HLC := Lib.hid ((HL.out.mono HB1.out).mono HBX.out)
      go_wp2_with fail
      refine (open_any sa q (n + 4) cs wc HQL.out.symm (by omega) hcs (HRS.out.mono HBX.out)).mono ?_
      rw [HOS.out]
      rintro e w2 ⟨v2, rfl, h3, h4⟩
      have hlm : (l.map bv).length = n := by rw [List.length_map, HN.out]
      obtain ⟨ax, cx, rfl, hcx, hrx⟩ := h3.rd
      rw [hlm] at hcx h3 ⊢
      have HX := Lib.hid h3
      have HB2 := Lib.hid h4
      have HLM := Lib.hid hlm
      clear h3 h4 hlm hrx
      go_wp2_with fail
      refine (open_any a l n cap w2 HN.out (by omega) hc (HLC.out.mono HB2.out)).mono ?_
      rintro e w3 ⟨vy, rfl, h3, h4⟩
      have HY := Lib.hid h3
      have HB3 := Lib.hid h4
      have HX3 := Lib.hid (HX.out.kept h4 (Nat.le_refl _))
      have HL3 := Lib.hid ((HLC.out.mono HB2.out).mono h4)
      have HS3 := Lib.hid ((HW.out.kept HBX.out (Nat.le_refl _)).kept (below_trans HB2.out h4) (Nat.le_refl _))
      have hs1 := run_str (P := Try.prog) w3 22 9 5 a n cap l Try.underlying22 Try.underlying5 Try.underlying9 HN.out HL3.out
      have hs2 : (convert 22 9 (.slice ax n cx)).run Try.prog w3 = .ok (.string (str l)) w3 := by
        obtain ⟨a', c', e, _, hr⟩ := HX3.out.rd
        rw [HLM.out] at e
        obtain ⟨rfl, _, rfl⟩ := by simpa using e
        exact run_str (P := Try.prog) w3 22 9 5 ax n cx l Try.underlying22 Try.underlying5 Try.underlying9 HN.out hr
      clear h3 h4
      go_wp2_with fail
      clear hs1 hs2
      have HBW := Lib.hid (below_trans (below_trans HB1.out HBX.out) HB2.out)
      obtain ⟨row, hrow, hrow2⟩ : ∃ row : Option Nat, (∀ g, row = some g → wc.heap.size ≤ g ∧ g < w2.heap.size) ∧ (0 < n → ∀ g off, ax = some ⟨g, off, none⟩ → row = some g) := by
        obtain ⟨a', c', e, _, h⟩ := HX.out
        rw [HLM.out] at e
        obtain ⟨rfl, _⟩ := by simpa using e
        rcases h with h | ⟨g', off, cur, t, rfl, hbg, hgg, _⟩
        · exact ⟨none, by simp, fun h0 => by rw [← HLM.out, h] at h0; simp at h0⟩
        · exact ⟨some g', fun g e => by obtain rfl := Option.some.inj e; exact ⟨hbg, (Array.getElem?_eq_some_iff.1 hgg).1⟩, fun _ g o e => by simp only [Option.some.injEq, Addr.mk.injEq] at e; rw [e.1]⟩
      have HR1 := Lib.hid hrow
      have HR2 := Lib.hid hrow2
      clear hrow hrow2
      go_loopw [12] (fun i wr => ∃ k : Nat, ∃ lx : List UInt8, k ≤ n ∧ i = .int .i64 k ∧ lx.length = n ∧ OwnW wr wc.heap.size (.slice ax n cx) (lx.map bv) ∧ w3.grownBy wr row) (fun i _ => n - (intOf i).toNat)
      case atStart => exact ⟨0, l, by omega, rfl, HN.out.symm, HX3.out, World.grownBy.refl _ _⟩
      case round =>
        obtain ⟨k, lx, hk, rfl, hlx, hxo, hgr⟩ := hrel
        have HLX := Lib.hid hlx
        have HXO := Lib.hid hxo
        have HGR := Lib.hid hgr
        clear hlx hxo hgr
        by_cases hlt : k < n
        · obtain ⟨g, off, cap', he, hbg, hgl, hcell, hfro, hset⟩ := HXO.out.open k (by rw [List.length_map, HLX.out]; exact hlt)
          obtain ⟨rfl, hbad, rfl⟩ := by simpa using he
          clear hbad
          have hkx : k < lx.length := by rw [HLX.out]; exact hlt
          obtain ⟨hs1, hs2⟩ := hset (bv (UInt8.ofNat (lx[k].toNat + 1)))
          rw [← List.map_set] at hs1
          have HS1 := Lib.hid hs1
          rw [← HR2.out (by omega) g off rfl] at hs2
          have HS2 := Lib.hid (grown_trans HGR.out hs2)
          have HLS : Hid ((lx.set k (UInt8.ofNat (lx[k].toNat + 1))).length = n) := by show _ = _; rw [List.length_set]; exact HLX.out
          have hcell' : wr.cell? ⟨g, off + k, none⟩ = some (.int .u8 (lx[k].toNat : Int)) := by rw [hcell]; simp [bv]
          clear hcell hs1 hs2 hset he hgl
          rw [bv_mod] at HS1 HS2
          have e1 : ((lx[k].toNat + 1 : Nat) : Int) % 256 = ((lx[k].toNat : Int) + 1) % 256 := by omega
          rw [e1] at HS1 HS2
          clear e1
          have hby := byte_lt lx[k]
          generalize lx.set k (UInt8.ofNat (lx[k].toNat + 1)) = lx' at *
          generalize lx[k].toNat = z at *
          go_wp2
          go_roundw
          case rel => exact ⟨k + 1, lx', by omega, by go_num, HLS.out, HS1.out, HS2.out⟩
          case measure => simp [intOf]; omega
        · obtain rfl : k = n := by omega
          have hg1 := fun g e => (HR1.out g e).1
          have hB : Below wc.heap.size wc wr := (below_trans HB2.out HB3.out).trans ⟨HGR.out.os, HGR.out.tape, HGR.out.output, HGR.out.size, fun i hi => HGR.out.block i (Nat.lt_of_lt_of_le hi (below_trans HB2.out HB3.out).size) (fun e => by have := hg1 i e.symm; omega)⟩
          have hL4 : RdB wr a l := HLC.out.mono hB
          have hS4 : OwnW wr w.heap.size (.slice sa (k + 4) cs) (q.map bv) := (HW.out.kept HBX.out (Nat.le_refl _)).kept hB (Nat.le_refl _)
          have hY4 : OwnW wr w2.heap.size vy ((opened l).1.map bv) := HY.out.grown (Below.refl _ _) HGR.out (fun g e => .inr (HR1.out g e).2)
          have HBR := Lib.hid (below_trans (below_trans HB1.out HBX.out) hB)
          have HL4 := Lib.hid hL4
          have HS4 := Lib.hid hS4
          have HY4 := Lib.hid hY4
          clear hg1 hB hL4 hS4 hY4 HX3 HL3 HS3 HXO HGR HLX HR1 HR2 HY HX HLC HB3 HB2 HBW
          go_upto_region 14 with fail
          go_cut [13] (fun s wx => s = .bool (isSealed l) ∧ Below wr.heap.size wr wx)
          case first =>
            by_cases h4 : 4 ≤ k
            · obtain ⟨m, rfl⟩ : ∃ m, k = m + 4 := ⟨k - 4, by omega⟩
              have hif : (if 0 < m then (m : Int) else 0) = (m : Int) := by split <;> omega
              have hmc : m ≤ cap := by omega
              have hs0 : ((m : Int) + 4 - 4) = (m : Int) := by omega
              have hw : IntKind.i64.wrap (m : Int) = (m : Int) := IntWalk.i64_in _ (by omega)
              have hd : decide (4 ≤ ((m + 4 : Nat) : Int)) = true := by simp; omega
              have hd2 : decide (4 ≤ (m : Int) + 4) = true := by simp; omega
              have ht : (l.take m).length = m := by rw [List.length_take, ← HN.out]; omega
              have HT := Lib.hid ht.symm
              clear ht
              have hQ : (l.take m ++ lowB (sum32 (l.take m)) 4).length = m + 4 := by rw [List.length_append, lowB_length, ← HT.out]
              have hyes := isSealed_yes (l := l) (by rw [← HN.out]; omega)
              have hno := isSealed_no (l := l) (by rw [← HN.out]; omega)
              have e4 : l.length - 4 = m := by rw [← HN.out]; omega
              rw [e4] at hyes hno
              generalize hq : l.take m ++ lowB (sum32 (l.take m)) 4 = q2 at *
              have HQ2 := Lib.hid hq
              have HQ2L := Lib.hid hQ
              have hst : str q2 = str l ∧ isSealed l = true ∨ str q2 ≠ str l ∧ isSealed l = false := by
                cases hb : isSealed l with
                | true => exact .inl ⟨(hyes hb).2, rfl⟩
                | false => exact .inr ⟨(hno hb).2, rfl⟩
              clear hq hQ hyes hno e4
              have hcv : ∀ w', Below wr.heap.size wr w' → (convert 22 9 (.slice a (m + 4) cap)).run Try.prog w' = .ok (.string (str l)) w' := fun w' h => run_str w' _ _ _ a (m + 4) cap l Try.underlying22 Try.underlying5 Try.underlying9 HN.out (HL4.out.mono h)
              rcases hst with ⟨hst, hsl⟩ | ⟨hst, hsl⟩
              · go_region_held (fun w' => Below wr.heap.size wr w') (first | assumption | exact (Below.refl _ _).drew) (first
                  | (go_at_call 14; refine (refseal_any a (l.take m) m cap _ HT.out (by omega) ((HL4.out.take m).mono (by assumption))).mono ?_; rw [HQ2.out]; rintro e w5 ⟨v5, rfl, h5, h6⟩; obtain ⟨a5, c5, rfl, _, h7⟩ := h5.rd; rw [HQ2L.out]; have hs5 := run_str (P := Try.prog) w5 22 9 5 a5 (m + 4) c5 q2 Try.underlying22 Try.underlying5 Try.underlying9 HQ2L.out.symm h7; have hk : Below wr.heap.size wr w5 := below_trans (by assumption) h6; clear h5 h6 h7))
                go_wp2_with fail
                go_meet
                exact ⟨by rw [hsl], by assumption⟩
              · have hst2 := str_ne hst
                go_region_held (fun w' => Below wr.heap.size wr w') (first | assumption | exact (Below.refl _ _).drew) (first
                  | (go_at_call 14; refine (refseal_any a (l.take m) m cap _ HT.out (by omega) ((HL4.out.take m).mono (by assumption))).mono ?_; rw [HQ2.out]; rintro e w5 ⟨v5, rfl, h5, h6⟩; obtain ⟨a5, c5, rfl, _, h7⟩ := h5.rd; rw [HQ2L.out]; have hs5 := run_str (P := Try.prog) w5 22 9 5 a5 (m + 4) c5 q2 Try.underlying22 Try.underlying5 Try.underlying9 HQ2L.out.symm h7; have hk : Below wr.heap.size wr w5 := below_trans (by assumption) h6; clear h5 h6 h7))
                go_wp2_with fail
                go_meet
                exact ⟨by rw [hsl], by assumption⟩
            · have hd : decide (4 ≤ (k : Int)) = false := by simp; omega
              go_quiet (fail)
              go_wp2_with fail
              go_meet
              exact ⟨by rw [isSealed_short (by rw [← HN.out]; exact h4)], drewN_below (Below.refl _ _) _⟩
          case rest =>
            obtain ⟨rfl, hbd⟩ := hcut
            obtain ⟨ay, cy, rfl, hcy, hry⟩ := HY4.out.rd
            have hlm : ((opened l).1.map bv).length = (opened l).1.length := List.length_map _
            rw [hlm] at hcy ⊢
            have HRY := Lib.hid (hry.mono hbd)
            have HLD := Lib.hid (HL4.out.mono hbd)
            have HSD := Lib.hid (HS4.out.kept hbd (Nat.le_refl _))
            have HBD := Lib.hid (below_trans HBR.out hbd)
            clear hry hbd HY4 HL4 HS4 HBR hlm
            have hcase : k < 4 ∧ isSealed l = false ∧ (opened l).1 = [] ∧ (opened l).2 = 4 ∨ (∃ m, k = m + 4 ∧ isSealed l = true ∧ (opened l).1 = l.take m ∧ (opened l).2 = 0) ∨ (4 ≤ k ∧ isSealed l = false ∧ (opened l).1 = [] ∧ (opened l).2 = 110) := by
              by_cases h4 : 4 ≤ l.length
              · cases hb : isSealed l with
                | true => refine .inr (.inl ⟨l.length - 4, by rw [HN.out]; omega, rfl, ?_, ?_⟩) <;> rw [(isSealed_yes h4 hb).1]
                | false => refine .inr (.inr ⟨by rw [HN.out]; omega, rfl, ?_, ?_⟩) <;> rw [(isSealed_no h4 hb).1]
              · refine .inl ⟨by rw [HN.out]; omega, isSealed_short h4, ?_, ?_⟩ <;> rw [opened_short (by omega)]
            generalize isSealed l = sb at *
            generalize (opened l).2 = ey at *
            generalize (opened l).1 = ly at *
            generalize hny : ly.length = ny at *
            go_wp2_with fail
            go_cut [118] (fun s wx => s = .bool false ∧ Below wc.heap.size wc wx)
            case first =>
              have hcvb : ∀ nq (m : Nat), m ≤ k → (convert 22 9 (.slice a m cap)).run Try.prog (wc.drewN nq) = .ok (.string (str (l.take m))) (wc.drewN nq) := fun nq m hm => run_str _ _ _ _ a m cap (l.take m) Try.underlying22 Try.underlying5 Try.underlying9 (by rw [List.length_take, ← HN.out]; omega) ((HLD.out.mono (drewN_below (Below.refl _ _) nq)).take m)
              have hcvy : ∀ nq, (convert 22 9 (.slice ay ny cy)).run Try.prog (wc.drewN nq) = .ok (.string (str ly)) (wc.drewN nq) := fun nq => run_str _ _ _ _ ay _ cy _ Try.underlying22 Try.underlying5 Try.underlying9 hny.symm (HRY.out.mono (drewN_below (Below.refl _ _) nq))
              rcases hcase with ⟨h4, rfl, rfl, rfl⟩ | ⟨m, rfl, rfl, rfl, rfl⟩ | ⟨h4, rfl, rfl, rfl⟩
              · obtain rfl : ny = 0 := hny.symm
                have hd : decide ((k : Int) < 4) = true := by simp; omega
                have hd2 : decide (4 ≤ (k : Int)) = false := by simp; omega
                clear hny hcvb hcvy
                go_quiet (fail)
                go_wp2_with fail
                go_meet
                exact ⟨rfl, drewN_below (Below.refl _ _) _⟩
              · obtain rfl : ny = m := by rw [← hny, List.length_take, ← HN.out]; omega
                have hcvm := fun nq => hcvb nq ny (by omega)
                have hs0 : ((ny : Int) + 4 - 4) = (ny : Int) := by omega
                have hw : IntKind.i64.wrap (ny : Int) = (ny : Int) := IntWalk.i64_in _ (by omega)
                have hmc : ny ≤ cap := by omega
                clear hny hcvb
                generalize l.take ny = lm at *
                go_quiet (fail)
                go_wp2_with fail
                go_meet
                exact ⟨rfl, drewN_below (Below.refl _ _) _⟩
              · obtain rfl : ny = 0 := hny.symm
                have hd : decide ((k : Int) < 4) = false := by simp; omega
                have hd2 : decide (4 ≤ (k : Int)) = true := by simp; omega
                clear hny hcvb hcvy
                go_quiet (fail)
                go_wp2_with fail
                go_meet
                exact ⟨rfl, drewN_below (Below.refl _ _) _⟩
            case rest =>
              obtain ⟨rfl, hbx2⟩ := hcut
              have HSE := Lib.hid (HSD.out.kept hbx2 (Nat.le_refl _))
              have HBE := Lib.hid (below_trans HBD.out hbx2)
              clear hbx2 hcase hny HRY HLD HSD HBD
              by_cases hy0 : y.toNat = 0
              · have hyb : ((y.toNat : Int) == 0) = true := by simp [hy0]
                clear hy0
                go_wp2_with (go_at_call 6; refine (known_any _).mono ?_; rintro e w9 ⟨rfl, hb9⟩)
                go_ret
                exact ⟨rfl, below_trans HBE.out hb9⟩
              · have hyb : ((y.toNat : Int) == 0) = false := by simp [hy0]
                have HY0 : Hid (y ≠ 0) := fun e => hy0 (by rw [e]; rfl)
                have h1 : -((k : Int) + 4) < at_.tmod ((k : Int) + 4) := by have := Int.lt_tmod_of_pos at_ (b := (k : Int) + 4) (by omega); omega
                have h2 : at_.tmod ((k : Int) + 4) < (k : Int) + 4 := Int.tmod_lt_of_pos at_ (by omega)
                clear hy0
                go_upto_region 19 with fail
                go_cut [14] (fun s wx => ∃ j : Nat, j < k + 4 ∧ s = .int .i64 j ∧ wx = wc)
                case first =>
                  go_wp2_with fail
                  go_meet
                  exact ⟨((at_.tmod ((k : Int) + 4) + ((k : Int) + 4)) % ((k : Int) + 4)).toNat, by have := Int.emod_lt_of_pos (at_.tmod ((k : Int) + 4) + ((k : Int) + 4)) (b := (k : Int) + 4) (by omega); omega, by rw [Int.toNat_of_nonneg (Int.emod_nonneg _ (by omega))], rfl⟩
                case rest =>
                  obtain ⟨j, hj, rfl, rfl⟩ := hcut
                  have hjq : j < q.length := by rw [HQL.out]; exact hj
                  obtain ⟨g, off, cap', he, hbg, hgl, hcell, hfro, hset⟩ := HSE.out.open j (by rw [List.length_map]; exact hjq)
                  obtain ⟨rfl, hbad, rfl⟩ := by simpa using he
                  clear hbad
                  obtain ⟨hs1, hs2⟩ := hset (bv (UInt8.ofNat (q[j].toNat ^^^ y.toNat)))
                  rw [← List.map_set] at hs1
                  have hcell' : wc.cell? ⟨g, off + j, none⟩ = some (.int .u8 (q[j].toNat : Int)) := by rw [hcell]; simp [bv]
                  have hxor : bits .xor .u8 (q[j].toNat : Int) (y.toNat : Int) = ((q[j].toNat ^^^ y.toNat : Nat) : Int) := bits_xor_nat .u8 rfl _ _ (byte_lt _) (byte_lt _)
                  have hop := HCH.out j (UInt8.ofNat (q[j].toNat ^^^ y.toNat)) (by rw [← HN.out]; exact hj) (fun _ => xor_byte_ne _ _ HY0.out)
                  have hlen : (q.set j (UInt8.ofNat (q[j].toNat ^^^ y.toNat))).length = k + 4 := by rw [List.length_set]; exact HQL.out
                  rw [bv_ofNat _ (Nat.xor_lt_two_pow (n := 8) (byte_lt _) (byte_lt _))] at hs1 hs2
                  generalize q.set j (UInt8.ofNat (q[j].toNat ^^^ y.toNat)) = q3 at *
                  generalize q[j].toNat ^^^ y.toNat = z at *
                  generalize q[j].toNat = x at *
                  have hb9 : Below w.heap.size w (wc.setCell ⟨g, off + j, none⟩ (.int .u8 (z : Int))) := HBE.out.setCell (p := ⟨g, off + j, none⟩) hbg _
                  obtain ⟨a9, c9, he9, hc9, hr9⟩ := hs1.rd
                  rw [List.length_map, hlen] at he9 hc9
                  obtain ⟨rfl, rfl⟩ := by simpa using he9
                  have HR9 := Lib.hid hr9
                  have HB9 := Lib.hid hb9
                  have HOP := Lib.hid hop
                  have HLEN := Lib.hid hlen
                  clear hs1 hs2 hset he hr9 hb9 hop hlen hcell he9
                  go_wp2_with fail
                  refine (open_any _ q3 (k + 4) cs _ HLEN.out.symm (by omega) (by omega) HR9.out).mono ?_
                  rw [HOP.out]
                  rintro e w10 ⟨v10, rfl, h3, h4⟩
                  obtain ⟨a10, c10, rfl, _, _⟩ := h3.rd
                  have hb10 := below_trans HB9.out h4
                  have HB10 := Lib.hid hb10
                  clear h3 h4 hb10
                  go_wp2_with (go_at_call 6; refine (known_any _).mono ?_; rintro e w11 ⟨rfl, hb11⟩)
                  go_ret
                  exact ⟨rfl, below_trans HB10.out hb11⟩
end Go.Proofs.Ytiebcdobcnjmgaa
