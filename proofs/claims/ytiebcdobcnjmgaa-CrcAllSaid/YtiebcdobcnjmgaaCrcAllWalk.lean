/- lexiconlaw01.CrcAll answers true, whatever the bytes and the turn at which the going over is left; nothing that was there is changed. -/
import Derived.Test.YtiebcdobcnjmgaaCrcAllIt
namespace Go.Proofs.Ytiebcdobcnjmgaa
open Go.RowKit Go.BigFrame

attribute [local go_sem] Oper.semAt_some

/-- What crc.All hands back: a closure over a box of its own, with new bytes in it. -/
def RetAll (w : World) (l : List UInt8) (e : Ending) (w' : World) : Prop :=
  ∃ B a cap, e = .returned (.func (.func 21) #[] #[.pointer (some ⟨B, 0, none⟩)]) ∧ w.heap.size ≤ B ∧ w'.cell? ⟨B, 0, none⟩ = some (.slice a l.length cap) ∧ RdB w' a l ∧
    (∀ b off, a = some ⟨b, off, none⟩ → 0 < l.length → w.heap.size ≤ b) ∧ Below w.heap.size w w'

set_option maxHeartbeats 400000 in
theorem all_any (a : Option Addr) (l : List UInt8) (n cap : Nat) (w : World) (hn : n = l.length) (hb : n ≤ 1000000) (hl : RdB w a l) :
    Calls Try.prog 16 #[.slice a n cap] w (RetAll w l) := by
  have hmf : ∀ (fn : Fn) (first cap : Array Value) (w : World), (Instr.makeFunc fn first cap).run Try.prog w = .ok (.func fn first cap) w := fun _ _ _ _ => rfl
  have HL := Lib.hid hl
  have HN := Lib.hid hn
  clear hl hn
  go_enter Try.func16, Try.ntmps16
  go_wp2_with fail
  refine (clone_any a l n cap _ HN.out (by omega) (HL.out.mono (below_alloc _))).mono ?_
  rintro e w1 ⟨v, rfl, h1, h2⟩
  obtain ⟨a1, c1, rfl, hc1, hr⟩ := h1.rd
  have h3 := h1.lt
  have HB := Lib.hid h2
  have HR := Lib.hid hr
  have HLT := Lib.hid h3
  have hbx : w1.heap[w.heap.size]? = some (.cells #[.slice a n cap] 22) := (h2.block w.heap.size (by simp)).trans (heap_alloc_new w _)
  have hcell := cell_of_row w1 w.heap.size 0 _ _ _ hbx
  have hfro := frozen_of_row w1 w.heap.size 0 _ _ hbx
  have HBX := Lib.hid hbx
  clear h1 h2 hr h3 hc1 hbx
  go_wp2
  go_ret
  have hg : w1.grownBy (w1.setCell ⟨w.heap.size, 0, none⟩ (.slice a1 l.length c1)) (some w.heap.size) := ⟨rfl, rfl, rfl, by simp [World.setCell], fun i _ hi => heap_setCell_other w1 _ i _ (by intro e; exact hi (by rw [e]))⟩
  refine ⟨w.heap.size, a1, c1, rfl, Nat.le_refl _, ?_, ?_, ?_, ?_⟩
  · rw [cell_of_row _ _ _ _ _ _ (heap_setCell_same w1 w.heap.size 0 _ _ (.slice a1 l.length c1) HBX.out)]
    rfl
  · have hr := HR.out
    rcases hr with h | ⟨b, off, ha, hlt, hc⟩
    · exact .inl h
    · have hne : b ≠ w.heap.size := fun e => by
        have := (HLT.out b (by rw [ha]; rfl)).1
        simp at this
        omega
      exact .inr ⟨b, off, ha, by simpa [World.setCell] using hlt, fun k hk => (World.cell?_of_block (a := ⟨b, off + k, none⟩) (heap_setCell_other w1 _ b _ hne)).trans (hc k hk)⟩
  · intro b off ha _
    have := (HLT.out b (by rw [ha]; rfl)).1
    simp at this
    omega
  · exact ((below_alloc _).trans (HB.out.mono (by simp))).setCell (p := ⟨w.heap.size, 0, none⟩) (Nat.le_refl _) _

set_option maxRecDepth 100000 in
set_option maxHeartbeats 4000000 in
theorem crcall_any (a : Option Addr) (l : List UInt8) (n cap : Nat) (leave : Int) (w : World) (hn : n = l.length) (hcap : n ≤ cap) (hl : RdB w a l) :
    Calls Try.prog 5 #[.slice a n cap, .int .i64 leave] w fun e w' => e = .returned (.bool true) ∧ Below w.heap.size w w' := by
  have HL := Lib.hid hl
  have HN := Lib.hid hn
  clear hl hn
  refine calls_of_wp_marks Try.func5 rfl ?_
  simp only [Try.ntmps5, List.size_toArray, List.length_cons, List.length_nil, Nat.reduceAdd, Nat.reduceSub, Array.replicate_succ, Array.replicate_zero, List.push_toArray, List.append_toArray, List.nil_append, List.cons_append]
  go_upto_region 1 with fail
  have ha := ((Box.new w 22 (.slice a n cap)).below (below_alloc (.cells #[.int .i64 leave] 3))).below (below_alloc (.cells #[.bool false] 4))
  have hlb := (Box.new (w.alloc (.cells #[.slice a n cap] 22)) 3 (.int .i64 leave)).below (below_alloc (.cells #[.bool false] 4))
  have hrb := Box.new ((w.alloc (.cells #[.slice a n cap] 22)).alloc (.cells #[.int .i64 leave] 3)) 4 (.bool false)
  have hb0 := below_trans (below_trans (below_alloc (w := w) (.cells #[.slice a n cap] 22)) (below_alloc (.cells #[.int .i64 leave] 3))) (below_alloc (.cells #[.bool false] 4))
  simp only [World.size_alloc] at hlb hrb
  generalize ((w.alloc (.cells #[.slice a n cap] 22)).alloc (.cells #[.int .i64 leave] 3)).alloc (.cells #[.bool false] 4) = W0 at *
  have HA := Lib.hid ha
  have HLB := Lib.hid hlb
  have HRB := Lib.hid hrb
  have HB0 := Lib.hid hb0
  have HL0 := Lib.hid (HL.out.mono hb0)
  have hca := ha.cell
  clear ha hlb hrb hb0
  by_cases hbig : 500 < n
  · go_wp2_with fail
    refine (known_any _).mono ?_
    rintro e w1 ⟨rfl, hb1⟩
    have hc := (HRB.out.below hb1).cell
    have hf := (HRB.out.below hb1).frozen
    have hbx := HRB.out.below hb1
    have HR1 := Lib.hid (hbx.set (.bool true))
    have HB1 := Lib.hid ((below_trans HB0.out hb1).setCell (p := ⟨w.heap.size + 1 + 1, 0, none⟩) (by simp; omega) (.bool true))
    clear hbx hb1
    go_wp2
    refine post_marks [] rfl (by simp) (by simp) fun w' hk => ⟨.bool true, ?_, rfl, ?_⟩
    · exact results_box rfl rfl (HR1.out.keepA hk (by simp)) rfl Try.underlying4
    · exact HB1.out.trans (hk.below (by have := HB1.out.size; simp at this ⊢; omega) (by simp))
  · go_wp2_with (at_builtin; refine step_appendB rfl (.const (.slice none 0 0)) (.tmp 16) rfl eltB W0.heap.size _ [] rfl _ _ _ l rfl (OwnB.nil _ _ _) HN.out HL0.out (by rw [← HN.out]; simp; omega) (Nat.le_refl _) ?_; intro vm w1 h1 h2; obtain ⟨am, cm, rfl, hcm, hrm⟩ := h1.rd; have hwm := OwnW.of_own h1; rw [List.nil_append] at hcm hrm hwm ⊢; have HCM := Lib.hid hcm; have HRM := Lib.hid hrm; have HWM := Lib.hid hwm; have HB1 := Lib.hid h2; clear h1 h2 hcm hrm hwm)
    refine (all_any am l l.length cm w1 rfl (by rw [← HN.out]; omega) HRM.out).mono ?_
    rintro e w2 ⟨B, aa, ca, rfl, hB, hbox, hra, hna, hb2⟩
    rw [← HN.out] at hbox HCM ⊢
    have HBB := Lib.hid hB
    have HBOX := Lib.hid hbox
    have HRA := Lib.hid hra
    have HNA := Lib.hid hna
    have HB2 := Lib.hid hb2
    have HW2 := Lib.hid (HWM.out.kept hb2 (Nat.le_refl _))
    clear hB hbox hra hna hb2
    have hfn : ∀ (w : World) (f : Fn) (x y : Array Value), Hid ((binOp .eql 37 (.func f x y) .nilFunc).run Try.prog w = .ok (.bool false) w) := fun _ _ _ _ => rfl
    have h0 := (hfn w2 (.func 21) #[] #[.pointer (some ⟨B, 0, none⟩)]).out
    clear hfn
    go_wp2_with fail
    clear h0
    obtain ⟨row, hrow, hrow2⟩ : ∃ row : Option Nat, (∀ g, row = some g → W0.heap.size ≤ g ∧ g < w1.heap.size) ∧ (0 < n → ∀ g off, am = some ⟨g, off, none⟩ → row = some g) := by
      obtain ⟨a', c', e, _, h⟩ := HWM.out
      rw [List.length_map] at e
      obtain ⟨rfl, _⟩ := by simpa using e
      rcases h with h | ⟨g', off, cur, t, rfl, hbg, hgg, _⟩
      · exact ⟨none, by simp, fun h0 => by have := List.map_eq_nil_iff.1 h; rw [HN.out, this] at h0; simp at h0⟩
      · exact ⟨some g', fun g e => by obtain rfl := Option.some.inj e; exact ⟨hbg, (Array.getElem?_eq_some_iff.1 hgg).1⟩, fun _ g o e => by simp only [Option.some.injEq, Addr.mk.injEq] at e; rw [e.1]⟩
    have HR1 := Lib.hid hrow
    have HR2 := Lib.hid hrow2
    clear hrow hrow2
    go_loopw [7] (fun i wr => ∃ k : Nat, ∃ lx : List UInt8, k ≤ n ∧ i = .int .i64 k ∧ lx.length = n ∧ OwnW wr W0.heap.size (.slice am n cm) (lx.map bv) ∧ w2.grownBy wr row) (fun i _ => n - (intOf i).toNat)
    case atStart => exact ⟨0, l, by omega, rfl, HN.out.symm, by have := HW2.out; rwa [← HN.out] at this, World.grownBy.refl _ _⟩
    case round =>
      obtain ⟨k, lx, hk, rfl, hlx, hxo, hgr⟩ := hrel
      have HLX := Lib.hid hlx
      have HXO := Lib.hid hxo
      have HGR := Lib.hid hgr
      clear hlx hxo hgr
      by_cases hlt : k < n
      · obtain ⟨g, off, cap', he, hbg, hgl, hcell, hfro, hset⟩ := HXO.out.open k (by rw [List.length_map, HLX.out]; exact hlt)
        obtain ⟨rfl, hbad, rfl⟩ := by simpa using he
        clear hbad
        have hkx : k < lx.length := by rw [HLX.out]; exact hlt
        obtain ⟨hs1, hs2⟩ := hset (bv (UInt8.ofNat (lx[k].toNat + 1)))
        rw [← List.map_set] at hs1
        rw [← HR2.out (by omega) g off rfl] at hs2
        have HS1 := Lib.hid hs1
        have HS2 := Lib.hid (grown_trans HGR.out hs2)
        have HLS : Hid ((lx.set k (UInt8.ofNat (lx[k].toNat + 1))).length = n) := by show _ = _; rw [List.length_set]; exact HLX.out
        have hcell' : wr.cell? ⟨g, off + k, none⟩ = some (.int .u8 (lx[k].toNat : Int)) := by rw [hcell]; simp [bv]
        clear hcell hs1 hs2 hset he hgl
        rw [bv_mod] at HS1 HS2
        have e1 : ((lx[k].toNat + 1 : Nat) : Int) % 256 = ((lx[k].toNat : Int) + 1) % 256 := by omega
        rw [e1] at HS1 HS2
        clear e1
        have hby := byte_lt lx[k]
        generalize lx.set k (UInt8.ofNat (lx[k].toNat + 1)) = lx' at *
        generalize lx[k].toNat = z at *
        go_wp2
        go_roundw
        case rel => exact ⟨k + 1, lx', by omega, by go_num, HLS.out, HS1.out, HS2.out⟩
        case measure => simp [intOf]; omega
      · obtain rfl : k = n := by omega
        have hg1 := fun g e => (HR1.out g e).1
        have hb3 : Below W0.heap.size W0 wr := (below_trans HB1.out HB2.out).trans ⟨HGR.out.os, HGR.out.tape, HGR.out.output, HGR.out.size, fun i hi => HGR.out.block i (Nat.lt_of_lt_of_le hi (below_trans HB1.out HB2.out).size) (fun e => by have := hg1 i e.symm; omega)⟩
        have hra : RdB wr aa l := by
          rcases HRA.out with h | ⟨b, off, ha, hlt2, hc⟩
          · exact .inl h
          · by_cases h0 : 0 < l.length
            · have hbn := HNA.out b off ha h0
              have hne : some b ≠ row := fun e => by have := (HR1.out b e.symm).2; omega
              exact .inr ⟨b, off, ha, Nat.lt_of_lt_of_le hlt2 HGR.out.size, fun j hj => (World.cell?_of_block (a := ⟨b, off + j, none⟩) (HGR.out.block b hlt2 hne)).trans (hc j hj)⟩
            · exact .inl (by
                have : l = [] := List.eq_nil_of_length_eq_zero (by omega)
                rw [this]; rfl)
        have hbox : wr.cell? ⟨B, 0, none⟩ = some (.slice aa k ca) := by
          have hlt2 := World.block_lt_of_cell? w2 _ HBOX.out
          have hne : some B ≠ row := fun e => by have := (HR1.out B e.symm).2; have := HBB.out; omega
          exact (World.cell?_of_block (a := ⟨B, 0, none⟩) (HGR.out.block B hlt2 hne)).trans HBOX.out
        have hBw : B < wr.heap.size := World.block_lt_of_cell? wr _ hbox
        have hBl : W0.heap.size ≤ B := Nat.le_trans HB1.out.size HBB.out
        have hnl : ∀ b off, aa = some ⟨b, off, none⟩ → 0 < l.length → W0.heap.size ≤ b := fun b off ha h0 => Nat.le_trans HB1.out.size (HNA.out b off ha h0)
        have HA3 := Lib.hid (HA.out.below hb3)
        have HLB3 := Lib.hid (HLB.out.below hb3)
        have HRB3 := Lib.hid (HRB.out.below hb3)
        have HL3 := Lib.hid (HL0.out.mono hb3)
        have HB3 := Lib.hid (below_trans HB0.out hb3)
        have HRA3 := Lib.hid hra
        have HBOX3 := Lib.hid hbox
        have HBL := Lib.hid hBl
        have HNL := Lib.hid hnl
        have hsz : w.heap.size + 1 + 1 < W0.heap.size := HRB.out.lt
        have hsz3 : W0.heap.size ≤ wr.heap.size := hb3.size
        clear hg1 hb3 hra hbox hBw hBl hnl HB1 HB2 HBB HBOX HRA HNA HW2 HWM HRM HCM HXO HGR HLX HR1 HR2 HA HLB HRB HL0 HB0 hca
        go_wp2_with fail
        have ht := Box.new wr 3 (.int .i64 0)
        have hbT := below_alloc (w := wr) (.cells #[.int .i64 0] 3)
        obtain ⟨T, hT⟩ : ∃ T, T = wr.heap.size := ⟨_, rfl⟩
        obtain ⟨V, hV⟩ : ∃ V, V = wr.alloc (.cells #[.int .i64 0] 3) := ⟨_, rfl⟩
        rw [← hV] at ht hbT ⊢
        rw [← hT] at ht ⊢
        have HT := Lib.hid ht
        have HTl : Hid (wr.heap.size ≤ T) := Nat.le_of_eq hT.symm
        have HV := Lib.hid hbT
        clear ht hbT hT hV
        refine wp_loop_rounds 3 ?_
        rw [rounds_succ]
        have hct := HT.out.cell
        go_wp2_with fail
        have hn0 := Box.new V 3 (.int .i64 0)
        have hbN := below_alloc (w := V) (.cells #[.int .i64 0] 3)
        obtain ⟨N, hN⟩ : ∃ N, N = V.heap.size := ⟨_, rfl⟩
        obtain ⟨U, hU⟩ : ∃ U, U = V.alloc (.cells #[.int .i64 0] 3) := ⟨_, rfl⟩
        rw [← hU] at hn0 hbN ⊢
        rw [← hN] at hn0 ⊢
        have HN0 := Lib.hid hn0
        have HNl : Hid (V.heap.size ≤ N) := Nat.le_of_eq hN.symm
        have HU := Lib.hid (HV.out.trans (hbN.mono HV.out.size))
        have HUV := Lib.hid hbN
        clear hn0 hbN hN hU
        have hrT : wr.heap.size ≤ T := HTl.out
        refine wp_range (gf := 21) (lb := #[.pointer (some ⟨B, 0, none⟩)]) rfl (enters_of Try.func21 (by kernel_rfl) rfl) (fun b => b = N) (len := k + 1)
          (all1_stops U B aa k ca l HN.out (by omega) ?cbox ?cl _ ?cB ?ca ?cX) ?cX ?cps (fun j W => Box W N 3 (.int .i64 (j : Int))) (fun c j W => c = .exit 4 ∧ (j : Int) = leave ∧ Box W N 3 (.int .i64 (j : Int)))
          ?cG ?cGx ?c0 ?cround ?cdone ?cstop
        case cbox => exact (HU.out.cell (p := ⟨B, 0, none⟩) (World.block_lt_of_cell? wr _ HBOX3.out)).trans HBOX3.out
        case cl => exact HRA3.out.mono HU.out
        case cB => have h1 := World.block_lt_of_cell? wr _ HBOX3.out; have h2 := HNl.out; have h3 := HV.out.size; simp only at h1; omega
        case ca => intro b off ha h0 hbN; have h2 := HNl.out; have h3 := HV.out.size; obtain ⟨b', off', ha', hlt', _⟩ := HRA3.out.at h0; rw [ha] at ha'; simp only [Option.some.injEq, Addr.mk.injEq, and_true] at ha'; omega
        case cX => intro b hb; rw [hb]; exact HN0.out.lt
        case cps => rintro j args W rfl; rfl
        case cG => exact fun j W W' h hs => h.stays hs
        case cGx => exact fun c j W W' h hs => ⟨h.1, h.2.1, h.2.2.stays hs⟩
        case c0 => exact HN0.out
        case cround =>
          rintro lp j args W hj rfl hkw hg
          gi_wp2
          refine ⟨KeepA.refl _ _, fun W2 hs hk2 => ?_⟩
          have hb2 : Below wr.heap.size wr W2 := HU.out.trans (hk2.below HU.out.size (fun b hb => by have := HNl.out; have := HV.out.size; omega))
          have hgb := hg.stays hs
          have hgc := hgb.cell
          have hgf := hgb.frozen
          have hac := (HA3.out.below hb2).cell
          have hlc := (HLB3.out.below hb2).cell
          have htb : Box W2 T 3 (.int .i64 0) := (HT.out.below HUV.out).keepA hk2 (fun e => by have := HT.out.lt; have := HNl.out; omega)
          have htc2 := (htb.other (a := ⟨N, 0, none⟩) (.int .i64 ((j : Int) + 1)) (by have := HT.out.lt; have := HNl.out; simp only; omega)).cell
          have hlc2 := ((HLB3.out.below hb2).other (a := ⟨N, 0, none⟩) (.int .i64 ((j : Int) + 1)) (by have := HLB3.out.lt; have := HNl.out; have := HV.out.size; simp only; omega)).cell
          have hnc2 := (hgb.set (.int .i64 ((j : Int) + 1))).cell
          have htc := htb.cell
          have HL4 := Lib.hid (HL3.out.mono hb2)
          have hjn : j ≤ k := by omega
          have hlen : (l.take j).length = j := by rw [List.length_take, ← HN.out]; omega
          have HLEN := Lib.hid hlen
          have HS := Lib.hid (KeepA.refl (fun b => b = N) W2 |>.setCell (a := ⟨N, 0, none⟩) (v := .int .i64 ((j : Int) + 1)) rfl)
          have HB : Hid (Box (W2.setCell ⟨N, 0, none⟩ (.int .i64 ((j : Int) + 1))) N 3 (.int .i64 ((j + 1 : Nat) : Int))) := hgb.set (.int .i64 ((j : Int) + 1))
          clear hb2 hkw hg hs hk2 hgb hlen htb
          gi_wp2_with fail
          refine ⟨trivial, (CallsIn.inRound lp (callsIn_wide.2 (refsum_any a (l.take j) j cap W2 HLEN.out.symm (by omega) (HL4.out.take j)))).mono ?_⟩
          rintro e _ ⟨rfl, rfl⟩
          by_cases hlv2 : (j : Int) + 1 = leave
          · have hlvb : ((j : Int) + 1 == leave) = true := by simpa using hlv2
            have HLV := Lib.hid hlv2
            clear hlv2
            gi_wp2_with fail
            exact ⟨HS.out, rfl, by have := HLV.out; omega, HB.out⟩
          · have hlvb : ((j : Int) + 1 == leave) = false := by simpa using hlv2
            clear hlv2
            gi_wp2_with fail
            exact ⟨HS.out, HB.out⟩
        case cdone =>
          rintro D W hD hkw hg hdf
          have hcount : ((k + 1 : Nat) : Int) = (k : Int) + 1 := by omega
          have hb2 : Below wr.heap.size wr W := HU.out.trans (hkw.below HU.out.size (fun b hb => by have := HNl.out; have := HV.out.size; omega))
          have hgc : W.cell? ⟨N, 0, none⟩ = some (.int .i64 ((k : Int) + 1)) := hg.cell
          have hac := (HA3.out.below hb2).cell
          have hlc := (HLB3.out.below hb2).cell
          have htb : Box W T 3 (.int .i64 0) := (HT.out.below HUV.out).keepA hkw (fun e => by have := HT.out.lt; have := HNl.out; omega)
          have htc := htb.cell
          have HW2 := Lib.hid hb2
          have HDF0 := Lib.hid hdf
          have HDl0 : Hid (wr.heap.size ≤ D) := Nat.le_trans HU.out.size hD
          have HDu0 : Hid (U.heap.size ≤ D) := hD
          have HKW := Lib.hid hkw
          have HTB := Lib.hid htb
          clear hb2 hdf hD hkw hg htb
          go_wp2_with fail
          have ht := Box.new W 3 (.int .i64 1)
          have hbT := below_alloc (w := W) (.cells #[.int .i64 1] 3)
          obtain ⟨T2, hT⟩ : ∃ T, T = W.heap.size := ⟨_, rfl⟩
          obtain ⟨V2, hV⟩ : ∃ V, V = W.alloc (.cells #[.int .i64 1] 3) := ⟨_, rfl⟩
          rw [← hV] at ht hbT ⊢
          rw [← hT] at ht ⊢
          have HT2 := Lib.hid ht
          have HTl2 : Hid (wr.heap.size ≤ T2) := by have := HW2.out.size; show _ ≤ _; omega
          have HV2 := Lib.hid (HW2.out.trans (hbT.mono HW2.out.size))
          have HD0 := Lib.hid ((hbT.block D (Array.getElem?_eq_some_iff.1 HDF0.out).1).trans HDF0.out)

          clear ht hbT hT hV hgc hac hlc htc
          rw [rounds_succ]
          clear HT HTl HV HN0 HNl HU HUV HKW HTB HW2 HDF0 hrT HDu0
          have HDO := HD0
          have HDlO := HDl0
          clear HD0 HDl0
          obtain ⟨D0, hD0⟩ : ∃ x, x = D := ⟨_, rfl⟩
          rw [← hD0] at HDO HDlO ⊢
          clear hD0
          have HT := HT2
          have HTl := HTl2
          have HV := HV2
          clear HT2 HTl2 HV2
          obtain ⟨T, hTT⟩ : ∃ x, x = T2 := ⟨_, rfl⟩
          obtain ⟨V, hVV⟩ : ∃ x, x = V2 := ⟨_, rfl⟩
          rw [← hTT] at HT HTl ⊢
          rw [← hVV] at HT HV HDO ⊢
          clear hTT hVV
          have hct := HT.out.cell
          go_wp2_with fail
          have hn0 := Box.new V 3 (.int .i64 0)
          have hbN := below_alloc (w := V) (.cells #[.int .i64 0] 3)
          obtain ⟨N, hN⟩ : ∃ N, N = V.heap.size := ⟨_, rfl⟩
          obtain ⟨U, hU⟩ : ∃ U, U = V.alloc (.cells #[.int .i64 0] 3) := ⟨_, rfl⟩
          rw [← hU] at hn0 hbN ⊢
          rw [← hN] at hn0 ⊢
          have HN0 := Lib.hid hn0
          have HNl : Hid (V.heap.size ≤ N) := Nat.le_of_eq hN.symm
          have HU := Lib.hid (HV.out.trans (hbN.mono HV.out.size))
          have HUV := Lib.hid hbN
          clear hn0 hbN hN hU
          have hrT : wr.heap.size ≤ T := HTl.out
          refine wp_range (gf := 21) (lb := #[.pointer (some ⟨B, 0, none⟩)]) rfl (enters_of Try.func21 (by kernel_rfl) rfl) (fun b => b = N) (len := k + 1)
            (all1_stops U B aa k ca l HN.out (by omega) ?cbox_d ?cl_d _ ?cB_d ?ca_d ?cX_d) ?cX_d ?cps_d (fun j W => Box W N 3 (.int .i64 (j : Int))) (fun _ _ _ => False)
            ?cG_d ?cGx_d ?c0_d ?cround_d ?cdone_d ?cstop_d
          case cbox_d => exact (HU.out.cell (p := ⟨B, 0, none⟩) (World.block_lt_of_cell? wr _ HBOX3.out)).trans HBOX3.out
          case cl_d => exact HRA3.out.mono HU.out
          case cB_d => have h1 := World.block_lt_of_cell? wr _ HBOX3.out; have h2 := HNl.out; have h3 := HV.out.size; simp only at h1; omega
          case ca_d => intro b off ha h0 hbN; have h2 := HNl.out; have h3 := HV.out.size; obtain ⟨b', off', ha', hlt', _⟩ := HRA3.out.at h0; rw [ha] at ha'; simp only [Option.some.injEq, Addr.mk.injEq, and_true] at ha'; omega
          case cX_d => intro b hb; rw [hb]; exact HN0.out.lt
          case cps_d => rintro j args W rfl; rfl
          case cG_d => exact fun j W W' h hs => h.stays hs
          case cGx_d => exact fun c j W W' h hs => h
          case c0_d => exact HN0.out
          case cround_d =>
            rintro lp j args W hj rfl hkw hg
            gi_wp2
            refine ⟨KeepA.refl _ _, fun W2 hs hk2 => ?_⟩
            have hb2 : Below wr.heap.size wr W2 := HU.out.trans (hk2.below HU.out.size (fun b hb => by have := HNl.out; have := HV.out.size; omega))
            have hgb := hg.stays hs
            have hgc := hgb.cell
            have hgf := hgb.frozen
            have hac := (HA3.out.below hb2).cell
            have hlc := (HLB3.out.below hb2).cell
            have htb : Box W2 T 3 (.int .i64 1) := (HT.out.below HUV.out).keepA hk2 (fun e => by have := HT.out.lt; have := HNl.out; omega)
            have htc2 := (htb.other (a := ⟨N, 0, none⟩) (.int .i64 ((j : Int) + 1)) (by have := HT.out.lt; have := HNl.out; simp only; omega)).cell
            have hlc2 := ((HLB3.out.below hb2).other (a := ⟨N, 0, none⟩) (.int .i64 ((j : Int) + 1)) (by have := HLB3.out.lt; have := HNl.out; have := HV.out.size; simp only; omega)).cell
            have hnc2 := (hgb.set (.int .i64 ((j : Int) + 1))).cell
            have htc := htb.cell
            have HL4 := Lib.hid (HL3.out.mono hb2)
            have hjn : j ≤ k := by omega
            have hlen : (l.take j).length = j := by rw [List.length_take, ← HN.out]; omega
            have HLEN := Lib.hid hlen
            have HS := Lib.hid (KeepA.refl (fun b => b = N) W2 |>.setCell (a := ⟨N, 0, none⟩) (v := .int .i64 ((j : Int) + 1)) rfl)
            have HB : Hid (Box (W2.setCell ⟨N, 0, none⟩ (.int .i64 ((j : Int) + 1))) N 3 (.int .i64 ((j + 1 : Nat) : Int))) := hgb.set (.int .i64 ((j : Int) + 1))
            clear hb2 hkw hg hs hk2 hgb hlen htb
            gi_wp2_with fail
            refine ⟨trivial, (CallsIn.inRound lp (callsIn_wide.2 (refsum_any a (l.take j) j cap W2 HLEN.out.symm (by omega) (HL4.out.take j)))).mono ?_⟩
            rintro e _ ⟨rfl, rfl⟩
            gi_wp2_with fail
            exact ⟨HS.out, HB.out⟩
          case cdone_d =>
            rintro D W hD hkw hg hdf
            have hcount : ((k + 1 : Nat) : Int) = (k : Int) + 1 := by omega
            have hb2 : Below wr.heap.size wr W := HU.out.trans (hkw.below HU.out.size (fun b hb => by have := HNl.out; have := HV.out.size; omega))
            have hgc : W.cell? ⟨N, 0, none⟩ = some (.int .i64 ((k : Int) + 1)) := hg.cell
            have hac := (HA3.out.below hb2).cell
            have hlc := (HLB3.out.below hb2).cell
            have htb : Box W T 3 (.int .i64 1) := (HT.out.below HUV.out).keepA hkw (fun e => by have := HT.out.lt; have := HNl.out; omega)
            have htc := htb.cell
            have HW2 := Lib.hid hb2
            have HDF1 := Lib.hid hdf
            have HDl1 : Hid (wr.heap.size ≤ D) := Nat.le_trans HU.out.size hD
            have HDu1 : Hid (U.heap.size ≤ D) := hD
            have HKW := Lib.hid hkw
            have HTB := Lib.hid htb
            clear hb2 hdf hD hkw hg htb
            go_wp2_with fail
            have ht := Box.new W 3 (.int .i64 2)
            have hbT := below_alloc (w := W) (.cells #[.int .i64 2] 3)
            obtain ⟨T2, hT⟩ : ∃ T, T = W.heap.size := ⟨_, rfl⟩
            obtain ⟨V2, hV⟩ : ∃ V, V = W.alloc (.cells #[.int .i64 2] 3) := ⟨_, rfl⟩
            rw [← hV] at ht hbT ⊢
            rw [← hT] at ht ⊢
            have HT2 := Lib.hid ht
            have HTl2 : Hid (wr.heap.size ≤ T2) := by have := HW2.out.size; show _ ≤ _; omega
            have HV2 := Lib.hid (HW2.out.trans (hbT.mono HW2.out.size))
            have HD1 := Lib.hid ((hbT.block D (Array.getElem?_eq_some_iff.1 HDF1.out).1).trans HDF1.out)
            have HDE := Lib.hid ((hbT.block D0 (Nat.lt_of_lt_of_le (Array.getElem?_eq_some_iff.1 HDO.out).1 (Nat.le_trans HUV.out.size HKW.out.size))).trans ((HKW.out.same D0 (Nat.lt_of_lt_of_le (Array.getElem?_eq_some_iff.1 HDO.out).1 HUV.out.size) (fun e => by have := HNl.out; have := (Array.getElem?_eq_some_iff.1 HDO.out).1; omega)).trans ((HUV.out.block D0 (Array.getElem?_eq_some_iff.1 HDO.out).1).trans HDO.out)))
            clear ht hbT hT hV hgc hac hlc htc
            rw [rounds_succ]
            have hct := HT2.out.cell
            go_wp2_with fail
            refine (known_any _).mono ?_
            rintro e w9 ⟨rfl, hb9⟩
            have hrb := (HRB3.out.below HV2.out).below hb9
            have hc := hrb.cell
            have hf := hrb.frozen
            have HR9 := Lib.hid (hrb.set (.bool true))
            have HB9 := Lib.hid (((HB3.out.trans (HV2.out.mono HB3.out.size)).trans (hb9.mono (Nat.le_trans HB3.out.size HV2.out.size))).setCell (p := ⟨w.heap.size + 1 + 1, 0, none⟩) (by simp; omega) (.bool true))
            have hne : ∀ D, wr.heap.size ≤ D → D ≠ w.heap.size + 1 + 1 := fun D h => by have := HRB3.out.lt; omega
            have HE1 : Hid ((w9.setCell ⟨w.heap.size + 1 + 1, 0, none⟩ (.bool true)).heap[D]? = some (.deferred (some []))) := (heap_setCell_other w9 _ D _ (hne D HDl1.out)).trans ((hb9.block D (Array.getElem?_eq_some_iff.1 HD1.out).1).trans HD1.out)
            have HE0 : Hid ((w9.setCell ⟨w.heap.size + 1 + 1, 0, none⟩ (.bool true)).heap[D0]? = some (.deferred (some []))) := (heap_setCell_other w9 _ D0 _ (hne D0 HDlO.out)).trans ((hb9.block D0 (Array.getElem?_eq_some_iff.1 HDE.out).1).trans HDE.out)
            have HD01 : Hid (D ≠ D0) := fun e => by have h1 := HDu1.out; have h2 := (Array.getElem?_eq_some_iff.1 HDO.out).1; have h3 := HUV.out.size; omega
            have hsz4 := HB3.out.size
            clear hrb hb9 hct hne
            go_wp2
            refine post_marks [D, D0] rfl (by simp [HD01.out]) (by intro x hx; simp at hx; rcases hx with rfl | rfl; exact HE1.out; exact HE0.out) fun w' hk => ⟨.bool true, ?_, rfl, ?_⟩
            · exact results_box rfl rfl (HR9.out.keepA hk (fun hx => by have h1 := HRB3.out.lt; have h2 := HDl1.out; have h3 := HDlO.out; simp at hx; omega)) rfl Try.underlying4
            · exact HB9.out.trans (hk.below HB9.out.size (fun x hx => by have h2 := HDl1.out; have h3 := HDlO.out; simp at hx; omega))
          case cstop_d =>
            exact fun D c j W hD hj hkw h hdf => h.elim

        case cstop =>
          rintro D c j W hD hj hkw ⟨rfl, hjl, hg⟩ hdf
          have hjk : j ≤ k := by omega
          have hlvb : ((j : Int) + 1 == leave) = true := by simp; omega
          have hlvn : ((j : Int) + 1 != leave) = false := by simp; omega
          clear hjl
          by_cases hjk2 : j = k
          · have hjb : ((j : Int) + 1 != (k : Int) + 1) = false := by simp; omega
            clear hjk2
            have hb2 : Below wr.heap.size wr W := HU.out.trans (hkw.below HU.out.size (fun b hb => by have := HNl.out; have := HV.out.size; omega))
            have hgc : W.cell? ⟨N, 0, none⟩ = some (.int .i64 ((j : Int) + 1)) := hg.cell
            have hac := (HA3.out.below hb2).cell
            have hlc := (HLB3.out.below hb2).cell
            have htb : Box W T 3 (.int .i64 0) := (HT.out.below HUV.out).keepA hkw (fun e => by have := HT.out.lt; have := HNl.out; omega)
            have htc := htb.cell
            have HW2 := Lib.hid hb2
            have HDF0 := Lib.hid hdf
            have HDl0 : Hid (wr.heap.size ≤ D) := Nat.le_trans HU.out.size hD
            have HDu0 : Hid (U.heap.size ≤ D) := hD
            have HKW := Lib.hid hkw
            have HTB := Lib.hid htb
            clear hb2 hdf hD hkw hg htb
            go_wp2_with fail
            have ht := Box.new W 3 (.int .i64 1)
            have hbT := below_alloc (w := W) (.cells #[.int .i64 1] 3)
            obtain ⟨T2, hT⟩ : ∃ T, T = W.heap.size := ⟨_, rfl⟩
            obtain ⟨V2, hV⟩ : ∃ V, V = W.alloc (.cells #[.int .i64 1] 3) := ⟨_, rfl⟩
            rw [← hV] at ht hbT ⊢
            rw [← hT] at ht ⊢
            have HT2 := Lib.hid ht
            have HTl2 : Hid (wr.heap.size ≤ T2) := by have := HW2.out.size; show _ ≤ _; omega
            have HV2 := Lib.hid (HW2.out.trans (hbT.mono HW2.out.size))
            have HD0 := Lib.hid ((hbT.block D (Array.getElem?_eq_some_iff.1 HDF0.out).1).trans HDF0.out)

            clear ht hbT hT hV hgc hac hlc htc
            rw [rounds_succ]
            clear HT HTl HV HN0 HNl HU HUV HKW HTB HW2 HDF0 hrT HDu0
            have HDO := HD0
            have HDlO := HDl0
            clear HD0 HDl0
            obtain ⟨D0, hD0⟩ : ∃ x, x = D := ⟨_, rfl⟩
            rw [← hD0] at HDO HDlO ⊢
            clear hD0
            have HT := HT2
            have HTl := HTl2
            have HV := HV2
            clear HT2 HTl2 HV2
            obtain ⟨T, hTT⟩ : ∃ x, x = T2 := ⟨_, rfl⟩
            obtain ⟨V, hVV⟩ : ∃ x, x = V2 := ⟨_, rfl⟩
            rw [← hTT] at HT HTl ⊢
            rw [← hVV] at HT HV HDO ⊢
            clear hTT hVV
            have hct := HT.out.cell
            go_wp2_with fail
            have hn0 := Box.new V 3 (.int .i64 0)
            have hbN := below_alloc (w := V) (.cells #[.int .i64 0] 3)
            obtain ⟨N, hN⟩ : ∃ N, N = V.heap.size := ⟨_, rfl⟩
            obtain ⟨U, hU⟩ : ∃ U, U = V.alloc (.cells #[.int .i64 0] 3) := ⟨_, rfl⟩
            rw [← hU] at hn0 hbN ⊢
            rw [← hN] at hn0 ⊢
            have HN0 := Lib.hid hn0
            have HNl : Hid (V.heap.size ≤ N) := Nat.le_of_eq hN.symm
            have HU := Lib.hid (HV.out.trans (hbN.mono HV.out.size))
            have HUV := Lib.hid hbN
            clear hn0 hbN hN hU
            have hrT : wr.heap.size ≤ T := HTl.out
            refine wp_range (gf := 21) (lb := #[.pointer (some ⟨B, 0, none⟩)]) rfl (enters_of Try.func21 (by kernel_rfl) rfl) (fun b => b = N) (len := k + 1)
              (all1_stops U B aa k ca l HN.out (by omega) ?cbox_s ?cl_s _ ?cB_s ?ca_s ?cX_s) ?cX_s ?cps_s (fun j W => Box W N 3 (.int .i64 (j : Int))) (fun _ _ _ => False)
              ?cG_s ?cGx_s ?c0_s ?cround_s ?cdone_s ?cstop_s
            case cbox_s => exact (HU.out.cell (p := ⟨B, 0, none⟩) (World.block_lt_of_cell? wr _ HBOX3.out)).trans HBOX3.out
            case cl_s => exact HRA3.out.mono HU.out
            case cB_s => have h1 := World.block_lt_of_cell? wr _ HBOX3.out; have h2 := HNl.out; have h3 := HV.out.size; simp only at h1; omega
            case ca_s => intro b off ha h0 hbN; have h2 := HNl.out; have h3 := HV.out.size; obtain ⟨b', off', ha', hlt', _⟩ := HRA3.out.at h0; rw [ha] at ha'; simp only [Option.some.injEq, Addr.mk.injEq, and_true] at ha'; omega
            case cX_s => intro b hb; rw [hb]; exact HN0.out.lt
            case cps_s => rintro j args W rfl; rfl
            case cG_s => exact fun j W W' h hs => h.stays hs
            case cGx_s => exact fun c j W W' h hs => h
            case c0_s => exact HN0.out
            case cround_s =>
              rintro lp j args W hj rfl hkw hg
              gi_wp2
              refine ⟨KeepA.refl _ _, fun W2 hs hk2 => ?_⟩
              have hb2 : Below wr.heap.size wr W2 := HU.out.trans (hk2.below HU.out.size (fun b hb => by have := HNl.out; have := HV.out.size; omega))
              have hgb := hg.stays hs
              have hgc := hgb.cell
              have hgf := hgb.frozen
              have hac := (HA3.out.below hb2).cell
              have hlc := (HLB3.out.below hb2).cell
              have htb : Box W2 T 3 (.int .i64 1) := (HT.out.below HUV.out).keepA hk2 (fun e => by have := HT.out.lt; have := HNl.out; omega)
              have htc2 := (htb.other (a := ⟨N, 0, none⟩) (.int .i64 ((j : Int) + 1)) (by have := HT.out.lt; have := HNl.out; simp only; omega)).cell
              have hlc2 := ((HLB3.out.below hb2).other (a := ⟨N, 0, none⟩) (.int .i64 ((j : Int) + 1)) (by have := HLB3.out.lt; have := HNl.out; have := HV.out.size; simp only; omega)).cell
              have hnc2 := (hgb.set (.int .i64 ((j : Int) + 1))).cell
              have htc := htb.cell
              have HL4 := Lib.hid (HL3.out.mono hb2)
              have hjn : j ≤ k := by omega
              have hlen : (l.take j).length = j := by rw [List.length_take, ← HN.out]; omega
              have HLEN := Lib.hid hlen
              have HS := Lib.hid (KeepA.refl (fun b => b = N) W2 |>.setCell (a := ⟨N, 0, none⟩) (v := .int .i64 ((j : Int) + 1)) rfl)
              have HB : Hid (Box (W2.setCell ⟨N, 0, none⟩ (.int .i64 ((j : Int) + 1))) N 3 (.int .i64 ((j + 1 : Nat) : Int))) := hgb.set (.int .i64 ((j : Int) + 1))
              clear hb2 hkw hg hs hk2 hgb hlen htb
              gi_wp2_with fail
              refine ⟨trivial, (CallsIn.inRound lp (callsIn_wide.2 (refsum_any a (l.take j) j cap W2 HLEN.out.symm (by omega) (HL4.out.take j)))).mono ?_⟩
              rintro e _ ⟨rfl, rfl⟩
              gi_wp2_with fail
              exact ⟨HS.out, HB.out⟩
            case cdone_s =>
              rintro D W hD hkw hg hdf
              have hcount : ((k + 1 : Nat) : Int) = (k : Int) + 1 := by omega
              have hb2 : Below wr.heap.size wr W := HU.out.trans (hkw.below HU.out.size (fun b hb => by have := HNl.out; have := HV.out.size; omega))
              have hgc : W.cell? ⟨N, 0, none⟩ = some (.int .i64 ((k : Int) + 1)) := hg.cell
              have hac := (HA3.out.below hb2).cell
              have hlc := (HLB3.out.below hb2).cell
              have htb : Box W T 3 (.int .i64 1) := (HT.out.below HUV.out).keepA hkw (fun e => by have := HT.out.lt; have := HNl.out; omega)
              have htc := htb.cell
              have HW2 := Lib.hid hb2
              have HDF1 := Lib.hid hdf
              have HDl1 : Hid (wr.heap.size ≤ D) := Nat.le_trans HU.out.size hD
              have HDu1 : Hid (U.heap.size ≤ D) := hD
              have HKW := Lib.hid hkw
              have HTB := Lib.hid htb
              clear hb2 hdf hD hkw hg htb
              go_wp2_with fail
              have ht := Box.new W 3 (.int .i64 2)
              have hbT := below_alloc (w := W) (.cells #[.int .i64 2] 3)
              obtain ⟨T2, hT⟩ : ∃ T, T = W.heap.size := ⟨_, rfl⟩
              obtain ⟨V2, hV⟩ : ∃ V, V = W.alloc (.cells #[.int .i64 2] 3) := ⟨_, rfl⟩
              rw [← hV] at ht hbT ⊢
              rw [← hT] at ht ⊢
              have HT2 := Lib.hid ht
              have HTl2 : Hid (wr.heap.size ≤ T2) := by have := HW2.out.size; show _ ≤ _; omega
              have HV2 := Lib.hid (HW2.out.trans (hbT.mono HW2.out.size))
              have HD1 := Lib.hid ((hbT.block D (Array.getElem?_eq_some_iff.1 HDF1.out).1).trans HDF1.out)
              have HDE := Lib.hid ((hbT.block D0 (Nat.lt_of_lt_of_le (Array.getElem?_eq_some_iff.1 HDO.out).1 (Nat.le_trans HUV.out.size HKW.out.size))).trans ((HKW.out.same D0 (Nat.lt_of_lt_of_le (Array.getElem?_eq_some_iff.1 HDO.out).1 HUV.out.size) (fun e => by have := HNl.out; have := (Array.getElem?_eq_some_iff.1 HDO.out).1; omega)).trans ((HUV.out.block D0 (Array.getElem?_eq_some_iff.1 HDO.out).1).trans HDO.out)))
              clear ht hbT hT hV hgc hac hlc htc
              rw [rounds_succ]
              have hct := HT2.out.cell
              go_wp2_with fail
              refine (known_any _).mono ?_
              rintro e w9 ⟨rfl, hb9⟩
              have hrb := (HRB3.out.below HV2.out).below hb9
              have hc := hrb.cell
              have hf := hrb.frozen
              have HR9 := Lib.hid (hrb.set (.bool true))
              have HB9 := Lib.hid (((HB3.out.trans (HV2.out.mono HB3.out.size)).trans (hb9.mono (Nat.le_trans HB3.out.size HV2.out.size))).setCell (p := ⟨w.heap.size + 1 + 1, 0, none⟩) (by simp; omega) (.bool true))
              have hne : ∀ D, wr.heap.size ≤ D → D ≠ w.heap.size + 1 + 1 := fun D h => by have := HRB3.out.lt; omega
              have HE1 : Hid ((w9.setCell ⟨w.heap.size + 1 + 1, 0, none⟩ (.bool true)).heap[D]? = some (.deferred (some []))) := (heap_setCell_other w9 _ D _ (hne D HDl1.out)).trans ((hb9.block D (Array.getElem?_eq_some_iff.1 HD1.out).1).trans HD1.out)
              have HE0 : Hid ((w9.setCell ⟨w.heap.size + 1 + 1, 0, none⟩ (.bool true)).heap[D0]? = some (.deferred (some []))) := (heap_setCell_other w9 _ D0 _ (hne D0 HDlO.out)).trans ((hb9.block D0 (Array.getElem?_eq_some_iff.1 HDE.out).1).trans HDE.out)
              have HD01 : Hid (D ≠ D0) := fun e => by have h1 := HDu1.out; have h2 := (Array.getElem?_eq_some_iff.1 HDO.out).1; have h3 := HUV.out.size; omega
              have hsz4 := HB3.out.size
              clear hrb hb9 hct hne
              go_wp2
              refine post_marks [D, D0] rfl (by simp [HD01.out]) (by intro x hx; simp at hx; rcases hx with rfl | rfl; exact HE1.out; exact HE0.out) fun w' hk => ⟨.bool true, ?_, rfl, ?_⟩
              · exact results_box rfl rfl (HR9.out.keepA hk (fun hx => by have h1 := HRB3.out.lt; have h2 := HDl1.out; have h3 := HDlO.out; simp at hx; omega)) rfl Try.underlying4
              · exact HB9.out.trans (hk.below HB9.out.size (fun x hx => by have h2 := HDl1.out; have h3 := HDlO.out; simp at hx; omega))
            case cstop_s =>
              exact fun D c j W hD hj hkw h hdf => h.elim

          · have hjb : ((j : Int) + 1 != (k : Int) + 1) = true := by simp; omega
            clear hjk2
            have hb2 : Below wr.heap.size wr W := HU.out.trans (hkw.below HU.out.size (fun b hb => by have := HNl.out; have := HV.out.size; omega))
            have hgc : W.cell? ⟨N, 0, none⟩ = some (.int .i64 ((j : Int) + 1)) := hg.cell
            have hac := (HA3.out.below hb2).cell
            have hlc := (HLB3.out.below hb2).cell
            have htb : Box W T 3 (.int .i64 0) := (HT.out.below HUV.out).keepA hkw (fun e => by have := HT.out.lt; have := HNl.out; omega)
            have htc := htb.cell
            have HW2 := Lib.hid hb2
            have HDF0 := Lib.hid hdf
            have HDl0 : Hid (wr.heap.size ≤ D) := Nat.le_trans HU.out.size hD
            have HDu0 : Hid (U.heap.size ≤ D) := hD
            have HKW := Lib.hid hkw
            have HTB := Lib.hid htb
            clear hb2 hdf hD hkw hg htb
            go_wp2_with fail
            have ht := Box.new W 3 (.int .i64 1)
            have hbT := below_alloc (w := W) (.cells #[.int .i64 1] 3)
            obtain ⟨T2, hT⟩ : ∃ T, T = W.heap.size := ⟨_, rfl⟩
            obtain ⟨V2, hV⟩ : ∃ V, V = W.alloc (.cells #[.int .i64 1] 3) := ⟨_, rfl⟩
            rw [← hV] at ht hbT ⊢
            rw [← hT] at ht ⊢
            have HT2 := Lib.hid ht
            have HTl2 : Hid (wr.heap.size ≤ T2) := by have := HW2.out.size; show _ ≤ _; omega
            have HV2 := Lib.hid (HW2.out.trans (hbT.mono HW2.out.size))
            have HD0 := Lib.hid ((hbT.block D (Array.getElem?_eq_some_iff.1 HDF0.out).1).trans HDF0.out)

            clear ht hbT hT hV hgc hac hlc htc
            rw [rounds_succ]
            clear HT HTl HV HN0 HNl HU HUV HKW HTB HW2 HDF0 hrT HDu0
            have HDO := HD0
            have HDlO := HDl0
            clear HD0 HDl0
            obtain ⟨D0, hD0⟩ : ∃ x, x = D := ⟨_, rfl⟩
            rw [← hD0] at HDO HDlO ⊢
            clear hD0
            have HT := HT2
            have HTl := HTl2
            have HV := HV2
            clear HT2 HTl2 HV2
            obtain ⟨T, hTT⟩ : ∃ x, x = T2 := ⟨_, rfl⟩
            obtain ⟨V, hVV⟩ : ∃ x, x = V2 := ⟨_, rfl⟩
            rw [← hTT] at HT HTl ⊢
            rw [← hVV] at HT HV HDO ⊢
            clear hTT hVV
            have hct := HT.out.cell
            go_wp2_with fail
            have hn0 := Box.new V 3 (.int .i64 0)
            have hbN := below_alloc (w := V) (.cells #[.int .i64 0] 3)
            obtain ⟨N, hN⟩ : ∃ N, N = V.heap.size := ⟨_, rfl⟩
            obtain ⟨U, hU⟩ : ∃ U, U = V.alloc (.cells #[.int .i64 0] 3) := ⟨_, rfl⟩
            rw [← hU] at hn0 hbN ⊢
            rw [← hN] at hn0 ⊢
            have HN0 := Lib.hid hn0
            have HNl : Hid (V.heap.size ≤ N) := Nat.le_of_eq hN.symm
            have HU := Lib.hid (HV.out.trans (hbN.mono HV.out.size))
            have HUV := Lib.hid hbN
            clear hn0 hbN hN hU
            have hrT : wr.heap.size ≤ T := HTl.out
            refine wp_range (gf := 21) (lb := #[.pointer (some ⟨B, 0, none⟩)]) rfl (enters_of Try.func21 (by kernel_rfl) rfl) (fun b => b = N) (len := k + 1)
              (all1_stops U B aa k ca l HN.out (by omega) ?cbox_t ?cl_t _ ?cB_t ?ca_t ?cX_t) ?cX_t ?cps_t (fun j W => Box W N 3 (.int .i64 (j : Int))) (fun _ _ _ => False)
              ?cG_t ?cGx_t ?c0_t ?cround_t ?cdone_t ?cstop_t
            case cbox_t => exact (HU.out.cell (p := ⟨B, 0, none⟩) (World.block_lt_of_cell? wr _ HBOX3.out)).trans HBOX3.out
            case cl_t => exact HRA3.out.mono HU.out
            case cB_t => have h1 := World.block_lt_of_cell? wr _ HBOX3.out; have h2 := HNl.out; have h3 := HV.out.size; simp only at h1; omega
            case ca_t => intro b off ha h0 hbN; have h2 := HNl.out; have h3 := HV.out.size; obtain ⟨b', off', ha', hlt', _⟩ := HRA3.out.at h0; rw [ha] at ha'; simp only [Option.some.injEq, Addr.mk.injEq, and_true] at ha'; omega
            case cX_t => intro b hb; rw [hb]; exact HN0.out.lt
            case cps_t => rintro j args W rfl; rfl
            case cG_t => exact fun j W W' h hs => h.stays hs
            case cGx_t => exact fun c j W W' h hs => h
            case c0_t => exact HN0.out
            case cround_t =>
              rintro lp j args W hj rfl hkw hg
              gi_wp2
              refine ⟨KeepA.refl _ _, fun W2 hs hk2 => ?_⟩
              have hb2 : Below wr.heap.size wr W2 := HU.out.trans (hk2.below HU.out.size (fun b hb => by have := HNl.out; have := HV.out.size; omega))
              have hgb := hg.stays hs
              have hgc := hgb.cell
              have hgf := hgb.frozen
              have hac := (HA3.out.below hb2).cell
              have hlc := (HLB3.out.below hb2).cell
              have htb : Box W2 T 3 (.int .i64 1) := (HT.out.below HUV.out).keepA hk2 (fun e => by have := HT.out.lt; have := HNl.out; omega)
              have htc2 := (htb.other (a := ⟨N, 0, none⟩) (.int .i64 ((j : Int) + 1)) (by have := HT.out.lt; have := HNl.out; simp only; omega)).cell
              have hlc2 := ((HLB3.out.below hb2).other (a := ⟨N, 0, none⟩) (.int .i64 ((j : Int) + 1)) (by have := HLB3.out.lt; have := HNl.out; have := HV.out.size; simp only; omega)).cell
              have hnc2 := (hgb.set (.int .i64 ((j : Int) + 1))).cell
              have htc := htb.cell
              have HL4 := Lib.hid (HL3.out.mono hb2)
              have hjn : j ≤ k := by omega
              have hlen : (l.take j).length = j := by rw [List.length_take, ← HN.out]; omega
              have HLEN := Lib.hid hlen
              have HS := Lib.hid (KeepA.refl (fun b => b = N) W2 |>.setCell (a := ⟨N, 0, none⟩) (v := .int .i64 ((j : Int) + 1)) rfl)
              have HB : Hid (Box (W2.setCell ⟨N, 0, none⟩ (.int .i64 ((j : Int) + 1))) N 3 (.int .i64 ((j + 1 : Nat) : Int))) := hgb.set (.int .i64 ((j : Int) + 1))
              clear hb2 hkw hg hs hk2 hgb hlen htb
              gi_wp2_with fail
              refine ⟨trivial, (CallsIn.inRound lp (callsIn_wide.2 (refsum_any a (l.take j) j cap W2 HLEN.out.symm (by omega) (HL4.out.take j)))).mono ?_⟩
              rintro e _ ⟨rfl, rfl⟩
              gi_wp2_with fail
              exact ⟨HS.out, HB.out⟩
            case cdone_t =>
              rintro D W hD hkw hg hdf
              have hcount : ((k + 1 : Nat) : Int) = (k : Int) + 1 := by omega
              have hb2 : Below wr.heap.size wr W := HU.out.trans (hkw.below HU.out.size (fun b hb => by have := HNl.out; have := HV.out.size; omega))
              have hgc : W.cell? ⟨N, 0, none⟩ = some (.int .i64 ((k : Int) + 1)) := hg.cell
              have hac := (HA3.out.below hb2).cell
              have hlc := (HLB3.out.below hb2).cell
              have htb : Box W T 3 (.int .i64 1) := (HT.out.below HUV.out).keepA hkw (fun e => by have := HT.out.lt; have := HNl.out; omega)
              have htc := htb.cell
              have HW2 := Lib.hid hb2
              have HDF1 := Lib.hid hdf
              have HDl1 : Hid (wr.heap.size ≤ D) := Nat.le_trans HU.out.size hD
              have HDu1 : Hid (U.heap.size ≤ D) := hD
              have HKW := Lib.hid hkw
              have HTB := Lib.hid htb
              clear hb2 hdf hD hkw hg htb
              go_wp2_with fail
              have ht := Box.new W 3 (.int .i64 2)
              have hbT := below_alloc (w := W) (.cells #[.int .i64 2] 3)
              obtain ⟨T2, hT⟩ : ∃ T, T = W.heap.size := ⟨_, rfl⟩
              obtain ⟨V2, hV⟩ : ∃ V, V = W.alloc (.cells #[.int .i64 2] 3) := ⟨_, rfl⟩
              rw [← hV] at ht hbT ⊢
              rw [← hT] at ht ⊢
              have HT2 := Lib.hid ht
              have HTl2 : Hid (wr.heap.size ≤ T2) := by have := HW2.out.size; show _ ≤ _; omega
              have HV2 := Lib.hid (HW2.out.trans (hbT.mono HW2.out.size))
              have HD1 := Lib.hid ((hbT.block D (Array.getElem?_eq_some_iff.1 HDF1.out).1).trans HDF1.out)
              have HDE := Lib.hid ((hbT.block D0 (Nat.lt_of_lt_of_le (Array.getElem?_eq_some_iff.1 HDO.out).1 (Nat.le_trans HUV.out.size HKW.out.size))).trans ((HKW.out.same D0 (Nat.lt_of_lt_of_le (Array.getElem?_eq_some_iff.1 HDO.out).1 HUV.out.size) (fun e => by have := HNl.out; have := (Array.getElem?_eq_some_iff.1 HDO.out).1; omega)).trans ((HUV.out.block D0 (Array.getElem?_eq_some_iff.1 HDO.out).1).trans HDO.out)))
              clear ht hbT hT hV hgc hac hlc htc
              rw [rounds_succ]
              have hct := HT2.out.cell
              go_wp2_with fail
              refine (known_any _).mono ?_
              rintro e w9 ⟨rfl, hb9⟩
              have hrb := (HRB3.out.below HV2.out).below hb9
              have hc := hrb.cell
              have hf := hrb.frozen
              have HR9 := Lib.hid (hrb.set (.bool true))
              have HB9 := Lib.hid (((HB3.out.trans (HV2.out.mono HB3.out.size)).trans (hb9.mono (Nat.le_trans HB3.out.size HV2.out.size))).setCell (p := ⟨w.heap.size + 1 + 1, 0, none⟩) (by simp; omega) (.bool true))
              have hne : ∀ D, wr.heap.size ≤ D → D ≠ w.heap.size + 1 + 1 := fun D h => by have := HRB3.out.lt; omega
              have HE1 : Hid ((w9.setCell ⟨w.heap.size + 1 + 1, 0, none⟩ (.bool true)).heap[D]? = some (.deferred (some []))) := (heap_setCell_other w9 _ D _ (hne D HDl1.out)).trans ((hb9.block D (Array.getElem?_eq_some_iff.1 HD1.out).1).trans HD1.out)
              have HE0 : Hid ((w9.setCell ⟨w.heap.size + 1 + 1, 0, none⟩ (.bool true)).heap[D0]? = some (.deferred (some []))) := (heap_setCell_other w9 _ D0 _ (hne D0 HDlO.out)).trans ((hb9.block D0 (Array.getElem?_eq_some_iff.1 HDE.out).1).trans HDE.out)
              have HD01 : Hid (D ≠ D0) := fun e => by have h1 := HDu1.out; have h2 := (Array.getElem?_eq_some_iff.1 HDO.out).1; have h3 := HUV.out.size; omega
              have hsz4 := HB3.out.size
              clear hrb hb9 hct hne
              go_wp2
              refine post_marks [D, D0] rfl (by simp [HD01.out]) (by intro x hx; simp at hx; rcases hx with rfl | rfl; exact HE1.out; exact HE0.out) fun w' hk => ⟨.bool true, ?_, rfl, ?_⟩
              · exact results_box rfl rfl (HR9.out.keepA hk (fun hx => by have h1 := HRB3.out.lt; have h2 := HDl1.out; have h3 := HDlO.out; simp at hx; omega)) rfl Try.underlying4
              · exact HB9.out.trans (hk.below HB9.out.size (fun x hx => by have h2 := HDl1.out; have h3 := HDlO.out; simp at hx; omega))
            case cstop_t =>
              exact fun D c j W hD hj hkw h hdf => h.elim
end Go.Proofs.Ytiebcdobcnjmgaa
