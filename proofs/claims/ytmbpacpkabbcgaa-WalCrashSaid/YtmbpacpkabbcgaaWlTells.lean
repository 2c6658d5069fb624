/- tells of lexiconlaw03: a log tells its batches. (Printed by gen_tells.py.) -/
import Derived.Test.YtmbpacpkabbcgaaWlSame
namespace Go.Proofs.Ytmbpacpkabbcgaa
open Go.RowKit

attribute [local go_sem] Oper.semAt_some
theorem ownB_stays {B : Nat} {w w' : World} (hs : Stays B w w') {base : Nat} {e : TypeId} {v : Value} {l : List UInt8} (h : OwnB w base e v l) : OwnB w' base e v l := by
  refine ⟨h.1, ?_⟩
  rcases h.2 with h | ⟨g, cap, cur, hv, hg, hh, r⟩
  · exact .inl h
  · exact .inr ⟨g, cap, cur, hv, hg, hs g _ hh (.inr rfl), r⟩
def upX (N : Nat) : Nat → Prop := fun x => x = N ∨ N + 3 ≤ x
set_option maxRecDepth 100000 in
set_option maxHeartbeats 8000000 in
theorem tells_any (w : World) (lb d : Nat) (from_ : Int) (n run base : Nat) (allv : Value) (used : Nat) (dead : Bool) (bs : List (List UInt8)) (h : LgRow w lb d from_ n run base allv used dead)
    (hB : Bats w 0 allv bs) (hn : n ≤ 65536) (hu : used ≤ 65536) (hbn : bs.length ≤ 1000000) (hs : ∀ b ∈ bs, b.length ≤ 100000000) (a : Option Addr) (m cap : Nat) (hm : m = bs.length) (hw : Rd w a (bs.map strV)) :
    Calls Try.prog 19 #[.pointer (some ⟨lb, 0, none⟩), .slice a m cap] w fun e w' => e = .returned (.bool true) ∧ Below w.heap.size w w' := by
  have HL := Lib.hid h
  have HBT := Lib.hid hB
  have HS := Lib.hid hs
  have HM := Lib.hid hm
  have HW := Lib.hid hw
  obtain ⟨av, cv, rfl, -⟩ := hB.at2
  clear h hB hs hw
  rw [← hm] at HBT HL hbn
  clear hm
  refine calls_of_wp_marks Try.func19 rfl ?_
  simp only [Try.ntmps19, List.size_toArray, List.length_cons, List.length_nil, Nat.reduceAdd, Nat.reduceSub, Array.replicate_succ, Array.replicate_zero, List.push_toArray, List.append_toArray, List.nil_append, List.cons_append]
  go_upto_region 1 with fail
  have ha := (Box.new w 39 (.slice a m cap)).below (below_alloc (.cells #[.bool false] 4))
  have hrb := Box.new (w.alloc (.cells #[.slice a m cap] 39)) 4 (.bool false)
  have hb0 := below_trans (below_alloc (w := w) (.cells #[.slice a m cap] 39)) (below_alloc (.cells #[.bool false] 4))
  simp only [World.size_alloc] at hrb
  have hs0 : ((w.alloc (.cells #[.slice a m cap] 39)).alloc (.cells #[.bool false] 4)).heap.size = w.heap.size + 2 := by simp
  generalize (w.alloc (.cells #[.slice a m cap] 39)).alloc (.cells #[.bool false] 4) = W0 at *
  obtain ⟨g0, hg0⟩ : ∃ x, w.heap.size = x := ⟨_, rfl⟩
  have HB0 : Hid (Below g0 w W0) := by show Below _ _ _; rw [← hg0]; exact hb0
  have HBW : Hid (Below w.heap.size w W0) := hb0
  rw [hg0] at ha hrb hs0
  have HA := Lib.hid ha
  have HRB := Lib.hid hrb
  have HG0 := Lib.hid hg0
  have HBC := Lib.hid (batches_any W0 lb d from_ n run base _ used dead bs (RowAt.below HL.out hb0) (HBT.out.later hb0) (by rw [← HM.out]; exact hbn) HS.out)
  rw [hg0]
  clear ha hrb hb0 hg0
  go_wp2_with fail
  refine HBC.out.mono ?_
  rintro e w3 ⟨⟨B, v, rfl, hgB, hbx, hv⟩, hb3⟩
  have HBX := Lib.hid hbx
  have HV := Lib.hid hv
  have HBS : Hid (Below w.heap.size w w3) := HBW.out.trans (hb3.mono HBW.out.size)
  have HW3 : Hid (Rd w3 a (bs.map strV)) := Rd.keepA HW.out (KeepA.of_below (X := fun _ => False) HBS.out) (fun _ _ _ _ h => h)
  have HL3 : Hid (LgRow w3 lb d from_ n run base _ used dead) := RowAt.below HL.out HBS.out
  have HA3 := Lib.hid (HA.out.below hb3)
  have HRB3 := Lib.hid (HRB.out.below hb3)
  have HB3 : Hid (Below g0 w w3) := HB0.out.trans (hb3.mono (by omega))
  have hs3 : g0 + 2 ≤ w3.heap.size := by have := hb3.size; omega
  have hBl : B < w3.heap.size := hbx.lt
  have hgB2 : g0 + 2 ≤ B := by omega
  have hlb3 : lb < g0 := by have := HL.out.lt; rw [HG0.out] at this; exact this
  clear hgB hbx hv hb3 HA HRB HBC HW HL HB0 HBW hs0
  have hfn : ∀ (w : World) (f : Fn) (x y : Array Value), Hid ((binOp .eql 91 (.func f x y) .nilFunc).run Try.prog w = .ok (.bool false) w) := fun _ _ _ _ => rfl
  have h0 := (hfn w3 (.func 57) #[] #[.pointer (some ⟨B, 0, none⟩)]).out
  clear hfn
  go_wp2_with fail
  clear h0
  obtain ⟨T, hT⟩ : ∃ T, w3.heap.size = T := ⟨_, rfl⟩
  obtain ⟨V, hV⟩ : ∃ V, w3.alloc (.cells #[.int .i64 0] 3) = V := ⟨_, rfl⟩
  have HT0 : Hid (Box V T 3 (.int .i64 0)) := by show Box _ _ _ _; rw [← hV, ← hT]; exact Box.new _ _ _
  have HBV : Hid (Below w3.heap.size w3 V) := by show Below _ _ _; rw [← hV]; exact below_alloc _
  have HTl : Hid (w3.heap.size ≤ T) := Nat.le_of_eq hT
  have HTV : Hid (V.heap.size = T + 1) := by show _ = _; rw [← hV, ← hT]; simp
  have hwm : ∀ k (hk : k < m), ∃ b2 o2, a = some ⟨b2, o2, none⟩ ∧ b2 < w3.heap.size ∧ w3.cell? ⟨b2, o2 + k, none⟩ = some (.string (str (bs[k]'(by rw [← HM.out]; exact hk)))) := fun k hk => by
    obtain ⟨b2, o2, ha2, hlt2, hcell⟩ := HW3.out.resolve_left (by intro e; have := congrArg List.length e; simp only [List.length_map, List.length_nil] at this; have := HM.out; omega)
    have hc2 := hcell k (by rw [List.length_map, ← HM.out]; exact hk)
    rw [List.getElem_map] at hc2
    exact ⟨b2, o2, ha2, hlt2, hc2⟩
  have HWM := Lib.hid hwm
  clear hwm
  try rw [hV]
  try rw [hT]
  clear hT hV
  refine wp_loop_rounds 3 ?_
  rw [rounds_succ]
  have hct := HT0.out.cell
  go_wp2_with fail
  obtain ⟨N, hN⟩ : ∃ N, V.heap.size = N := ⟨_, rfl⟩
  obtain ⟨U, hU⟩ : ∃ U, V.alloc (.cells #[.int .i64 0] 3) = U := ⟨_, rfl⟩
  have HN0 : Hid (Box U N 3 (.int .i64 0)) := by show Box _ _ _ _; rw [← hU, ← hN]; exact Box.new _ _ _
  have HUV : Hid (Below V.heap.size V U) := by show Below _ _ _; rw [← hU]; exact below_alloc _
  have HUs : Hid (U.heap.size = N + 1) := by show _ = _; rw [← hU, ← hN]; simp
  have HBU : Hid (Below w3.heap.size w3 U) := HBV.out.trans (HUV.out.mono HBV.out.size)
  have HTU := Lib.hid (HT0.out.below HUV.out)
  have hTN : T < N := by rw [← hN]; exact HT0.out.lt
  have hNw : w3.heap.size ≤ N := Nat.le_trans HTl.out (Nat.le_of_lt hTN)
  have HNV := Lib.hid hN
  try rw [hU]
  try rw [hN]
  clear hN hU hct
  have hst := batches_stops w3 U HBU.out B v bs W0.heap.size ((RowAt.below HBX.out HBU.out).cell 0) HV.out (by rw [← HM.out]; exact hbn) HS.out (upX N) (fun x hx => by rcases hx with h | h <;> omega)
  rw [← HM.out] at hst
  refine wp_rangeB (gf := 57) (lb := #[.pointer (some ⟨B, 0, none⟩)]) rfl (enters_of Try.func57 (by kernel_rfl) rfl) 2 (fun a w h => wp_exit h) (upX N) (len := m) hst (fun k hk => by rw [HUs.out]; rcases hk with h | h <;> omega) ?cps0 (fun k W => Box W N 3 (.int .i64 (k : Int))) ?cG0 ?c00 ?cround0 ?cdone0
  case cps0 => rintro j args W ⟨b, u, _, rfl, _⟩; rfl
  case cG0 => exact fun j W W' h hs => h.stays hs
  case c00 => exact HN0.out
  case cround0 =>
    rintro lp k args W hk ⟨b, u, hget, rfl, hown⟩ hkw hg
    rw [HUs.out] at hown
    have hkb : k < bs.length := by rw [← HM.out]; exact hk
    have hbk : bs[k] = b := by rw [List.getElem?_eq_getElem hkb] at hget; exact Option.some.inj hget
    have HOWN := Lib.hid hown
    have HG := Lib.hid hg
    obtain ⟨a1, c1, rfl, hc1, -⟩ := hown.rd
    obtain ⟨lb1, hlb1⟩ : ∃ z, b.length = z := ⟨_, rfl⟩
    have hbl1 : lb1 ≤ 100000000 := by rw [← hlb1, ← hbk]; exact HS.out _ (List.getElem_mem hkb)
    obtain ⟨b2, o2, rfl, hlt2, hcw⟩ := HWM.out k hk
    rw [hbk] at hcw
    obtain ⟨S, hS⟩ : ∃ S, str b = S := ⟨_, rfl⟩
    rw [hS] at hcw
    rw [hlb1] at HOWN hc1 ⊢
    have HLB1 := Lib.hid hlb1
    have HS1 := Lib.hid hS
    clear hown hg hget hbk hst hS hlb1
    gi_wp2
    refine ⟨KeepA.refl _ _, fun W2 hs2 hk2 hsz2 => ?_⟩
    have q0 := HG.out.stays hs2
    have c0 := q0.cell
    have z0 := q0.frozen
    have cw : W2.cell? ⟨b2, o2 + k, none⟩ = some (.string S) := hk2.cell (cell_later HBU.out hlt2 hcw) (by rintro (h | h) <;> (dsimp only at h; omega))
    have ca : W2.cell? ⟨g0, 0, none⟩ = some (.slice (some ⟨b2, o2, none⟩) m cap) := hk2.cell ((HA3.out.below HBU.out).cell) (by rintro (h | h) <;> (dsimp only at h; omega))
    have qt : Box W2 T 3 (.int .i64 0) := HTU.out.keepA hk2 (by rintro (h | h) <;> omega)
    have ct := qt.cell
    have HO2 := Lib.hid (ownB_stays hs2 HOWN.out)
    have hr2 : RdB W2 a1 b := by obtain ⟨a9, c9, e9, -, r9⟩ := HO2.out.rd; simp only [Value.slice.injEq] at e9; rw [e9.1]; exact r9
    have he : (S.toList == S.toList) = true := by simp
    have hcv : ∀ nq, (convert 41 9 (.slice a1 lb1 c1)).run Try.prog (W2.drewN nq) = .ok (.string S) (W2.drewN nq) := fun nq => convS a1 b lb1 c1 S HLB1.out.symm HS1.out _ (hr2.mono (drewN_below (Below.refl _ W2) nq))
    have hkm : decide (m ≤ k) = false := by simpa using hk
    have hkmd : decide (k < m) = true := by simpa using hk
    have hkm2 : (k : Int) < (m : Int) := by omega
    have Q0 := Lib.hid q0
    have QT := Lib.hid qt
    have HZ2 := Lib.hid hsz2
    clear hr2 q0 qt hs2 hk2 hsz2 hcw
    gi_wp2_with fail
    refine wpIn_region_quiet_round (by kernel_rfl) (by kernel_rfl) (by kernel_rfl) ?_
    repeat (go_big_quiet_step (fail))
    refine wpQuiet_nil ?_
    rintro _ ⟨nq, rfl⟩
    obtain ⟨W4, hW4⟩ : ∃ x, W2.drewN nq = x := ⟨_, rfl⟩
    have hb4 : Below W2.heap.size W2 W4 := by rw [← hW4]; exact drewN_below (Below.refl _ W2) nq
    have HK4 := Lib.hid (KeepA.of_below (X := upX N) hb4)
    have HX4 : Hid (OwnW W4 (N + 3) (.slice a1 lb1 c1) (b.map bv)) := by
      have h := OwnW.of_own (HO2.out.kept hb4 (Nat.le_refl _))
      exact h
    have Q4 := Lib.hid (Q0.out.below hb4)
    have QT4 := Lib.hid (QT.out.below hb4)
    rw [hW4]
    clear hW4 hb4 hcv he c0 z0 cw ca ct HO2 Q0 QT
    gi_wp2
    gi_loopw [10] (fun i wr => ∃ j : Nat, ∃ lx : List UInt8, j ≤ lb1 ∧ i = .int .i64 j ∧ lx.length = lb1 ∧ OwnW wr (N + 3) (.slice a1 lb1 c1) (lx.map bv) ∧ Box wr N 3 (.int .i64 (k : Int)) ∧ Box wr T 3 (.int .i64 0) ∧ KeepA (upX N) W4 wr) (fun i _ => lb1 - (intOf i).toNat)
    case atStart => exact ⟨0, b, by omega, rfl, HLB1.out, HX4.out, Q4.out, QT4.out, KeepA.refl _ _⟩
    case round =>
      obtain ⟨j, lx, hj, rfl, hlx, hxo, hq0, hqt, hkk⟩ := hrel
      have HLX := Lib.hid hlx
      have HXO := Lib.hid hxo
      have HQ0 := Lib.hid hq0
      have HQT := Lib.hid hqt
      have HKK := Lib.hid hkk
      clear hlx hxo hq0 hqt hkk
      by_cases hlt : j < lb1
      · obtain ⟨g, off, cap', he, hbg, hgl, hcell, hfro, hset⟩ := HXO.out.open j (by rw [List.length_map, HLX.out]; exact hlt)
        obtain ⟨rfl, hbad, rfl⟩ := by simpa using he
        clear hbad
        have hkx : j < lx.length := by rw [HLX.out]; exact hlt
        obtain ⟨hs1, hs2⟩ := hset (bv (UInt8.ofNat (lx[j].toNat + 1)))
        rw [← List.map_set] at hs1
        have HS1 := Lib.hid hs1
        have HK1 := Lib.hid (HKK.out.trans ((keep_grown hs2).mono (Y := upX N) fun x e => .inr (by rw [e]; exact hbg)))
        have HN1 := Lib.hid (HQ0.out.other (a := ⟨g, off + j, none⟩) (bv (UInt8.ofNat (lx[j].toNat + 1))) (by dsimp only; omega))
        have HT1 := Lib.hid (HQT.out.other (a := ⟨g, off + j, none⟩) (bv (UInt8.ofNat (lx[j].toNat + 1))) (by dsimp only; omega))
        have HLS : Hid ((lx.set j (UInt8.ofNat (lx[j].toNat + 1))).length = lb1) := by show _ = _; rw [List.length_set]; exact HLX.out
        have hcell' : wr.cell? ⟨g, off + j, none⟩ = some (.int .u8 (lx[j].toNat : Int)) := by rw [hcell]; simp [bv]
        clear hcell hs1 hs2 hset he hgl
        rw [bv_mod] at HS1 HK1 HN1 HT1
        have e1 : ((lx[j].toNat + 1 : Nat) : Int) % 256 = ((lx[j].toNat : Int) + 1) % 256 := by omega
        rw [e1] at HS1 HK1 HN1 HT1
        clear e1
        have hby := byte_lt lx[j]
        generalize lx.set j (UInt8.ofNat (lx[j].toNat + 1)) = lx' at *
        generalize lx[j].toNat = z at *
        have hjI : (j : Int) < (lb1 : Int) := by omega
        gi_wp2
        go_roundw
        case rel => exact ⟨j + 1, lx', by omega, by go_num, HLS.out, HS1.out, HN1.out, HT1.out, HK1.out⟩
        case measure => simp [intOf]; omega
      · obtain rfl : j = lb1 := by omega
        have c0 := HQ0.out.cell
        have z0 := HQ0.out.frozen
        have ct := HQT.out.cell
        have HE := Lib.hid (HQ0.out.set (.int .i64 ((k : Int) + 1)))
        have hce := HE.out.cell
        have hct := (HQT.out.other (a := ⟨N, 0, none⟩) (.int .i64 ((k : Int) + 1)) (by dsimp only; omega)).cell
        have HKE := Lib.hid ((HK4.out.trans HKK.out).setCell (a := ⟨N, 0, none⟩) (v := .int .i64 ((k : Int) + 1)) (.inl rfl))
        by_cases hk2 : (k : Int) + 1 = 2
        · have hkb2 : ((k : Int) + 1 == 2) = true := by simpa using hk2
          clear hk2
          gi_wp2
          exact ⟨HKE.out, rfl, by have := HE.out; exact this⟩
        · have hkb2 : ((k : Int) + 1 == 2) = false := by simpa using hk2
          clear hk2
          gi_wp2
          exact ⟨HKE.out, by have := HE.out; exact this⟩
  case cdone0 =>
    rintro D0 k W5 hD hk hkw hg hdf
    have hbW : Below w3.heap.size w3 W5 := HBU.out.trans (hkw.below HBU.out.size (by rintro x (h | h) <;> omega))
    have hcn := hg.cell
    have hcw := (HA3.out.below hbW).cell
    have hqt := HTU.out.keepA hkw (by rintro (h | h) <;> omega)
    have hctw := hqt.cell
    have HDF := Lib.hid hdf
    have HBWW := Lib.hid hbW
    have HDl : Hid (N + 1 ≤ D0) := by show _ ≤ _; rw [← HUs.out]; exact hD
    clear hg hqt hkw hD hdf hst
    clear hbW
    go_wp2_with fail
    obtain ⟨T2, hT⟩ : ∃ T, W5.heap.size = T := ⟨_, rfl⟩
    obtain ⟨V2, hV⟩ : ∃ V, W5.alloc (.cells #[.int .i64 1] 3) = V := ⟨_, rfl⟩
    have HT1 : Hid (Box V2 T2 3 (.int .i64 1)) := by show Box _ _ _ _; rw [← hV, ← hT]; exact Box.new _ _ _
    have hbv : Below W5.heap.size W5 V2 := by rw [← hV]; exact below_alloc _
    have HBV2 : Hid (Below w3.heap.size w3 V2) := HBWW.out.trans (hbv.mono HBWW.out.size)
    have HTl2 : Hid (w3.heap.size ≤ T2) := by show _ ≤ _; rw [← hT]; exact HBWW.out.size
    have HM0 := Lib.hid ((hbv.block D0 (Array.getElem?_eq_some_iff.1 HDF.out).1).trans HDF.out)
    try rw [hV]
    try rw [hT]
    have hD0w : w3.heap.size ≤ D0 := by have := HDl.out; omega
    clear hT hV hbv hcn hcw hctw hTN hNw HT0 HBV HTl HTV HN0 HUV HUs HBU HTU HNV HDF HDl HBWW
    have HT1' := HT1
    clear HT1
    rw [rounds_succ]
    have hct := HT1'.out.cell
    go_wp2_with fail
    obtain ⟨N, hN⟩ : ∃ N, V2.heap.size = N := ⟨_, rfl⟩
    obtain ⟨U, hU⟩ : ∃ U, V2.alloc (.cells #[.int .i64 0] 3) = U := ⟨_, rfl⟩
    have HN0 : Hid (Box U N 3 (.int .i64 0)) := by show Box _ _ _ _; rw [← hU, ← hN]; exact Box.new _ _ _
    have HUV : Hid (Below V2.heap.size V2 U) := by show Below _ _ _; rw [← hU]; exact below_alloc _
    have HUs : Hid (U.heap.size = N + 1) := by show _ = _; rw [← hU, ← hN]; simp
    have HBU : Hid (Below w3.heap.size w3 U) := HBV2.out.trans (HUV.out.mono HBV2.out.size)
    have HTU := Lib.hid (HT1'.out.below HUV.out)
    have hTN : T2 < N := by rw [← hN]; exact HT1'.out.lt
    have hNw : w3.heap.size ≤ N := Nat.le_trans HTl2.out (Nat.le_of_lt hTN)
    have HNV := Lib.hid hN
    try rw [hU]
    try rw [hN]
    clear hN hU hct
    have hst := batches_stops w3 U HBU.out B v bs W0.heap.size ((RowAt.below HBX.out HBU.out).cell 0) HV.out (by rw [← HM.out]; exact hbn) HS.out (upX N) (fun x hx => by rcases hx with h | h <;> omega)
    rw [← HM.out] at hst
    refine wp_rangeZ (gf := 57) (lb := #[.pointer (some ⟨B, 0, none⟩)]) rfl (enters_of Try.func57 (by kernel_rfl) rfl) (upX N) (len := m) hst (fun k hk => by rw [HUs.out]; rcases hk with h | h <;> omega) ?cps1 (fun k W => Box W N 3 (.int .i64 (k : Int))) (fun _ _ _ => False) ?cG1 ?cGx1 ?c01 ?cround1 ?cdone1 ?cstop1
    case cGx1 => exact fun c j W W' h hs => h
    case cstop1 => exact fun D c k W _ _ _ h _ => h.elim
    case cps1 => rintro j args W ⟨b, u, _, rfl, _⟩; rfl
    case cG1 => exact fun j W W' h hs => h.stays hs
    case c01 => exact HN0.out
    case cround1 =>
      rintro lp k args W hk ⟨b, u, hget, rfl, hown⟩ hkw hg
      rw [HUs.out] at hown
      have hkb : k < bs.length := by rw [← HM.out]; exact hk
      have hbk : bs[k] = b := by rw [List.getElem?_eq_getElem hkb] at hget; exact Option.some.inj hget
      have HOWN := Lib.hid hown
      have HG := Lib.hid hg
      obtain ⟨a1, c1, rfl, hc1, -⟩ := hown.rd
      obtain ⟨lb1, hlb1⟩ : ∃ z, b.length = z := ⟨_, rfl⟩
      have hbl1 : lb1 ≤ 100000000 := by rw [← hlb1, ← hbk]; exact HS.out _ (List.getElem_mem hkb)
      obtain ⟨b2, o2, rfl, hlt2, hcw⟩ := HWM.out k hk
      rw [hbk] at hcw
      obtain ⟨S, hS⟩ : ∃ S, str b = S := ⟨_, rfl⟩
      rw [hS] at hcw
      rw [hlb1] at HOWN hc1 ⊢
      have HLB1 := Lib.hid hlb1
      have HS1 := Lib.hid hS
      clear hown hg hget hbk hst hS hlb1
      gi_wp2
      refine ⟨KeepA.refl _ _, fun W2 hs2 hk2 hsz2 => ?_⟩
      have q0 := HG.out.stays hs2
      have c0 := q0.cell
      have z0 := q0.frozen
      have cw : W2.cell? ⟨b2, o2 + k, none⟩ = some (.string S) := hk2.cell (cell_later HBU.out hlt2 hcw) (by rintro (h | h) <;> (dsimp only at h; omega))
      have ca : W2.cell? ⟨g0, 0, none⟩ = some (.slice (some ⟨b2, o2, none⟩) m cap) := hk2.cell ((HA3.out.below HBU.out).cell) (by rintro (h | h) <;> (dsimp only at h; omega))
      have qt : Box W2 T2 3 (.int .i64 1) := HTU.out.keepA hk2 (by rintro (h | h) <;> omega)
      have ct := qt.cell
      have HO2 := Lib.hid (ownB_stays hs2 HOWN.out)
      have hr2 : RdB W2 a1 b := by obtain ⟨a9, c9, e9, -, r9⟩ := HO2.out.rd; simp only [Value.slice.injEq] at e9; rw [e9.1]; exact r9
      have he : (S.toList == S.toList) = true := by simp
      have hcv : ∀ nq, (convert 41 9 (.slice a1 lb1 c1)).run Try.prog (W2.drewN nq) = .ok (.string S) (W2.drewN nq) := fun nq => convS a1 b lb1 c1 S HLB1.out.symm HS1.out _ (hr2.mono (drewN_below (Below.refl _ W2) nq))
      have hkm : decide (m ≤ k) = false := by simpa using hk
      have hkmd : decide (k < m) = true := by simpa using hk
      have hkm2 : (k : Int) < (m : Int) := by omega
      have Q0 := Lib.hid q0
      have QT := Lib.hid qt
      have HZ2 := Lib.hid hsz2
      clear hr2 q0 qt hs2 hk2 hsz2 hcw
      gi_wp2_with fail
      refine wpIn_region_quiet_round (by kernel_rfl) (by kernel_rfl) (by kernel_rfl) ?_
      repeat (go_big_quiet_step (fail))
      refine wpQuiet_nil ?_
      rintro _ ⟨nq, rfl⟩
      obtain ⟨W4, hW4⟩ : ∃ x, W2.drewN nq = x := ⟨_, rfl⟩
      have hb4 : Below W2.heap.size W2 W4 := by rw [← hW4]; exact drewN_below (Below.refl _ W2) nq
      have HK4 := Lib.hid (KeepA.of_below (X := upX N) hb4)
      have HX4 : Hid (OwnW W4 (N + 3) (.slice a1 lb1 c1) (b.map bv)) := by
        have h := OwnW.of_own (HO2.out.kept hb4 (Nat.le_refl _))
        exact h
      have Q4 := Lib.hid (Q0.out.below hb4)
      have QT4 := Lib.hid (QT.out.below hb4)
      rw [hW4]
      clear hW4 hb4 hcv he c0 z0 cw ca ct HO2 Q0 QT
      gi_wp2
      gi_loopw [10] (fun i wr => ∃ j : Nat, ∃ lx : List UInt8, j ≤ lb1 ∧ i = .int .i64 j ∧ lx.length = lb1 ∧ OwnW wr (N + 3) (.slice a1 lb1 c1) (lx.map bv) ∧ Box wr N 3 (.int .i64 (k : Int)) ∧ Box wr T2 3 (.int .i64 1) ∧ KeepA (upX N) W4 wr) (fun i _ => lb1 - (intOf i).toNat)
      case atStart => exact ⟨0, b, by omega, rfl, HLB1.out, HX4.out, Q4.out, QT4.out, KeepA.refl _ _⟩
      case round =>
        obtain ⟨j, lx, hj, rfl, hlx, hxo, hq0, hqt, hkk⟩ := hrel
        have HLX := Lib.hid hlx
        have HXO := Lib.hid hxo
        have HQ0 := Lib.hid hq0
        have HQT := Lib.hid hqt
        have HKK := Lib.hid hkk
        clear hlx hxo hq0 hqt hkk
        by_cases hlt : j < lb1
        · obtain ⟨g, off, cap', he, hbg, hgl, hcell, hfro, hset⟩ := HXO.out.open j (by rw [List.length_map, HLX.out]; exact hlt)
          obtain ⟨rfl, hbad, rfl⟩ := by simpa using he
          clear hbad
          have hkx : j < lx.length := by rw [HLX.out]; exact hlt
          obtain ⟨hs1, hs2⟩ := hset (bv (UInt8.ofNat (lx[j].toNat + 1)))
          rw [← List.map_set] at hs1
          have HS1 := Lib.hid hs1
          have HK1 := Lib.hid (HKK.out.trans ((keep_grown hs2).mono (Y := upX N) fun x e => .inr (by rw [e]; exact hbg)))
          have HN1 := Lib.hid (HQ0.out.other (a := ⟨g, off + j, none⟩) (bv (UInt8.ofNat (lx[j].toNat + 1))) (by dsimp only; omega))
          have HT1 := Lib.hid (HQT.out.other (a := ⟨g, off + j, none⟩) (bv (UInt8.ofNat (lx[j].toNat + 1))) (by dsimp only; omega))
          have HLS : Hid ((lx.set j (UInt8.ofNat (lx[j].toNat + 1))).length = lb1) := by show _ = _; rw [List.length_set]; exact HLX.out
          have hcell' : wr.cell? ⟨g, off + j, none⟩ = some (.int .u8 (lx[j].toNat : Int)) := by rw [hcell]; simp [bv]
          clear hcell hs1 hs2 hset he hgl
          rw [bv_mod] at HS1 HK1 HN1 HT1
          have e1 : ((lx[j].toNat + 1 : Nat) : Int) % 256 = ((lx[j].toNat : Int) + 1) % 256 := by omega
          rw [e1] at HS1 HK1 HN1 HT1
          clear e1
          have hby := byte_lt lx[j]
          generalize lx.set j (UInt8.ofNat (lx[j].toNat + 1)) = lx' at *
          generalize lx[j].toNat = z at *
          have hjI : (j : Int) < (lb1 : Int) := by omega
          gi_wp2
          go_roundw
          case rel => exact ⟨j + 1, lx', by omega, by go_num, HLS.out, HS1.out, HN1.out, HT1.out, HK1.out⟩
          case measure => simp [intOf]; omega
        · obtain rfl : j = lb1 := by omega
          have c0 := HQ0.out.cell
          have z0 := HQ0.out.frozen
          have ct := HQT.out.cell
          have HE := Lib.hid (HQ0.out.set (.int .i64 ((k : Int) + 1)))
          have hce := HE.out.cell
          have hct := (HQT.out.other (a := ⟨N, 0, none⟩) (.int .i64 ((k : Int) + 1)) (by dsimp only; omega)).cell
          have HKE := Lib.hid ((HK4.out.trans HKK.out).setCell (a := ⟨N, 0, none⟩) (v := .int .i64 ((k : Int) + 1)) (.inl rfl))
          gi_wp2
          exact ⟨HKE.out, by have := HE.out; exact this⟩
    case cdone1 =>
      rintro D1 W6 hD hkw hg hdf
      have hbW : Below w3.heap.size w3 W6 := HBU.out.trans (hkw.below HBU.out.size (by rintro x (h | h) <;> omega))
      have hcn := hg.cell
      have hcw := (HA3.out.below hbW).cell
      have hqt := HTU.out.keepA hkw (by rintro (h | h) <;> omega)
      have hctw := hqt.cell
      have HDF := Lib.hid hdf
      have HBWW := Lib.hid hbW
      have HDl : Hid (N + 1 ≤ D1) := by show _ ≤ _; rw [← HUs.out]; exact hD
      have HDZ := Lib.hid ((hkw.same D0 (by have := (Array.getElem?_eq_some_iff.1 HM0.out).1; have := HUV.out.size; omega) (by have := (Array.getElem?_eq_some_iff.1 HM0.out).1; have := HNV.out; rintro (h | h) <;> omega)).trans ((HUV.out.block D0 (Array.getElem?_eq_some_iff.1 HM0.out).1).trans HM0.out))
      have HD01 : Hid (D1 ≠ D0) := by show _ ≠ _; have := (Array.getElem?_eq_some_iff.1 HM0.out).1; have := HNV.out; have := HDl.out; omega
      clear hg hqt hkw hD hdf hst
      clear hbW
      go_wp2_with fail
      obtain ⟨T3, hT⟩ : ∃ T, W6.heap.size = T := ⟨_, rfl⟩
      obtain ⟨V3, hV⟩ : ∃ V, W6.alloc (.cells #[.int .i64 2] 3) = V := ⟨_, rfl⟩
      have HT3 : Hid (Box V3 T3 3 (.int .i64 2)) := by show Box _ _ _ _; rw [← hV, ← hT]; exact Box.new _ _ _
      have hbv : Below W6.heap.size W6 V3 := by rw [← hV]; exact below_alloc _
      have HBV3 : Hid (Below w3.heap.size w3 V3) := HBWW.out.trans (hbv.mono HBWW.out.size)
      have HTl2 : Hid (w3.heap.size ≤ T3) := by show _ ≤ _; rw [← hT]; exact HBWW.out.size
      have HM1 := Lib.hid ((hbv.block D1 (Array.getElem?_eq_some_iff.1 HDF.out).1).trans HDF.out)
      have HMZ := Lib.hid ((hbv.block D0 (Array.getElem?_eq_some_iff.1 HDZ.out).1).trans HDZ.out)
      try rw [hV]
      try rw [hT]
      rw [rounds_succ]
      have hct := HT3.out.cell
      have HSC := Lib.hid (state_any V3 lb d from_ n run base av m cv used dead (RowAt.below HL3.out HBV3.out) hn hu)
      have hca := (HA3.out.below HBV3.out).cell
      go_wp2_with fail
      refine HSC.out.mono ?_
      rintro e w9 ⟨rfl, hb9⟩
      have HB9 : Hid (Below w3.heap.size w3 w9) := HBV3.out.trans (hb9.mono HBV3.out.size)
      have hc := (HA3.out.below HB9.out).cell
      have hrb := HRB3.out.below HB9.out
      have hrc := hrb.cell
      have hrf := hrb.frozen
      have HR9 := Lib.hid (hrb.set (.bool true))
      have HE1 : Hid ((w9.setCell ⟨g0 + 1, 0, none⟩ (.bool true)).heap[D1]? = some (.deferred (some []))) := (heap_setCell_other w9 _ D1 _ (by have := HDl.out; dsimp only; omega)).trans ((hb9.block D1 (Array.getElem?_eq_some_iff.1 HM1.out).1).trans HM1.out)
      have HE0 : Hid ((w9.setCell ⟨g0 + 1, 0, none⟩ (.bool true)).heap[D0]? = some (.deferred (some []))) := (heap_setCell_other w9 _ D0 _ (by dsimp only; omega)).trans ((hb9.block D0 (Array.getElem?_eq_some_iff.1 HMZ.out).1).trans HMZ.out)
      have HBF : Hid (Below g0 w (w9.setCell ⟨g0 + 1, 0, none⟩ (.bool true))) := (HB3.out.trans (HB9.out.mono (by omega))).setCell (p := ⟨g0 + 1, 0, none⟩) (by dsimp only; omega) (.bool true)
      clear hrb hb9 hct hca
      go_wp2
      refine post_marks [D1, D0] rfl (by simp [HD01.out]) (by intro x hx; simp at hx; rcases hx with rfl | rfl; exact HE1.out; exact HE0.out) fun w' hk => ⟨.bool true, ?_, rfl, ?_⟩
      · exact results_box rfl rfl (HR9.out.keepA hk (by have := HDl.out; simp; omega)) rfl Try.underlying4
      · rw [HG0.out]
        exact HBF.out.trans (hk.below (by have := HBF.out.size; have := HG0.out; omega) (fun x hx => by have := HDl.out; simp at hx; omega))
end Go.Proofs.Ytmbpacpkabbcgaa
