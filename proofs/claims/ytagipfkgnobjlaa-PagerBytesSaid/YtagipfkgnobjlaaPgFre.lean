/- Free. -/
import Derived.Test.YtagipfkgnobjlaaPgAlloc
namespace Go.Proofs.Ytagipfkgnobjlaa
open Go.RowKit

attribute [local go_sem] Oper.semAt_some
set_option maxRecDepth 100000 in
set_option maxHeartbeats 2000000 in
theorem pgfree_no (b0 : Nat) (w : World) (F : Nat → Prop) (pb d size n room : Nat) (s : PS) (h : PgA b0 w F pb d size n room s) (hc : s.now.count ≤ room) (hdd : s.dd = false) (x : Int) (ht : takenB n s x = false) :
    Calls Try.prog 13 #[.pointer (some ⟨pb, 0, none⟩), .int .i64 x] w fun e w' => e = .returned (.int .i64 4) ∧ Below w.heap.size w w' := by
  have HT := Lib.hid (pgtaken_any b0 w F pb d size n room s h hc x)
  rw [ht] at HT
  obtain ⟨c0, c28⟩ : w.cell? ⟨pb, 0, none⟩ = some (.pointer (some ⟨d, 0, none⟩)) ∧ w.cell? ⟨pb, 28, none⟩ = some (.bool false) := by
    obtain ⟨T, U, lb, m, f, h⟩ := h
    obtain ⟨c0, c1, c2, c3, c4, c5, c6, c26, c27, c28⟩ := h.row.cells
    exact ⟨c0, by rw [← hdd]; exact c28⟩
  have HN := Lib.hid (pgnone_any w pb d c0)
  clear h hc ht hdd c0
  go_enter Try.func13, Try.ntmps13
  go_wp2_with fail
  refine HN.out.mono ?_
  rintro _ _ ⟨rfl, rfl⟩
  go_wp2_with fail
  refine HT.out.mono ?_
  rintro _ w2 ⟨rfl, hb2⟩
  have HB2 := Lib.hid hb2
  clear hb2
  go_wp2
  go_ret
  exact ⟨rfl, HB2.out⟩
/-- A free page's bytes; the page at the chain's head. -/
noncomputable def linkP (fr : Nat) : List UInt8 := splice zerosP 0 (lowB fr 4)
theorem linkP_len (fr : Nat) : (linkP fr).length = 1024 := by
  unfold linkP
  rw [length_splice _ _ _ (by rw [lowB_length, zerosP_len]; omega), zerosP_len]
def PS.pushed (s : PS) (k : Nat) : PS := { s with now := { s.now with free := k, many := s.now.many + 1 } }
set_option maxRecDepth 100000 in
set_option maxHeartbeats 8000000 in
theorem pgfree_yes (b0 : Nat) (w : World) (F : Nat → Prop) (pb d size n room : Nat) (s : PS) (h : PgA b0 w F pb d size n room s) (hc : s.now.count ≤ room) (hdd : s.dd = false) (k : Nat) (ht : takenB n s (k : Int) = true) (hfr : s.now.free < 4294967296) (hmn : s.now.many ≤ 100000) :
    Calls Try.prog 13 #[.pointer (some ⟨pb, 0, none⟩), .int .i64 (k : Int)] w fun e w' => e = .returned (.int .i64 0) ∧ PgR b0 w w' F pb d size n room ((s.begun.laid (k : Int) (linkP s.now.free)).pushed k) := by
  have HT := Lib.hid (pgtaken_any b0 w F pb d size n room s h hc (k : Int))
  rw [ht] at HT
  have HBG := Lib.hid (fun W (hW : Below w.heap.size w W) => pgbegin_any b0 W F pb d size n room s (h.later hW) hdd)
  obtain ⟨c0, c28⟩ : w.cell? ⟨pb, 0, none⟩ = some (.pointer (some ⟨d, 0, none⟩)) ∧ w.cell? ⟨pb, 28, none⟩ = some (.bool false) := by
    obtain ⟨T, U, lb, m, f, h⟩ := h
    obtain ⟨c0, c1, c2, c3, c4, c5, c6, c26, c27, c28⟩ := h.row.cells
    exact ⟨c0, by rw [← hdd]; exact c28⟩
  have HN := Lib.hid (pgnone_any w pb d c0)
  obtain ⟨K, hK⟩ : ∃ K : Ending → World → Prop, (fun (e : Ending) (w' : World) => e = .returned (.int .i64 0) ∧ PgR b0 w w' F pb d size n room ((s.begun.laid (k : Int) (linkP s.now.free)).pushed k)) = K := ⟨_, rfl⟩
  have HK : Hid (∀ w', PgR b0 w w' F pb d size n room ((s.begun.laid (k : Int) (linkP s.now.free)).pushed k) → K (.returned (.int .i64 0)) w') := Lib.hid fun w' h3 => by rw [← hK]; exact ⟨rfl, h3⟩
  rw [hK]
  obtain ⟨fr, hf⟩ : ∃ y, s.now.free = y := ⟨_, rfl⟩
  obtain ⟨M, hM⟩ : ∃ y, s.now.many = y := ⟨_, rfl⟩
  rw [hf] at hfr HK
  rw [hM] at hmn
  have y1 : IntKind.i64.wrap ((M : Int) + 1) = (M : Int) + 1 := IntWalk.i64_in _ (by omega)
  obtain ⟨AV, hAV⟩ : ∃ y, (lowB fr 4).map bv = y := ⟨_, rfl⟩
  have hAVl : AV.length = 4 := by rw [← hAV, List.length_map, lowB_length]
  have HA1 : Hid (∀ v ∈ AV, v.oneCell' = true) := by rw [← hAV]; exact bv_one _
  obtain ⟨Z, hZ⟩ : ∃ x, (List.replicate 1024 (0 : UInt8)).map bv = x := ⟨_, rfl⟩
  have hZl : Z.length = 1024 := by rw [← hZ, List.length_map, List.length_replicate]
  have HFIN : Hid (splice Z 0 AV = (linkP fr).map bv) := by
    show _ = _
    rw [← hZ, ← hAV, splice_map]
    rfl
  have HAV := Lib.hid hAV
  have HZ := Lib.hid hZ
  have HLW := Lib.hid (plow_any fr hfr)
  have HLL : Hid ((lowB fr 4).length = 4) := Lib.hid (lowB_length 4 fr)
  clear hK h hc ht hdd c0 hAV hZ hfr
  go_enter Try.func13, Try.ntmps13
  go_wp2_with fail
  refine HN.out.mono ?_
  rintro _ _ ⟨rfl, rfl⟩
  go_wp2_with fail
  refine HT.out.mono ?_
  rintro _ w2 ⟨rfl, hb2⟩
  have HB2 := Lib.hid hb2
  clear hb2
  go_wp2_with fail
  refine (HBG.out w2 HB2.out).mono ?_
  rintro _ w3 ⟨rfl, F3, ⟨T, U, lb, m, f, h3⟩, hF3, hk3⟩
  obtain ⟨g, hg⟩ : ∃ g, w3.heap.size = g := ⟨_, rfl⟩
  have HLAY : Hid (∀ w6 w7, Below g w3 w6 → RowAt w6 g 5 ((linkP fr).map bv).toArray → w6.grownBy w7 (some m) → MapR w7 m intV (fun j => if j = (k : Int) then some (.slice (some ⟨g, 0, none⟩) 1024 1024) else f j) → PgR b0 w3 w7 F3 pb d size n room (s.begun.laid (k : Int) (linkP fr))) := Lib.hid fun w6 w7 q1 q2 q3 q4 => by
    rw [← hg] at q1
    exact PgA.lay h3 q1 (by omega) q2.lt (Nat.le_refl _) (linkP_len fr) (rdB_rowZ q2) q3 q4
  have HEND : Hid (∀ w7 w9, PgR b0 w3 w7 F3 pb d size n room (s.begun.laid (k : Int) (linkP fr)) → (w7.setCell ⟨pb, 5, none⟩ (.int .i64 (k : Int))).setCell ⟨pb, 6, none⟩ (.int .i64 ((M : Int) + 1)) = w9 → K (.returned (.int .i64 0)) w9) := Lib.hid fun w7 w9 q1 hw9 => by
    refine HK.out w9 (PgR.step (F1 := F3) (fun y hy => (hF3 y hy).imp id fun e => Nat.le_trans HB2.out.size e) ((KeepA.of_below (X := F) HB2.out).trans hk3) ?_)
    obtain ⟨F7, ⟨T7, U7, lb7, m7, f7, h7⟩, hF7, hk7⟩ := q1
    refine PgR.step (F1 := F7) hF7 hk7 ?_
    rw [show (M : Int) + 1 = ((M + 1 : Nat) : Int) by omega] at hw9
    have hr := (h7.row.row.set 5 (.int .i64 (k : Int))).set 6 (.int .i64 ((M + 1 : Nat) : Int))
    rw [pgRow_fm] at hr
    have hgr := (grownBy_setCellAt w7 pb 5 (.int .i64 (k : Int))).trans (grownBy_setCellAt _ pb 6 (.int .i64 ((M + 1 : Nat) : Int)))
    rw [hw9] at hr hgr
    have hk2 := keep_grown hgr
    have h9 := h7.setRow (now := { (s.begun.laid (k : Int) (linkP fr)).now with free := k, many := M + 1 }) (was := (s.begun.laid (k : Int) (linkP fr)).was) (op := (s.begun.laid (k : Int) (linkP fr)).op) (dd := (s.begun.laid (k : Int) (linkP fr)).dd) hk2 ⟨hr, h7.row.r8, h7.row.w8⟩
    have hs9 : ({ (s.begun.laid (k : Int) (linkP fr)) with now := { (s.begun.laid (k : Int) (linkP fr)).now with free := k, many := M + 1 }, was := (s.begun.laid (k : Int) (linkP fr)).was, op := (s.begun.laid (k : Int) (linkP fr)).op, dd := (s.begun.laid (k : Int) (linkP fr)).dd } : PS) = (s.begun.laid (k : Int) (linkP fr)).pushed k := by
      unfold PS.pushed PS.laid
      simp only
      rw [begun_now, hM]
    rw [hs9] at h9
    exact ⟨F7, ⟨_, _, _, _, _, h9⟩, fun x hx => .inl hx, hk2.mono fun x hx => hx ▸ h7.foot pb (.inr (.inr (.inl rfl)))⟩
  have HCL : Hid (∀ w7, PgR b0 w3 w7 F3 pb d size n room (s.begun.laid (k : Int) (linkP fr)) → w7.cell? ⟨pb, 5, none⟩ = some (.int .i64 (fr : Int)) ∧ w7.cell? ⟨pb, 6, none⟩ = some (.int .i64 (M : Int)) ∧ w7.frozen? ⟨pb, 5, none⟩ = false ∧ w7.frozen? ⟨pb, 6, none⟩ = false) := Lib.hid fun w7 q1 => by
    obtain ⟨F7, ⟨T7, U7, lb7, m7, f7, h7⟩, hF7, hk7⟩ := q1
    obtain ⟨-, -, -, -, -, e5, e6, -, -, -⟩ := h7.row.cells
    have a5 : (s.begun.laid (k : Int) (linkP fr)).now = s.now := by unfold PS.laid; exact begun_now s
    rw [a5, hf] at e5
    rw [a5, hM] at e6
    exact ⟨e5, e6, h7.row.row.frozen 5, h7.row.row.frozen 6⟩
  have HM : Hid (MapR w3 m intV f) := h3.turn.map
  obtain ⟨c0, c1, c2, c3, c4, c5, c6, c26, c27, c28'⟩ := h3.row.cells
  rw [begun_now, hf] at c5
  have HC : Hid (w3.cell? ⟨pb, 5, none⟩ = some (.int .i64 (fr : Int)) ∧ w3.cell? ⟨pb, 26, none⟩ = some (.map (some m)) ∧ pb < g ∧ m < g) := ⟨c5, c26, by rw [← hg]; exact h3.row.row.lt, by rw [← hg]; exact h3.turn.map.lt⟩
  clear hF3 hk3 h3 c0 c1 c2 c3 c4 c6 c27 c28' c28 c5 c26
  go_wp2_with (refine step_makeB rfl (.const (.int .i64 1024)) (.const (.int .i64 1024)) rfl 1024 rfl rfl (by omega) ?_; rw [hg]; intro w4 q1 q2; rw [HZ.out] at q1; have HR4 := Lib.hid q1; have HB4 := Lib.hid q2; have c54 : w4.cell? ⟨pb, 5, none⟩ = some (.int .i64 (fr : Int)) := (q2.cell HC.out.2.2.1).trans HC.out.1; clear q1 q2)
  refine (HLW.out w4).mono ?_
  rintro _ w5 ⟨vb, rfl, ho, hb5⟩
  obtain ⟨ua, uc, rfl, huc, hur⟩ := OwnB.rd ho
  rw [HLL.out] at huc ⊢
  have HS5 := Lib.hid (rd_src hur HAV.out)
  have hg4 : g < w4.heap.size := HR4.out.lt
  have HR5 : Hid (w5.heap[g]? = some (.cells Z.toArray 5 (0, 0))) := (hb5.block g hg4).trans HR4.out
  have HB5 : Hid (Below g w3 w5) := HB4.out.trans (hb5.mono (Nat.le_of_lt hg4))
  clear ho hb5 huc hur hg4
  obtain ⟨ad, rfl, hsrc⟩ := HS5.out (by rw [hAVl]; decide)
  obtain ⟨w6, hrun, hr6, hg6⟩ : ∃ w6, (Builtin.copy_ #[22, 22] 3 #[.slice (some ⟨g, 0, none⟩) 1024 1024, .slice (some ad) 4 uc]).run Try.prog w5 = .ok (goInt AV.length) w6 ∧ RowAt w6 g 5 (splice Z 0 AV).toArray ∧ w5.grownBy w6 (some g) :=
    ⟨_, run_copy_row (P := Try.prog) w5 22 22 3 5 g 0 1024 1024 ad 4 uc Z.toArray 5 AV Try.underlying22 (by kernel_rfl) HR5.out (by rw [hAVl]; rfl) hsrc (by simp; omega) HA1.out, (show _ = _ by simpa [splice] using setRow_heap w5 g _ _ _ _ HR5.out), grown_setRow w5 g _⟩
  rw [HFIN.out] at hr6
  have hB6 := below_grown HB5.out hg6 (by rw [← hg]; exact HB5.out.size) (by intro x hx; have := Option.some.inj hx; omega)
  clear hsrc
  go_upto_region 10 with fail
  have HR6 : Hid (RowAt w6 g 5 ((linkP fr).map bv).toArray) := Lib.hid hr6
  have HB6 := Lib.hid hB6
  have c266 : w6.cell? ⟨pb, 26, none⟩ = some (.map (some m)) := (hB6.cell HC.out.2.2.1).trans HC.out.2.1
  have HM6 : Hid (MapR w6 m intV f) := HM.out.same (hB6.block m HC.out.2.2.2)
  clear hr6 hg6 hB6 c54
  go_upto_region 11 with (refine step_updateM keyI Try.underlying75 rfl (.tmp 33) (.tmp 34) (.tmp 35) rfl rfl HM6.out (k : Int) (.slice (some ⟨g, 0, none⟩) 1024 1024) rfl rfl rfl ?_; intro w7 hg7 hm7)
  have HP7 := Lib.hid (HLAY.out w6 w7 HB6.out HR6.out hg7 hm7)
  obtain ⟨e5, e6, f5, f6⟩ := HCL.out w7 HP7.out
  have HE7 := Lib.hid (fun w9 => HEND.out w7 w9 HP7.out)
  clear hg7 hm7 c266
  go_wp2
  exact HE7.out _ rfl
end Go.Proofs.Ytagipfkgnobjlaa
