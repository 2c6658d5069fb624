/- Format. (Printed by gen_pgfmt.py.) -/
import Derived.Test.YtagipfkgnobjlaaPgCom
namespace Go.Proofs.Ytagipfkgnobjlaa
open Go.RowKit

attribute [local go_sem] Oper.semAt_some
/-- A fresh pager's page 0. -/
def mt1 : Mt := ⟨1, 0, 0, [0, 0, 0, 0, 0, 0, 0, 0]⟩
theorem mt1_ok : mt1.Ok := ⟨by decide, by decide, by decide, rfl, fun r hr => by
  unfold mt1 at hr
  simp at hr
  omega⟩
/-- A faultless disk, in old blocks of S or new ones. -/
def DkN (w w' : World) (S : Nat → Prop) (d : Nat) (D : DK) : Prop := (∃ S', DkS w' S' d D 0 ∧ (∀ y, S' y → (S y ∨ w.heap.size ≤ y) ∧ y < w'.heap.size)) ∧ KeepA S w w'
theorem DkN.trans {w w1 w2 : World} {S : Nat → Prop} {d : Nat} {D D' : DK} (h : DkN w w1 S d D) (h2 : ∀ S', DkS w1 S' d D 0 → (∀ y, S' y → y < w1.heap.size) → DkN w1 w2 S' d D') : DkN w w2 S d D' := by
  obtain ⟨⟨S', h1, h3⟩, k⟩ := h
  obtain ⟨⟨S2, h4, h5⟩, k2⟩ := h2 S' h1 fun y hy => (h3 y hy).2
  refine ⟨⟨S2, h4, fun y hy => ?_⟩, k.trans2 k2 fun y hy e => ?_⟩
  · obtain ⟨q1, q2⟩ := h5 y hy
    rcases q1 with e | e
    · exact ⟨(h3 y e).1, q2⟩
    · exact ⟨.inr (Nat.le_trans k.size e), q2⟩
  · rcases (h3 y e).1 with e | e
    · exact e
    · omega
theorem DkN.of_span {w w' : World} {S : Nat → Prop} {d : Nat} {D : DK} (hS : ∀ y, S y → y < w.heap.size) (h : DkS w' (Plus S (Span w w')) d D 0) (k : KeepA S w w') : DkN w w' S d D :=
  ⟨⟨_, h, fun y hy => by
    rcases hy with e | e
    · exact ⟨.inl e, Nat.lt_of_lt_of_le (hS y e) k.size⟩
    · exact ⟨.inr e.1, e.2⟩⟩, k⟩
/-- The boxes of Format's closures. -/
structure FmB (W : World) (B2 B3 d n : Nat) : Prop where
  p : W.cell? ⟨B2, 0, none⟩ = some (.pointer (some ⟨d, 0, none⟩))
  l : W.cell? ⟨B3, 0, none⟩ = some (.int .i64 (n : Int))
theorem FmB.keep {W W' : World} {B2 B3 d n : Nat} (h : FmB W B2 B3 d n) {S : Nat → Prop} (k : KeepA S W W') (h2 : ¬ S B2) (h3 : ¬ S B3) : FmB W' B2 B3 d n := ⟨k.cell h.p h2, k.cell h.l h3⟩
set_option maxRecDepth 100000 in
set_option maxHeartbeats 4000000 in
theorem fmt1_any (W : World) (S : Nat → Prop) (d : Nat) (D : DK) (n B2 B3 : Nat) (h : DkS W S d D 0) (hS : ∀ y, S y → y < W.heap.size) (hB : FmB W B2 B3 d n) (h2 : ¬ S B2) (h3 : ¬ S B3) (hp : D.pcs.length ≤ 800000) (hn : (n : Int) + 2 ≤ D.size) :
    Calls Try.prog 48 #[.pointer (some ⟨B2, 0, none⟩), .pointer (some ⟨B3, 0, none⟩)] W fun e w' => e = .returned (.int .i64 0) ∧ DkN W w' S d ⟨D.size, D.last, D.pcs ++ wps (n : Int) (pageB mt1) 2⟩ := by
  have HFB : Hid (∀ W', KeepA S W W' → FmB W' B2 B3 d n) := Lib.hid fun W' k => hB.keep k h2 h3
  have HPG := Lib.hid (fun W => page_any mt1 mt1_ok W)
  have hmt : (mtC mt1).toArray = #[.int .i64 1, .int .i64 0, .int .i64 0, .int .i64 0, .int .i64 0, .int .i64 0, .int .i64 0, .int .i64 0, .int .i64 0, .int .i64 0, .int .i64 0] := rfl
  have HMT := Lib.hid hmt
  have hpl : (pageB mt1).length = 1024 := pageB_len mt1_ok.eight
  have HWR : Hid (∀ W' g c, Below W.heap.size W W' → W.heap.size ≤ g → 1024 ≤ c → RdB W' (some ⟨g, 0, none⟩) (pageB mt1) → Calls Try.prog 6 #[.pointer (some ⟨d, 0, none⟩), .int .i64 (n : Int), .slice (some ⟨g, 0, none⟩) 1024 c] W' fun e w' => e = .returned (.int .i64 0) ∧ KeepA S W w' ∧ DkN W w' S d ⟨D.size, D.last, D.pcs ++ wps (n : Int) (pageB mt1) 2⟩) := Lib.hid fun W' g c hW hg hc hr => by
    have hdv : (pageB mt1).length / 512 = 2 := by rw [hpl]
    refine (write_s W' S d D 0 n (some ⟨g, 0, none⟩) (pageB mt1) 1024 c (h.later hW) hpl.symm hc hr (fun _ ad e hs => by cases e; have := hS _ hs; dsimp only at this; omega) (by omega) (by omega)).mono ?_
    rintro e w' ⟨⟨k, er, q1, q2, q3, q4, rfl, q5⟩, k2⟩
    obtain ⟨rfl, rfl⟩ := q3 rfl (by rw [hpl]) (by omega) (by rw [hdv]; exact hn)
    rw [hdv] at q5
    have kk : KeepA S W w' := (KeepA.of_below hW).trans k2
    refine ⟨rfl, kk, ⟨_, q5, fun y hy => ?_⟩, kk⟩
    rcases hy with e | e
    · exact ⟨.inl e, Nat.lt_of_lt_of_le (hS y e) kk.size⟩
    · exact ⟨.inr (Nat.le_trans hW.size e.1), e.2⟩
  obtain ⟨K0, hK0⟩ : ∃ K : Ending → World → Prop, (fun (e : Ending) (w' : World) => e = .returned (.int .i64 0) ∧ DkN W w' S d ⟨D.size, D.last, D.pcs ++ wps (n : Int) (pageB mt1) 2⟩) = K := ⟨_, rfl⟩
  have HK : Hid (∀ w', DkN W w' S d ⟨D.size, D.last, D.pcs ++ wps (n : Int) (pageB mt1) 2⟩ → K0 (.returned (.int .i64 0)) w') := Lib.hid fun w' h1 => by rw [← hK0]; exact ⟨rfl, h1⟩
  rw [hK0]
  have HPL := Lib.hid hpl
  have hS0 : FmB W.drew B2 B3 d n := HFB.out _ (KeepA.of_below (drewN_below (Below.refl _ W) 1))
  clear hK0 h hS hB h2 h3 hp hn hpl hmt
  go_enter Try.func48, Try.ntmps48
  go_upto_region 1 with fail
  refine wp_region_held_drew (S := fun W => FmB W B2 B3 d n) (by kernel_rfl) hS0 (fun hHeld => ?_)
  refine wpAnyH_take (i := 0) (v := ?_) rfl (by kernel_rfl) (by kernel_rfl) (by kernel_rfl) (fun _ _ _ h => h) (Or.inl ⟨by rfl, ?_⟩) hHeld ?_
  rotate_left
  · intro w' hS'
    (try dsimp only at hS')
    obtain ⟨hp, hl⟩ := hS'
    go_simp
    try with_reducible rfl
  try simp only [List.getElem_toArray, List.getElem_cons_succ, List.getElem_cons_zero, Act.put, List.setIfInBounds_toArray, List.set_cons_zero, List.set_cons_succ]
  refine wpAnyH_take (i := 1) (v := ?_) rfl (by kernel_rfl) (by kernel_rfl) (by kernel_rfl) (fun _ _ _ h => h) (Or.inl ⟨by rfl, ?_⟩) hHeld ?_
  rotate_left
  · intro w' hS'
    (try dsimp only at hS')
    obtain ⟨hp, hl⟩ := hS'
    go_simp
    try with_reducible rfl
  try simp only [List.getElem_toArray, List.getElem_cons_succ, List.getElem_cons_zero, Act.put, List.setIfInBounds_toArray, List.set_cons_zero, List.set_cons_succ]
  refine wpAnyH_take (i := 2) (v := ?_) rfl (by kernel_rfl) (by kernel_rfl) (by kernel_rfl) (fun _ _ _ h => h) (Or.inl ⟨by rfl, ?_⟩) hHeld ?_
  rotate_left
  · intro w' hS'
    (try dsimp only at hS')
    obtain ⟨hp, hl⟩ := hS'
    go_simp
    try with_reducible rfl
  try simp only [List.getElem_toArray, List.getElem_cons_succ, List.getElem_cons_zero, Act.put, List.setIfInBounds_toArray, List.set_cons_zero, List.set_cons_succ]
  refine wpAnyH_ready (rs := [3]) (by kernel_rfl) (by simp) (AllReadyH.cons rfl (fun K hK => ?_) AllReadyH.nil)
  try rw [if_pos (by rfl)]
  go_wp2_with fail
  try rw [← HMT.out]
  refine (HPG.out _).mono ?_
  rintro _ w2 ⟨vb, rfl, ho, hb2⟩
  obtain ⟨g, c, rfl, hgc, hga, hgb, hgr⟩ := OwnB.rd2 ho (fun e => by have := HPL.out; rw [e] at this; cases this)
  rw [HPL.out] at hgc ⊢
  have hb2' : Below W.heap.size W w2 := (drewN_below (Below.refl _ W) 1).trans hb2
  have HW2 := Lib.hid (HWR.out w2 g c hb2' hga hgc hgr)
  have hs2 := HFB.out w2 (KeepA.of_below hb2')
  clear ho hb2 hb2' hgc hga hgb hgr
  refine hK.out _ _ hs2 (fun hHeld => ?_)
  clear hK K
  try simp only [List.getElem_toArray, List.getElem_cons_succ, List.getElem_cons_zero, Act.put, List.setIfInBounds_toArray, List.set_cons_zero, List.set_cons_succ]
  refine wpAnyH_ready (rs := [4]) (by kernel_rfl) (by simp) (AllReadyH.cons rfl (fun K hK => ?_) AllReadyH.nil)
  try rw [if_pos (by rfl)]
  go_wp2_with fail
  refine HW2.out.mono ?_
  rintro _ w3 ⟨rfl, k3, hd3⟩
  have hs3 := HFB.out w3 k3
  have HE := Lib.hid (HK.out w3 hd3)
  clear k3 hd3
  refine hK.out _ _ hs3 (fun hHeld => ?_)
  clear hK K
  try simp only [List.getElem_toArray, List.getElem_cons_succ, List.getElem_cons_zero, Act.put, List.setIfInBounds_toArray, List.set_cons_zero, List.set_cons_succ]
  refine wpAnyH_take (i := 5) (v := ?_) rfl (by kernel_rfl) (by kernel_rfl) (by kernel_rfl) (fun _ _ _ h => h) (Or.inl ⟨by rfl, ?_⟩) hHeld ?_
  rotate_left
  · intro w' hS'
    (try dsimp only at hS')
    obtain ⟨hp, hl⟩ := hS'
    go_simp
    try with_reducible rfl
  try simp only [List.getElem_toArray, List.getElem_cons_succ, List.getElem_cons_zero, Act.put, List.setIfInBounds_toArray, List.set_cons_zero, List.set_cons_succ]
  refine wpAnyH_done (by kernel_rfl) ?_ _
  go_wp2
  exact HE.out
set_option maxRecDepth 100000 in
set_option maxHeartbeats 2000000 in
theorem fmt2_any (W : World) (S : Nat → Prop) (d : Nat) (D : DK) (n B2 B3 : Nat) (h : DkS W S d D 0) (hS : ∀ y, S y → y < W.heap.size) (hB : FmB W B2 B3 d n) (hp : D.pcs.length ≤ 900000) (hn4 : 4 ≤ n) (hn : (n : Int) ≤ D.size) :
    Calls Try.prog 49 #[.pointer (some ⟨B2, 0, none⟩), .pointer (some ⟨B3, 0, none⟩)] W fun e w' => e = .returned (.int .i64 0) ∧ DkN W w' S d ⟨D.size, laid D.last (D.pcs ++ wps 0 (fmtB n) n), []⟩ := by
  have hok : askW D.size 0 (n : Int) = 0 := by unfold askW; rw [if_neg (by omega), if_neg (by omega)]
  have HF : Hid (Calls Try.prog 50 #[.pointer (some ⟨d, 0, none⟩), .int .i64 0, .int .i64 (n : Int)] W fun e w' => e = .returned (.int .i64 0) ∧ DkN W w' S d ⟨D.size, laid D.last (D.pcs ++ wps 0 (fmtB n) n), []⟩) := by
    refine (format_any W S d D 0 0 n h hS hok hp).mono ?_
    rintro e w' ⟨⟨er, D', rfl, hws, hd⟩, k⟩
    have h0 := hws.1 rfl
    subst h0
    have hD := hws.ok rfl
    subst hD
    rw [fmtB_len (by omega), Nat.mul_div_cancel _ (by omega : 0 < 512)] at hd
    exact ⟨rfl, DkN.of_span hS hd k⟩
  obtain ⟨hp2, hl2⟩ := hB
  clear h hS hp hn hok
  go_enter Try.func49, Try.ntmps49
  go_wp2_with (go_at_call 50; refine HF.out.mono ?_; rintro _ w2 ⟨rfl, hd⟩; have HD := Lib.hid hd; clear hd)
  go_ret
  exact ⟨rfl, HD.out⟩
/-- What Format makes of a disk. -/
noncomputable def fmtV (n : Nat) (V : Int → List UInt8) : Int → List UInt8 := laid (laid V (wps (n : Int) (pageB mt1) 2)) (wps 0 (fmtB n) n)
set_option maxRecDepth 100000 in
set_option maxHeartbeats 4000000 in
theorem pgFormat_yes (w : World) (S : Nat → Prop) (d : Nat) (D : DK) (n : Nat) (h : DkS w S d D 0) (hS : ∀ y, S y → y < w.heap.size) (hp : D.pcs.length ≤ 700000) (hn4 : 4 ≤ n) (hn : (n : Int) ≤ D.size) (hr : 2 ≤ ((D.size : Int) - n) / 2) :
    Calls Try.prog 15 #[.pointer (some ⟨d, 0, none⟩), .int .i64 (n : Int)] w fun e w' => e = .returned (.int .i64 0) ∧ DkN w w' S d ⟨D.size, fmtV n (laid D.last D.pcs), []⟩ := by
  have hs6 := h.sizes.2
  obtain ⟨B2, hB2⟩ : ∃ y, w.heap.size = y := ⟨_, rfl⟩
  obtain ⟨w1, hw1⟩ : ∃ y, w.alloc (.cells #[.pointer (some ⟨d, 0, none⟩)] 24) = y := ⟨_, rfl⟩
  have hb1 : Below w.heap.size w w1 := by rw [← hw1]; exact below_alloc _
  have hR1 : RowAt w1 B2 24 #[.pointer (some ⟨d, 0, none⟩)] := by rw [← hw1, ← hB2]; exact RowAt.new _ _ _
  have hs1 : w1.heap.size = B2 + 1 := by rw [← hw1, ← hB2]; simp
  obtain ⟨w2, hw2⟩ : ∃ y, w1.alloc (.cells #[.int .i64 (n : Int)] 3) = y := ⟨_, rfl⟩
  have hb2 : Below w1.heap.size w1 w2 := by rw [← hw2]; exact below_alloc _
  have hR2 : RowAt w2 (B2 + 1) 3 #[.int .i64 (n : Int)] := by rw [← hw2, ← hs1]; exact RowAt.new _ _ _
  have hs2 : w2.heap.size = B2 + 2 := by rw [← hw2]; simp [hs1]
  have hb12 : Below w.heap.size w w2 := hb1.trans (hb2.mono hb1.size)
  have hF2 : FmB w2 B2 (B2 + 1) d n := ⟨(RowAt.below hR1 hb2).cell 0, hR2.cell 0⟩
  have hd2 := h.later hb12
  have hS2 : ∀ y, S y → y < w2.heap.size := fun y hy => Nat.lt_of_lt_of_le (hS y hy) hb12.size
  have hask : askP D.size (n : Int) = 0 := by unfold askP; rw [spaceP_ok (by omega) (by omega), if_neg (by omega)]
  have HAS := Lib.hid (pasked_any w2 S d D 0 hd2 (n : Int))
  rw [hask] at HAS
  obtain ⟨w3, hw3⟩ : ∃ y, w2.alloc (.cells #[.func (.func 48) #[] #[.pointer (some ⟨B2, 0, none⟩), .pointer (some ⟨B2 + 1, 0, none⟩)], .func (.func 7) #[.pointer (some ⟨d, 0, none⟩)] #[], .func (.func 49) #[] #[.pointer (some ⟨B2, 0, none⟩), .pointer (some ⟨B2 + 1, 0, none⟩)]] 29) = y := ⟨_, rfl⟩
  have hb3 : Below w2.heap.size w2 w3 := by rw [← hw3]; exact below_alloc _
  have hR3 : RowAt w3 (B2 + 2) 29 #[.func (.func 48) #[] #[.pointer (some ⟨B2, 0, none⟩), .pointer (some ⟨B2 + 1, 0, none⟩)], .func (.func 7) #[.pointer (some ⟨d, 0, none⟩)] #[], .func (.func 49) #[] #[.pointer (some ⟨B2, 0, none⟩), .pointer (some ⟨B2 + 1, 0, none⟩)]] := by rw [← hw3, ← hs2]; exact RowAt.new _ _ _
  have hb13 : Below w.heap.size w w3 := hb12.trans (hb3.mono hb12.size)
  have hSB : ∀ y, S y → y < B2 := fun y hy => by rw [← hB2]; exact hS y hy
  have hF3 : FmB w3 B2 (B2 + 1) d n := hF2.keep (KeepA.of_below (X := S) hb3) (fun e => by have := hSB _ e; omega) (fun e => by have := hSB _ e; omega)
  have hS3 : ∀ y, S y → y < w3.heap.size := fun y hy => Nat.lt_of_lt_of_le (hS y hy) hb13.size
  have hdn : DkN w w3 S d D := ⟨⟨S, h.later hb13, fun y hy => ⟨.inl hy, hS3 y hy⟩⟩, KeepA.of_below hb13⟩
  have hs3 : B2 + 2 < w3.heap.size := hR3.lt
  have HST : Hid (Calls Try.prog 30 #[.slice (some ⟨B2 + 2, 0, none⟩) 3 3] w3 fun e w' => e = .returned (.int .i64 0) ∧ DkN w w' S d ⟨D.size, fmtV n (laid D.last D.pcs), []⟩) := by
    have hkeep : ∀ {W W' : World} {S' : Nat → Prop} {D' : DK}, (∀ y, S' y → y < B2 ∨ w3.heap.size ≤ y) → B2 + 2 < W.heap.size → DkN W W' S' d D' → W'.heap[B2 + 2]? = W.heap[B2 + 2]? := fun hS' hlt hd => hd.2.same _ hlt fun e => by have := hS' _ e; omega
    refine (steps_any (B2 + 2) (fun er w' => er = 0 ∧ DkN w w' S d ⟨D.size, fmtV n (laid D.last D.pcs), []⟩) [.func (.func 48) #[] #[.pointer (some ⟨B2, 0, none⟩), .pointer (some ⟨B2 + 1, 0, none⟩)], .func (.func 7) #[.pointer (some ⟨d, 0, none⟩)] #[], .func (.func 49) #[] #[.pointer (some ⟨B2, 0, none⟩), .pointer (some ⟨B2 + 1, 0, none⟩)]] w3 3 3 rfl (by omega) hR3 ?_).mono ?_
    · refine ⟨_, _, _, rfl, enters_of Try.func48 (by kernel_rfl) rfl, (fmt1_any w3 S d D n B2 (B2 + 1) (h.later hb13) hS3 hF3 (fun e => by have := hSB _ e; omega) (fun e => by have := hSB _ e; omega) (by omega) (by omega)).mono ?_⟩
      rintro e w4 ⟨rfl, hd4⟩
      refine ⟨0, rfl, hkeep (fun y hy => .inl (hSB y hy)) hs3 hd4, .inr ⟨rfl, ?_⟩⟩
      obtain ⟨⟨S4, h4, hS4⟩, k4⟩ := id hd4
      have hq4 : ∀ y, S4 y → y < B2 ∨ w3.heap.size ≤ y := fun y hy => (hS4 y hy).1.imp (hSB y) id
      refine ⟨_, _, _, rfl, enters_of Try.func7 (by kernel_rfl) rfl, (sync_s w4 S4 d _ 0 h4 (by show (D.pcs ++ _).length ≤ _; rw [List.length_append, wps_len]; omega)).mono ?_⟩
      rintro e w5 ⟨⟨k, q1, er, q2, q3, rfl, q4⟩, k5⟩
      obtain ⟨rfl, rfl⟩ := q2 rfl
      rw [List.take_length, List.drop_length] at q4
      have hd5 := DkN.of_span (fun y hy => (hS4 y hy).2) q4 k5
      refine ⟨0, rfl, hkeep hq4 (Nat.lt_of_lt_of_le hs3 k4.size) hd5, .inr ⟨rfl, ?_⟩⟩
      obtain ⟨⟨S5, h5, hS5⟩, -⟩ := id hd5
      have hF5 : FmB w5 B2 (B2 + 1) d n := (hF3.keep k4 (fun e => by have := hSB _ e; omega) (fun e => by have := hSB _ e; omega)).keep k5 (fun e => by have := hq4 _ e; omega) (fun e => by have := hq4 _ e; omega)
      refine ⟨_, _, _, rfl, enters_of Try.func49 (by kernel_rfl) rfl, (fmt2_any w5 S5 d _ n B2 (B2 + 1) h5 (fun y hy => (hS5 y hy).2) hF5 (by simp) hn4 (by omega)).mono ?_⟩
      rintro e w6 ⟨rfl, hd6⟩
      have hq5 : ∀ y, S5 y → y < B2 ∨ w3.heap.size ≤ y := fun y hy => by
        rcases (hS5 y hy).1 with e | e
        · exact hq4 y e
        · exact .inr (Nat.le_trans k4.size e)
      have hfin : DkN w w6 S d ⟨D.size, fmtV n (laid D.last D.pcs), []⟩ := by
        have e1 : laid (laid D.last (D.pcs ++ wps (n : Int) (pageB mt1) 2)) ([] ++ wps 0 (fmtB n) n) = fmtV n (laid D.last D.pcs) := by
          unfold fmtV
          rw [List.nil_append, laid_app]
        rw [← e1]
        have := ((⟨⟨S, h.later hb13, fun y hy => ⟨.inl hy, hS3 y hy⟩⟩, KeepA.of_below hb13⟩ : DkN w w3 S d D))
        obtain ⟨⟨S6, h6, hS6⟩, k6⟩ := hd6
        refine ⟨⟨S6, h6, fun y hy => ⟨?_, (hS6 y hy).2⟩⟩, ?_⟩
        · rcases (hS6 y hy).1 with e | e
          · rcases (hS5 y e).1 with e | e
            · rcases (hS4 y e).1 with e | e
              · exact .inl e
              · exact .inr (Nat.le_trans hb13.size e)
            · exact .inr (Nat.le_trans hb13.size (Nat.le_trans k4.size e))
          · exact .inr (Nat.le_trans hb13.size (Nat.le_trans k4.size (Nat.le_trans k5.size e)))
        · refine (((KeepA.of_below hb13).trans k4).trans2 k5 fun y hy e => ?_).trans2 k6 fun y hy e => ?_
          · rcases (hS4 y e).1 with e | e
            · exact e
            · have := hb13.size
              omega
          · rcases (hS5 y e).1 with e | e
            · rcases (hS4 y e).1 with e | e
              · exact e
              · have := hb13.size
                omega
            · have := hb13.size
              have := k4.size
              omega
      refine ⟨0, rfl, hkeep hq5 (Nat.lt_of_lt_of_le hs3 (Nat.le_trans k4.size k5.size)) hd6, .inr ⟨rfl, ⟨rfl, hfin⟩⟩⟩
    · rintro e w' ⟨er, rfl, rfl, h1⟩
      exact ⟨rfl, h1⟩
  have c2 := hF2.p
  have c3 := hF2.l
  clear hb1 hR1 hb2 hR2 hb12 hF2 hd2 hS2 hask hb3 hR3 hb13 hSB hF3 hS3 hdn hs3 hr hn hn4 hp hS h hs6
  go_enter Try.func15, Try.ntmps15
  try simp only [hB2, hw1, hs1, hw2]
  go_wp2_with fail
  try simp only [hB2, hw1, hs1, hw2]
  refine HAS.out.mono ?_
  rintro _ _ ⟨rfl, rfl⟩
  go_wp2_with fail
  try simp only [hs2, hw3]
  refine HST.out.mono ?_
  rintro _ w9 ⟨rfl, hd⟩
  have HD := Lib.hid hd
  clear hd
  go_wp2
  go_ret
  exact ⟨rfl, HD.out⟩
end Go.Proofs.Ytagipfkgnobjlaa
