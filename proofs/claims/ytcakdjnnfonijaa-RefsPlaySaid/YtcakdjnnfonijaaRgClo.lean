/- Closure of the program's graph. -/
import Derived.Test.YtcakdjnnfonijaaRgCloP
import Derived.Deep.DeepCutAuto
import Derived.Deep.CutBlock
namespace Go.Proofs.Ytcakdjnnfonijaa
open Go.RowKit

/-- The boxes of a closure's walk. -/
structure CBx where
  gx : Nat
  tx : Nat
  wx : Nat
  ox : Nat
  mt : Nat
  B : Nat
  tg : TypeId
  tw : TypeId
structure CBx.Ok (x : CBx) (s : Nat) : Prop where
  g : s ≤ x.gx ∧ x.gx < x.B ∧ x.gx ≠ x.ox ∧ x.gx ≠ x.mt
  t : s ≤ x.tx ∧ x.tx < x.B ∧ x.tx ≠ x.ox ∧ x.tx ≠ x.mt
  w : s ≤ x.wx ∧ x.wx < x.B ∧ x.wx ≠ x.ox ∧ x.wx ≠ x.mt
  o : s ≤ x.ox ∧ x.ox < x.B ∧ x.ox ≠ x.mt
  m : s ≤ x.mt ∧ x.mt < x.B
def CBx.frees (x : CBx) : Array Value := #[.pointer (some ⟨x.gx, 0, none⟩), .pointer (some ⟨x.tx, 0, none⟩), .pointer (some ⟨x.wx, 0, none⟩), .pointer (some ⟨x.ox, 0, none⟩)]
structure CwAt (w0 w : World) (x : CBx) (gb : Nat) (ov : Value) (out : List Rf) (E : List (Rf × Rf)) : Prop where
  below : Below w0.heap.size w0 w
  g : RowAt w x.gx x.tg #[.pointer (some ⟨gb, 0, none⟩)]
  t : RowAt w x.tx 53 #[.map (some x.mt)]
  k : RowAt w x.wx x.tw #[.func (.func 43) #[] x.frees]
  o : RowAt w x.ox 26 #[ov]
  mp : MapR w x.mt rfV (cntF E)
  own : OwnRf w ov out
  low : ∀ g, ov.ownBlock = some g → x.B ≤ g
  bw : x.B ≤ w.heap.size
def CUp (x : CBx) (w : World) (v : Value) (w' : World) (v' : Value) : Prop := KeepA (fun k => k = x.ox ∨ k = x.mt ∨ v.ownBlock = some k) w w' ∧ NewRow w v v'
theorem CUp.trans {x : CBx} {w w1 w2 : World} {a b c : Value} (h : CUp x w a w1 b) (k : CUp x w1 b w2 c) : CUp x w a w2 c :=
  ⟨keep_into h.1 k.1 fun g e => by
    rcases e with e | e | e
    · exact .inl (.inl e)
    · exact .inl (.inr (.inl e))
    · exact (h.2 g e).imp (fun e => .inr (.inr e)) id, fun g e => (k.2 g e).elim (h.2 g) fun e => .inr (Nat.le_trans h.1.size e)⟩
theorem CUp.below {x : CBx} {w w' : World} (v : Value) (h : Below w.heap.size w w') : CUp x w v w' v := ⟨KeepA.of_below h, fun _ h => .inl h⟩
section
variable {w0 w w' : World} {x : CBx} {gb : Nat} {ov ov' : Value} {out : List Rf} {E E' : List (Rf × Rf)}
theorem CwAt.later (h : CwAt w0 w x gb ov out E) (hb : Below w.heap.size w w') : CwAt w0 w' x gb ov out E :=
  ⟨below_trans h.below hb, RowAt.below h.g hb, RowAt.below h.t hb, RowAt.below h.k hb, RowAt.below h.o hb, h.mp.same (hb.block _ h.mp.lt), h.own.later hb, h.low, Nat.le_trans h.bw hb.size⟩
/-- The map is written. -/
theorem CwAt.bump (h : CwAt w0 w x gb ov out E) (hx : x.Ok w0.heap.size) (hk : KeepA (fun k => k = x.mt) w w') (hm : MapR w' x.mt rfV (cntF E')) : CwAt w0 w' x gb ov out E' ∧ CUp x w ov w' ov := by
  refine ⟨⟨h.below.trans (hk.below h.below.size fun k e => by rw [e]; exact hx.m.1), row_keep hk h.g hx.g.2.2.2, row_keep hk h.t hx.t.2.2.2, row_keep hk h.k hx.w.2.2.2, row_keep hk h.o hx.o.2.2, hm, h.own.keep hk fun g e e2 => ?_, h.low, Nat.le_trans h.bw hk.size⟩, hk.mono fun k e => .inr (.inl e), fun _ h => .inl h⟩
  have := h.low g e
  have := hx.m.2
  omega
/-- A version is told. -/
theorem CwAt.push {w2 : World} {l : List Rf} (h : CwAt w0 w x gb ov out E) (hx : x.Ok w0.heap.size) (ho : OwnRf w2 ov' l) (hg : w.grownBy w2 ov.ownBlock) (hn : NewRow w ov ov') (hw : w2.setCell ⟨x.ox, 0, none⟩ ov' = w') : CwAt w0 w' x gb ov' l E ∧ CUp x w ov w' ov' := by
  have k1 : KeepA (fun k => ov.ownBlock = some k) w w2 := keep_grownO hg
  have hset : w2.grownBy w' (some x.ox) := by rw [← hw]; exact grown_setCell _ _ _
  have k2 := keep_grown hset
  have hB : ∀ g, ov.ownBlock = some g → x.B ≤ g := h.low
  have hs : ∀ b, b < x.B → ¬ ov.ownBlock = some b := fun b hb e => by have := hB b e; omega
  have hox : x.ox < w.heap.size := h.o.lt
  have hBw : ∀ g, ov'.ownBlock = some g → x.B ≤ g ∨ w.heap.size ≤ g := fun g e => (hn g e).imp (hB g) id
  have hlow' : ∀ g, ov'.ownBlock = some g → ¬ g = x.ox := fun g e e2 => by
    rcases hn g e with h1 | h1
    · have := hB g h1; have := hx.o.2.1; omega
    · omega
  have b2 : Below w0.heap.size w0 w2 := below_grown h.below hg h.below.size fun g e => by have := hB g e; have := hx.o; omega
  have b3 : Below w0.heap.size w0 w' := below_grown b2 hset b2.size fun g e => by have := Option.some.inj e; have := hx.o; omega
  refine ⟨⟨b3, row_keep k2 (row_keep k1 h.g (hs _ hx.g.2.1)) hx.g.2.2.1, row_keep k2 (row_keep k1 h.t (hs _ hx.t.2.1)) hx.t.2.2.1, row_keep k2 (row_keep k1 h.k (hs _ hx.w.2.1)) hx.w.2.2.1, ?_, ?_, ho.keep k2 hlow', ?_, Nat.le_trans h.bw (Nat.le_trans k1.size k2.size)⟩, ?_, hn⟩
  · rw [← hw]
    exact RowAt.set (cs := #[ov]) (row_keep k1 h.o (hs _ hx.o.2.1)) 0 ov'
  · exact (h.mp.same (k1.same _ h.mp.lt (hs _ hx.m.2))).same (k2.same _ (Nat.lt_of_lt_of_le h.mp.lt k1.size) fun e => hx.o.2.2 e.symm)
  · intro g e
    rcases hBw g e with h1 | h1
    · exact h1
    · exact Nat.le_trans (by have := h.bw; omega) h1
  · exact keep_into (k1.mono fun k e => .inr (.inr e)) k2 fun k e => .inl (.inl e)
end
def ClOk (w0 : World) (gb : Nat) (D : List (Rf × List Rf)) (rk : Rf → Nat) (root : Rf) (x : CBx) (f : Nat) : Prop :=
  ∀ (w : World) (ov : Value) (out : List Rf) (E : List (Rf × Rf)) (v : Rf), rk v < f → v ∈ D.map (·.1) → CwAt w0 w x gb ov out E → CPre D rk root E out v →
    Calls Try.prog 43 (#[.agg #[.string v.1, .int .i64 v.2], .pointer (some ⟨x.gx, 0, none⟩), .pointer (some ⟨x.tx, 0, none⟩), .pointer (some ⟨x.wx, 0, none⟩), .pointer (some ⟨x.ox, 0, none⟩)]) w fun e w' => e = .returned (.tuple #[]) ∧ ∃ ov' E', CwAt w0 w' x gb ov' (wlkR D f v out) E' ∧ CE D rk root E' (wlkR D f v out) (rk v) ∧ Gw rk (rk v) E E' ∧ CUp x w ov w' ov'
set_option maxRecDepth 100000 in
set_option maxHeartbeats 4000000 in
theorem clo_step (w0 : World) (TT : Nat → Prop) (gb : Nat) (D : List (Rf × List Rf)) (h : GrS w0 TT gb D) (hd : D.length ≤ 1000) (hlk : Lks D) (hts : ∀ y ∈ D, y.2.length ≤ 1000) (rk : Rf → Nat) (hrk : Rank D rk) (root : Rf) (x : CBx) (hx : x.Ok w0.heap.size) (f : Nat) (ih : ClOk w0 gb D rk root x f) : ClOk w0 gb D rk root x (f + 1) := by
  intro w ov out E v hrv hvD hat hpre
  obtain ⟨px, hpx⟩ : ∃ y, w.heap.size = y := ⟨_, rfl⟩
  obtain ⟨w1, hw1⟩ : ∃ y, w.alloc (.cells #[.string v.1, .int .i64 v.2] 25) = y := ⟨_, rfl⟩
  have hb1 : Below w.heap.size w w1 := by rw [← hw1]; exact below_alloc _
  have HP1 : Hid (RowAt w1 px 25 #[.string v.1, .int .i64 v.2]) := by rw [← hw1, ← hpx]; exact RowAt.new _ _ _
  have HAT1 := Lib.hid (hat.later hb1)
  have HUP1 : Hid (CUp x w ov w1 ov) := CUp.below ov hb1
  obtain ⟨m1, m2, fT, fF, hg⟩ := h
  cases hf : fT v with
  | none => exact absurd hvD (hg.toN v hf)
  | some s =>
    obtain ⟨y, hy, hyv, hown, -⟩ := hg.toS v s hf
    obtain ⟨sa, sc, rfl, -, -, hrd⟩ := hown.rd
    obtain ⟨m, hm⟩ : ∃ z, y.2.length = z := ⟨_, rfl⟩
    rw [hm] at hf
    have hm1000 : m ≤ 1000 := by rw [← hm]; exact hts y hy
    have HM0 := Lib.hid hm
    have HFV : Hid ((fT v).getD (.slice none 0 0) = .slice sa m sc) := by rw [hf]; rfl
    have HMT : Hid (MapR w1.drew m1 rfV fT) := (hg.later (drewN_below HAT1.out.below 1)).mt
    have HRD : Hid (∀ W, Below w0.heap.size w0 W → RdRf W sa y.2) := Lib.hid fun W hW => hrd.later hW
    have HS1 : Hid (∀ W, Below w1.heap.size w1 W → W.cell? ⟨x.gx, 0, none⟩ = some (.pointer (some ⟨gb, 0, none⟩)) ∧ W.cell? ⟨gb, 0, none⟩ = some (.map (some m1)) ∧ W.cell? ⟨px, 0, none⟩ = some (.string v.1) ∧ W.cell? ⟨px, 1, none⟩ = some (.int .i64 v.2)) := Lib.hid fun W hW => by
      have h1 := HAT1.out.later hW
      have h2 := RowAt.below HP1.out hW
      exact ⟨h1.g.cell 0, (hg.later h1.below).cells.1, h2.cell 0, h2.cell 1⟩
    have HTG : Hid (tgs D v = y.2) := by rw [← hyv]; exact tgs_eq hlk.one hy
    have HND : Hid y.2.Nodup := hlk.two y hy
    have HYK : Hid (∀ t ∈ y.2, t ∈ D.map (·.1) ∧ rk t < rk v) := Lib.hid fun t ht => by rw [← hyv]; exact hrk y hy t ht
    have HRK := Lib.hid hrk
    have HIH := Lib.hid ih
    have HVD := Lib.hid hvD
    have HRV := Lib.hid hrv
    have HLEN := Lib.hid hd
    have HX := Lib.hid hx
    have HDP := Lib.hid hpre.deep
    have HMI := Lib.hid (hpre.start y.2)
    obtain ⟨K, hK⟩ : ∃ K, (fun (e : Ending) (w' : World) => e = .returned (.tuple #[]) ∧ ∃ ov' E', CwAt w0 w' x gb ov' (wlkR D (f + 1) v out) E' ∧ CE D rk root E' (wlkR D (f + 1) v out) (rk v) ∧ Gw rk (rk v) E E' ∧ CUp x w ov w' ov') = K := ⟨_, rfl⟩
    rw [hK]
    have HK : Hid (∀ ov' E' W, CwAt w0 W x gb ov' ((y.2.take m).foldl (wstep D f) out) E' → CMid D rk root E E' ((y.2.take m).foldl (wstep D f) out) v y.2 m → CUp x w ov W ov' → K (.returned (.tuple #[])) W) := Lib.hid fun ov' E' W h1 h2 h3 => by
      rw [← hK]
      rw [← HM0.out, List.take_length] at h1 h2
      refine ⟨rfl, ov', E', ?_⟩
      rw [wlkR_succ, HTG.out]
      exact ⟨h1, h2.ce, h2.gw, h3⟩
    clear hg hf hy hyv hown hrd hm hlk hts hrk ih hvD hrv hd hx hpre hat hb1 hK
    go_enter Try.func43, Try.ntmps43
    go_upto_region 1 with fail
    refine wp_region_held_drew (S := fun W => W.cell? ⟨x.gx, 0, none⟩ = some (.pointer (some ⟨gb, 0, none⟩)) ∧ W.cell? ⟨gb, 0, none⟩ = some (.map (some m1)) ∧ W.cell? ⟨px, 0, none⟩ = some (.string v.1) ∧ W.cell? ⟨px, 1, none⟩ = some (.int .i64 v.2)) (by kernel_rfl) (HS1.out w1.drew (drewN_below (Below.refl _ w1) 1)) (fun hHeld => ?_)
    refine wpAnyH_take (i := 0) (v := ?_) rfl (by kernel_rfl) (by kernel_rfl) (by kernel_rfl) (fun _ _ _ h => h) (Or.inl ⟨by rfl, ?_⟩) hHeld ?_
    rotate_left
    · intro w' hS'
      (try dsimp only at hS')
      go_simp
      try with_reducible rfl
    try simp only [List.getElem_toArray, List.getElem_cons_zero, Act.put, List.setIfInBounds_toArray, List.set_cons_zero, List.set_cons_succ]
    refine wpAnyH_take (i := 1) (v := ?_) rfl (by kernel_rfl) (by kernel_rfl) (by kernel_rfl) (fun _ _ _ h => h) (Or.inl ⟨by rfl, ?_⟩) hHeld ?_
    rotate_left
    · intro w' hS'
      (try dsimp only at hS')
      go_simp
      try with_reducible rfl
    try simp only [List.getElem_toArray, List.getElem_cons_succ, List.getElem_cons_zero, Act.put, List.setIfInBounds_toArray, List.set_cons_zero, List.set_cons_succ]
    refine wpAnyH_take (i := 2) (v := ?_) rfl (by kernel_rfl) (by kernel_rfl) (by kernel_rfl) (fun _ _ _ h => h) (Or.inl ⟨by rfl, ?_⟩) hHeld ?_
    rotate_left
    · intro w' hS'
      (try dsimp only at hS')
      go_simp
      try with_reducible rfl
    try simp only [List.getElem_toArray, List.getElem_cons_succ, List.getElem_cons_zero, Act.put, List.setIfInBounds_toArray, List.set_cons_zero, List.set_cons_succ]
    refine wpAnyH_take (i := 3) (v := ?_) rfl (by kernel_rfl) (by kernel_rfl) (by kernel_rfl) (fun _ _ _ h => h) (Or.inl ⟨by rfl, ?_⟩) hHeld ?_
    rotate_left
    · intro w' hS'
      (try dsimp only at hS')
      go_simp
      try with_reducible rfl
    try simp only [List.getElem_toArray, List.getElem_cons_succ, List.getElem_cons_zero, Act.put, List.setIfInBounds_toArray, List.set_cons_zero, List.set_cons_succ]
    refine wpAnyH_take (i := 4) (v := ?_) rfl (by kernel_rfl) (by kernel_rfl) (by kernel_rfl) (fun _ _ _ h => h) (Or.inl ⟨by rfl, ?_⟩) hHeld ?_
    rotate_left
    · intro w' hS'
      (try dsimp only at hS')
      go_simp
      try with_reducible rfl
    try simp only [List.getElem_toArray, List.getElem_cons_succ, List.getElem_cons_zero, Act.put, List.setIfInBounds_toArray, List.set_cons_zero, List.set_cons_succ]
    refine wpAnyH_take (i := 7) (v := ?_) rfl (by kernel_rfl) (by kernel_rfl) (by kernel_rfl) (fun _ _ _ h => h) (Or.inl ⟨by rfl, ?_⟩) hHeld ?_
    rotate_left
    · intro w' hS'
      (try dsimp only at hS')
      go_simp
      try with_reducible rfl
    try simp only [List.getElem_toArray, List.getElem_cons_succ, List.getElem_cons_zero, Act.put, List.setIfInBounds_toArray, List.set_cons_zero, List.set_cons_succ]
    refine wpAnyH_ready (rs := [5]) (by kernel_rfl) (by simp) (AllReadyH.cons rfl (fun K hK => ?_) AllReadyH.nil)
    rw [if_pos (by rfl)]
    refine wp_lookup1 keyRf Try.underlying54 (.tmp 11) (.tmp 12) rfl HMT.out v (.slice none 0 0) (znil _) rfl rfl (.slice sa m sc) HFV.out ?_
    refine hK.out _ _ hHeld (fun hHeld => ?_)
    clear hK K
    try simp only [List.getElem_toArray, List.getElem_cons_succ, List.getElem_cons_zero, Act.put, List.setIfInBounds_toArray, List.set_cons_zero, List.set_cons_succ]
    refine wpAnyH_take (i := 6) (v := ?_) rfl (by kernel_rfl) (by kernel_rfl) (by kernel_rfl) (fun _ _ _ h => h) (Or.inl ⟨by rfl, ?_⟩) hHeld ?_
    rotate_left
    · intro w' hS'
      (try dsimp only at hS')
      go_simp
      try with_reducible rfl
    try simp only [List.getElem_toArray, List.getElem_cons_succ, List.getElem_cons_zero, Act.put, List.setIfInBounds_toArray, List.set_cons_zero, List.set_cons_succ]
    refine wpAnyH_done (by kernel_rfl) ?_ _
    have HATD := Lib.hid (HAT1.out.later (drewN_below (Below.refl _ w1) 1))
    have HUPD : Hid (CUp x w ov w1.drew ov) := HUP1.out.trans (CUp.below ov (drewN_below (Below.refl _ w1) 1))
    clear HAT1 HUP1 HS1 HMT HFV HP1
    go_wp2
    go_loopw [15] (fun kv wr => ∃ (k : Nat) (ov' : Value) (E' : List (Rf × Rf)), kv = .int .i64 (k : Int) ∧ k ≤ m ∧ CwAt w0 wr x gb ov' ((y.2.take k).foldl (wstep D f) out) E' ∧ CMid D rk root E E' ((y.2.take k).foldl (wstep D f) out) v y.2 k ∧ CUp x w ov wr ov') (fun kv _ => m - (intOf kv).toNat)
    case atStart => exact ⟨0, ov, E, rfl, Nat.zero_le _, by rw [List.take_zero]; exact HATD.out, by rw [List.take_zero]; exact HMI.out, HUPD.out⟩
    case round =>
      clear HATD HUPD HMI
      obtain ⟨k, ov1, E1, rfl, hk, hat, hmi, hup⟩ := hrel
      have HAT := Lib.hid hat
      have HMI := Lib.hid hmi
      have HUP := Lib.hid hup
      clear hat hmi hup
      by_cases hkm : k < m
      · as_aux_lemma =>
        obtain ⟨o1, ho1⟩ : ∃ z, (y.2.take k).foldl (wstep D f) out = z := ⟨_, rfl⟩
        have HO1 := Lib.hid ho1
        rw [ho1] at HAT HMI
        have hkx : k < y.2.length := by rw [HM0.out]; exact hkm
        obtain ⟨tb, toff, hta, hcell⟩ := (HRD.out wr HAT.out.below).get k hkx
        subst hta
        obtain ⟨t, ht⟩ : ∃ t, y.2[k] = t := ⟨_, rfl⟩
        rw [ht] at hcell
        have HTK : Hid (t ∈ D.map (·.1) ∧ rk t < rk v) := HYK.out t (by rw [← ht]; exact List.getElem_mem hkx)
        have HT : Hid (∃ h : k < y.2.length, y.2[k] = t) := ⟨hkx, ht⟩
        have HCT := Lib.hid (hcell wr (Below.refl _ _))
        obtain ⟨bt, hbt⟩ : ∃ z, wr.heap.size = z := ⟨_, rfl⟩
        obtain ⟨wa, hwa⟩ : ∃ z, wr.alloc (.cells #[.string t.1, .int .i64 t.2] 25) = z := ⟨_, rfl⟩
        have hba : Below wr.heap.size wr wa := by rw [← hwa]; exact below_alloc _
        have HBT : Hid (RowAt wa bt 25 #[.string t.1, .int .i64 t.2]) := by rw [← hwa, ← hbt]; exact RowAt.new _ _ _
        have HATA := Lib.hid (HAT.out.later hba)
        have HUPA : Hid (CUp x w ov wa ov1) := HUP.out.trans (CUp.below ov1 hba)
        have HLTB : Hid (¬ bt = x.ox ∧ ¬ bt = x.mt ∧ ¬ ov1.ownBlock = some bt) := by
          have l1 := HAT.out.o.lt
          have l2 := HAT.out.mp.lt
          exact ⟨by omega, by omega, fun e => by have := HAT.out.own.lt e; omega⟩
        have HM : Hid (MapR wa.drew x.mt rfV (cntF E1)) := HATA.out.mp
        obtain ⟨c, hc⟩ : ∃ c : Int, (cntE E1 t : Int) = c := ⟨_, rfl⟩
        have HCC : Hid ((cntF E1 t).getD (.int .i64 0) = .int .i64 c) := Lib.hid (by rw [cntF_get, hc])
        have hc0 : 0 ≤ c := by omega
        have hc1 : c ≤ 1000 := by have := HMI.out.ce.ok.cnt t; have := HLEN.out; omega
        obtain ⟨c2, hc2⟩ : ∃ c2 : Int, c + 1 = c2 := ⟨_, rfl⟩
        have hwr : IntKind.i64.wrap c2 = c2 := IntWalk.i64_in _ (by omega)
        have HC2E : Hid (∀ W (fm : Rf → Option Value), MapR W x.mt rfV (fun j => if j = t then some (.int .i64 c2) else cntF E1 j) → MapR W x.mt rfV (cntF (E1 ++ [(v, t)]))) := Lib.hid fun W _ hW => hW.eqf fun u => by
          have := cntF_snoc E1 v t u
          rw [hc, hc2] at this
          exact this
        have HCV := Lib.hid hc
        have HC2V := Lib.hid hc2
        have HS4 : Hid (∀ W, KeepA (fun k => k = x.mt) wa W → W.cell? ⟨x.tx, 0, none⟩ = some (.map (some x.mt)) ∧ W.cell? ⟨bt, 0, none⟩ = some (.string t.1) ∧ W.cell? ⟨bt, 1, none⟩ = some (.int .i64 t.2)) := Lib.hid fun W hW => by
          have r1 := row_keep hW HATA.out.t HX.out.t.2.2.2
          have r2 := row_keep hW HBT.out HLTB.out.2.1
          exact ⟨r1.cell 0, r2.cell 0, r2.cell 1⟩
        clear hcell hkx ht hba hc ho1
        go_upto_region 4 with (refine step_loadRf rfl (.tmp 17) rfl HCT.out rfl ?_)
        go_cut [] (fun wz => MapR wz x.mt rfV (fun j => if j = t then some (.int .i64 c2) else cntF E1 j) ∧ KeepA (fun k => k = x.mt) wa wz)
        case first =>
          as_aux_lemma =>
          refine wp_region_held_drew (S := fun W => W.cell? ⟨x.tx, 0, none⟩ = some (.map (some x.mt)) ∧ W.cell? ⟨bt, 0, none⟩ = some (.string t.1) ∧ W.cell? ⟨bt, 1, none⟩ = some (.int .i64 t.2)) (by kernel_rfl) (HS4.out wa.drew (KeepA.of_below (drewN_below (Below.refl _ wa) 1))) (fun hHeld => ?_)
          refine wpAnyH_take (i := 0) (v := ?_) rfl (by kernel_rfl) (by kernel_rfl) (by kernel_rfl) (fun _ _ _ h => h) (Or.inl ⟨by rfl, ?_⟩) hHeld ?_
          rotate_left
          · intro w' hS'
            (try dsimp only at hS')
            go_simp
            try with_reducible rfl
          try simp only [List.getElem_toArray, List.getElem_cons_zero, Act.put, List.setIfInBounds_toArray, List.set_cons_zero, List.set_cons_succ]
          refine wpAnyH_take (i := 1) (v := ?_) rfl (by kernel_rfl) (by kernel_rfl) (by kernel_rfl) (fun _ _ _ h => h) (Or.inl ⟨by rfl, ?_⟩) hHeld ?_
          rotate_left
          · intro w' hS'
            (try dsimp only at hS')
            go_simp
            try with_reducible rfl
          try simp only [List.getElem_toArray, List.getElem_cons_succ, List.getElem_cons_zero, Act.put, List.setIfInBounds_toArray, List.set_cons_zero, List.set_cons_succ]
          refine wpAnyH_ready (rs := [2, 4]) (by kernel_rfl) (by simp) (AllReadyH.cons rfl (fun K hK => ?_) (AllReadyH.cons rfl (fun K hK => ?_) AllReadyH.nil))
          · rw [if_pos (by rfl)]
            refine wp_lookup1 keyRf Try.underlying53 (.tmp 19) (.tmp 20) rfl HM.out t (.int .i64 0) (zint _) rfl rfl (.int .i64 c) HCC.out ?_
            refine hK.out _ _ hHeld (fun hHeld => ?_)
            clear hK K
            try simp only [List.getElem_toArray, List.getElem_cons_succ, List.getElem_cons_zero, Act.put, List.setIfInBounds_toArray, List.set_cons_zero, List.set_cons_succ]
            refine wpAnyH_take (i := 3) (v := ?_) rfl (by kernel_rfl) (by kernel_rfl) (by kernel_rfl) (fun _ _ _ h => h) (Or.inl ⟨by rfl, ?_⟩) hHeld ?_
            rotate_left
            · intro w' hS'
              (try dsimp only at hS')
              go_simp
              try with_reducible rfl
            try simp only [List.getElem_toArray, List.getElem_cons_succ, List.getElem_cons_zero, Act.put, List.setIfInBounds_toArray, List.set_cons_zero, List.set_cons_succ]
            refine wpAnyH_ready (rs := [4]) (by kernel_rfl) (by simp) (AllReadyH.cons rfl (fun K hK => ?_) AllReadyH.nil)
            rw [if_pos (by rfl)]
            refine wp_entryM keyRf Try.underlying53 (.tmp 19) (.tmp 20) rfl HM.out t (.int .i64 0) (zint _) rfl rfl ?_
            intro w2 st g2 me2
            have K2 := Lib.hid ((KeepA.of_below (X := fun k => k = x.mt) (drewN_below (Below.refl _ wa) 1)).trans (keep_grown g2))
            refine hK.out _ _ (HS4.out w2 K2.out) (fun hHeld => ?_)
            clear hK K
            try simp only [List.getElem_toArray, List.getElem_cons_succ, List.getElem_cons_zero, Act.put, List.setIfInBounds_toArray, List.set_cons_zero, List.set_cons_succ]
            refine wpAnyH_take (i := 5) (v := ?_) rfl (by kernel_rfl) (by kernel_rfl) (by kernel_rfl) (fun _ _ _ h => h) (Or.inl ⟨by rfl, ?_⟩) hHeld ?_
            rotate_left
            · intro w' hS'
              (try dsimp only at hS')
              go_simp
              try with_reducible rfl
            try simp only [List.getElem_toArray, List.getElem_cons_succ, List.getElem_cons_zero, Act.put, List.setIfInBounds_toArray, List.set_cons_zero, List.set_cons_succ]
            refine wpAnyH_ready (rs := [6]) (by kernel_rfl) (by simp) (AllReadyH.cons rfl (fun K hK => ?_) AllReadyH.nil)
            rw [if_pos (by rfl)]
            refine wp_estoreM (.tmp 19) (.tmp 24) (.tmp 22) rfl rfl me2 (.int .i64 c2) rfl rfl rfl ?_
            intro w3 g3 mr3
            refine hK.out _ _ (HS4.out w3 (K2.out.trans (keep_grown g3))) (fun _ => ?_)
            clear hK K
            try simp only [List.getElem_toArray, List.getElem_cons_succ, List.getElem_cons_zero, Act.put, List.setIfInBounds_toArray, List.set_cons_zero, List.set_cons_succ]
            refine wpAnyH_done (by kernel_rfl) ?_ _
            have HMR := Lib.hid (bump_eqf mr3)
            have HKP := Lib.hid (K2.out.trans (keep_grown g3))
            clear mr3 g2 g3 me2
            go_wp2
            go_meet
            exact ⟨HMR.out, HKP.out⟩
          · rw [if_pos (by rfl)]
            refine wp_entryM keyRf Try.underlying53 (.tmp 19) (.tmp 20) rfl HM.out t (.int .i64 0) (zint _) rfl rfl ?_
            intro w2 st g2 me2
            have K2 := Lib.hid ((KeepA.of_below (X := fun k => k = x.mt) (drewN_below (Below.refl _ wa) 1)).trans (keep_grown g2))
            refine hK.out _ _ (HS4.out w2 K2.out) (fun hHeld => ?_)
            clear hK K
            try simp only [List.getElem_toArray, List.getElem_cons_succ, List.getElem_cons_zero, Act.put, List.setIfInBounds_toArray, List.set_cons_zero, List.set_cons_succ]
            refine wpAnyH_take (i := 5) (v := ?_) rfl (by kernel_rfl) (by kernel_rfl) (by kernel_rfl) (fun _ _ _ h => h) (Or.inl ⟨by rfl, ?_⟩) hHeld ?_
            rotate_left
            · intro w' hS'
              (try dsimp only at hS')
              go_simp
              try with_reducible rfl
            try simp only [List.getElem_toArray, List.getElem_cons_succ, List.getElem_cons_zero, Act.put, List.setIfInBounds_toArray, List.set_cons_zero, List.set_cons_succ]
            refine wpAnyH_ready (rs := [2]) (by kernel_rfl) (by simp) (AllReadyH.cons rfl (fun K hK => ?_) AllReadyH.nil)
            rw [if_pos (by rfl)]
            refine wp_lookup1 keyRf Try.underlying53 (.tmp 19) (.tmp 20) rfl me2.map t (.int .i64 0) (zint _) rfl rfl (.int .i64 c) (by rw [if_pos rfl]; exact HCC.out) ?_
            refine hK.out _ _ hHeld (fun hHeld => ?_)
            clear hK K
            try simp only [List.getElem_toArray, List.getElem_cons_succ, List.getElem_cons_zero, Act.put, List.setIfInBounds_toArray, List.set_cons_zero, List.set_cons_succ]
            refine wpAnyH_take (i := 3) (v := ?_) rfl (by kernel_rfl) (by kernel_rfl) (by kernel_rfl) (fun _ _ _ h => h) (Or.inl ⟨by rfl, ?_⟩) hHeld ?_
            rotate_left
            · intro w' hS'
              (try dsimp only at hS')
              go_simp
              try with_reducible rfl
            try simp only [List.getElem_toArray, List.getElem_cons_succ, List.getElem_cons_zero, Act.put, List.setIfInBounds_toArray, List.set_cons_zero, List.set_cons_succ]
            refine wpAnyH_ready (rs := [6]) (by kernel_rfl) (by simp) (AllReadyH.cons rfl (fun K hK => ?_) AllReadyH.nil)
            rw [if_pos (by rfl)]
            refine wp_estoreM (.tmp 19) (.tmp 24) (.tmp 22) rfl rfl me2 (.int .i64 c2) rfl rfl rfl ?_
            intro w3 g3 mr3
            refine hK.out _ _ (HS4.out w3 (K2.out.trans (keep_grown g3))) (fun _ => ?_)
            clear hK K
            try simp only [List.getElem_toArray, List.getElem_cons_succ, List.getElem_cons_zero, Act.put, List.setIfInBounds_toArray, List.set_cons_zero, List.set_cons_succ]
            refine wpAnyH_done (by kernel_rfl) ?_ _
            have HMR := Lib.hid (bump_eqf mr3)
            have HKP := Lib.hid (K2.out.trans (keep_grown g3))
            clear mr3 g2 g3 me2
            go_wp2
            go_meet
            exact ⟨HMR.out, HKP.out⟩
        case rest =>
          obtain ⟨hm9, hk9⟩ := hcut
          have HM9 := Lib.hid hm9
          have HNEW : Hid (CwAt w0 wc x gb ov1 o1 (E1 ++ [(v, t)]) ∧ CUp x wa ov1 wc ov1) := HATA.out.bump HX.out hk9 (HC2E.out wc (fun _ => none) hm9)
          have HB9 : Hid (RowAt wc bt 25 #[.string t.1, .int .i64 t.2]) := row_keep hk9 HBT.out HLTB.out.2.1
          have HC9 : Hid (CellsAt wc rfC bt 0 t) := RowAt.rf HB9.out
          have HUP9 : Hid (CUp x w ov wc ov1) := HUPA.out.trans HNEW.out.2
          have htc : wc.cell? ⟨x.tx, 0, none⟩ = some (.map (some x.mt)) := HNEW.out.1.t.cell 0
          have HSUCC : Hid ((y.2.take (k + 1)).foldl (wstep D f) out = wstep D f o1 t) := by
            obtain ⟨h, e⟩ := HT.out
            show _ = _
            rw [fold_succ h, HO1.out, e]
          clear hm9 hk9 HM HS4 HC2E HBT HATA HUPA hwr hc2
          by_cases hz : c = 0
          · have hb2 : (c2 == 1) = true := by have := HC2V.out; simp; omega
            have HCPRE : Hid (CPre D rk root (E1 ++ [(v, t)]) o1 t ∧ ¬ t ∈ o1) := by
              obtain ⟨h, e⟩ := HT.out
              exact HMI.out.new h e HND.out HVD.out HTK.out.2 HDP.out (by have := HCV.out; omega)
            have HREC := Lib.hid (HIH.out wc ov1 o1 (E1 ++ [(v, t)]) t (by have := HTK.out.2; have := HRV.out; omega) HTK.out.1 HNEW.out.1 HCPRE.out.1)
            have HDONE : Hid (∀ E2, CE D rk root E2 (wlkR D f t o1) (rk t) → Gw rk (rk t) (E1 ++ [(v, t)]) E2 → CMid D rk root E E2 (wlkR D f t o1 ++ [t]) v y.2 (k + 1) ∧ wstep D f o1 t = wlkR D f t o1 ++ [t]) := Lib.hid fun E2 h1 h2 => by
              obtain ⟨h, e⟩ := HT.out
              exact HMI.out.done HRK.out h e HND.out HVD.out HTK.out.1 HTK.out.2 (by have := HCV.out; omega) h1 h2
            have HLW : Hid ((wlkR D f t o1).length ≤ 1000000) := Nat.le_trans (wlk_ok HRK.out f t o1 HMI.out.tok).1.len (Nat.le_trans HLEN.out (by decide))
            obtain ⟨H, hH⟩ : ∃ z, wlkR D f t o1 = z := ⟨_, rfl⟩
            rw [hH] at HREC HDONE HLW
            have hwc : wc.cell? ⟨x.wx, 0, none⟩ = some (.func (.func 43) #[] #[.pointer (some ⟨x.gx, 0, none⟩), .pointer (some ⟨x.tx, 0, none⟩), .pointer (some ⟨x.wx, 0, none⟩), .pointer (some ⟨x.ox, 0, none⟩)]) := HNEW.out.1.k.cell 0
            clear hH HCPRE
            go_upto_region 7 with (first
              | (refine step_loadRf rfl (.tmp 7) rfl HC9.out rfl ?_)
              | (refine step_lookup1 keyRf Try.underlying53 (by rfl) (.tmp 25) (.tmp 26) rfl HM9.out t (.int .i64 0) (zint _) rfl rfl (.int .i64 c2) (by rw [if_pos rfl]; rfl) ?_)
              | (go_at_call 43; refine HREC.out.mono ?_; rintro _ w5 ⟨rfl, ov5, E5, q1, q2, q3, q4⟩; have Q1 := Lib.hid q1; have Q2 := Lib.hid q2; have Q3 := Lib.hid q3; have Q4 := Lib.hid q4; clear q1 q2 q3 q4))
            obtain ⟨a5, n5, c5, hov5⟩ : ∃ a n c, ov5 = .slice a n c := by
              obtain ⟨a, c, e, -⟩ := Q1.out.own.rd
              exact ⟨a, _, c, e⟩
            subst hov5
            have HB5 : Hid (RowAt w5 bt 25 #[.string t.1, .int .i64 t.2]) := row_keep Q4.out.1 HB9.out (fun e => e.elim HLTB.out.1 fun e => e.elim HLTB.out.2.1 HLTB.out.2.2)
            have HC5 : Hid (CellsAt w5 rfC bt 0 t) := RowAt.rf HB5.out
            have hoc : w5.cell? ⟨x.ox, 0, none⟩ = some (.slice a5 n5 c5) := Q1.out.o.cell 0
            obtain ⟨G, hG⟩ : ∃ z, w5.heap.size = z := ⟨_, rfl⟩
            obtain ⟨w6, hw6⟩ : ∃ z, w5.alloc (.cells #[.string t.1, .int .i64 t.2] 25) = z := ⟨_, rfl⟩
            have hb6 : Below w5.heap.size w5 w6 := by rw [← hw6]; exact below_alloc _
            have HC6 : Hid (CellsAt w6 rfC G 0 t) := by rw [← hw6, ← hG]; exact RowAt.rf (RowAt.new _ _ _)
            have hG6 : G < w6.heap.size := by rw [← hw6, ← hG]; simp
            have HA6 := Lib.hid (Q1.out.later hb6)
            have HU6 : Hid (CUp x w ov w6 (.slice a5 n5 c5)) := (HUP9.out.trans Q4.out).trans (CUp.below _ hb6)
            have HFD := Lib.hid (HDONE.out E5 Q2.out Q3.out)
            clear hb6 Q1 Q2 Q3 Q4 HDONE
            go_wp2_with (first
              | (refine step_loadRf rfl (.tmp 7) rfl HC5.out rfl ?_)
              | (refine step_pushRf eltRf rfl (.tmp 32) (.tmp 34) rfl _ H rfl G t rfl HA6.out.own HC6.out hG6 HLW.out ?_; intro v7 w7 ho7 hg7 hn7; obtain ⟨a7, n7, c7, hv7⟩ : ∃ a n c, v7 = .slice a n c := (by obtain ⟨a, c, e, -⟩ := ho7.rd; exact ⟨a, _, c, e⟩); subst hv7; have HF7 := Lib.hid (HA6.out.push HX.out ho7 hg7 hn7 rfl); have hr7 := (row_keep (keep_grownO hg7) HA6.out.o (fun e => by have := HA6.out.low _ e; have := HX.out.o.2.1; omega)); have hc7 := hr7.cell 0; have hf7 := frozen_of_row w7 x.ox 0 _ _ hr7; clear ho7 hg7 hn7 hr7))
            exact ⟨⟨k + 1, _, E5, by go_num, hkm, by rw [HSUCC.out, HFD.out.2]; exact HF7.out.1, by rw [HSUCC.out, HFD.out.2]; exact HFD.out.1, HU6.out.trans HF7.out.2⟩, by show m - ((k : Int) + 1).toNat < m - (k : Int).toNat; omega⟩
          · have hb2 : (c2 == 1) = false := by have := HC2V.out; simp; omega
            have HAG : Hid (CMid D rk root E (E1 ++ [(v, t)]) o1 v y.2 (k + 1) ∧ wstep D f o1 t = o1) := by
              obtain ⟨h, e⟩ := HT.out
              exact HMI.out.again f h e HND.out HVD.out HTK.out.2 (by have := HCV.out; omega)
            go_wp2_with (first
              | (refine step_loadRf rfl (.tmp 7) rfl HC9.out rfl ?_)
              | (refine step_lookup1 keyRf Try.underlying53 (by rfl) (.tmp 25) (.tmp 26) rfl HM9.out t (.int .i64 0) (zint _) rfl rfl (.int .i64 c2) (by rw [if_pos rfl]; rfl) ?_))
            exact ⟨⟨k + 1, ov1, E1 ++ [(v, t)], by go_num, hkm, by rw [HSUCC.out, HAG.out.2]; exact HNEW.out.1, by rw [HSUCC.out, HAG.out.2]; exact HAG.out.1, HUP9.out⟩, by show m - ((k : Int) + 1).toNat < m - (k : Int).toNat; omega⟩
      · have hk' : k = m := by omega
        subst hk'
        go_wp2
        exact ⟨rfl, _, results_none rfl _ _ _, HK.out _ _ _ HAT.out HMI.out HUP.out⟩
end Go.Proofs.Ytcakdjnnfonijaa
