/- Remove of the program's graph. -/
import Derived.Test.YtcakdjnnfonijaaRgAdd
namespace Go.Proofs.Ytcakdjnnfonijaa
open Go.RowKit

/-- A map holds so many entries. -/
def MapLen (w : World) (mo : Option Nat) (n : Nat) : Prop := match mo with
  | none => n = 0
  | some m => ∃ es c, w.heap[m]? = some (.map es c) ∧ es.size = n
theorem wp_lenMapO {P : Program} {o : Oper} {act : Act} {K : Act → World → Prop} {Q : Exit → Act → World → Prop} {w : World} (x : Operand) (mt : TypeId) (ho : o.op = .call { callee := .builtin .len, args := #[x], argTypes := #[mt] }) {kt et : TypeId} (hm : P.underlying mt = some (.map kt et)) (mo : Option Nat) (n : Nat) (h : MapLen w mo n) (z : Int) (hz : (n : Int) = z) (hx : act.eval x = .map mo)
    (hn : K (act.put o.dst (.int .i64 z)) w) : o.wp P act w K Q := by
  subst hz
  have hrun : (Builtin.len_ #[mt] o.type #[.map mo]).run P w = .ok (.int .i64 (n : Int)) w := by
    unfold Builtin.len_
    simp only [List.getElem?_toArray, List.getElem?_cons_zero]
    rw [Sem.run_bind, run_underlying hm, Result.andThen_ok]
    cases mo with
    | none =>
      have h : n = 0 := h
      subst h
      rfl
    | some m =>
      obtain ⟨es, c, h1, h2⟩ := h
      dsimp only
      simp only [Sem.run_bind, Result.andThen_ok, MapKept.run_getObj_map h1, h2]
      rfl
  unfold Oper.wp execOp
  simp only [ho, resolve, invoke, builtin, Sem.run_bind, Sem.run_pure, Result.andThen_ok, List.map_toArray, List.map_cons, List.map_nil, hx, hrun]
  exact hn
/-- What Remove answers. -/
def remR (D : List (Rf × List Rf)) (v : Rf) : Int := if askR D v = 0 then (if behd D v = [] then 0 else 330) else askR D v
theorem remR_ask {D : List (Rf × List Rf)} {v : Rf} (h : askR D v ≠ 0) : remR D v = askR D v := by unfold remR; rw [if_neg h]
theorem remR_ref {D : List (Rf × List Rf)} {v : Rf} (h : askR D v = 0) (h2 : behd D v ≠ []) : remR D v = 330 := by unfold remR; rw [if_pos h, if_neg h2]
theorem remR_ok {D : List (Rf × List Rf)} {v : Rf} (h : askR D v = 0) (h2 : behd D v = []) : remR D v = 0 := by unfold remR; rw [if_pos h, if_pos h2]
theorem askR_in {D : List (Rf × List Rf)} {v : Rf} (h : askR D v = 0) : v ∈ D.map (·.1) := by
  unfold askR at h
  by_cases h1 : rightR v = true
  · rw [if_pos h1] at h
    by_cases h3 : memB v (D.map (·.1)) = true
    · exact memB_iff.1 h3
    · rw [if_neg h3] at h; omega
  · rw [if_neg h1] at h; omega
def remRel (D : List (Rf × List Rf)) (v : Rf) (tg : List Rf) (j : Nat) : Rf → Rf → Bool := fun t u => relD D t u && !(decide (u = v) && memB t (tg.take j))
theorem remRel_zero (D : List (Rf × List Rf)) (v : Rf) (tg : List Rf) (t u : Rf) : relD D t u = remRel D v tg 0 t u := by
  unfold remRel
  have : memB t (tg.take 0) = false := by simp [memB]
  rw [this]; simp
theorem remRel_succ (D : List (Rf × List Rf)) (v : Rf) (tg : List Rf) {j : Nat} (hj : j < tg.length) (u : Rf) : (if u = v then none else relF (remRel D v tg j) tg[j] u) = relF (remRel D v tg (j + 1)) tg[j] u := by
  unfold relF remRel
  rw [memB_take_succ hj]
  by_cases e : u = v <;> simp [e]
theorem remRel_other (D : List (Rf × List Rf)) (v : Rf) (tg : List Rf) {j : Nat} (hj : j < tg.length) {t : Rf} (u : Rf) (ht : t ≠ tg[j]) : remRel D v tg (j + 1) t u = remRel D v tg j t u := by
  unfold remRel
  rw [memB_take_succ hj]
  simp [ht]
theorem remRel_end {D D' : List (Rf × List Rf)} {v : Rf} {x : Rf × List Rf} (hn : (D.map (·.1)).Nodup) (hx : x ∈ D) (hxv : x.1 = v) (hD : ∀ y, y ∈ D' ↔ y ∈ D ∧ y.1 ≠ v) (t u : Rf) : remRel D v x.2 x.2.length t u = relD D' t u := by
  unfold remRel relD
  rw [List.take_length, Bool.eq_iff_iff, Bool.and_eq_true, memB_iff, memB_iff, behd_iff, behd_iff]
  constructor
  · rintro ⟨⟨y, hy, e, ht⟩, h2⟩
    refine ⟨y, (hD y).2 ⟨hy, fun e2 => ?_⟩, e, ht⟩
    have hyx := nodup_inj hn y hy x hx (e2.trans hxv.symm)
    subst hyx
    have h3 : memB t y.2 = true := memB_iff.2 ht
    rw [h3] at h2
    have h4 : u = v := by rw [← e, e2]
    simp [h4] at h2
  · rintro ⟨y, hy, e, ht⟩
    obtain ⟨q1, q2⟩ := (hD y).1 hy
    exact ⟨⟨y, q1, e, ht⟩, by rw [← e]; simp [q2]⟩
/-- How Remove ends. -/
def RemEnd (w : World) (TT : Nat → Prop) (gb : Nat) (D : List (Rf × List Rf)) (v : Rf) (e : Ending) (w' : World) : Prop :=
  e = .returned (.int .i64 (remR D v)) ∧ KeepA TT w w' ∧ (remR D v ≠ 0 → Below w.heap.size w w') ∧ (remR D v = 0 → ∀ D', (∀ x, x ∈ D' ↔ x ∈ D ∧ x.1 ≠ v) → GrS w' TT gb D')
set_option maxRecDepth 100000 in
set_option maxHeartbeats 8000000 in
theorem grem_any (w : World) (TT : Nat → Prop) (gb : Nat) (D : List (Rf × List Rf)) (h : GrS w TT gb D) (hlk : Lks D) (hts : ∀ x ∈ D, x.2.length ≤ 1000) (v : Rf) :
    Calls Try.prog 15 #[.pointer (some ⟨gb, 0, none⟩), .agg #[.string v.1, .int .i64 v.2]] w (RemEnd w TT gb D v) := by
  obtain ⟨px, hpx⟩ : ∃ y, w.heap.size = y := ⟨_, rfl⟩
  have hG0 : w.heap.size = px := hpx
  obtain ⟨w1, hw1⟩ : ∃ y, w.alloc (.cells #[.string v.1, .int .i64 v.2] 25) = y := ⟨_, rfl⟩
  have hb1 : Below w.heap.size w w1 := by rw [← hw1]; exact below_alloc _
  have HP1 : Hid (RowAt w1 px 25 #[.string v.1, .int .i64 v.2]) := by rw [← hw1, ← hpx]; exact RowAt.new _ _ _
  have HC1 : Hid (CellsAt w1 rfC px 0 v) := RowAt.rf HP1.out
  have HB1 := Lib.hid hb1
  have h1 := h.later hb1
  have HG1 := Lib.hid h1
  have HLK := Lib.hid hlk
  have HTS := Lib.hid hts
  obtain ⟨K, hK⟩ : ∃ K, RemEnd w TT gb D v = K := ⟨_, rfl⟩
  have HKE : Hid (∀ z W, remR D v = z → z ≠ 0 → Below w.heap.size w W → K (.returned (.int .i64 z)) W) := Lib.hid fun z W hz h0 hW => by
    rw [← hK]
    exact ⟨by rw [hz], KeepA.of_below hW, fun _ => hW, fun e => absurd (hz.symm.trans e) h0⟩
  have HKO : Hid (∀ W, remR D v = 0 → KeepA TT w W → (∀ D', (∀ x, x ∈ D' ↔ x ∈ D ∧ x.1 ≠ v) → GrS W TT gb D') → K (.returned (.int .i64 0)) W) := Lib.hid fun W hz k1 k2 => by
    rw [← hK]
    exact ⟨by rw [hz], k1, fun e => absurd hz e, fun _ => k2⟩
  rw [hK]
  obtain ⟨z, hz⟩ : ∃ z, askR D v = z := ⟨_, rfl⟩
  have HZ := Lib.hid hz
  have HAK : Hid (Calls Try.prog 39 #[.pointer (some ⟨gb, 0, none⟩), .agg #[.string v.1, .int .i64 v.2]] w1 fun e w' => e = .returned (.int .i64 z) ∧ Below w1.heap.size w1 w') := by rw [← hz]; exact gasked_any w1 TT gb D h1 v
  clear h hlk hts hb1 hK h1 hz
  go_enter Try.func15, Try.ntmps15
  by_cases hz0 : z = 0
  · subst hz0
    go_upto_region 4 with (first
      | (refine step_loadRf rfl (.tmp 3) rfl HC1.out rfl ?_)
      | (go_at_call 39; refine HAK.out.mono ?_; rintro _ w2 ⟨rfl, hb2⟩; have HB2 := Lib.hid hb2; clear hb2))
    obtain ⟨m1, m2, fT, fF, hgm⟩ := HG1.out.later HB2.out
    have hgg := hgm.g
    have HGG := Lib.hid hgg
    have HP2 : Hid (RowAt w2 px 25 #[.string v.1, .int .i64 v.2]) := RowAt.below HP1.out HB2.out
    have HB12 := Lib.hid (below_trans HB1.out HB2.out)
    have HS1 : Hid (∀ W, Below w2.heap.size w2 W → W.cell? ⟨gb, 1, none⟩ = some (.map (some m2)) ∧ W.cell? ⟨px, 0, none⟩ = some (.string v.1) ∧ W.cell? ⟨px, 1, none⟩ = some (.int .i64 v.2)) := Lib.hid fun W hW => by
      have r1 := RowAt.below HGG.out.box hW
      have r2 := RowAt.below HP2.out hW
      exact ⟨r1.cell 1, r2.cell 0, r2.cell 1⟩
    have HM2 : Hid (MapR w2.drew m2 rfV fF) := hgg.mf
    obtain ⟨mo, ln, hmo, hln, hlz⟩ : ∃ mo ln, (fF v).getD (.map none) = .map mo ∧ MapLen w2.drew mo ln ∧ (ln = 0 ↔ behd D v = []) := by
      cases hf : fF v with
      | none => exact ⟨none, 0, rfl, rfl, fun _ => hgm.frN v hf, fun _ => rfl⟩
      | some s =>
        obtain ⟨m, rfl, hm, -⟩ := hgg.frS v s hf
        obtain ⟨es, c, q1, q2⟩ := hm.none_iff
        refine ⟨some m, es.size, rfl, ⟨es, c, q1, rfl⟩, q2.trans ⟨fun h0 => ?_, fun h0 k => ?_⟩⟩
        · cases hb : behd D v with
          | nil => rfl
          | cons u l =>
            have := h0 u
            unfold relF relD at this
            rw [if_pos (memB_iff.2 (by rw [hb]; exact List.mem_cons_self))] at this
            cases this
        · unfold relF relD
          rw [h0]
          rfl
    have HFV := Lib.hid hmo
    have HLN := Lib.hid hln
    have HLZ := Lib.hid hlz
    clear hgm hgg hmo hln hlz
    by_cases hl0 : ln = 0
    · have HZ2 : Hid (remR D v = 0) := remR_ok HZ.out (HLZ.out.1 hl0)
      have HL0 := Lib.hid hl0
      clear hl0
      refine wp_region_held_drew (S := fun W => W.cell? ⟨gb, 1, none⟩ = some (.map (some m2)) ∧ W.cell? ⟨px, 0, none⟩ = some (.string v.1) ∧ W.cell? ⟨px, 1, none⟩ = some (.int .i64 v.2)) (by kernel_rfl) (HS1.out w2.drew (drewN_below (Below.refl _ w2) 1)) (fun hHeld => ?_)
      refine wpAnyH_take (i := 0) (v := ?_) rfl (by kernel_rfl) (by kernel_rfl) (by kernel_rfl) (fun _ _ _ h => h) (Or.inl ⟨by rfl, ?_⟩) hHeld ?_
      rotate_left
      · intro w' hS'
        (try dsimp only at hS')
        go_simp
        try with_reducible rfl
      try simp only [List.getElem_toArray, List.getElem_cons_zero, Act.put, List.setIfInBounds_toArray, List.set_cons_zero, List.set_cons_succ]
      refine wpAnyH_take (i := 1) (v := ?_) rfl (by kernel_rfl) (by kernel_rfl) (by kernel_rfl) (fun _ _ _ h => h) (Or.inl ⟨by rfl, ?_⟩) hHeld ?_
      rotate_left
      · intro w' hS'
        (try dsimp only at hS')
        go_simp
        try with_reducible rfl
      try simp only [List.getElem_toArray, List.getElem_cons_succ, List.getElem_cons_zero, Act.put, List.setIfInBounds_toArray, List.set_cons_zero, List.set_cons_succ]
      refine wpAnyH_take (i := 2) (v := ?_) rfl (by kernel_rfl) (by kernel_rfl) (by kernel_rfl) (fun _ _ _ h => h) (Or.inl ⟨by rfl, ?_⟩) hHeld ?_
      rotate_left
      · intro w' hS'
        (try dsimp only at hS')
        go_simp
        try with_reducible rfl
      try simp only [List.getElem_toArray, List.getElem_cons_succ, List.getElem_cons_zero, Act.put, List.setIfInBounds_toArray, List.set_cons_zero, List.set_cons_succ]
      refine wpAnyH_take (i := 3) (v := ?_) rfl (by kernel_rfl) (by kernel_rfl) (by kernel_rfl) (fun _ _ _ h => h) (Or.inl ⟨by rfl, ?_⟩) hHeld ?_
      rotate_left
      · intro w' hS'
        (try dsimp only at hS')
        go_simp
        try with_reducible rfl
      try simp only [List.getElem_toArray, List.getElem_cons_succ, List.getElem_cons_zero, Act.put, List.setIfInBounds_toArray, List.set_cons_zero, List.set_cons_succ]
      refine wpAnyH_take (i := 4) (v := ?_) rfl (by kernel_rfl) (by kernel_rfl) (by kernel_rfl) (fun _ _ _ h => h) (Or.inl ⟨by rfl, ?_⟩) hHeld ?_
      rotate_left
      · intro w' hS'
        (try dsimp only at hS')
        go_simp
        try with_reducible rfl
      try simp only [List.getElem_toArray, List.getElem_cons_succ, List.getElem_cons_zero, Act.put, List.setIfInBounds_toArray, List.set_cons_zero, List.set_cons_succ]
      refine wpAnyH_ready (rs := [5]) (by kernel_rfl) (by simp) (AllReadyH.cons rfl (fun K hK => ?_) AllReadyH.nil)
      rw [if_pos (by rfl)]
      refine wp_lookup1 keyRf Try.underlying67 (.tmp 17) (.tmp 18) rfl HM2.out v (.map none) (zmap1 _) rfl rfl (.map mo) HFV.out ?_
      refine hK.out _ _ hHeld (fun hHeld => ?_)
      clear hK K
      try simp only [List.getElem_toArray, List.getElem_cons_succ, List.getElem_cons_zero, Act.put, List.setIfInBounds_toArray, List.set_cons_zero, List.set_cons_succ]
      refine wpAnyH_ready (rs := [6]) (by kernel_rfl) (by simp) (AllReadyH.cons rfl (fun K hK => ?_) AllReadyH.nil)
      rw [if_pos (by rfl)]
      refine wp_lenMapO (.tmp 19) 53 rfl Try.underlying53 mo ln HLN.out 0 (by rw [HL0.out]; rfl) rfl ?_
      refine hK.out _ _ hHeld (fun hHeld => ?_)
      clear hK K
      try simp only [List.getElem_toArray, List.getElem_cons_succ, List.getElem_cons_zero, Act.put, List.setIfInBounds_toArray, List.set_cons_zero, List.set_cons_succ]
      refine wpAnyH_take (i := 7) (v := ?_) rfl (by kernel_rfl) (by kernel_rfl) (by kernel_rfl) (fun _ _ _ h => h) (Or.inl ⟨by rfl, ?_⟩) hHeld ?_
      rotate_left
      · intro w' hS'
        (try dsimp only at hS')
        go_simp
        try with_reducible rfl
      try simp only [List.getElem_toArray, List.getElem_cons_succ, List.getElem_cons_zero, Act.put, List.setIfInBounds_toArray, List.set_cons_zero, List.set_cons_succ]
      refine wpAnyH_done (by kernel_rfl) ?_ _
      clear HM2 HFV HLN HLZ HS1 HL0
      obtain ⟨w3, hw3⟩ : ∃ y, y = w2.drew := ⟨w2.drew, rfl⟩
      have hb3 : Below w2.heap.size w2 w3 := by rw [hw3]; exact drewN_below (Below.refl _ w2) 1
      have HG3 := Lib.hid (HGG.out.later hb3)
      have HP3 : Hid (RowAt w3 px 25 #[.string v.1, .int .i64 v.2]) := RowAt.below HP2.out hb3
      have HB13 := Lib.hid (below_trans HB12.out hb3)
      rw [← hw3]
      clear hw3 hb3 HGG HP2 HB12 HG1 HAK
      have HS0 : Hid (∀ W, Below w3.heap.size w3 W → W.cell? ⟨gb, 0, none⟩ = some (.map (some m1)) ∧ W.cell? ⟨px, 0, none⟩ = some (.string v.1) ∧ W.cell? ⟨px, 1, none⟩ = some (.int .i64 v.2)) := Lib.hid fun W hW => by
        have r1 := RowAt.below HG3.out.box hW
        have r2 := RowAt.below HP3.out hW
        exact ⟨r1.cell 0, r2.cell 0, r2.cell 1⟩
      have HM1 : Hid (MapR w3.drew m1 rfV fT) := HG3.out.mt
      cases hf : fT v with
      | none => exact absurd (askR_in HZ.out) (HG3.out.toN v hf)
      | some s =>
        obtain ⟨x, hx, hxv, hown, hownT⟩ := HG3.out.toS v s hf
        obtain ⟨sa, sc, rfl, -, -, hrd⟩ := hown.rd
        obtain ⟨n, hn⟩ : ∃ y, x.2.length = y := ⟨_, rfl⟩
        have HNN := Lib.hid hn
        have hn1000 : n ≤ 1000 := by rw [← hn]; exact HTS.out x hx
        rw [hn] at hf hown
        have HFT : Hid ((fT v).getD (.slice none 0 0) = .slice sa n sc) := by rw [hf]; rfl
        have HOWN := Lib.hid hown
        have HX : Hid (x ∈ D ∧ x.1 = v) := ⟨hx, hxv⟩
        have HOT := Lib.hid hownT
        clear hx hxv hown hownT hrd hf hn
        go_upto_region 6 with fail
        refine wp_region_held_drew (S := fun W => W.cell? ⟨gb, 0, none⟩ = some (.map (some m1)) ∧ W.cell? ⟨px, 0, none⟩ = some (.string v.1) ∧ W.cell? ⟨px, 1, none⟩ = some (.int .i64 v.2)) (by kernel_rfl) (HS0.out w3.drew (drewN_below (Below.refl _ w3) 1)) (fun hHeld => ?_)
        refine wpAnyH_take (i := 0) (v := ?_) rfl (by kernel_rfl) (by kernel_rfl) (by kernel_rfl) (fun _ _ _ h => h) (Or.inl ⟨by rfl, ?_⟩) hHeld ?_
        rotate_left
        · intro w' hS'
          (try dsimp only at hS')
          go_simp
          try with_reducible rfl
        try simp only [List.getElem_toArray, List.getElem_cons_zero, Act.put, List.setIfInBounds_toArray, List.set_cons_zero, List.set_cons_succ]
        refine wpAnyH_take (i := 1) (v := ?_) rfl (by kernel_rfl) (by kernel_rfl) (by kernel_rfl) (fun _ _ _ h => h) (Or.inl ⟨by rfl, ?_⟩) hHeld ?_
        rotate_left
        · intro w' hS'
          (try dsimp only at hS')
          go_simp
          try with_reducible rfl
        try simp only [List.getElem_toArray, List.getElem_cons_succ, List.getElem_cons_zero, Act.put, List.setIfInBounds_toArray, List.set_cons_zero, List.set_cons_succ]
        refine wpAnyH_take (i := 2) (v := ?_) rfl (by kernel_rfl) (by kernel_rfl) (by kernel_rfl) (fun _ _ _ h => h) (Or.inl ⟨by rfl, ?_⟩) hHeld ?_
        rotate_left
        · intro w' hS'
          (try dsimp only at hS')
          go_simp
          try with_reducible rfl
        try simp only [List.getElem_toArray, List.getElem_cons_succ, List.getElem_cons_zero, Act.put, List.setIfInBounds_toArray, List.set_cons_zero, List.set_cons_succ]
        refine wpAnyH_take (i := 3) (v := ?_) rfl (by kernel_rfl) (by kernel_rfl) (by kernel_rfl) (fun _ _ _ h => h) (Or.inl ⟨by rfl, ?_⟩) hHeld ?_
        rotate_left
        · intro w' hS'
          (try dsimp only at hS')
          go_simp
          try with_reducible rfl
        try simp only [List.getElem_toArray, List.getElem_cons_succ, List.getElem_cons_zero, Act.put, List.setIfInBounds_toArray, List.set_cons_zero, List.set_cons_succ]
        refine wpAnyH_take (i := 4) (v := ?_) rfl (by kernel_rfl) (by kernel_rfl) (by kernel_rfl) (fun _ _ _ h => h) (Or.inl ⟨by rfl, ?_⟩) hHeld ?_
        rotate_left
        · intro w' hS'
          (try dsimp only at hS')
          go_simp
          try with_reducible rfl
        try simp only [List.getElem_toArray, List.getElem_cons_succ, List.getElem_cons_zero, Act.put, List.setIfInBounds_toArray, List.set_cons_zero, List.set_cons_succ]
        refine wpAnyH_take (i := 7) (v := ?_) rfl (by kernel_rfl) (by kernel_rfl) (by kernel_rfl) (fun _ _ _ h => h) (Or.inl ⟨by rfl, ?_⟩) hHeld ?_
        rotate_left
        · intro w' hS'
          (try dsimp only at hS')
          go_simp
          try with_reducible rfl
        try simp only [List.getElem_toArray, List.getElem_cons_succ, List.getElem_cons_zero, Act.put, List.setIfInBounds_toArray, List.set_cons_zero, List.set_cons_succ]
        refine wpAnyH_ready (rs := [5]) (by kernel_rfl) (by simp) (AllReadyH.cons rfl (fun K hK => ?_) AllReadyH.nil)
        rw [if_pos (by rfl)]
        refine wp_lookup1 keyRf Try.underlying54 (.tmp 25) (.tmp 26) rfl HM1.out v (.slice none 0 0) (znil _) rfl rfl (.slice sa n sc) HFT.out ?_
        refine hK.out _ _ hHeld (fun hHeld => ?_)
        clear hK K
        try simp only [List.getElem_toArray, List.getElem_cons_succ, List.getElem_cons_zero, Act.put, List.setIfInBounds_toArray, List.set_cons_zero, List.set_cons_succ]
        refine wpAnyH_take (i := 6) (v := ?_) rfl (by kernel_rfl) (by kernel_rfl) (by kernel_rfl) (fun _ _ _ h => h) (Or.inl ⟨by rfl, ?_⟩) hHeld ?_
        rotate_left
        · intro w' hS'
          (try dsimp only at hS')
          go_simp
          try with_reducible rfl
        try simp only [List.getElem_toArray, List.getElem_cons_succ, List.getElem_cons_zero, Act.put, List.setIfInBounds_toArray, List.set_cons_zero, List.set_cons_succ]
        refine wpAnyH_done (by kernel_rfl) ?_ _
        have HST : Hid (GrG w3.drew TT gb m1 m2 fT fF D (remRel D v x.2 0) ∧ KeepA TT w w3.drew ∧ RowAt w3.drew px 25 #[.string v.1, .int .i64 v.2] ∧ OwnRf w3.drew (.slice sa n sc) x.2) := by
          have hd : Below w3.heap.size w3 w3.drew := drewN_below (Below.refl _ w3) 1
          exact ⟨(HG3.out.later hd).rel (remRel_zero D v x.2), KeepA.of_below (below_trans HB13.out hd), RowAt.below HP3.out hd, HOWN.out.later hd⟩
        clear HG3 HP3 HB13 HS0 HM1 HFT HOWN
        go_wp2
        go_loopw [29] (fun jv wr => ∃ j : Nat, jv = .int .i64 (j : Int) ∧ j ≤ n ∧ GrG wr TT gb m1 m2 fT fF D (remRel D v x.2 j) ∧ KeepA TT w wr ∧ RowAt wr px 25 #[.string v.1, .int .i64 v.2] ∧ OwnRf wr (.slice sa n sc) x.2) (fun jv _ => n - (intOf jv).toNat)
        case atStart => exact ⟨0, rfl, Nat.zero_le _, HST.out⟩
        case round =>
          clear HST
          obtain ⟨j, rfl, hjn, hgr, hkr, hpr, hor⟩ := hrel
          have HGR := Lib.hid hgr
          have HKR := Lib.hid hkr
          have HPR := Lib.hid hpr
          have HOR := Lib.hid hor
          clear hgr hkr hpr hor
          by_cases hjlt : j < n
          · as_aux_lemma =>
            have hjx : j < x.2.length := by rw [HNN.out]; exact hjlt
            obtain ⟨sa', sc', hse, -, -, hrd⟩ := HOR.out.rd
            simp only [Value.slice.injEq] at hse
            obtain ⟨hsa, -, -⟩ := hse
            subst hsa
            obtain ⟨b, off, ha, hcell⟩ := hrd.get j hjx
            subst ha
            obtain ⟨t, ht⟩ : ∃ t, x.2[j] = t := ⟨_, rfl⟩
            rw [ht] at hcell
            have HT : Hid (∃ h : j < x.2.length, x.2[j] = t) := ⟨hjx, ht⟩
            have HCT := Lib.hid (hcell wr (Below.refl _ _))
            obtain ⟨bt, hbt⟩ : ∃ y, wr.heap.size = y := ⟨_, rfl⟩
            obtain ⟨wa, hwa⟩ : ∃ y, wr.alloc (.cells #[.string t.1, .int .i64 t.2] 25) = y := ⟨_, rfl⟩
            have hba : Below wr.heap.size wr wa := by rw [← hwa]; exact below_alloc _
            have HBA : Hid (RowAt wa bt 25 #[.string t.1, .int .i64 t.2]) := by rw [← hwa, ← hbt]; exact RowAt.new _ _ _
            have HGA := Lib.hid (HGR.out.later hba)
            have HPA : Hid (RowAt wa px 25 #[.string v.1, .int .i64 v.2]) := RowAt.below HPR.out hba
            have HKA : Hid (KeepA TT w wa) := HKR.out.trans (KeepA.of_below hba)
            have HOA := Lib.hid (HOR.out.later hba)
            have hrt : remRel D v x.2 j t v = true := by
              unfold remRel
              have e1 : relD D t v = true := memB_iff.2 (behd_iff.2 ⟨x, HX.out.1, HX.out.2, by rw [← ht]; exact List.getElem_mem hjx⟩)
              have e2 : memB t (x.2.take j) = false := memB_not.2 fun hm => by
                obtain ⟨k, hk, hke⟩ := List.mem_iff_getElem.1 hm
                rw [List.length_take] at hk
                rw [List.getElem_take, ← ht] at hke
                exact (List.pairwise_iff_getElem.1 (HLK.out.two x HX.out.1)) k j (by omega) hjx (by omega) hke
              rw [e1, e2]
              simp
            cases hf : fF t with
            | none =>
              have := HGR.out.frN t hf v
              rw [hrt] at this
              cases this
            | some s =>
              obtain ⟨mt, es, hmt, hmtT, -, -⟩ := HGA.out.frS t s hf
              subst es
              have HFV : Hid ((fF t).getD (.map none) = .map (some mt)) := by rw [hf]; rfl
              have HF2S := Lib.hid hf
              have HMT : Hid (MapR wa.drew mt rfV (relF (remRel D v x.2 j) t)) := hmt
              have hgm : ¬ gb = mt := row_map_ne HGA.out.box hmt
              have hbm : ¬ bt = mt := row_map_ne HBA.out hmt
              have hpm : ¬ px = mt := row_map_ne HPA.out hmt
              have hom : ∀ p, (Value.slice (some ⟨b, off, none⟩) n sc).ownBlock = some p → ¬ p = mt := fun p hp e => by
                subst e
                obtain ⟨es, c, h1, -⟩ := hmt
                rcases HOA.out.2 with ⟨e2, _⟩ | ⟨g, cap, cur, e2, _, hh, _⟩
                · rw [e2] at hp; simp [Value.ownBlock] at hp
                · rw [e2] at hp
                  have : g = p := Option.some.inj hp
                  subst this
                  rw [h1] at hh; cases hh
              have HM2 : Hid (MapR wa.drew m2 rfV fF) := HGA.out.mf
              have HS9 : Hid (∀ W, KeepA (fun k => k = mt) wa W → W.cell? ⟨gb, 1, none⟩ = some (.map (some m2)) ∧ W.cell? ⟨bt, 0, none⟩ = some (.string t.1) ∧ W.cell? ⟨bt, 1, none⟩ = some (.int .i64 t.2) ∧ W.cell? ⟨px, 0, none⟩ = some (.string v.1) ∧ W.cell? ⟨px, 1, none⟩ = some (.int .i64 v.2)) := Lib.hid fun W hW => by
                have r1 := row_keep hW HGA.out.box hgm
                have r2 := row_keep hW HBA.out hbm
                have r3 := row_keep hW HPA.out hpm
                exact ⟨r1.cell 1, r2.cell 0, r2.cell 1, r3.cell 0, r3.cell 1⟩
              have HNEXT : Hid (∀ W, KeepA (fun k => k = mt) wa W → MapR W mt rfV (fun u => if u = v then none else relF (remRel D v x.2 j) t u) → GrG W TT gb m1 m2 fT fF D (remRel D v x.2 (j + 1)) ∧ KeepA TT w W ∧ RowAt W px 25 #[.string v.1, .int .i64 v.2] ∧ OwnRf W (.slice (some ⟨b, off, none⟩) n sc) x.2) := Lib.hid fun W k1 k2 => by
                refine ⟨HGA.out.setFrom HF2S.out k1 (k2.eqf fun u => ?_) (fun t' u hne => ?_), keep_into HKA.out k1 (fun k e => ?_), row_keep k1 HPA.out hpm, HOA.out.keep k1 hom⟩
                · obtain ⟨h, e1⟩ := HT.out
                  have := remRel_succ D v x.2 h u
                  rw [e1] at this
                  exact this
                · obtain ⟨h, e1⟩ := HT.out
                  exact remRel_other D v x.2 h u (by rw [e1]; exact hne)
                · subst e; exact .inl hmtT
              clear hmt hmtT hgm hbm hpm hom hf hrt ht hba hcell hrd
              go_upto_region 9 with (refine step_loadRf rfl (.tmp 31) rfl HCT.out rfl ?_)
              clear HGR HKR HPR HOR HCT
              refine wp_region_held_drew (S := fun W => W.cell? ⟨gb, 1, none⟩ = some (.map (some m2)) ∧ W.cell? ⟨bt, 0, none⟩ = some (.string t.1) ∧ W.cell? ⟨bt, 1, none⟩ = some (.int .i64 t.2) ∧ W.cell? ⟨px, 0, none⟩ = some (.string v.1) ∧ W.cell? ⟨px, 1, none⟩ = some (.int .i64 v.2)) (by kernel_rfl) (HS9.out wa.drew (KeepA.of_below (drewN_below (Below.refl _ wa) 1))) (fun hHeld => ?_)
              refine wpAnyH_take (i := 0) (v := ?_) rfl (by kernel_rfl) (by kernel_rfl) (by kernel_rfl) (fun _ _ _ h => h) (Or.inl ⟨by rfl, ?_⟩) hHeld ?_
              rotate_left
              · intro w' hS'
                (try dsimp only at hS')
                go_simp
                try with_reducible rfl
              try simp only [List.getElem_toArray, List.getElem_cons_zero, Act.put, List.setIfInBounds_toArray, List.set_cons_zero, List.set_cons_succ]
              refine wpAnyH_take (i := 1) (v := ?_) rfl (by kernel_rfl) (by kernel_rfl) (by kernel_rfl) (fun _ _ _ h => h) (Or.inl ⟨by rfl, ?_⟩) hHeld ?_
              rotate_left
              · intro w' hS'
                (try dsimp only at hS')
                go_simp
                try with_reducible rfl
              try simp only [List.getElem_toArray, List.getElem_cons_succ, List.getElem_cons_zero, Act.put, List.setIfInBounds_toArray, List.set_cons_zero, List.set_cons_succ]
              refine wpAnyH_take (i := 2) (v := ?_) rfl (by kernel_rfl) (by kernel_rfl) (by kernel_rfl) (fun _ _ _ h => h) (Or.inl ⟨by rfl, ?_⟩) hHeld ?_
              rotate_left
              · intro w' hS'
                (try dsimp only at hS')
                go_simp
                try with_reducible rfl
              try simp only [List.getElem_toArray, List.getElem_cons_succ, List.getElem_cons_zero, Act.put, List.setIfInBounds_toArray, List.set_cons_zero, List.set_cons_succ]
              refine wpAnyH_take (i := 3) (v := ?_) rfl (by kernel_rfl) (by kernel_rfl) (by kernel_rfl) (fun _ _ _ h => h) (Or.inl ⟨by rfl, ?_⟩) hHeld ?_
              rotate_left
              · intro w' hS'
                (try dsimp only at hS')
                go_simp
                try with_reducible rfl
              try simp only [List.getElem_toArray, List.getElem_cons_succ, List.getElem_cons_zero, Act.put, List.setIfInBounds_toArray, List.set_cons_zero, List.set_cons_succ]
              refine wpAnyH_take (i := 4) (v := ?_) rfl (by kernel_rfl) (by kernel_rfl) (by kernel_rfl) (fun _ _ _ h => h) (Or.inl ⟨by rfl, ?_⟩) hHeld ?_
              rotate_left
              · intro w' hS'
                (try dsimp only at hS')
                go_simp
                try with_reducible rfl
              try simp only [List.getElem_toArray, List.getElem_cons_succ, List.getElem_cons_zero, Act.put, List.setIfInBounds_toArray, List.set_cons_zero, List.set_cons_succ]
              refine wpAnyH_take (i := 6) (v := ?_) rfl (by kernel_rfl) (by kernel_rfl) (by kernel_rfl) (fun _ _ _ h => h) (Or.inl ⟨by rfl, ?_⟩) hHeld ?_
              rotate_left
              · intro w' hS'
                (try dsimp only at hS')
                go_simp
                try with_reducible rfl
              try simp only [List.getElem_toArray, List.getElem_cons_succ, List.getElem_cons_zero, Act.put, List.setIfInBounds_toArray, List.set_cons_zero, List.set_cons_succ]
              refine wpAnyH_ready (rs := [5]) (by kernel_rfl) (by simp) (AllReadyH.cons rfl (fun K hK => ?_) AllReadyH.nil)
              rw [if_pos (by rfl)]
              refine wp_lookup1 keyRf Try.underlying67 (.tmp 36) (.tmp 37) rfl HM2.out t (.map none) (zmap1 _) rfl rfl (.map (some mt)) HFV.out ?_
              refine hK.out _ _ hHeld (fun hHeld => ?_)
              clear hK K
              try simp only [List.getElem_toArray, List.getElem_cons_succ, List.getElem_cons_zero, Act.put, List.setIfInBounds_toArray, List.set_cons_zero, List.set_cons_succ]
              refine wpAnyH_ready (rs := [7]) (by kernel_rfl) (by simp) (AllReadyH.cons rfl (fun K hK => ?_) AllReadyH.nil)
              rw [if_pos (by rfl)]
              refine wp_deleteM keyRf Try.underlying53 (.tmp 38) (.tmp 39) rfl rfl HMT.out v rfl rfl ?_
              intro w5 g5 hm5
              have K5 : Hid (KeepA (fun k => k = mt) wa w5) := (KeepA.of_below (drewN_below (Below.refl _ wa) 1)).trans (keep_grown g5)
              refine hK.out _ _ (HS9.out _ K5.out) (fun _ => ?_)
              clear hK K
              try simp only [List.getElem_toArray, List.getElem_cons_succ, List.getElem_cons_zero, Act.put, List.setIfInBounds_toArray, List.set_cons_zero, List.set_cons_succ]
              refine wpAnyH_done (by kernel_rfl) ?_ _
              have HN := Lib.hid (HNEXT.out w5 K5.out hm5)
              clear g5 hm5
              go_wp2
              exact ⟨⟨j + 1, by go_num, hjlt, HN.out⟩, by show n - ((j : Int) + 1).toNat < n - (j : Int).toNat; omega⟩
          · have hjn' : j = n := by omega
            have HSE : Hid (∀ W, Below wr.heap.size wr W → W.cell? ⟨gb, 0, none⟩ = some (.map (some m1)) ∧ W.cell? ⟨px, 0, none⟩ = some (.string v.1) ∧ W.cell? ⟨px, 1, none⟩ = some (.int .i64 v.2)) := Lib.hid fun W hW => by
              have r1 := RowAt.below HGR.out.box hW
              have r2 := RowAt.below HPR.out hW
              exact ⟨r1.cell 0, r2.cell 0, r2.cell 1⟩
            have HM1 : Hid (MapR wr.drew m1 rfV fT) := HGR.out.mt
            have HGD := Lib.hid (HGR.out.later (drewN_below (Below.refl _ wr) 1))
            have HKD : Hid (KeepA TT w wr.drew) := HKR.out.trans (KeepA.of_below (drewN_below (Below.refl _ wr) 1))
            have HPD : Hid (RowAt wr.drew px 25 #[.string v.1, .int .i64 v.2]) := HPR.out
            subst hjn'
            clear HGR HKR HPR HOR
            go_upto_region 11 with fail
            refine wp_region_held_drew (S := fun W => W.cell? ⟨gb, 0, none⟩ = some (.map (some m1)) ∧ W.cell? ⟨px, 0, none⟩ = some (.string v.1) ∧ W.cell? ⟨px, 1, none⟩ = some (.int .i64 v.2)) (by kernel_rfl) (HSE.out wr.drew (drewN_below (Below.refl _ wr) 1)) (fun hHeld => ?_)
            refine wpAnyH_take (i := 0) (v := ?_) rfl (by kernel_rfl) (by kernel_rfl) (by kernel_rfl) (fun _ _ _ h => h) (Or.inl ⟨by rfl, ?_⟩) hHeld ?_
            rotate_left
            · intro w' hS'
              (try dsimp only at hS')
              go_simp
              try with_reducible rfl
            try simp only [List.getElem_toArray, List.getElem_cons_zero, Act.put, List.setIfInBounds_toArray, List.set_cons_zero, List.set_cons_succ]
            refine wpAnyH_take (i := 1) (v := ?_) rfl (by kernel_rfl) (by kernel_rfl) (by kernel_rfl) (fun _ _ _ h => h) (Or.inl ⟨by rfl, ?_⟩) hHeld ?_
            rotate_left
            · intro w' hS'
              (try dsimp only at hS')
              go_simp
              try with_reducible rfl
            try simp only [List.getElem_toArray, List.getElem_cons_succ, List.getElem_cons_zero, Act.put, List.setIfInBounds_toArray, List.set_cons_zero, List.set_cons_succ]
            refine wpAnyH_take (i := 2) (v := ?_) rfl (by kernel_rfl) (by kernel_rfl) (by kernel_rfl) (fun _ _ _ h => h) (Or.inl ⟨by rfl, ?_⟩) hHeld ?_
            rotate_left
            · intro w' hS'
              (try dsimp only at hS')
              go_simp
              try with_reducible rfl
            try simp only [List.getElem_toArray, List.getElem_cons_succ, List.getElem_cons_zero, Act.put, List.setIfInBounds_toArray, List.set_cons_zero, List.set_cons_succ]
            refine wpAnyH_take (i := 3) (v := ?_) rfl (by kernel_rfl) (by kernel_rfl) (by kernel_rfl) (fun _ _ _ h => h) (Or.inl ⟨by rfl, ?_⟩) hHeld ?_
            rotate_left
            · intro w' hS'
              (try dsimp only at hS')
              go_simp
              try with_reducible rfl
            try simp only [List.getElem_toArray, List.getElem_cons_succ, List.getElem_cons_zero, Act.put, List.setIfInBounds_toArray, List.set_cons_zero, List.set_cons_succ]
            refine wpAnyH_take (i := 4) (v := ?_) rfl (by kernel_rfl) (by kernel_rfl) (by kernel_rfl) (fun _ _ _ h => h) (Or.inl ⟨by rfl, ?_⟩) hHeld ?_
            rotate_left
            · intro w' hS'
              (try dsimp only at hS')
              go_simp
              try with_reducible rfl
            try simp only [List.getElem_toArray, List.getElem_cons_succ, List.getElem_cons_zero, Act.put, List.setIfInBounds_toArray, List.set_cons_zero, List.set_cons_succ]
            refine wpAnyH_ready (rs := [5]) (by kernel_rfl) (by simp) (AllReadyH.cons rfl (fun K hK => ?_) AllReadyH.nil)
            rw [if_pos (by rfl)]
            refine wp_deleteM keyRf Try.underlying54 (.tmp 44) (.tmp 45) rfl rfl HM1.out v rfl rfl ?_
            intro w6 g6 hm6
            have hse6 : w6.cell? ⟨gb, 0, none⟩ = some (.map (some m1)) ∧ w6.cell? ⟨px, 0, none⟩ = some (.string v.1) ∧ w6.cell? ⟨px, 1, none⟩ = some (.int .i64 v.2) := by
              have r1 := row_keep (keep_grown g6) HGD.out.box (row_map_ne HGD.out.box HGD.out.mt)
              have r2 := row_keep (keep_grown g6) HPD.out (row_map_ne HPD.out HGD.out.mt)
              exact ⟨r1.cell 0, r2.cell 0, r2.cell 1⟩
            refine hK.out _ _ hse6 (fun _ => ?_)
            clear hK K
            try simp only [List.getElem_toArray, List.getElem_cons_succ, List.getElem_cons_zero, Act.put, List.setIfInBounds_toArray, List.set_cons_zero, List.set_cons_succ]
            refine wpAnyH_done (by kernel_rfl) ?_ _
            have HF : Hid (K (.returned (.int .i64 0)) w6) := HKO.out w6 HZ2.out (keep_into HKD.out (keep_grown g6) (fun k e => by subst e; exact .inl HGD.out.tb.2.1)) fun D2 hD2 => by
              refine ⟨m1, m2, _, fF, ((HGD.out.delTo g6 hD2 hm6).rel (fun t u => ?_)).m⟩
              have := remRel_end HLK.out.one HX.out.1 HX.out.2 hD2 t u
              rw [HNN.out] at this
              exact this
            clear g6 hm6
            go_wp2
            exact HF.out
    · have HZ2 : Hid (remR D v = 330) := remR_ref HZ.out (fun e => hl0 (HLZ.out.2 e))
      have hlp : 0 < ln := by omega
      refine wp_region_held_drew (S := fun W => W.cell? ⟨gb, 1, none⟩ = some (.map (some m2)) ∧ W.cell? ⟨px, 0, none⟩ = some (.string v.1) ∧ W.cell? ⟨px, 1, none⟩ = some (.int .i64 v.2)) (by kernel_rfl) (HS1.out w2.drew (drewN_below (Below.refl _ w2) 1)) (fun hHeld => ?_)
      refine wpAnyH_take (i := 0) (v := ?_) rfl (by kernel_rfl) (by kernel_rfl) (by kernel_rfl) (fun _ _ _ h => h) (Or.inl ⟨by rfl, ?_⟩) hHeld ?_
      rotate_left
      · intro w' hS'
        (try dsimp only at hS')
        go_simp
        try with_reducible rfl
      try simp only [List.getElem_toArray, List.getElem_cons_zero, Act.put, List.setIfInBounds_toArray, List.set_cons_zero, List.set_cons_succ]
      refine wpAnyH_take (i := 1) (v := ?_) rfl (by kernel_rfl) (by kernel_rfl) (by kernel_rfl) (fun _ _ _ h => h) (Or.inl ⟨by rfl, ?_⟩) hHeld ?_
      rotate_left
      · intro w' hS'
        (try dsimp only at hS')
        go_simp
        try with_reducible rfl
      try simp only [List.getElem_toArray, List.getElem_cons_succ, List.getElem_cons_zero, Act.put, List.setIfInBounds_toArray, List.set_cons_zero, List.set_cons_succ]
      refine wpAnyH_take (i := 2) (v := ?_) rfl (by kernel_rfl) (by kernel_rfl) (by kernel_rfl) (fun _ _ _ h => h) (Or.inl ⟨by rfl, ?_⟩) hHeld ?_
      rotate_left
      · intro w' hS'
        (try dsimp only at hS')
        go_simp
        try with_reducible rfl
      try simp only [List.getElem_toArray, List.getElem_cons_succ, List.getElem_cons_zero, Act.put, List.setIfInBounds_toArray, List.set_cons_zero, List.set_cons_succ]
      refine wpAnyH_take (i := 3) (v := ?_) rfl (by kernel_rfl) (by kernel_rfl) (by kernel_rfl) (fun _ _ _ h => h) (Or.inl ⟨by rfl, ?_⟩) hHeld ?_
      rotate_left
      · intro w' hS'
        (try dsimp only at hS')
        go_simp
        try with_reducible rfl
      try simp only [List.getElem_toArray, List.getElem_cons_succ, List.getElem_cons_zero, Act.put, List.setIfInBounds_toArray, List.set_cons_zero, List.set_cons_succ]
      refine wpAnyH_take (i := 4) (v := ?_) rfl (by kernel_rfl) (by kernel_rfl) (by kernel_rfl) (fun _ _ _ h => h) (Or.inl ⟨by rfl, ?_⟩) hHeld ?_
      rotate_left
      · intro w' hS'
        (try dsimp only at hS')
        go_simp
        try with_reducible rfl
      try simp only [List.getElem_toArray, List.getElem_cons_succ, List.getElem_cons_zero, Act.put, List.setIfInBounds_toArray, List.set_cons_zero, List.set_cons_succ]
      refine wpAnyH_ready (rs := [5]) (by kernel_rfl) (by simp) (AllReadyH.cons rfl (fun K hK => ?_) AllReadyH.nil)
      rw [if_pos (by rfl)]
      refine wp_lookup1 keyRf Try.underlying67 (.tmp 17) (.tmp 18) rfl HM2.out v (.map none) (zmap1 _) rfl rfl (.map mo) HFV.out ?_
      refine hK.out _ _ hHeld (fun hHeld => ?_)
      clear hK K
      try simp only [List.getElem_toArray, List.getElem_cons_succ, List.getElem_cons_zero, Act.put, List.setIfInBounds_toArray, List.set_cons_zero, List.set_cons_succ]
      refine wpAnyH_ready (rs := [6]) (by kernel_rfl) (by simp) (AllReadyH.cons rfl (fun K hK => ?_) AllReadyH.nil)
      rw [if_pos (by rfl)]
      refine wp_lenMapO (.tmp 19) 53 rfl Try.underlying53 mo ln HLN.out (ln : Int) rfl rfl ?_
      refine hK.out _ _ hHeld (fun hHeld => ?_)
      clear hK K
      try simp only [List.getElem_toArray, List.getElem_cons_succ, List.getElem_cons_zero, Act.put, List.setIfInBounds_toArray, List.set_cons_zero, List.set_cons_succ]
      refine wpAnyH_take (i := 7) (v := ?_) rfl (by kernel_rfl) (by kernel_rfl) (by kernel_rfl) (fun _ _ _ h => h) (Or.inl ⟨by rfl, ?_⟩) hHeld ?_
      rotate_left
      · intro w' hS'
        (try dsimp only at hS')
        go_simp
        try with_reducible rfl
      try simp only [List.getElem_toArray, List.getElem_cons_succ, List.getElem_cons_zero, Act.put, List.setIfInBounds_toArray, List.set_cons_zero, List.set_cons_succ]
      refine wpAnyH_done (by kernel_rfl) ?_ _
      have HBE := Lib.hid (below_trans HB12.out (drewN_below (Below.refl _ w2) 1))
      go_wp2
      exact HKE.out 330 _ HZ2.out (by decide) HBE.out
  · clear HG1
    go_wp2_with (first
      | (refine step_loadRf rfl (.tmp 3) rfl HC1.out rfl ?_)
      | (go_at_call 39; refine HAK.out.mono ?_; rintro _ w2 ⟨rfl, hb2⟩; have HB2 := Lib.hid hb2; clear hb2))
    exact HKE.out z _ (by rw [remR_ask (by rw [HZ.out]; exact hz0), HZ.out]) hz0 (below_trans HB1.out HB2.out)
end Go.Proofs.Ytcakdjnnfonijaa
