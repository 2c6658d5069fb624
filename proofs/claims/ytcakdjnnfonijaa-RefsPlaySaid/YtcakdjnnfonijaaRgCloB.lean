/- Closure of the program's graph, behind its walk. -/
import Derived.Test.YtcakdjnnfonijaaRgClo
namespace Go.Proofs.Ytcakdjnnfonijaa
open Go.RowKit

theorem CPre.nil (D : List (Rf × List Rf)) (rk : Rf → Nat) (v : Rf) : CPre D rk v [] [] v where
  ce := ⟨⟨List.nodup_nil, fun e he => absurd he (by simp)⟩, fun e he => absurd he (by simp), fun u _ => ⟨fun h => absurd h (by simp), fun h => absurd h (Nat.lt_irrefl _)⟩⟩
  tok := ⟨List.nodup_nil, fun u hu => absurd hu (by simp)⟩
  fresh := fun t => by simp
  seen := .inl rfl
  deep := Nat.le_refl _
theorem clo_any (w0 : World) (TT : Nat → Prop) (gb : Nat) (D : List (Rf × List Rf)) (h : GrS w0 TT gb D) (hd : D.length ≤ 1000) (hlk : Lks D) (hts : ∀ y ∈ D, y.2.length ≤ 1000) (rk : Rf → Nat) (hrk : Rank D rk) (root : Rf) (x : CBx) (hx : x.Ok w0.heap.size) : ∀ f, ClOk w0 gb D rk root x f
  | 0 => fun _ _ _ _ _ h0 => absurd h0 (Nat.not_lt_zero _)
  | f + 1 => clo_step w0 TT gb D h hd hlk hts rk hrk root x hx f (clo_any w0 TT gb D h hd hlk hts rk hrk root x hx f)
set_option maxRecDepth 100000 in
set_option maxHeartbeats 4000000 in
theorem gclo_any (w : World) (TT : Nat → Prop) (gb : Nat) (D : List (Rf × List Rf)) (h : GrS w TT gb D) (hd : D.length ≤ 1000) (hlk : Lks D) (hts : ∀ y ∈ D, y.2.length ≤ 1000) (rk : Rf → Nat) (hrk : Rank D rk) (v : Rf) (hr : rk v < 201) :
    Calls Try.prog 21 #[.pointer (some ⟨gb, 0, none⟩), .agg #[.string v.1, .int .i64 v.2]] w fun e w' => ∃ vv, e = .returned (.tuple #[vv, .int .i64 (askR D v)]) ∧ (askR D v ≠ 0 → vv = .slice none 0 0) ∧ (askR D v = 0 → OwnRf w' vv (wlkR D 201 v []) ∧ ∀ g, vv.ownBlock = some g → w.heap.size ≤ g) ∧ Below w.heap.size w w' := by
  obtain ⟨bg, hbg⟩ : ∃ y, w.heap.size = y := ⟨_, rfl⟩
  obtain ⟨wg, hwg⟩ : ∃ y, w.alloc (.cells #[.pointer (some ⟨gb, 0, none⟩)] 38) = y := ⟨_, rfl⟩
  have hbG : Below w.heap.size w wg := by rw [← hwg]; exact below_alloc _
  obtain ⟨px, hpx⟩ : ∃ y, wg.heap.size = y := ⟨_, rfl⟩
  obtain ⟨w1, hw1⟩ : ∃ y, wg.alloc (.cells #[.string v.1, .int .i64 v.2] 25) = y := ⟨_, rfl⟩
  have hb1 : Below wg.heap.size wg w1 := by rw [← hw1]; exact below_alloc _
  have HG0 : Hid (RowAt wg bg 38 #[.pointer (some ⟨gb, 0, none⟩)]) := by rw [← hwg, ← hbg]; exact RowAt.new _ _ _
  have HG1 : Hid (RowAt w1 bg 38 #[.pointer (some ⟨gb, 0, none⟩)]) := RowAt.below HG0.out hb1
  have HP1 : Hid (RowAt w1 px 25 #[.string v.1, .int .i64 v.2]) := by rw [← hw1, ← hpx]; exact RowAt.new _ _ _
  have HC1 : Hid (CellsAt w1 rfC px 0 v) := RowAt.rf HP1.out
  have HB1 := Lib.hid (below_trans hbG hb1)
  have HGR := Lib.hid h
  obtain ⟨z, hz⟩ : ∃ z, askR D v = z := ⟨_, rfl⟩
  have HZ := Lib.hid hz
  have HAK : Hid (Calls Try.prog 39 #[.pointer (some ⟨gb, 0, none⟩), .agg #[.string v.1, .int .i64 v.2]] w1 fun e w' => e = .returned (.int .i64 z) ∧ Below w1.heap.size w1 w') := by rw [← hz]; exact gasked_any w1 TT gb D (h.later HB1.out) v
  rw [hz]
  have HCLO : Hid (∀ x : CBx, x.Ok w.heap.size → ClOk w gb D rk v x 201) := Lib.hid fun x hx => clo_any w TT gb D h hd hlk hts rk hrk v x hx 201
  have HR := Lib.hid hr
  obtain ⟨K, hK⟩ : ∃ K, (fun (e : Ending) (w' : World) => ∃ vv, e = .returned (.tuple #[vv, .int .i64 z]) ∧ (z ≠ 0 → vv = .slice none 0 0) ∧ (z = 0 → OwnRf w' vv (wlkR D 201 v []) ∧ ∀ g, vv.ownBlock = some g → w.heap.size ≤ g) ∧ Below w.heap.size w w') = K := ⟨_, rfl⟩
  rw [hK]
  have HK0 : Hid (z ≠ 0 → ∀ W, Below w.heap.size w W → K (.returned (.tuple #[.slice none 0 0, .int .i64 z])) W) := Lib.hid fun hz W hW => by rw [← hK]; exact ⟨_, rfl, fun _ => rfl, fun e => absurd e hz, hW⟩
  have HK1 : Hid (z = 0 → ∀ vv W, (OwnRf W vv (wlkR D 201 v []) ∧ ∀ g, vv.ownBlock = some g → w.heap.size ≤ g) → Below w.heap.size w W → K (.returned (.tuple #[vv, .int .i64 0])) W) := Lib.hid fun hz vv W h1 hW => by rw [← hK, hz]; exact ⟨_, rfl, fun e => absurd rfl e, fun _ => h1, hW⟩
  have hgc : w1.cell? ⟨bg, 0, none⟩ = some (.pointer (some ⟨gb, 0, none⟩)) := HG1.out.cell 0
  clear h hd hlk hts hrk hr hbG hb1 hz hK
  go_enter Try.func21, Try.ntmps21
  by_cases hz0 : z = 0
  · subst hz0
    go_upto_region 4 with (first
      | (refine step_loadRf rfl (.tmp 3) rfl HC1.out rfl ?_)
      | (go_at_call 39; refine HAK.out.mono ?_; rintro _ w2 ⟨rfl, hb2⟩; have HB2 := Lib.hid hb2; clear hb2))
    obtain ⟨bo, hbo⟩ : ∃ y, w2.heap.size = y := ⟨_, rfl⟩
    obtain ⟨w3, hw3⟩ : ∃ y, w2.alloc (.cells #[.slice none 0 0] 26) = y := ⟨_, rfl⟩
    obtain ⟨bm, hbm⟩ : ∃ y, w3.heap.size = y := ⟨_, rfl⟩
    obtain ⟨w4, hw4⟩ : ∃ y, w3.alloc (.map #[] 0) = y := ⟨_, rfl⟩
    obtain ⟨bt, hbt⟩ : ∃ y, w4.heap.size = y := ⟨_, rfl⟩
    obtain ⟨w5, hw5⟩ : ∃ y, w4.alloc (.cells #[.map (some bm)] 53) = y := ⟨_, rfl⟩
    obtain ⟨bw, hbw⟩ : ∃ y, w5.heap.size = y := ⟨_, rfl⟩
    obtain ⟨w6, hw6⟩ : ∃ y, w5.alloc (.cells #[.nilFunc] 61) = y := ⟨_, rfl⟩
    have HB02 := Lib.hid (below_trans HB1.out HB2.out)
    have hb3 : Below w2.heap.size w2 w3 := by rw [← hw3]; exact below_alloc _
    have hb4 : Below w3.heap.size w3 w4 := by rw [← hw4]; exact below_alloc _
    have hb5 : Below w4.heap.size w4 w5 := by rw [← hw5]; exact below_alloc _
    have hb6 : Below w5.heap.size w5 w6 := by rw [← hw6]; exact below_alloc _
    have hs3 : w3.heap.size = bo + 1 := by rw [← hw3, ← hbo]; simp
    have hs4 : w4.heap.size = bm + 1 := by rw [← hw4, ← hbm]; simp
    have hs5 : w5.heap.size = bt + 1 := by rw [← hw5, ← hbt]; simp
    have hs6 : w6.heap.size = bw + 1 := by rw [← hw6, ← hbw]; simp
    have hO6 : RowAt w6 bo 26 #[.slice none 0 0] := by
      have : RowAt w3 bo 26 #[.slice none 0 0] := by rw [← hw3, ← hbo]; exact RowAt.new _ _ _
      exact RowAt.below this (below_trans hb4 (below_trans hb5 hb6))
    have hM6 : MapR w6 bm rfV (cntF []) := by
      have : MapR w4 bm rfV (cntF []) := by rw [cntF_nil, ← hw4, ← hbm]; exact MapR.new w3
      exact this.same ((below_trans hb5 hb6).block _ this.lt)
    have hT6 : RowAt w6 bt 53 #[.map (some bm)] := by
      have : RowAt w5 bt 53 #[.map (some bm)] := by rw [← hw5, ← hbt]; exact RowAt.new _ _ _
      exact RowAt.below this hb6
    have hW6 : RowAt w6 bw 61 #[.nilFunc] := by rw [← hw6, ← hbw]; exact RowAt.new _ _ _
    have hB26 : Below w2.heap.size w2 w6 := below_trans hb3 (below_trans hb4 (below_trans hb5 hb6))
    have hP6 : RowAt w6 px 25 #[.string v.1, .int .i64 v.2] := RowAt.below HP1.out (below_trans HB2.out hB26)
    have hG6 : RowAt w6 bg 38 #[.pointer (some ⟨gb, 0, none⟩)] := RowAt.below HG1.out (below_trans HB2.out hB26)
    have hbgl : bg < bo := by have := (RowAt.below HG1.out HB2.out).lt; omega
    have hpxl : px < bo := by have := (RowAt.below HP1.out HB2.out).lt; omega
    have hwbg : w.heap.size = bg := hbg
    have HLE : Hid (w.heap.size ≤ bw) := by show _ ≤ _; omega
    have HX : Hid (CBx.Ok ⟨bg, bt, bw, bo, bm, bw + 1, 38, 61⟩ w.heap.size) := by
      constructor <;> (dsimp only; omega)
    have HAT : Hid (∀ w7, RowAt w7 bw 61 #[(.func (.func 43) #[] #[.pointer (some ⟨bg, 0, none⟩), .pointer (some ⟨bt, 0, none⟩), .pointer (some ⟨bw, 0, none⟩), .pointer (some ⟨bo, 0, none⟩)])] → w6.grownBy w7 (some bw) → CwAt w w7 ⟨bg, bt, bw, bo, bm, bw + 1, 38, 61⟩ gb (.slice none 0 0) [] [] ∧ RowAt w7 px 25 #[.string v.1, .int .i64 v.2]) := Lib.hid fun w7 hr7 hset => by
      have hb06 := below_trans HB02.out hB26
      have hk := keep_grown hset
      refine ⟨⟨below_grown hb06 hset hb06.size fun g e => ?_, row_keep hk hG6 (by dsimp only; omega), row_keep hk hT6 (by dsimp only; omega), hr7, row_keep hk hO6 (by dsimp only; omega), hM6.same (hk.same _ hM6.lt (by omega)), OwnRf.nil _, fun g e => by simp [Value.ownBlock] at e, Nat.le_trans (Nat.le_of_eq hs6.symm) hset.size⟩, row_keep hk hP6 (by omega)⟩
      have := Option.some.inj e
      omega
    have HW6 := Lib.hid hW6
    have HV : Hid (v ∈ D.map (·.1)) := askR_in HZ.out
    clear hb3 hb4 hb5 hb6 hs3 hs4 hs5 hs6 hO6 hM6 hT6 hW6 hB26 hP6 hG6 hbgl hpxl hwbg
    go_upto_region 8 with (first
      | (refine step_makeMapM rfl 53 rfl ?_; intro wq hwq; rw [hw4] at hwq; subst hwq)
      | (refine step_storeField rfl 61 (.tmp 9) (.tmp 17) rfl rfl bw 0 (.func (.func 43) #[] #[.pointer (some ⟨bg, 0, none⟩), .pointer (some ⟨bt, 0, none⟩), .pointer (some ⟨bw, 0, none⟩), .pointer (some ⟨bo, 0, none⟩)]) rfl rfl 61 #[.nilFunc] #[(.func (.func 43) #[] #[.pointer (some ⟨bg, 0, none⟩), .pointer (some ⟨bt, 0, none⟩), .pointer (some ⟨bw, 0, none⟩), .pointer (some ⟨bo, 0, none⟩)])] HW6.out (by kernel_rfl) (by decide) rfl rfl ?_; intro w7 hr7 hg7; have HAT7 := Lib.hid (HAT.out w7 hr7 hg7); clear hr7 hg7))
    have HC7 : Hid (CellsAt w7 rfC px 0 v) := RowAt.rf HAT7.out.2
    have HCALL := Lib.hid (HCLO.out _ HX.out w7 (.slice none 0 0) [] [] v HR.out HV.out HAT7.out.1 (CPre.nil D rk v))
    have hkc : w7.cell? ⟨bw, 0, none⟩ = some (.func (.func 43) #[] #[.pointer (some ⟨bg, 0, none⟩), .pointer (some ⟨bt, 0, none⟩), .pointer (some ⟨bw, 0, none⟩), .pointer (some ⟨bo, 0, none⟩)]) := HAT7.out.1.k.cell 0
    clear HCLO HX HAT
    go_wp2_with (first
      | (refine step_loadRf rfl (.tmp 3) rfl HC7.out rfl ?_)
      | (go_at_call 43; refine HCALL.out.mono ?_; rintro _ w8 ⟨rfl, ov8, E8, q1, -, -, -⟩; obtain ⟨a8, n8, c8, hov8⟩ : ∃ a n c, ov8 = .slice a n c := (by obtain ⟨a, c, e, -⟩ := q1.own.rd; exact ⟨a, _, c, e⟩); subst hov8; have Q1 := Lib.hid q1; have ho8 : w8.cell? ⟨bo, 0, none⟩ = some (.slice a8 n8 c8) := (q1.o.cell 0); clear q1))
    exact HK1.out (by trivial) _ _ ⟨Q1.out.own, fun g e => by have h1 := Q1.out.low g e; have h2 := HW6.out.lt; have h3 := HB1.out.size; have h4 := HB02.out.size; have h5 : w.heap.size ≤ bw := HLE.out; dsimp only at h1; omega⟩ Q1.out.below
  · go_wp2_with (first
      | (refine step_loadRf rfl (.tmp 3) rfl HC1.out rfl ?_)
      | (go_at_call 39; refine HAK.out.mono ?_; rintro _ w2 ⟨rfl, hb2⟩; have HB2 := Lib.hid hb2; clear hb2))
    exact HK0.out hz0 _ (below_trans HB1.out HB2.out)
end Go.Proofs.Ytcakdjnnfonijaa
