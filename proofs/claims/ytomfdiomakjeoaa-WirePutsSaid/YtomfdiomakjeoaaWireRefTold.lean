/- The document's Told (lexiconref17). -/
import Derived.Test.YtomfdiomakjeoaaWireRefBytes
import Derived.Deep.RegionHeldLaw
namespace Go.Proofs.Ytomfdiomakjeoaa
open Go.RowKit

theorem wp_appendB {P : Program} {o : Oper} {act : Act} {K : Act → World → Prop} {Q : Exit → Act → World → Prop} {w : World} (s x : Operand) {t : TypeId}
    (ho : o.op = .call { callee := .builtin .append, args := #[s, x], argTypes := #[t, t] }) {e : TypeId} {z : Value} (E : Elt P t e 1 1 z) (base : Nat)
    (v : Value) (l : List UInt8) (hv : act.eval s = v) (a : Option Addr) (m c : Nat) (k : List UInt8) (hx : act.eval x = .slice a m c)
    (hown : OwnB w base e v l) (hm : m = k.length) (hk : RdB w a k) (hsz : l.length + k.length ≤ 140737488355328) (hbase : base ≤ w.heap.size)
    (h : ∀ v' w', OwnB w' base e v' (l ++ k) → Onto w v w' v' → K (act.put o.dst v') w') : o.wp P act w K Q := by
  obtain ⟨v', w', hr, h2, h3, h4⟩ := run_append_any E w base o.type v l.length (l.map bv) hown a m c (k.map bv) (by simp [hm]) hk (bv_one k) (by omega) (by omega) hbase
  unfold Oper.wp execOp
  simp only [ho, resolve, invoke, builtin, Sem.run_bind, Sem.run_pure, Result.andThen_ok, List.map_toArray, List.map_cons, List.map_nil, hv, hx, hr]
  refine h v' w' ?_ ⟨h3, h4⟩
  unfold OwnB
  rw [List.map_append, List.length_append, ← hm]
  exact h2
theorem wp_appendS {P : Program} {o : Oper} {act : Act} {K : Act → World → Prop} {Q : Exit → Act → World → Prop} {w : World} (s x : Operand) {t u : TypeId}
    (ho : o.op = .call { callee := .builtin .append, args := #[s, x], argTypes := #[t, u] }) {e : TypeId} (E : Elt P t e 1 1 (.int .u8 0)) (hu : P.underlying u = some .string) (base : Nat)
    (v : Value) (l : List UInt8) (hv : act.eval s = v) (k : List UInt8) (b : ByteArray) (hb : str k = b) (hx : act.eval x = .string b)
    (hown : OwnB w base e v l) (hsz : l.length + k.length ≤ 140737488355328) (hbase : base ≤ w.heap.size)
    (h : ∀ v' w', OwnB w' base e v' (l ++ k) → w.grownBy w' v.ownBlock → K (act.put o.dst v') w') : o.wp P act w K Q := by
  subst hb
  obtain ⟨i, hi, hz, hs, hby⟩ := info_parts E.info
  have hk : (str k).size = k.length := by simp [str, ByteArray.size]
  have hc : Go.Lib.strCells (str k) = k.map bv := by simp only [Go.Lib.strCells, str]; rfl
  obtain ⟨v', w', hr, h2, h3, _⟩ := Go.Lib.run_append_own_string (P := P) w base t u o.type e i E.und hu hi hz hs hby v l.length (l.map bv) hown (str k) (by unfold maxLen; omega) (by omega) hbase
  unfold Oper.wp execOp
  simp only [ho, resolve, invoke, builtin, Sem.run_bind, Sem.run_pure, Result.andThen_ok, List.map_toArray, List.map_cons, List.map_nil, hv, hx, hr]
  refine h v' w' ?_ h3
  unfold OwnB
  rw [List.map_append, List.length_append, ← hc, ← hk]
  exact h2
theorem tag_sum {m t : Nat} : (8 * (m : Int) + (t : Int)) = ((8 * m + t : Nat) : Int) := by omega
set_option maxRecDepth 100000 in
set_option maxHeartbeats 2000000 in
theorem reftold_any (m t word : Nat) (bytes : List UInt8) (hm1 : 1 ≤ m) (hm2 : m < 536870912) (ht : t = 0 ∨ t = 1 ∨ t = 5 ∨ t = 2) (hw : word < 18446744073709551616) (hb : bytes.length ≤ 1099511627776) (w : World) :
    Calls Try.prog 42 #[.agg (fdC ⟨m, t, word, bytes⟩).toArray] w (RetB 5 w (told ⟨m, t, word, bytes⟩)) := by
  obtain ⟨s, hs⟩ : ∃ s, str bytes = s := ⟨_, rfl⟩
  have HS := Lib.hid hs
  have H0 : RowAt (w.alloc (.cells #[.int .i64 (m : Int), .int .i64 (t : Int), .int .u64 (word : Int), .string s] 40)) w.heap.size 40 #[.int .i64 (m : Int), .int .i64 (t : Int), .int .u64 (word : Int), .string s] := RowAt.new w 40 _
  have HB0 : Below w.heap.size w (w.alloc (.cells #[.int .i64 (m : Int), .int .i64 (t : Int), .int .u64 (word : Int), .string s] 40)) := below_alloc _
  rw [show (fdC ⟨(m : Int), (t : Int), word, bytes⟩).toArray = #[.int .i64 (m : Int), .int .i64 (t : Int), .int .u64 (word : Int), .string s] by rw [← hs]; rfl]
  have hsz : s.size = bytes.length := by rw [← hs]; simp [str, ByteArray.size]
  have hrv : ∀ w', Calls Try.prog 18 #[.int .u64 (8 * (m : Int) + (t : Int))] w' (RetB 5 w' (vput (8 * m + t))) := fun w' => by rw [tag_sum]; exact refvarint_any _ (by omega) w'
  have HRV := Lib.hid hrv
  have hl1 : (vput (8 * m + t)).length ≤ 10 := vput_len10 (by omega)
  have HL1 := Lib.hid hl1
  clear hs hrv hl1
  go_enter Try.func42, Try.ntmps42
  go_wp2_with fail
  refine (HRV.out _).mono ?_
  rintro e w2 ⟨v2, rfl, ho2, hb2⟩
  have H2 := H0.below hb2
  have HB2 := Lib.hid (HB0.trans (hb2.mono (by simp)))
  have HO2 := Lib.hid (OwnB.mono ho2 (by simp : w.heap.size ≤ _))
  have hsep : v2.ownBlock ≠ some w.heap.size := fun e => by have := (World.ownsRow.lt ho2 _ e).1; simp at this; omega
  obtain ⟨c0, c1, c2, c3⟩ := H2.cells4
  clear ho2 hb2 H0 HB0
  by_cases ht2 : t = 2
  · subst ht2
    obtain ⟨q, hq⟩ : ∃ q, bytes.length = q := ⟨_, rfl⟩
    rw [hq] at hsz hb
    have HQ := Lib.hid hq
    have hq10 := vput_len10 (x := q) (by omega)
    have HO2d : Hid (OwnB w2.drew w.heap.size 5 v2 (vput (8 * m + 2))) := HO2.out
    have H2d : Hid (RowAt w2.drew w.heap.size 40 #[.int .i64 (m : Int), .int .i64 ((2 : Nat) : Int), .int .u64 (word : Int), .string s]) := H2
    have hk2 : w2.drew.cell? ⟨w.heap.size, 3, none⟩ = some (.string s) ∧ Below w.heap.size w w2.drew := ⟨c3, HB2.out.drew⟩
    have htold : vput (8 * m + 2) ++ vput q ++ bytes = told ⟨m, ((2 : Nat) : Int), word, bytes⟩ := by
      rw [← hq, List.append_assoc]; rfl
    have HT := Lib.hid htold
    have hrv2 : ∀ w', Calls Try.prog 18 #[.int .u64 (IntKind.u64.wrap (q : Int))] w' (RetB 5 w' (vput q)) := fun w' => by rw [wrapU .u64 rfl q (by show q < 18446744073709551616; omega)]; exact refvarint_any q (by omega) w'
    have HRV2 := Lib.hid hrv2
    clear htold hq H2 hrv2
    go_wp2_with fail
    go_region_held_law (fun w' => w'.cell? ⟨w.heap.size, 3, none⟩ = some (.string s) ∧ Below w.heap.size w w') (first | assumption) (first
      | (go_simp; go_at_call 18; refine (HRV2.out _).mono ?_; rintro e w3 ⟨v3, rfl, ho3, hb3⟩; obtain ⟨a3, k3, rfl, hc3, hr3⟩ := ho3.rd; have HR3 := Lib.hid hr3; have HO3 := Lib.hid (HO2d.out.kept hb3 (Nat.le_refl _)); have H3 := Lib.hid (H2d.out.below hb3); have hk3 : w3.cell? ⟨w.heap.size, 3, none⟩ = some (.string s) ∧ Below w.heap.size w w3 := ⟨H3.out.cells4.2.2.2, hk2.2.trans (hb3.mono hk2.2.size)⟩; clear ho3 hb3 hr3 hc3)
      | (refine wp_appendB (.tmp 16) (.tmp 21) rfl eltB w.heap.size _ (vput (8 * m + 2)) rfl _ _ _ (vput q) rfl HO3.out rfl HR3.out (by have := HL1.out; omega) hk3.2.size ?_; intro v4 w4 h1 h2; have HO4 := Lib.hid h1; have H4 := Lib.hid (H3.out.onto h2 hsep); have hs4 := h2.sep H3.out.lt hsep; have hk4 : w4.cell? ⟨w.heap.size, 3, none⟩ = some (.string s) ∧ Below w.heap.size w w4 := ⟨H4.out.cells4.2.2.2, hk3.2.trans (h2.down HO3.out hk3.2.size)⟩; clear h1 h2)
      | (refine wp_appendS (.tmp 22) (.tmp 24) rfl eltB Try.underlying9 w.heap.size _ (vput (8 * m + 2) ++ vput q) rfl bytes s HS.out rfl HO4.out (by have := HL1.out; have := HQ.out; rw [List.length_append]; omega) hk4.2.size ?_; intro v5 w5 h1 h2; rw [HT.out] at h1; have HO5 := Lib.hid h1; have H5 := H4.out.grown h2 (fun g hg e => hs4 (hg.trans (congrArg some e.symm))); have hk5 : w5.cell? ⟨w.heap.size, 3, none⟩ = some (.string s) ∧ Below w.heap.size w w5 := ⟨H5.cells4.2.2.2, hk4.2.grown h2 hk4.2.size (fun g hg => (World.ownsRow.lt HO4.out g hg).1)⟩; clear h1 h2))
    go_wp2
    go_ret
    refine ⟨v5, ?_, HO5.out, hk5.2⟩
    simp
  · have ht3 : (t : Int) = 0 ∨ (t : Int) = 1 ∨ (t : Int) = 5 := by omega
    have hne : ((t : Int) == 2) = false := by simp; omega
    have htold : vput (8 * m + t) ++ wordB (t : Int) word = told ⟨m, t, word, bytes⟩ := by
      unfold told wordB
      dsimp only
      congr 1
      by_cases h0 : (t : Int) = 0
      · rw [if_pos h0, if_pos h0]
      · have h15 : (t : Int) = 1 ∨ (t : Int) = 5 := by omega
        simp only [h0, h15, if_false, if_true]
    have hwl := wordB_len (t : Int) word hw
    have HT := Lib.hid htold
    have HT3 := Lib.hid ht3
    have HLE : Hid ((vput (8 * m + t)).length + (wordB (t : Int) word).length ≤ 140737488355328) := by show _ ≤ _; have := HL1.out; omega
    clear htold hwl ht ht2 ht3
    go_wp2_with (first | (go_at_call 50; refine (refwordput_any (t : Int) HT3.out word hw _).mono ?_; rintro e w7 ⟨v7, rfl, ho7, hb7⟩; obtain ⟨a7, c7, rfl, hc7, hr7⟩ := ho7.rd; have HR7 := Lib.hid hr7; have HO7 := Lib.hid (HO2.out.kept hb7 (Nat.le_refl _)); have HB7 := Lib.hid (HB2.out.trans (hb7.mono HB2.out.size)); clear ho7 hb7 hr7 hc7) | (at_builtin; refine step_appendB rfl (.tmp 26) (.tmp 31) rfl eltB w.heap.size _ (vput (8 * m + t)) rfl _ _ _ (wordB (t : Int) word) rfl HO7.out rfl HR7.out HLE.out HB7.out.size ?_; intro v8 w8 h81 h82; rw [HT.out] at h81; have HF := Lib.hid h81; have HF2 := Lib.hid (HB7.out.trans h82); clear h81 h82))
    go_ret
    exact ⟨_, rfl, HF.out, HF2.out⟩
end Go.Proofs.Ytomfdiomakjeoaa
