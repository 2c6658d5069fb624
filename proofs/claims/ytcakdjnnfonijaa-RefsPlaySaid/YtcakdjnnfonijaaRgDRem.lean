/- Remove of the document's graph. -/
import Derived.Test.YtcakdjnnfonijaaRgFrom
namespace Go.Proofs.Ytcakdjnnfonijaa
open Go.RowKit

/-- Rows of links are added. -/
theorem wp_appendLk {o : Oper} {act : Act} {K : Act → World → Prop} {Q : Exit → Act → World → Prop} {w : World} (s x : Operand) (ho : o.op = .call { callee := .builtin .append, args := #[s, x], argTypes := #[22, 22] })
    (v : Value) (H : List Lk) (hv : act.eval s = v) (a : Option Addr) (n c : Nat) (l : List Lk) (hn : l.length = n) (hx : act.eval x = .slice a n c) (hown : OwnLk w v H) (hrd : RowsAt w a 3 l (CellsAt w lkC)) (hsz : H.length ≤ 1000000) (hsz2 : n ≤ 1000000)
    (h : ∀ v' w', OwnLk w' v' (H ++ l) → w.grownBy w' v.ownBlock → NewRow w v v' → K (act.put o.dst v') w') : o.wp Try.prog act w K Q := by
  obtain ⟨v', w', hrun, q2, q3, q4⟩ := run_append_any eltLk w 0 o.type v H.length (H.flatMap lkC) hown a n c (l.flatMap lkC) (by rw [flat_len lkC_len, hn]) (rd_of_rows lkC_len (by decide) hrd) (fun u hu => lkC_one l u hu) (by omega) (by omega) (Nat.zero_le _)
  unfold Oper.wp execOp
  simp only [ho, resolve, invoke, builtin, Sem.run_bind, Sem.run_pure, Result.andThen_ok, List.map_toArray, List.map_cons, List.map_nil, hv, hx, hrun]
  refine h v' w' ?_ q3 q4
  unfold OwnLk
  rw [List.length_append, List.flatMap_append, hn]
  exact q2
theorem step_appendLk {ops : Array Oper} {rest : List Oper} {o : Oper} {act : Act} {Q : Exit → Act → World → Prop} {w : World} (hgd : o.guard = none) (s x : Operand) (ho : o.op = .call { callee := .builtin .append, args := #[s, x], argTypes := #[22, 22] })
    (v : Value) (H : List Lk) (hv : act.eval s = v) (a : Option Addr) (n c : Nat) (l : List Lk) (hn : l.length = n) (hx : act.eval x = .slice a n c) (hown : OwnLk w v H) (hrd : RowsAt w a 3 l (CellsAt w lkC)) (hsz : H.length ≤ 1000000) (hsz2 : n ≤ 1000000)
    (h : ∀ v' w', OwnLk w' v' (H ++ l) → w.grownBy w' v.ownBlock → NewRow w v v' → wpList Try.prog ops Q rest (act.put o.dst v') w') : wpList Try.prog ops Q (o :: rest) act w :=
  wpList_plain hgd fun _ hK => wp_appendLk s x ho v H hv a n c l hn hx hown hrd hsz hsz2 fun v' w' q1 q2 q3 => hK _ _ (h v' w' q1 q2 q3)
section
variable {α : Type} {w : World} {b k : Nat} {l : List α} {Q : Nat → Nat → α → Prop}
theorem RowsAt.take {a : Option Addr} (h : RowsAt w a k l Q) (p : Nat) : RowsAt w a k (l.take p) Q := by
  rcases h with rfl | ⟨b, off, ha, hb, hi⟩
  · exact .inl (by simp)
  · refine .inr ⟨b, off, ha, hb, fun i h => ?_⟩
    rw [List.getElem_take]
    exact hi i (by rw [List.length_take] at h; omega)
theorem RowsAt.drop {off : Nat} (h : RowsAt w (some ⟨b, off, none⟩) k l Q) (p : Nat) : RowsAt w (some ⟨b, off + p * k, none⟩) k (l.drop p) Q := by
  rcases h with rfl | ⟨b2, off2, ha, hb, hi⟩
  · exact .inl (by simp)
  · obtain ⟨rfl, rfl⟩ : b = b2 ∧ off = off2 := by
      have := Option.some.inj ha
      simp only [Addr.mk.injEq] at this
      exact ⟨this.1, this.2.1⟩
    refine .inr ⟨b, off + p * k, rfl, hb, fun i h => ?_⟩
    rw [List.getElem_drop]
    have := hi (p + i) (by rw [List.length_drop] at h; omega)
    rw [Nat.add_mul, ← Nat.add_assoc] at this
    exact this
end
/-- Where the rows lie: nowhere, or at the head of a block. -/
theorem DocM.place {w : World} {U : Nat → Prop} {rb : Nat} {vv : Value} {ls : List Lk} {D : List (Rf × List Rf)} (h : DocM w U rb vv ls D) : (vv = .slice none 0 0 ∧ D = []) ∨ ∃ b c, vv = .slice (some ⟨b, 0, none⟩) D.length c ∧ D.length ≤ c ∧ c ≤ 9223372036854775807 ∧ b < w.heap.size ∧ U b ∧ RowsAt w (some ⟨b, 0, none⟩) 3 ls (CellsAt w lkC) := by
  have hl : D.length = ls.length := by rw [← h.pl]; simp [plainL]
  have hown := h.own
  have hU := h.vU
  rcases hown.2 with ⟨e, e2⟩ | ⟨b, c, cur, e, -, e1, e2, e3, -⟩
  · exact .inl ⟨e, List.eq_nil_of_length_eq_zero (by omega)⟩
  · obtain ⟨a, c2, e4, hr⟩ := hown.rd
    rw [e] at e4
    simp only [Value.slice.injEq] at e4
    obtain ⟨rfl, -, rfl⟩ := e4
    exact .inr ⟨b, c, by rw [hl]; exact e, by rw [hl]; assumption, Nat.le_trans (by assumption) (by decide), (Array.getElem?_eq_some_iff.1 e1).1, hU b (by rw [e]; rfl), hr⟩
/-- The links without v. -/
def remD (D : List (Rf × List Rf)) (p : Nat) : List (Rf × List Rf) := D.take p ++ D.drop (p + 1)
def DRemEnd (w : World) (U : Nat → Prop) (rb : Nat) (D : List (Rf × List Rf)) (v : Rf) (e : Ending) (w' : World) : Prop :=
  e = .returned (.int .i64 (remR D v)) ∧ KeepA (fun k => k = rb) w w' ∧ (remR D v ≠ 0 → Below w.heap.size w w') ∧ (remR D v = 0 → ∃ p, ∃ h : p < D.length, D[p].1 = v ∧ DocS w' (fun k => U k ∨ Span w w' k) rb (remD D p))
theorem plainL_take (ls : List Lk) (p : Nat) : plainL (ls.take p) = (plainL ls).take p := by unfold plainL; rw [List.map_take]
theorem plainL_drop (ls : List Lk) (p : Nat) : plainL (ls.drop p) = (plainL ls).drop p := by unfold plainL; rw [List.map_drop]
theorem plainL_append (ls l2 : List Lk) : plainL (ls ++ l2) = plainL ls ++ plainL l2 := by unfold plainL; rw [List.map_append]
/-- A graph gets new rows. -/
theorem DocM.put {w wa wb : World} {U : Nat → Prop} {rb : Nat} {vv v2 : Value} {ls l2 : List Lk} {D : List (Rf × List Rf)} (h : DocM w U rb vv ls D) (hU : ¬ U rb) (hb : Below w.heap.size w wa) (ho : OwnLk wa v2 l2) (hn : ∀ p, v2.ownBlock = some p → w.heap.size ≤ p)
    (hg : wa.grownBy wb (some rb)) (hbx : RowAt wb rb 42 #[v2]) (hl : ∀ x ∈ l2, x ∈ ls ∨ (OwnRf wa (lkS x) x.ts ∧ ∀ p, (lkS x).ownBlock = some p → w.heap.size ≤ p)) :
    KeepA (fun k => k = rb) w wb ∧ DocM wb (fun k => U k ∨ Span w wb k) rb v2 l2 (plainL l2) := by
  have hk : KeepA (fun k => k = rb) w wb := (KeepA.of_below hb).trans (keep_grown hg)
  have hrb := h.box.lt
  have hs := hg.size
  refine ⟨hk, hbx, ho.keep (keep_grown hg) fun p hp e => by have := hn p hp; omega, rfl, fun x hx => ?_, fun p hp => .inr ⟨hn p hp, Nat.lt_of_lt_of_le (ho.lt hp) hs⟩⟩
  rcases hl x hx with hx | ⟨q1, q2⟩
  · obtain ⟨q1, q2⟩ := h.tos x hx
    exact ⟨q1.keep hk fun p hp e => hU (e ▸ q2 p hp), fun p hp => .inl (q2 p hp)⟩
  · exact ⟨q1.keep (keep_grown hg) fun p hp e => by have := q2 p hp; omega, fun p hp => .inr ⟨q2 p hp, Nat.lt_of_lt_of_le (q1.lt hp) hs⟩⟩
set_option maxRecDepth 100000 in
set_option maxHeartbeats 4000000 in
theorem docrem_any (w : World) (U : Nat → Prop) (rb : Nat) (D : List (Rf × List Rf)) (h : DocS w U rb D) (hU : ¬ U rb) (hd : D.length ≤ 1000) (hlk : Lks D) (hts : ∀ x ∈ D, x.2.length ≤ 1000) (v : Rf) :
    Calls Try.prog 16 #[.pointer (some ⟨rb, 0, none⟩), .agg #[.string v.1, .int .i64 v.2]] w (DRemEnd w U rb D v) := by
  obtain ⟨px, hpx⟩ : ∃ y, w.heap.size = y := ⟨_, rfl⟩
  obtain ⟨w1, hw1⟩ : ∃ y, w.alloc (.cells #[.string v.1, .int .i64 v.2] 25) = y := ⟨_, rfl⟩
  have hb1 : Below w.heap.size w w1 := by rw [← hw1]; exact below_alloc _
  have HP1 : Hid (RowAt w1 px 25 #[.string v.1, .int .i64 v.2]) := by rw [← hw1, ← hpx]; exact RowAt.new _ _ _
  have HB1 := Lib.hid hb1
  obtain ⟨gv, ls, hm⟩ := h
  have HM := Lib.hid hm
  have h1 : DocS w1 U rb D := ⟨gv, ls, hm.later hb1⟩
  obtain ⟨z, hz⟩ : ∃ z, askR D v = z := ⟨_, rfl⟩
  have HZ := Lib.hid hz
  have HAK : Hid (Calls Try.prog 36 #[.pointer (some ⟨rb, 0, none⟩), .agg #[.string v.1, .int .i64 v.2]] w1 fun e w' => e = .returned (.int .i64 z) ∧ Below w1.heap.size w1 w') := by rw [← hz]; exact docasked_any w1 U rb D h1 hd v
  have HFR : Hid (∀ W, Below w1.heap.size w1 W → Calls Try.prog 20 #[.pointer (some ⟨rb, 0, none⟩), .agg #[.string v.1, .int .i64 v.2]] W fun e w' => ∃ vv, e = .returned vv ∧ OwnRf w' vv (behd D v) ∧ (∀ g, vv.ownBlock = some g → W.heap.size ≤ g) ∧ Below W.heap.size W w') := Lib.hid fun W hW => docfrom_any W U rb D (h1.later hW) hd hlk hts v
  have HFI : Hid (∀ W, Below w1.heap.size w1 W → Calls Try.prog 12 #[.pointer (some ⟨rb, 0, none⟩), .agg #[.string v.1, .int .i64 v.2]] W fun e w' => e = .returned (.int .i64 (findR D v)) ∧ Below W.heap.size W w') := Lib.hid fun W hW => docfind_any W U rb D (h1.later hW) hd v
  obtain ⟨n, hn⟩ : ∃ n, (behd D v).length = n := ⟨_, rfl⟩
  have HN := Lib.hid hn
  obtain ⟨K, hK⟩ : ∃ K, DRemEnd w U rb D v = K := ⟨_, rfl⟩
  have HKE : Hid (∀ z W, remR D v = z → z ≠ 0 → Below w1.heap.size w1 W → K (.returned (.int .i64 z)) W) := Lib.hid fun z W hz h0 hW => by
    rw [← hK]
    have hW := below_trans hb1 hW
    exact ⟨by rw [hz], KeepA.of_below hW, fun _ => hW, fun e => absurd (hz.symm.trans e) h0⟩
  have HKO : Hid (∀ W, remR D v = 0 → KeepA (fun k => k = rb) w W → (∃ p, ∃ h : p < D.length, D[p].1 = v ∧ DocS W (fun k => U k ∨ Span w W k) rb (remD D p)) → K (.returned (.int .i64 0)) W) := Lib.hid fun W hz k1 k2 => by
    rw [← hK]
    exact ⟨by rw [hz], k1, fun e => absurd hz e, fun _ => k2⟩
  rw [hK]
  have HU := Lib.hid hU
  clear hb1 hK h1 hz hm hlk hts hn hU
  go_enter Try.func16, Try.ntmps16
  have HC1 : Hid (CellsAt w1 rfC px 0 v) := RowAt.rf HP1.out
  by_cases hz0 : z = 0
  · subst hz0
    go_upto_region 4 with (first
      | (refine step_loadRf rfl (.tmp 3) rfl HC1.out rfl ?_)
      | (go_at_call 36; refine HAK.out.mono ?_; rintro _ w2 ⟨rfl, hb2⟩; have HB2 := Lib.hid hb2; clear hb2))
    have HC2 : Hid (CellsAt w2 rfC px 0 v) := HC1.out.later HB2.out HP1.out.lt
    by_cases hn0 : n = 0
    · subst hn0
      have HRM : Hid (remR D v = 0) := remR_ok HZ.out (List.eq_nil_of_length_eq_zero HN.out)
      obtain ⟨p, hp, hf, hpv⟩ : ∃ (p : Nat) (h : p < D.length), findR D v = (p : Int) ∧ D[p].1 = v := by
        rcases findR_in D v with ⟨-, e⟩ | ⟨i, hi, e1, e2, -⟩
        · have := memB_not.1 e
          exact absurd (askR_in HZ.out) this
        · exact ⟨i, hi, e1, e2⟩
      rw [hf] at HFI
      have HPV : Hid (∃ h : p < D.length, D[p].1 = v) := ⟨hp, hpv⟩
      clear hf hpv
      go_upto_region 7 with (first
        | (refine step_loadRf rfl (.tmp 3) rfl HC2.out rfl ?_)
        | (go_at_call 20; refine (HFR.out w2 HB2.out).mono ?_; rintro _ w3 ⟨vv, rfl, ho3, -, hb3⟩; obtain ⟨fa, fc, hfv, -, -, -⟩ := ho3.rd; rw [HN.out] at hfv; subst hfv; have HB3 := Lib.hid (below_trans HB2.out hb3); have HC3 : Hid (CellsAt w3 rfC px 0 v) := (HC2.out.later hb3 (RowAt.below HP1.out HB2.out).lt); clear hb3 ho3)
        | (refine step_loadRf rfl (.tmp 3) rfl HC3.out rfl ?_)
        | (go_at_call 12; refine (HFI.out w3 HB3.out).mono ?_; rintro _ w4 ⟨rfl, hb4⟩; have HB4 := Lib.hid (below_trans HB3.out hb4); clear hb4))
      have HB04 := Lib.hid (below_trans HB1.out HB4.out)
      have hm4 := HM.out.later HB04.out
      rcases hm4.place with ⟨e1, e2⟩ | ⟨b, c, e1, hnc, hcm, hbl, hUb, hrows⟩
      · rw [e2] at hp
        exact absurd hp (by simp)
      · obtain ⟨m, hm⟩ : ∃ m, D.length = m := ⟨_, rfl⟩
        have HMM := Lib.hid hm
        rw [hm] at e1 hnc hd hp
        have HBX : Hid (RowAt w4 rb 42 #[.slice (some ⟨b, 0, none⟩) m c]) := by rw [← e1]; exact hm4.box
        have hc0 : w4.cell? ⟨rb, 0, none⟩ = some (.slice (some ⟨b, 0, none⟩) m c) := HBX.out.cell 0
        have hll : ls.length = m := by rw [← hm, ← HM.out.pl]; simp [plainL]
        have HLL := Lib.hid hll
        have HR1 : Hid (RowsAt w4 (some ⟨b, 0, none⟩) 3 (ls.take p) (CellsAt w4 lkC)) := hrows.take p
        have HL1 : Hid ((ls.take p).length = p) := by show _ = _; rw [List.length_take, hll]; omega
        have HL2 : Hid ((ls.drop (p + 1)).length = m - (p + 1)) := by show _ = _; rw [List.length_drop, hll]
        have HSZ1 : Hid ((ls.take p).length ≤ 1000000) := by show _ ≤ _; rw [HL1.out]; omega
        have HRW := Lib.hid hrows
        clear hm4 e1 hUb hrows hm hll
        go_upto_region 8 with (refine step_appendLk rfl (.const (.slice none 0 0)) (.tmp 27) rfl (.slice none 0 0) [] rfl _ p _ (ls.take p) HL1.out rfl (OwnLk.nil _) HR1.out (by simp) (by omega) ?_; intro v5 w5 ho5 hg5 hn5; have HO5 := Lib.hid ho5; have HG5 := Lib.hid hg5; have HN5 := Lib.hid hn5; clear ho5 hg5 hn5)
        have HB45 : Hid (Below w4.heap.size w4 w5) := below_grown (Below.refl _ _) HG5.out (Nat.le_refl _) (fun k e => by simp [Value.ownBlock] at e)
        have HLOW5 : Hid (∀ g, v5.ownBlock = some g → w4.heap.size ≤ g) := fun g hg => by
          rcases HN5.out g hg with e | e
          · simp [Value.ownBlock] at e
          · exact e
        have HBX5 : Hid (RowAt w5 rb 42 #[.slice (some ⟨b, 0, none⟩) m c]) := RowAt.below HBX.out HB45.out
        have hc5 : w5.cell? ⟨rb, 0, none⟩ = some (.slice (some ⟨b, 0, none⟩) m c) := HBX5.out.cell 0
        have HR2 : Hid (RowsAt w5 (some ⟨b, (p + 1) * 3, none⟩) 3 (ls.drop (p + 1)) (CellsAt w5 lkC)) := by rw [← Nat.zero_add ((p + 1) * 3)]; exact RowsAt.drop (HRW.out.imp HB45.out.size fun _ _ _ hlt h => h.later HB45.out hlt) (p + 1)
        clear hc0 HR1
        have HV5 := Lib.hid HN5.out
        clear HN5 HG5
        obtain ⟨a5, c5, hv5, -⟩ := HO5.out.rd
        rw [List.nil_append, HL1.out] at hv5
        subst hv5
        have HFIN : Hid (∀ v6 w6 w7, OwnLk w6 v6 (([] ++ ls.take p) ++ ls.drop (p + 1)) → w5.grownBy w6 (Value.slice a5 p c5).ownBlock → NewRow w5 (.slice a5 p c5) v6 → RowAt w7 rb 42 #[v6] → w6.grownBy w7 (some rb) → K (.returned (.int .i64 0)) w7) := Lib.hid fun v6 w6 w7 q1 q2 q3 q4 q5 => by
          obtain ⟨h, hpv⟩ := HPV.out
          have hb5 : Below w.heap.size w w5 := below_trans HB04.out HB45.out
          have hb6 : Below w.heap.size w w6 := below_grown hb5 q2 hb5.size fun g e => Nat.le_trans HB04.out.size (HLOW5.out g e)
          have hnew : ∀ g, v6.ownBlock = some g → w.heap.size ≤ g := fun g e => by
            rcases q3 g e with e | e
            · exact Nat.le_trans HB04.out.size (HLOW5.out g e)
            · exact Nat.le_trans hb5.size e
          have hmem : ∀ x ∈ ([] ++ ls.take p) ++ ls.drop (p + 1), x ∈ ls := fun x hx => by
            rcases List.mem_append.1 hx with hx | hx
            · exact List.mem_of_mem_take (by simpa using hx)
            · exact List.mem_of_mem_drop hx
          obtain ⟨k1, k2⟩ := HM.out.put HU.out hb6 q1 hnew q5 q4 fun x hx => .inl (hmem x hx)
          refine HKO.out _ HRM.out k1 ⟨p, h, hpv, ?_⟩
          have e : plainL (([] ++ ls.take p) ++ ls.drop (p + 1)) = remD D p := by
            rw [plainL_append, List.nil_append, plainL_take, plainL_drop, HM.out.pl]
            rfl
          rw [← e]
          exact ⟨v6, _, k2⟩
        by_cases hcp : c = p + 1
        · subst hcp
          have HMP : Hid (m = p + 1) := by show _ = _; omega
          have HD0 : Hid (ls.drop (p + 1) = []) := by
            show _ = _
            rw [List.drop_eq_nil_iff, HLL.out]
            exact Nat.le_of_eq HMP.out
          have HL0 : Hid ((ls.drop (p + 1)).length = 0) := by show _ = _; rw [HD0.out]; rfl
          go_wp2_with (first
            | (refine step_appendLk rfl (.tmp 30) (.tmp 37) rfl (.slice a5 p c5) ([] ++ ls.take p) rfl _ 0 _ (ls.drop (p + 1)) HL0.out rfl HO5.out (.inl HD0.out) (by simpa using HSZ1.out) (by omega) ?_; intro v6 w6 ho6 hg6 hn6; obtain ⟨a6, n6, c6, hv6⟩ : ∃ a n c, v6 = .slice a n c := (by obtain ⟨a, c, e, -⟩ := ho6.rd; exact ⟨a, _, c, e⟩); subst hv6; have HO6 := Lib.hid ho6; have HG6 := Lib.hid hg6; have HN6 := Lib.hid hn6; have HBX6 : Hid (RowAt w6 rb 42 #[.slice (some ⟨b, 0, none⟩) m _]) := (row_keep (keep_grownO hg6) HBX5.out (fun e => by have := HLOW5.out rb e; have := HBX.out.lt; omega)); have hc6 := HBX6.out.cell 0; have hf6 := frozen_of_row w6 rb 0 _ _ HBX6.out; clear ho6 hg6 hn6)
            | fail)
          exact HFIN.out (.slice a6 n6 c6) w6 _ HO6.out HG6.out HN6.out (RowAt.set (cs := #[_]) HBX6.out 0 _) (grown_setCell _ _ _)
        · go_wp2_with (first
            | (refine step_appendLk rfl (.tmp 30) (.tmp 37) rfl (.slice a5 p c5) ([] ++ ls.take p) rfl _ _ _ (ls.drop (p + 1)) HL2.out rfl HO5.out HR2.out (by simpa using HSZ1.out) (by omega) ?_; intro v6 w6 ho6 hg6 hn6; obtain ⟨a6, n6, c6, hv6⟩ : ∃ a n c, v6 = .slice a n c := (by obtain ⟨a, c, e, -⟩ := ho6.rd; exact ⟨a, _, c, e⟩); subst hv6; have HO6 := Lib.hid ho6; have HG6 := Lib.hid hg6; have HN6 := Lib.hid hn6; have HBX6 : Hid (RowAt w6 rb 42 #[.slice (some ⟨b, 0, none⟩) m _]) := (row_keep (keep_grownO hg6) HBX5.out (fun e => by have := HLOW5.out rb e; have := HBX.out.lt; omega)); have hc6 := HBX6.out.cell 0; have hf6 := frozen_of_row w6 rb 0 _ _ HBX6.out; clear ho6 hg6 hn6)
            | fail)
          exact HFIN.out (.slice a6 n6 c6) w6 _ HO6.out HG6.out HN6.out (RowAt.set (cs := #[_]) HBX6.out 0 _) (grown_setCell _ _ _)
    · have HRM : Hid (remR D v = 330) := remR_ref HZ.out (fun e => hn0 (by rw [← HN.out, e]; rfl))
      go_wp2_with (first
        | (refine step_loadRf rfl (.tmp 3) rfl HC2.out rfl ?_)
        | (go_at_call 20; refine (HFR.out w2 HB2.out).mono ?_; rintro _ w3 ⟨vv, rfl, ho3, -, hb3⟩; obtain ⟨fa, fc, hfv, -, -, -⟩ := ho3.rd; rw [HN.out] at hfv; subst hfv; have HB3 := Lib.hid (below_trans HB2.out hb3); clear hb3 ho3))
      exact HKE.out _ _ HRM.out (by decide) HB3.out
  · have HRM : Hid (remR D v = z) := by show _ = _; rw [remR_ask (by rw [HZ.out]; exact hz0), HZ.out]
    go_wp2_with (first
      | (refine step_loadRf rfl (.tmp 3) rfl HC1.out rfl ?_)
      | (go_at_call 36; refine HAK.out.mono ?_; rintro _ w2 ⟨rfl, hb2⟩; have HB2 := Lib.hid hb2; clear hb2))
    exact HKE.out _ _ HRM.out hz0 HB2.out
end Go.Proofs.Ytcakdjnnfonijaa
