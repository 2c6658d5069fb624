/- slices.AppendSeq, slices.Collect of versions handed out by an iterator. -/
import Derived.Test.YtcakdjnnfonijaaRgKeys
import Derived.Test.YtcakdjnnfonijaaRgRnd
namespace Go.Proofs.Ytcakdjnnfonijaa
open Go.RowKit

attribute [local go_sem] Oper.semAt_some
theorem step_loadRfIn {F : Fence} {n : Nat} {ops : Array Oper} {rest : List Oper} {o : Oper} {act : Act} {Q : Exit → Act → World → Prop} {w : World} (hgd : o.guard = none) (x : Operand) (ho : o.op = .load 25 x) {b k : Nat} {r : Rf} (h : CellsAt w rfC b k r) (hx : act.eval x = .pointer (some ⟨b, k, none⟩))
    (hn : wpListIn F n Try.prog ops Q rest (act.put o.dst (.agg #[.string r.1, .int .i64 r.2])) w) : wpListIn F n Try.prog ops Q (o :: rest) act w := by
  refine wpListIn_plain hgd fun K hK' => ?_
  have hrun := run_loadVar_cells (P := Try.prog) w ⟨b, k, none⟩ 25 (rfC r) aggRf fun j v hv => by
    have hadd : (⟨b, k, none⟩ : Addr).add j = ⟨b, k + j, none⟩ := by unfold Addr.add; split <;> simp_all
    rw [hadd]
    exact h j v hv
  unfold Oper.wpIn
  refine ⟨by simp [Oper.about, ho], ?_⟩
  rw [Oper.semAt_plain F _ _ (by rw [ho]; intro c hc'; cases hc')]
  unfold execOp
  simp only [ho, hx, Instr.loadAt, Instr.sureAddr, Sem.run_bind, Sem.run_pure, Result.andThen_ok, hrun]
  exact hK' _ _ hn
theorem step_pushRfIn {F : Fence} {n : Nat} {t : TypeId} {z : Value} (E : Elt Try.prog t 25 2 24 z) {ops : Array Oper} {rest : List Oper} {o : Oper} {act : Act} {Q : Exit → Act → World → Prop} {w : World} (hgd : o.guard = none) (s x : Operand) (ho : o.op = .call { callee := .builtin .append, args := #[s, x], argTypes := #[t, t] })
    (v : Value) (H : List Rf) (hv : act.eval s = v) (g : Nat) (r : Rf) (hx : act.eval x = .slice (some ⟨g, 0, none⟩) 1 1) (hown : OwnRf w v H) (hg : CellsAt w rfC g 0 r) (hl : g < w.heap.size) (hsz : H.length ≤ 1000000)
    (h : ∀ v' w', OwnRf w' v' (H ++ [r]) → w.grownBy w' v.ownBlock → NewRow w v v' → wpListIn F n Try.prog ops Q rest (act.put o.dst v') w') : wpListIn F n Try.prog ops Q (o :: rest) act w := by
  refine wpListIn_plain hgd fun K hK' => ?_
  have hrd : Rd w (some ⟨g, 0, none⟩) (rfC r) := .inr ⟨g, 0, rfl, hl, fun k hk => hg k _ (List.getElem?_eq_getElem hk)⟩
  obtain ⟨v', w', hrun, q2, q3, q4⟩ := run_append_any E w 0 o.type v H.length (H.flatMap rfC) hown (some ⟨g, 0, none⟩) 1 1 (rfC r) rfl hrd (fun u hu => rfC_one [r] u (by simpa using hu)) (by omega) (by omega) (Nat.zero_le _)
  unfold Oper.wpIn
  refine ⟨?_, ?_⟩
  · simp [Oper.about, ho, resolve, Target.leads, Sem.run_pure]
  · rw [Oper.semAt_plain F _ _ (by rw [ho]; intro c hc'; cases hc')]
    simp [execOp, ho, resolve, invoke, builtin, hv, hx, hrun, Result.andThen]
    refine hK' _ _ (h v' w' ?_ q3 q4)
    unfold OwnRf
    rw [List.length_append, List.flatMap_append]
    simpa using q2
theorem row_staysR {B : Nat} {w w' : World} (hs : Stays B w w') {b : Nat} {t : TypeId} {cells : Array Value} (h : RowAt w b t cells) : RowAt w' b t cells := hs b _ h (.inr rfl)
theorem own_staysR {B : Nat} {w w' : World} (hs : Stays B w w') {v : Value} {l : List Rf} (h : OwnRf w v l) : OwnRf w' v l := by
  refine ⟨h.1, ?_⟩
  rcases h.2 with h | ⟨g, cap, cur, hv, hg, hh, r⟩
  · exact .inl h
  · exact .inr ⟨g, cap, cur, hv, hg, hs g _ hh (.inr rfl), r⟩
def touchS (b : Nat) : Nat → Prop := fun k => k = b ∨ b + 3 ≤ k
/-- What was collected so far. -/
def ColAt (b : Nat) (pre : List Rf) (W : World) : Prop := ∃ v, RowAt W b 26 #[v] ∧ OwnRf W v pre ∧ ∀ g, v.ownBlock = some g → b + 3 ≤ g
theorem col_world {W2 W4 W5 : World} {b : Nat} {v v' : Value} {pre : List Rf} {x : Rf} (hb : b + 3 ≤ W2.heap.size) (hbx : RowAt W2 b 26 #[v]) (hlow : ∀ g, v.ownBlock = some g → b + 3 ≤ g) (hown : OwnRf W4 v pre) (k24 : Below W2.heap.size W2 W4) (q1 : OwnRf W5 v' (pre ++ [x])) (q2 : W4.grownBy W5 v.ownBlock) (q3 : NewRow W4 v v') :
    W5.cell? ⟨b, 0, none⟩ = some v ∧ W5.frozen? ⟨b, 0, none⟩ = false ∧ KeepA (touchS b) W2 (W5.setCell ⟨b, 0, none⟩ v') ∧ KeepsWalks W2 (W5.setCell ⟨b, 0, none⟩ v') ∧ ColAt b (pre ++ [x]) (W5.setCell ⟨b, 0, none⟩ v') := by
  have hs4 := k24.size
  have hb4 : RowAt W4 b 26 #[v] := RowAt.below hbx k24
  have hb5 : RowAt W5 b 26 #[v] := row_keep (keep_grownO q2) hb4 (fun e => by have := hlow b e; omega)
  have hset : W5.grownBy (W5.setCell ⟨b, 0, none⟩ v') (some b) := grown_setCell _ _ _
  refine ⟨hb5.cell 0, frozen_of_row W5 b 0 _ _ hb5, ?_, ?_, v', RowAt.set hb5 0 v', q1.keep (keep_grown hset) (fun g hg e => ?_), fun g hg => ?_⟩
  · exact ((KeepA.of_below k24).trans ((keep_grownO q2).mono fun k e => .inr (hlow k e))).trans ((keep_grown hset).mono fun k e => .inl e)
  · refine ((KeepsWalks.of_grownBy (grown_of_below k24) (fun j o e => by cases e)).trans (KeepsWalks.of_grownBy q2 fun j o e ho => ?_)).trans (KeepsWalks.setCell _ _ _)
    rcases hown.2 with ⟨e2, _⟩ | ⟨g, cap, cur, e2, _, hh, _⟩
    · rw [e2] at e; simp [Value.ownBlock] at e
    · rw [e2] at e
      have : g = j := Option.some.inj e
      subst this
      rw [hh] at ho
      cases ho
      rfl
  · rcases q3 g hg with h | h
    · have := hlow g h; omega
    · omega
  · rcases q3 g hg with h | h
    · exact hlow g h
    · omega
set_option maxRecDepth 100000 in
set_option maxHeartbeats 4000000 in
theorem appseq_any (gf : Nat) (lb : Array Value) (eg : ∀ args w, (callFunc gf args).run Try.prog w = .ok (.enter gf args) w) (S : List Rf → Prop) (N : Nat) (hN : N ≤ 1000) (w : World) (hseq : SeqStopsK Fence.wide 3 Try.prog gf lb argRf KeepsWalks S (fun _ => True) N w) :
    Calls Try.prog 58 #[.slice none 0 0, .func (.func gf) #[] lb] w fun e w' => ∃ v xs, e = .returned v ∧ S xs ∧ OwnRf w' v xs ∧ (∀ g, v.ownBlock = some g → w.heap.size ≤ g) ∧ Below w.heap.size w w' := by
  obtain ⟨b, hb⟩ : ∃ x, w.heap.size = x := ⟨_, rfl⟩
  obtain ⟨w1, hw1⟩ : ∃ x, w.alloc (.cells #[.slice none 0 0] 26) = x := ⟨_, rfl⟩
  have hb1 : Below w.heap.size w w1 := by rw [← hw1]; exact below_alloc _
  have hs1 : w1.heap.size = b + 1 := by rw [← hw1]; simp [hb]
  have HR1 : Hid (RowAt w1 b 26 #[.slice none 0 0]) := by rw [← hw1, ← hb]; exact RowAt.new _ _ _
  have HB1 := Lib.hid hb1
  have HSQ : Hid (SeqStopsK Fence.wide 3 Try.prog gf lb argRf KeepsWalks S (fun _ => True) N w1) := Lib.hid fun l J Jx W hW => hseq l J Jx W (below_trans hb1 hW)
  have HEG := Lib.hid eg
  obtain ⟨K, hK⟩ : ∃ K, (fun (e : Ending) (w' : World) => ∃ v xs, e = .returned v ∧ S xs ∧ OwnRf w' v xs ∧ (∀ g, v.ownBlock = some g → w.heap.size ≤ g) ∧ Below w.heap.size w w') = K := ⟨_, rfl⟩
  rw [hK]
  have HK : Hid (∀ v xs W, S xs → OwnRf W v xs → (∀ g, v.ownBlock = some g → w.heap.size ≤ g) → Below w.heap.size w W → K (.returned v) W) := Lib.hid fun v xs W h1 h2 h3 h4 => by rw [← hK]; exact ⟨v, xs, rfl, h1, h2, h3, h4⟩
  clear hseq hb1 eg hK
  refine calls_of_wp_marks Try.func58 rfl ?_
  simp only [Try.ntmps58, List.size_toArray, List.length_cons, List.length_nil, Nat.reduceAdd, Nat.reduceSub, Array.replicate_succ, Array.replicate_zero, List.push_toArray, List.append_toArray, List.nil_append, List.cons_append]
  go_wp2
  refine wp_rangeS (gf := gf) (lb := lb) rfl HEG.out (touchS b) HSQ.out ?cX ?cps (fun pre W => ColAt b pre W) (fun _ _ _ => False) ?cG ?cGx ?c0 ?cround ?cdone ?cstop
  case cX => intro k hk; rw [hs1]; rcases hk with h | h <;> omega
  case cps => intro x; rfl
  case cG => exact fun pre W W' ⟨v, h1, h2, h3⟩ hs => ⟨v, row_staysR hs h1, own_staysR hs h2, h3⟩
  case cGx => exact fun c j W W' h hs => h
  case c0 => exact ⟨_, HR1.out, OwnRf.nil _, fun g hg => by simp [Value.ownBlock] at hg⟩
  case cstop => exact fun D c k W _ _ h _ => h.elim
  case cround =>
    rintro lp pre x W hlen hkw ⟨v, hbx, hown, hlow⟩
    have HBX := Lib.hid hbx
    have HOW := Lib.hid hown
    have HLOW := Lib.hid hlow
    obtain ⟨px, hpx⟩ : ∃ y, W.heap.size = y := ⟨_, rfl⟩
    obtain ⟨W1, hW1⟩ : ∃ y, W.alloc (.cells #[.string x.1, .int .i64 x.2] 25) = y := ⟨_, rfl⟩
    have hbW : Below W.heap.size W W1 := by rw [← hW1]; exact below_alloc _
    have HPX : Hid (RowAt W1 px 25 #[.string x.1, .int .i64 x.2]) := by rw [← hW1, ← hpx]; exact RowAt.new _ _ _
    have HBW := Lib.hid hbW
    have hlen2 : pre.length ≤ 1000 := by omega
    clear hbx hown hlow hkw hbW
    unfold argRf
    gi_wp2
    refine ⟨KeepA.of_below HBW.out, KeepsWalks.of_grownBy (grown_of_below HBW.out) (fun j o e => by cases e), fun W2 hs2 hk2 hsz2 => ?_⟩
    rw [hs1] at hsz2
    have HB2 : Hid (RowAt W2 b 26 #[v]) := row_staysR hs2 (RowAt.below HBX.out HBW.out)
    have HO2 : Hid (OwnRf W2 v pre) := own_staysR hs2 (HOW.out.later HBW.out)
    have HC2 : Hid (CellsAt W2 rfC px 0 x) := RowAt.rf (row_staysR hs2 HPX.out)
    have c0 : W2.cell? ⟨b, 0, none⟩ = some v := HB2.out.cell 0
    obtain ⟨G, hG⟩ : ∃ y, W2.heap.size = y := ⟨_, rfl⟩
    obtain ⟨W4, hW4⟩ : ∃ y, W2.alloc (.cells #[.string x.1, .int .i64 x.2] 25) = y := ⟨_, rfl⟩
    have hb4 : Below W2.heap.size W2 W4 := by rw [← hW4]; exact below_alloc _
    have HB4 := Lib.hid hb4
    have HC4 : Hid (CellsAt W4 rfC G 0 x) := by rw [← hW4, ← hG]; exact RowAt.rf (RowAt.new _ _ _)
    have HG4 : Hid (G < W4.heap.size) := Lib.hid (by rw [← hW4, ← hG]; simp)
    have HO4 := Lib.hid (HO2.out.later hb4)
    have hsz3 : b + 3 ≤ W2.heap.size := by omega
    obtain ⟨va, vn, vc, hv⟩ : ∃ va vn vc, v = .slice va vn vc := by
      obtain ⟨a, cap, e, -⟩ := HO2.out.rd
      exact ⟨a, _, cap, e⟩
    have HV := Lib.hid hv
    clear hs2 hk2 hb4 hsz2 hv
    gi_wp2_with (first
      | (refine step_loadRfIn rfl (.tmp 5) rfl HC2.out rfl ?_)
      | (refine step_pushRfIn eltRf rfl (.tmp 8) (.tmp 10) rfl v pre rfl G x rfl HO4.out HC4.out HG4.out (by omega) ?_; intro v5 W5 q1 q2 q3; obtain ⟨g1, g2, g3, g4, g5⟩ := col_world hsz3 HB2.out HLOW.out HO4.out HB4.out q1 q2 q3; obtain ⟨a5, n5, c5, hv5⟩ : (∃ va vn vc, v5 = .slice va vn vc) := (by obtain ⟨a, cap, e, -⟩ := q1.rd; exact ⟨a, _, cap, e⟩); have G3 := Lib.hid g3; have G4 := Lib.hid g4; have G5 := Lib.hid g5; subst hv5; clear q1 q2 q3 g3 g4 g5))
    exact ⟨G3.out, G4.out, G5.out⟩
  case cdone =>
    rintro Dm xs W hDm hS hkw ⟨v, hbx, hown, hlow⟩ hdf
    rw [hs1] at hDm
    have hbW : Below w.heap.size w W := HB1.out.trans (hkw.below (by omega) (fun k hk => by rcases hk with h | h <;> omega))
    have c0 := hbx.cell 0
    obtain ⟨va, vn, vc, hv⟩ : ∃ va vn vc, v = .slice va vn vc := by
      obtain ⟨a, cap, e, -⟩ := hown.rd
      exact ⟨a, _, cap, e⟩
    subst hv
    have HFIN : Hid (∀ w', KeepA (fun k => k ∈ [Dm]) W w' → K (.returned (.slice va vn vc)) w') := Lib.hid fun w' hk => by
      refine HK.out _ xs w' hS (hown.keep hk fun g hg e => ?_) (fun g hg => by have := hlow g hg; omega) (hbW.trans (hk.below (by have := hbW.size; omega) (fun k hk => ?_)))
      · rw [List.mem_singleton] at e
        rcases hown.2 with ⟨e2, _⟩ | ⟨g2, cap, cur, e2, _, hh, _⟩
        · rw [e2] at hg; simp [Value.ownBlock] at hg
        · rw [e2] at hg
          have : g2 = g := Option.some.inj hg
          subst this
          rw [e, hdf] at hh
          cases hh
      · rw [List.mem_singleton.1 hk]; omega
    have HDF := Lib.hid hdf
    clear hbx hown hlow hkw hbW hdf hS
    go_wp2
    exact post_marks [Dm] rfl (by simp) (fun D hD => by rw [List.mem_singleton.1 hD]; exact HDF.out) fun w' hk => ⟨.slice va vn vc, results_tmp (t := 4) rfl _ _ _, HFIN.out w' hk⟩
end Go.Proofs.Ytcakdjnnfonijaa
