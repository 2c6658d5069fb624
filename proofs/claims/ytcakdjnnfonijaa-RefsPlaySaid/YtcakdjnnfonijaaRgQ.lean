/- slices.Clone of versions; New, To, From of the program's graph. -/
import Derived.Test.YtcakdjnnfonijaaRgGr
namespace Go.Proofs.Ytcakdjnnfonijaa
open Go.RowKit

attribute [local go_sem] Oper.semAt_some
def Span (w w' : World) : Nat → Prop := fun k => w.heap.size ≤ k ∧ k < w'.heap.size
theorem run_range_nil {P : Program} {kt et mt : TypeId} (hm : P.underlying mt = some (.map kt et)) (w : World) : (Instr.range mt (.map none)).run P w = .ok (.pointer (some ⟨w.heap.size, 0, none⟩)) (w.alloc (.mapIter none 0 #[] 0)) := by
  unfold Instr.range
  rw [Sem.run_bind, run_underlying hm, Result.andThen_ok]
  rfl
theorem run_next_nil {P : Program} {w : World} {r : Nat} (ty : TypeId) (h : w.heap[r]? = some (.mapIter none 0 #[] 0)) : (Instr.next (.pointer (some ⟨r, 0, none⟩)) false ty).run P w = .ok (.tuple #[.bool false]) w := by
  simp only [Instr.next, getObj, Sem.run_bind, Sem.run, h, Result.andThen]
  rfl
set_option maxRecDepth 100000 in
set_option maxHeartbeats 4000000 in
theorem keys1_nil (w : World) (B : Nat) (hbox : w.cell? ⟨B, 0, none⟩ = some (.map none)) :
    SeqStopsK Fence.wide 3 Try.prog 51 #[.pointer (some ⟨B, 0, none⟩)] argRf KeepsWalks (fun xs => xs = []) (fun _ => True) 0 w := by
  intro lp J Jx W hW hJ hJx hY h0
  refine callsIn_of_wp Try.func51 rfl trivial ?_ rfl
  simp only [Try.ntmps51, List.size_toArray, List.length_cons, List.length_nil, Nat.reduceAdd, Nat.reduceSub, Array.replicate_succ, Array.replicate_zero, List.push_toArray, List.append_toArray, List.nil_append, List.cons_append]
  have hbl : B < w.heap.size := World.block_lt_of_cell? w _ hbox
  have hbox1 : W.cell? ⟨B, 0, none⟩ = some (.map none) := (hW.cell (p := ⟨B, 0, none⟩) hbl).trans hbox
  obtain ⟨r, hr⟩ : ∃ x, W.heap.size = x := ⟨_, rfl⟩
  obtain ⟨wi, hwi⟩ : ∃ y, W.alloc (.mapIter none 0 #[] 0) = y := ⟨_, rfl⟩
  have HRUN : Hid ((Instr.range 53 (.map none)).run Try.prog W = .ok (.pointer (some ⟨r, 0, none⟩)) wi) := by
    have := run_range_nil (P := Try.prog) Try.underlying53 W
    rw [hr, hwi] at this
    exact this
  have hbi : Below W.heap.size W wi := by rw [← hwi]; exact below_alloc _
  have HNX : Hid ((Instr.next (.pointer (some ⟨r, 0, none⟩)) false 0).run Try.prog wi = .ok (.tuple #[.bool false]) wi) := Lib.hid (run_next_nil 0 (by rw [← hwi, ← hr]; exact heap_alloc_new W _))
  have HJ0 : Hid (J [] wi) := hJ _ _ _ none h0 (grown_of_below hbi) (fun r e => by cases e)
  clear hbl hJ hJx hY hbox h0 hW hbi hwi
  gi_wp2_with (refine step_rangeIn rfl 53 (.tmp 4) rfl _ rfl _ _ HRUN.out ?_)
  simp only [Act.put, List.setIfInBounds_toArray, List.set_cons_zero, List.set_cons_succ]
  clear hbox1
  gi_loopw [6] (fun _ wr => wr = wi) (fun _ _ => 0)
  case atStart => rfl
  case round =>
    subst hrel
    gi_wp2_with (refine step_nextIn rfl (.tmp 5) rfl _ rfl _ _ HNX.out ?_)
    go_end0
    exact ⟨⟨_, rfl⟩, .inl ⟨[], rfl, HJ0.out⟩⟩
theorem mkeys1_any (x : Value) (hx : x = .map none ∨ ∃ m, x = .map (some m)) (w : World) : Calls Try.prog 41 #[x] w fun e w' => e = .returned (.func (.func 51) #[] #[.pointer (some ⟨w.heap.size, 0, none⟩)]) ∧ w' = w.alloc (.cells #[x] 53) := by
  rcases hx with rfl | ⟨m, rfl⟩
  all_goals
    go_enter Try.func41, Try.ntmps41
    go_wp2
    go_ret
    exact ⟨rfl, rfl⟩
theorem mkeys2_any (m : Nat) (w : World) : Calls Try.prog 56 #[.map (some m)] w fun e w' => e = .returned (.func (.func 63) #[] #[.pointer (some ⟨w.heap.size, 0, none⟩)]) ∧ w' = w.alloc (.cells #[.map (some m)] 54) := by
  go_enter Try.func56, Try.ntmps56
  go_wp2
  go_ret
  exact ⟨rfl, rfl⟩
set_option maxRecDepth 100000 in
/-- Who refers to t, in order. -/
theorem fromkeys_any (w : World) (T : Nat → Prop) (gb m1 m2 : Nat) (fT fF : Rf → Option Value) (D : List (Rf × List Rf)) (h : GrM w T gb m1 m2 fT fF D) (ha : AscR (D.map (·.1))) (hd : D.length ≤ 1000) (t : Rf) (x : Value) (hx : (fF t).getD (.map none) = x) (B : Nat) (hB : w.cell? ⟨B, 0, none⟩ = some x) :
    Calls Try.prog 40 #[.func (.func 51) #[] #[.pointer (some ⟨B, 0, none⟩)], .func (.func 42) #[] #[]] w fun e w' => ∃ v, e = .returned v ∧ OwnRf w' v (behd D t) ∧ (∀ g, v.ownBlock = some g → w.heap.size ≤ g) ∧ Below w.heap.size w w' := by
  have eg := enters_of Try.func51 (by kernel_rfl) rfl
  have hsub : (behd D t).Sublist (D.map (·.1)) := List.Sublist.map _ List.filter_sublist
  have hasc : AscR (behd D t) := List.Pairwise.sublist hsub ha
  have hlen : (behd D t).length ≤ 1000 := Nat.le_trans hsub.length_le (by rw [List.length_map]; exact hd)
  cases hf : fF t with
  | none =>
    rw [hf] at hx
    have hx : Value.map none = x := hx
    subst hx
    refine (sortedfunc_any _ _ eg (fun xs => xs = []) 0 (by omega) (fun xs e => by rw [e]; exact Nat.le_refl _) w (keys1_nil w B hB)).mono ?_
    rintro e w' ⟨v, xs, rfl, rfl, h1, h2, h3⟩
    rw [h.frN t hf]
    exact ⟨v, rfl, by simpa [sortRs] using h1, h2, h3⟩
  | some s =>
    rw [hf] at hx
    have hx : s = x := hx
    subst hx
    obtain ⟨m, rfl, hm, -⟩ := h.frS t s hf
    have hkeys : ∀ k, (refF D t k).isSome = true ↔ k ∈ behd D t := fun k => by
      unfold refF
      by_cases e : memB k (behd D t) = true
      · rw [if_pos e]; exact ⟨fun _ => memB_iff.1 e, fun _ => rfl⟩
      · rw [if_neg e]
        constructor
        · intro h; cases h
        · intro h; exact absurd (memB_iff.2 h) e
    have hN : ∀ xs, KeysOf (refF D t) xs → xs.length ≤ 1000 := fun xs hxs => Nat.le_trans (nodup_len xs (behd D t) hxs.1 fun k hk => (hkeys k).1 (hxs.2 k hk)) hlen
    refine (sortedfunc_any _ _ eg (fun xs => KeysOf (refF D t) xs ∧ ∀ k v, refF D t k = some v → k ∈ xs) 1000 (by omega) (fun xs e => hN xs e.1) w (keys1_stops w B m 1000 (refF D t) hB hm hN)).mono ?_
    rintro e w' ⟨v, xs, rfl, ⟨g1, g2⟩, h1, h2, h3⟩
    rw [sortRs_eq hasc g1.1 fun k => ⟨fun hk => (hkeys k).1 (g1.2 k hk), fun hk => by
      obtain ⟨z, hz⟩ := Option.isSome_iff_exists.1 ((hkeys k).2 hk)
      exact g2 k z hz⟩] at h1
    exact ⟨v, rfl, h1, h2, h3⟩
theorem run_eqSlNil (w : World) (a : Option Addr) (n c : Nat) : (binOp .eql 26 (.slice a n c) (.slice none 0 0)).run Try.prog w = .ok (.bool a.isNone) w := by
  simp only [binOp]
  have h : (Op.equalIn 10000 26 (.slice a n c) (.slice none 0 0)).run Try.prog w = .ok a.isNone w := by
    show (Op.equalIn (9999 + 1) _ _ _).run Try.prog w = _
    unfold Op.equalIn
    rw [Sem.run_bind, run_underlying Try.underlying26]
    cases a <;> rfl
  simp [Op.equal, Op.maxDepth, h]
/-- Versions are added. -/
theorem step_appRf {ops : Array Oper} {rest : List Oper} {o : Oper} {act : Act} {Q : Exit → Act → World → Prop} {w : World} (hgd : o.guard = none) (s x : Operand) (ho : o.op = .call { callee := .builtin .append, args := #[s, x], argTypes := #[26, 26] })
    (v : Value) (H : List Rf) (hv : act.eval s = v) (a : Option Addr) (n c : Nat) (l : List Rf) (hn : l.length = n) (hx : act.eval x = .slice a n c) (hown : OwnRf w v H) (hrd : RdRf w a l) (hsz : H.length ≤ 1000000) (hsz2 : n ≤ 1000000)
    (h : ∀ a' n' c' w', OwnRf w' (.slice a' n' c') (H ++ l) → w.grownBy w' v.ownBlock → NewRow w v (.slice a' n' c') → wpList Try.prog ops Q rest (act.put o.dst (.slice a' n' c')) w') : wpList Try.prog ops Q (o :: rest) act w :=
  wpList_plain hgd fun K hK => by
    obtain ⟨v', w', hrun, q2, q3, q4⟩ := run_append_any eltRf w 0 o.type v H.length (H.flatMap rfC) hown a n c (l.flatMap rfC) (by rw [flat_len rfC_len, hn]) (rd_of_rows rfC_len (by decide) hrd) (fun u hu => rfC_one l u hu) (by omega) (by omega) (Nat.zero_le _)
    have hown2 : OwnRf w' v' (H ++ l) := by
      unfold OwnRf
      rw [List.length_append, List.flatMap_append, hn]
      simpa using q2
    obtain ⟨a', c', hv', -, -, -⟩ := hown2.rd
    subst hv'
    unfold Oper.wp execOp
    simp only [ho, resolve, invoke, builtin, Sem.run_bind, Sem.run_pure, Result.andThen_ok, List.map_toArray, List.map_cons, List.map_nil, hv, hx, hrun]
    exact hK _ _ (h a' _ c' w' hown2 q3 q4)
set_option maxRecDepth 100000 in
set_option maxHeartbeats 1000000 in
theorem clone_any (a : Option Addr) (n c : Nat) (l : List Rf) (w : World) (hl : l.length = n) (hb : n ≤ 1000000) (hr : RdRf w a l) :
    Calls Try.prog 38 #[.slice a n c] w fun e w' => ∃ v, e = .returned v ∧ OwnRf w' v l ∧ (∀ g, v.ownBlock = some g → w.heap.size ≤ g) ∧ Below w.heap.size w w' := by
  cases a with
  | none =>
    have e0 : l = [] := by
      rcases hr with e | ⟨b, off, e, -⟩
      · exact e
      · cases e
    subst e0
    clear hr hl
    have hq : (binOp .eql 26 (.slice none n c) (.slice none 0 0)).run Try.prog w = .ok (.bool true) w := run_eqSlNil w none n c
    go_enter Try.func38, Try.ntmps38
    go_wp2
    go_ret
    exact ⟨_, rfl, OwnRf.nil _, fun g hg => by simp [Value.ownBlock] at hg, Below.refl _ _⟩
  | some ad =>
    obtain ⟨g, hg⟩ : ∃ y, w.heap.size = y := ⟨_, rfl⟩
    obtain ⟨w1, hw1⟩ : ∃ y, w.alloc (.cells #[] 25) = y := ⟨_, rfl⟩
    have hb1 : Below w.heap.size w w1 := by rw [← hw1]; exact below_alloc _
    have HO : Hid (OwnRf w1 (.slice (some ⟨g, 0, none⟩) 0 0) []) := Lib.hid ⟨rfl, .inr ⟨g, 0, #[], rfl, Nat.zero_le _, by rw [← hw1, ← hg]; exact heap_alloc_new w _, Nat.le_refl _, Nat.zero_le _, rfl, rfl⟩⟩
    have HB1 := Lib.hid hb1
    have HR := Lib.hid (hr.later hb1)
    have HL := Lib.hid hl
    have HE : Hid (∀ a' n' c' w', OwnRf w' (.slice a' n' c') l → w1.grownBy w' (some g) → NewRow w1 (.slice (some ⟨g, 0, none⟩) 0 0) (.slice a' n' c') → ∃ v, Ending.returned (.slice a' n' c') = .returned v ∧ OwnRf w' v l ∧ (∀ g, v.ownBlock = some g → w.heap.size ≤ g) ∧ Below w.heap.size w w') := Lib.hid fun a' n' c' w' q1 q2 q3 => by
      refine ⟨_, rfl, q1, fun p hp => ?_, below_grown hb1 q2 hb1.size (fun k hk => by have := Option.some.inj hk; omega)⟩
      rcases q3 p hp with e | e
      · have : g = p := Option.some.inj e
        omega
      · have := hb1.size; omega
    rw [hg] at HE
    have hq : (binOp .eql 26 (.slice (some ad) n c) (.slice none 0 0)).run Try.prog w = .ok (.bool false) w := run_eqSlNil w (some ad) n c
    clear hr hl hb1
    go_enter Try.func38, Try.ntmps38
    rw [hg]
    go_wp2_with (refine step_appRf rfl (.tmp 5) (.tmp 6) rfl (.slice (some ⟨g, 0, none⟩) 0 0) [] rfl (some ad) n c l HL.out rfl HO.out HR.out (by simp) hb ?_; intro a2 n2 c2 w2 q1 q2 q3; have HF := Lib.hid (HE.out a2 n2 c2 w2 q1 q2 q3); clear q1 q2 q3)
    go_ret
    exact HF.out
end Go.Proofs.Ytcakdjnnfonijaa
