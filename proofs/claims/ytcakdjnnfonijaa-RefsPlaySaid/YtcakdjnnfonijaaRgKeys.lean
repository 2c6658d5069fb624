/- maps.Keys of maps with struct keys: the iterators' contracts. -/
import Derived.Test.YtcakdjnnfonijaaRgMap
import Derived.Test.YtcakdjnnfonijaaRoLo
import Derived.RangeFuncFrom
namespace Go.Proofs.Ytcakdjnnfonijaa
open Go.RowKit

attribute [local go_sem] Oper.semAt_some
section
variable {F : Fence} {n : Nat} {P : Program} {ops : Array Oper} {rest : List Oper} {o : Oper} {act : Act} {Q : Exit → Act → World → Prop} {w : World}
theorem step_nextIn (hgd : o.guard = none) (x : Operand) (ho : o.op = .next x false) (it : Value) (hx : act.eval x = it) (v : Value) (w1 : World) (hr : (Instr.next it false o.type).run P w = .ok v w1)
    (h : wpListIn F n P ops Q rest (act.put o.dst v) w1) : wpListIn F n P ops Q (o :: rest) act w := by
  refine wpListIn_plain hgd fun K hK' => ?_
  unfold Oper.wpIn
  refine ⟨by simp [Oper.about, ho], ?_⟩
  rw [Oper.semAt_plain F _ _ (by rw [ho]; intro c hc'; cases hc')]
  unfold execOp
  simp only [ho, hx]
  rw [Sem.run_bind, hr]
  exact hK' _ _ h
theorem step_entryIn (hgd : o.guard = none) (x : Operand) (ho : o.op = .entry x) (it : Value) (hx : act.eval x = it) (v : Value) (w1 : World) (hr : (Instr.entry it).run P w = .ok v w1)
    (h : wpListIn F n P ops Q rest (act.put o.dst v) w1) : wpListIn F n P ops Q (o :: rest) act w := by
  refine wpListIn_plain hgd fun K hK' => ?_
  unfold Oper.wpIn
  refine ⟨by simp [Oper.about, ho], ?_⟩
  rw [Oper.semAt_plain F _ _ (by rw [ho]; intro c hc'; cases hc')]
  unfold execOp
  simp only [ho, hx]
  rw [Sem.run_bind, hr]
  exact hK' _ _ h
theorem step_rangeIn (hgd : o.guard = none) (T : TypeId) (x : Operand) (ho : o.op = .range T x) (it : Value) (hx : act.eval x = it) (v : Value) (w1 : World) (hr : (Instr.range T it).run P w = .ok v w1)
    (h : wpListIn F n P ops Q rest (act.put o.dst v) w1) : wpListIn F n P ops Q (o :: rest) act w := by
  refine wpListIn_plain hgd fun K hK' => ?_
  unfold Oper.wpIn
  refine ⟨by simp [Oper.about, ho], ?_⟩
  rw [Oper.semAt_plain F _ _ (by rw [ho]; intro c hc'; cases hc')]
  unfold execOp
  simp only [ho, hx]
  rw [Sem.run_bind, hr]
  exact hK' _ _ h
end
theorem grown_of_keep {w w' : World} {r : Nat} (h : KeepA (fun x => x = r) w w') : w.grownBy w' (some r) := ⟨h.os, h.tape, h.output, h.size, fun k hk hne => h.same k hk (fun e => hne (by rw [e]))⟩
theorem grown_of_below {w w' : World} (h : Below w.heap.size w w') : w.grownBy w' none := ⟨h.os, h.tape, h.output, h.size, fun k hk _ => h.block k hk⟩
theorem ItF.walks {κ : Type} [DecidableEq κ] {kv : κ → Value} {w w' : World} {r m : Nat} {f : κ → Option Value} {S : List κ} (h : ItF w r m kv f S) (hk : KeepsWalks w w') : ItF w' r m kv f S ∧ itLeft w' r = itLeft w r := by
  obtain ⟨es, c, seen, c0, h1, h2, h3, h4⟩ := h
  exact ItF.same ⟨es, c, seen, c0, h1, h2, h3, h4⟩ ((hk.same r _ h1 rfl).trans h1.symm) ((hk.same m _ h3 rfl).trans h3.symm)
theorem ItF.walk {κ : Type} [DecidableEq κ] {kv : κ → Value} {w : World} {r m : Nat} {f : κ → Option Value} {S : List κ} (h : ItF w r m kv f S) : ∃ o : Obj, w.heap[r]? = some o ∧ o.isWalk = true := by
  obtain ⟨es, c, seen, c0, h1, -⟩ := h
  exact ⟨_, h1, rfl⟩
/-- What an iterator over keys hands out. -/
def KeysOf (f : Rf → Option Value) (xs : List Rf) : Prop := xs.Nodup ∧ ∀ k ∈ xs, (f k).isSome = true
def argRf (x : Rf) : Array Value := #[.agg #[.string x.1, .int .i64 x.2]]
set_option maxRecDepth 100000 in
set_option maxHeartbeats 4000000 in
theorem keys1_stops (w : World) (B m N : Nat) (f : Rf → Option Value) (hbox : w.cell? ⟨B, 0, none⟩ = some (.map (some m))) (hm : MapR w m rfV f) (hN : ∀ xs, KeysOf f xs → xs.length ≤ N) :
    SeqStopsK Fence.wide 3 Try.prog 51 #[.pointer (some ⟨B, 0, none⟩)] argRf KeepsWalks (fun xs => KeysOf f xs ∧ ∀ k v, f k = some v → k ∈ xs) (fun _ => True) N w := by
  intro lp J Jx W hW hJ hJx hY h0
  refine callsIn_of_wp Try.func51 rfl trivial ?_ rfl
  simp only [Try.ntmps51, List.size_toArray, List.length_cons, List.length_nil, Nat.reduceAdd, Nat.reduceSub, Array.replicate_succ, Array.replicate_zero, List.push_toArray, List.append_toArray, List.nil_append, List.cons_append]
  have hbl : B < w.heap.size := World.block_lt_of_cell? w _ hbox
  have hbox1 : W.cell? ⟨B, 0, none⟩ = some (.map (some m)) := (hW.cell (p := ⟨B, 0, none⟩) hbl).trans hbox
  have hmW : MapR W m rfV f := hm.same (hW.block m hm.lt)
  obtain ⟨wi, hrun, hbi, hit⟩ := run_range_F (P := Try.prog) Try.underlying53 hmW
  obtain ⟨r, hr⟩ : ∃ x, W.heap.size = x := ⟨_, rfl⟩
  have hJ0 : J [] wi := hJ _ _ _ none h0 (grown_of_below hbi) (fun r e => by cases e)
  rw [hr] at hrun hit hJ hJx
  have hri : W.heap.size ≤ r := by omega
  have HRUN := Lib.hid hrun
  have H0 : Hid (∃ pre, KeysOf f pre ∧ J pre wi ∧ ItF wi r m rfV f pre) := ⟨[], ⟨List.nodup_nil, fun k h => by cases h⟩, hJ0, hit⟩
  have HY := Lib.hid hY
  have HJ := Lib.hid hJ
  have HJX := Lib.hid hJx
  have HN := Lib.hid hN
  clear hbl hJ hJx hY hbox h0 hW hm hmW hrun hbi hit hJ0 hN
  gi_wp2_with (refine step_rangeIn rfl 53 (.tmp 4) rfl _ rfl _ _ HRUN.out ?_)
  simp only [Act.put, List.setIfInBounds_toArray, List.set_cons_zero, List.set_cons_succ]
  clear hbox1
  gi_loopw [6] (fun _ wr => ∃ pre, KeysOf f pre ∧ J pre wr ∧ ItF wr r m rfV f pre) (fun _ wr => itLeft wr r)
  case atStart => exact H0.out
  case round =>
    obtain ⟨pre, hko, hjr, hit⟩ := hrel
    clear H0 HRUN
    rcases hit.next (P := Try.prog) keyRf.inj 0 with ⟨hall, hrun⟩ | ⟨k, v, wk, hfk, hkS, hrun, hkeep, hit2, hlt2, hent⟩
    · have HRUN := Lib.hid hrun
      have HE : Hid (∃ xs, (KeysOf f xs ∧ ∀ k v, f k = some v → k ∈ xs) ∧ J xs wr) := ⟨pre, ⟨hko, hall⟩, hjr⟩
      clear hall hrun hko hjr hit
      gi_wp2_with (refine step_nextIn rfl (.tmp 5) rfl _ rfl _ _ HRUN.out ?_)
      go_end0
      exact ⟨⟨_, rfl⟩, .inl HE.out⟩
    · have hko2 : KeysOf f (pre ++ [k]) := ⟨by rw [List.nodup_append]; exact ⟨hko.1, by simp, fun a ha b hb => by rw [List.mem_singleton.1 hb]; exact fun e => hkS (by rw [← e]; exact ha)⟩, fun a ha => by
        rcases List.mem_append.1 ha with ha | ha
        · exact hko.2 a ha
        · rw [List.mem_singleton.1 ha, hfk]; rfl⟩
      have hlen : pre.length < N := by
        have := HN.out _ hko2
        rw [List.length_append, List.length_singleton] at this
        omega
      obtain ⟨px, hpx⟩ : ∃ y, wk.heap.size = y := ⟨_, rfl⟩
      obtain ⟨w5, hw5⟩ : ∃ y, wk.alloc (.cells #[.string k.1, .int .i64 k.2] 25) = y := ⟨_, rfl⟩
      have hb5 : Below wk.heap.size wk w5 := by rw [← hw5]; exact below_alloc _
      have HC5 : Hid (RowAt w5 px 25 #[.string k.1, .int .i64 k.2]) := by rw [← hw5, ← hpx]; exact RowAt.new _ _ _
      have hjk : J pre wk := HJ.out _ _ _ (some r) hjr (grown_of_keep hkeep) (fun q e => by
        have := Option.some.inj e
        subst this
        exact ⟨Nat.le_refl _, hit.walk⟩)
      have hj5 : J pre w5 := HJ.out _ _ _ none hjk (grown_of_below hb5) (fun q e => by cases e)
      obtain ⟨q1, q2⟩ := hit2.later hb5
      obtain ⟨fn, tmps, assign, body, hy, hR⟩ := HY.out pre k w5 hj5 hlen
      have HR : Hid (RoundIn Fence.wide 2 Try.prog lp fn tmps assign body w5 fun e W' => (e = .returned (.bool true) ∧ (KeysOf f (pre ++ [k]) ∧ J (pre ++ [k]) W' ∧ ItF W' r m rfV f (pre ++ [k])) ∧ itLeft W' r < itLeft wr r) ∨ (e = .returned (.bool false) ∧ Jx (pre ++ [k]) W')) :=
        hR.mono (by
          rintro e W' (⟨h1, h2, h3⟩ | h1)
          · obtain ⟨q3, q4⟩ := q1.walks h3
            exact .inl ⟨h1, ⟨hko2, h2, q3⟩, by rw [q4, q2]; exact hlt2⟩
          · exact .inr h1)
      have HRUN := Lib.hid hrun
      have HENT := Lib.hid hent
      unfold rfV at HRUN HENT
      unfold argRf at hy
      have hck0 := HC5.out.cell 0
      have hck1 := HC5.out.cell 1
      clear hko hjr hit hrun hent hfk hkS hkeep hit2 hlt2 hjk hj5 q1 q2 hko2 hb5 hR
      gi_wp2_with (first
        | (refine step_nextIn rfl (.tmp 5) rfl _ rfl _ _ HRUN.out ?_)
        | (refine step_entryIn rfl (.tmp 5) rfl _ rfl _ _ HENT.out ?_))
      refine HR.out.mono ?_
      rintro e W3 (⟨rfl, hrel3, hlt3⟩ | ⟨rfl, hJx3⟩)
      · have HREL := Lib.hid hrel3
        have HLT := Lib.hid hlt3
        clear hrel3 hlt3 hy hck0 hck1
        gi_wp2
        go_roundw
        case rel => exact ⟨_, HREL.out⟩
        case measure => exact HLT.out
      · have HJ3 := Lib.hid hJx3
        clear hJx3 hy hck0 hck1
        gi_wp2
        exact bodyPost_ret (results_none rfl _ _ _) rfl ⟨⟨_, rfl⟩, .inr ⟨_, trivial, HJ3.out⟩⟩
set_option maxRecDepth 100000 in
set_option maxHeartbeats 4000000 in
theorem keys2_stops (w : World) (B m N : Nat) (f : Rf → Option Value) (hbox : w.cell? ⟨B, 0, none⟩ = some (.map (some m))) (hm : MapR w m rfV f) (hN : ∀ xs, KeysOf f xs → xs.length ≤ N) :
    SeqStopsK Fence.wide 3 Try.prog 63 #[.pointer (some ⟨B, 0, none⟩)] argRf KeepsWalks (fun xs => KeysOf f xs ∧ ∀ k v, f k = some v → k ∈ xs) (fun _ => True) N w := by
  intro lp J Jx W hW hJ hJx hY h0
  refine callsIn_of_wp Try.func63 rfl trivial ?_ rfl
  simp only [Try.ntmps63, List.size_toArray, List.length_cons, List.length_nil, Nat.reduceAdd, Nat.reduceSub, Array.replicate_succ, Array.replicate_zero, List.push_toArray, List.append_toArray, List.nil_append, List.cons_append]
  have hbl : B < w.heap.size := World.block_lt_of_cell? w _ hbox
  have hbox1 : W.cell? ⟨B, 0, none⟩ = some (.map (some m)) := (hW.cell (p := ⟨B, 0, none⟩) hbl).trans hbox
  have hmW : MapR W m rfV f := hm.same (hW.block m hm.lt)
  obtain ⟨wi, hrun, hbi, hit⟩ := run_range_F (P := Try.prog) Try.underlying54 hmW
  obtain ⟨r, hr⟩ : ∃ x, W.heap.size = x := ⟨_, rfl⟩
  have hJ0 : J [] wi := hJ _ _ _ none h0 (grown_of_below hbi) (fun r e => by cases e)
  rw [hr] at hrun hit hJ hJx
  have hri : W.heap.size ≤ r := by omega
  have HRUN := Lib.hid hrun
  have H0 : Hid (∃ pre, KeysOf f pre ∧ J pre wi ∧ ItF wi r m rfV f pre) := ⟨[], ⟨List.nodup_nil, fun k h => by cases h⟩, hJ0, hit⟩
  have HY := Lib.hid hY
  have HJ := Lib.hid hJ
  have HJX := Lib.hid hJx
  have HN := Lib.hid hN
  clear hbl hJ hJx hY hbox h0 hW hm hmW hrun hbi hit hJ0 hN
  gi_wp2_with (refine step_rangeIn rfl 54 (.tmp 4) rfl _ rfl _ _ HRUN.out ?_)
  simp only [Act.put, List.setIfInBounds_toArray, List.set_cons_zero, List.set_cons_succ]
  clear hbox1
  gi_loopw [6] (fun _ wr => ∃ pre, KeysOf f pre ∧ J pre wr ∧ ItF wr r m rfV f pre) (fun _ wr => itLeft wr r)
  case atStart => exact H0.out
  case round =>
    obtain ⟨pre, hko, hjr, hit⟩ := hrel
    clear H0 HRUN
    rcases hit.next (P := Try.prog) keyRf.inj 0 with ⟨hall, hrun⟩ | ⟨k, v, wk, hfk, hkS, hrun, hkeep, hit2, hlt2, hent⟩
    · have HRUN := Lib.hid hrun
      have HE : Hid (∃ xs, (KeysOf f xs ∧ ∀ k v, f k = some v → k ∈ xs) ∧ J xs wr) := ⟨pre, ⟨hko, hall⟩, hjr⟩
      clear hall hrun hko hjr hit
      gi_wp2_with (refine step_nextIn rfl (.tmp 5) rfl _ rfl _ _ HRUN.out ?_)
      go_end0
      exact ⟨⟨_, rfl⟩, .inl HE.out⟩
    · have hko2 : KeysOf f (pre ++ [k]) := ⟨by rw [List.nodup_append]; exact ⟨hko.1, by simp, fun a ha b hb => by rw [List.mem_singleton.1 hb]; exact fun e => hkS (by rw [← e]; exact ha)⟩, fun a ha => by
        rcases List.mem_append.1 ha with ha | ha
        · exact hko.2 a ha
        · rw [List.mem_singleton.1 ha, hfk]; rfl⟩
      have hlen : pre.length < N := by
        have := HN.out _ hko2
        rw [List.length_append, List.length_singleton] at this
        omega
      obtain ⟨px, hpx⟩ : ∃ y, wk.heap.size = y := ⟨_, rfl⟩
      obtain ⟨w5, hw5⟩ : ∃ y, wk.alloc (.cells #[.string k.1, .int .i64 k.2] 25) = y := ⟨_, rfl⟩
      have hb5 : Below wk.heap.size wk w5 := by rw [← hw5]; exact below_alloc _
      have HC5 : Hid (RowAt w5 px 25 #[.string k.1, .int .i64 k.2]) := by rw [← hw5, ← hpx]; exact RowAt.new _ _ _
      have hjk : J pre wk := HJ.out _ _ _ (some r) hjr (grown_of_keep hkeep) (fun q e => by
        have := Option.some.inj e
        subst this
        exact ⟨Nat.le_refl _, hit.walk⟩)
      have hj5 : J pre w5 := HJ.out _ _ _ none hjk (grown_of_below hb5) (fun q e => by cases e)
      obtain ⟨q1, q2⟩ := hit2.later hb5
      obtain ⟨fn, tmps, assign, body, hy, hR⟩ := HY.out pre k w5 hj5 hlen
      have HR : Hid (RoundIn Fence.wide 2 Try.prog lp fn tmps assign body w5 fun e W' => (e = .returned (.bool true) ∧ (KeysOf f (pre ++ [k]) ∧ J (pre ++ [k]) W' ∧ ItF W' r m rfV f (pre ++ [k])) ∧ itLeft W' r < itLeft wr r) ∨ (e = .returned (.bool false) ∧ Jx (pre ++ [k]) W')) :=
        hR.mono (by
          rintro e W' (⟨h1, h2, h3⟩ | h1)
          · obtain ⟨q3, q4⟩ := q1.walks h3
            exact .inl ⟨h1, ⟨hko2, h2, q3⟩, by rw [q4, q2]; exact hlt2⟩
          · exact .inr h1)
      have HRUN := Lib.hid hrun
      have HENT := Lib.hid hent
      unfold rfV at HRUN HENT
      unfold argRf at hy
      have hck0 := HC5.out.cell 0
      have hck1 := HC5.out.cell 1
      clear hko hjr hit hrun hent hfk hkS hkeep hit2 hlt2 hjk hj5 q1 q2 hko2 hb5 hR
      gi_wp2_with (first
        | (refine step_nextIn rfl (.tmp 5) rfl _ rfl _ _ HRUN.out ?_)
        | (refine step_entryIn rfl (.tmp 5) rfl _ rfl _ _ HENT.out ?_))
      refine HR.out.mono ?_
      rintro e W3 (⟨rfl, hrel3, hlt3⟩ | ⟨rfl, hJx3⟩)
      · have HREL := Lib.hid hrel3
        have HLT := Lib.hid hlt3
        clear hrel3 hlt3 hy hck0 hck1
        gi_wp2
        go_roundw
        case rel => exact ⟨_, HREL.out⟩
        case measure => exact HLT.out
      · have HJ3 := Lib.hid hJx3
        clear hJx3 hy hck0 hck1
        gi_wp2
        exact bodyPost_ret (results_none rfl _ _ _) rfl ⟨⟨_, rfl⟩, .inr ⟨_, trivial, HJ3.out⟩⟩
end Go.Proofs.Ytcakdjnnfonijaa
