/- append of a made row of bytes: append(b, make([]byte, n)...). -/
import Derived.Test.YtagipfkgnobjlaaPgLog
namespace Go.Proofs.Ytagipfkgnobjlaa
open Go.RowKit

theorem zeroCells_byte (n : Nat) : Builtin.zeroCells #[Value.int .u8 0] n = ((List.replicate n (0 : UInt8)).map bv).toArray := by
  apply Array.ext'
  unfold Builtin.zeroCells
  have : (Array.range (n * (#[Value.int .u8 0] : Array Value).size)).map (fun i => (#[Value.int .u8 0] : Array Value)[i % (#[Value.int .u8 0] : Array Value).size]!) = (Array.range n).map fun _ => Value.int .u8 0 := by
    have h1 : (#[Value.int .u8 0] : Array Value).size = 1 := rfl
    rw [h1, Nat.mul_one]
    congr 1
    funext i
    rw [Nat.mod_one]
    rfl
  rw [this]
  rw [Array.toList_map, List.map_replicate, Array.toList_range]
  apply List.ext_getElem
  · simp
  · intro k h1 h2
    simp [bv]
section
variable {P : Program} {w : World} (t ty e ti : TypeId) (i : TypeInfo) (ht : P.underlying t = some (.slice e)) (hti : P.underlying ti = some (.int .i64)) (hi : P.info? e = some i) (hz : i.zero = some (.int .u8 0)) (hsz : i.size = 1) (hb : i.bytes = 1)
include ht hti hi hz hsz hb
theorem run_make_room (g sLen sCap : Nat) (cur : Array Value) (hg : w.heap[g]? = some (.cells cur e (0, 0))) (m : Nat) (hm : 0 < m) (hm2 : m ≤ 1000000)
    (hroom : sLen + m ≤ sCap) (hfit : sLen + m ≤ cur.size) :
    (Builtin.append_ #[t, ti] ty #[.slice (some ⟨g, 0, none⟩) sLen sCap, .int .i64 (m : Int)]).run P w =
      .ok (.slice (some ⟨g, 0, none⟩) (sLen + m) sCap) (w.setRow g (cur.toList.take sLen ++ (List.replicate m (0 : UInt8)).map bv ++ cur.toList.drop (sLen + m)).toArray) := by
  have hlen : ((List.replicate m (0 : UInt8)).map bv).length = m := by simp
  have hst := run_storeCells_at P g sLen e ((List.replicate m (0 : UInt8)).map bv) 0 cur w hg (by rw [hlen]; simpa using hfit) (bv_one _)
  simp only [Nat.add_zero, hlen] at hst
  have hw : IntKind.i64.wrap (m : Int) = (m : Int) := IntWalk.i64_in _ (by omega)
  have h0 : ¬ ((m : Int) < 0) := by omega
  have h1 : ¬ (281474976710656 < (m : Int)) := by omega
  have h2 : ¬ m = 0 := by omega
  have hzc := zeroCells_byte m
  have hca : (Value.int .u8 0).cells = #[Value.int .u8 0] := rfl
  generalize hR : (List.replicate m (0 : UInt8)).map bv = R at *
  simp [Builtin.append_, run_underlying ht, run_underlying hti, sizeOf, typeInfo, hi, hsz, hb, hz, asInt, asIntOf, hw, h0, h1, h2, hroom, zeroValue, hca, hzc, Addr.add_lit, hst]
theorem run_make_grow (g sLen sCap : Nat) (olds : List Value) (hlo : olds.length = sLen) (holds : ∀ j v, olds[j]? = some v → w.cell? ((⟨g, 0, none⟩ : Addr).add j) = some v) (m : Nat) (hm : 0 < m) (hm2 : m ≤ 1000000)
    (hs : sLen ≤ 1000000) (hroom : sCap < sLen + m) :
    (Builtin.append_ #[t, ti] ty #[.slice (some ⟨g, 0, none⟩) sLen sCap, .int .i64 (m : Int)]).run P w =
      .ok (.slice (some ⟨w.heap.size, 0, none⟩) (sLen + m) (grownCap w (sLen + m) sCap e))
        (w.drew.alloc (.cells (olds.toArray ++ ((List.replicate m (0 : UInt8)).map bv).toArray ++ Builtin.zeroCells #[Value.int .u8 0] (grownCap w (sLen + m) sCap e - (sLen + m))) e)) := by
  have hw : IntKind.i64.wrap (m : Int) = (m : Int) := IntWalk.i64_in _ (by omega)
  have h0 : ¬ ((m : Int) < 0) := by omega
  have h1 : ¬ (281474976710656 < (m : Int)) := by omega
  have h2 : ¬ m = 0 := by omega
  have hn : ¬ (sLen + m ≤ sCap) := by omega
  have h63 : ¬ (9223372036854775807 < ((sLen : Int) + (m : Int))) := by omega
  have hfit : Builtin.nextslicecap (sLen + m) sCap * 1 ≤ 281474976710656 := growslice_fits (by omega) (by omega)
  have h48 : ¬ (281474976710656 < Builtin.nextslicecap (sLen + m) sCap) := by omega
  have hzc := zeroCells_byte m
  have hca : (Value.int .u8 0).cells = #[Value.int .u8 0] := rfl
  have hfo := run_firstCells_some (P := P) w.drew 1 sLen ⟨g, 0, none⟩ sLen sCap olds (by omega) (by simpa using holds)
  generalize hR : (List.replicate m (0 : UInt8)).map bv = R at *
  simp [Builtin.append_, run_underlying ht, run_underlying hti, sizeOf, typeInfo, hi, hsz, hb, hz, asInt, asIntOf, hw, h0, h1, h2, hn, h63, h48, zeroValue, hca, hzc, Question.forced, hfo, newRow, grownCap]
  congr 2
  apply Array.ext'
  simp [List.append_assoc]
theorem run_append_make (base : Nat) (v : Value) (l : List UInt8) (hown : w.ownsRow base e 1 v l.length (l.map bv)) (hl : 0 < l.length) (hl2 : l.length ≤ 1000000) (m : Nat) (hm : 0 < m) (hm2 : m ≤ 1000000) (hbase : base ≤ w.heap.size) :
    ∃ v' w', (Builtin.append_ #[t, ti] ty #[v, .int .i64 (m : Int)]).run P w = .ok v' w' ∧ w'.ownsRow base e 1 v' (l.length + m) ((l ++ List.replicate m 0).map bv) ∧ w.grownBy w' v.ownBlock ∧ NewRow w v v' := by
  have hmap : (l ++ List.replicate m (0 : UInt8)).map bv = l.map bv ++ (List.replicate m (0 : UInt8)).map bv := List.map_append
  have hlen : (l.map bv ++ (List.replicate m (0 : UInt8)).map bv).length = (l.length + m) * 1 := by simp
  rw [hmap]
  rcases hown.2 with ⟨rfl, h0⟩ | ⟨g, cap, cur, rfl, hbg, hg, hnc, hcm, hcs, htake⟩
  · omega
  · by_cases hroom : l.length + m ≤ cap
    · have hr := run_make_room t ty e ti i ht hti hi hz hsz hb g l.length cap cur hg m hm hm2 hroom (by rw [hcs]; omega)
      refine ⟨_, _, hr, ⟨hlen, .inr ⟨g, cap, _, rfl, hbg, setRow_heap w g cur _ e _ hg, hroom, hcm, ?_, ?_⟩⟩, ⟨rfl, rfl, rfl, by simp, fun k hk hne => setRow_other w g k _ (fun e => hne (by simp [Value.ownBlock, e]))⟩, fun g' hg' => .inl hg'⟩
      · simp only [List.size_toArray, List.length_append, List.length_take, List.length_drop, Array.length_toList, List.length_map, List.length_replicate]
        rw [hcs]
        omega
      · rw [Nat.mul_one] at htake
        rw [htake, ← hlen]
        exact List.take_left
    · have holds : ∀ j u, (l.map bv)[j]? = some u → w.cell? ((⟨g, 0, none⟩ : Addr).add j) = some u := hown.cells (g := g) rfl
      have hr := run_make_grow t ty e ti i ht hti hi hz hsz hb g l.length cap (l.map bv) (by simp) holds m hm hm2 hl2 (by omega)
      have hge := grownCap_ge w (l.length + m) cap e
      have hcm2 := grownCap_le_maxLen w (l.length + m) cap e (by unfold maxLen; omega)
      refine ⟨_, _, hr, ⟨hlen, .inr ⟨w.heap.size, _, _, rfl, hbase, heap_alloc_new w.drew _, hge, hcm2, ?_, ?_⟩⟩, ⟨rfl, rfl, rfl, by simp, fun k hk _ => Below.heap_alloc w.drew _ k hk⟩, fun g' hg' => .inr (by simp [Value.ownBlock] at hg'; omega)⟩
      · simp only [Array.size_append, List.size_toArray, size_zeroCells, List.length_map, List.length_replicate]
        have h1 : [Value.int .u8 0].length = 1 := rfl
        rw [h1]
        omega
      · simp only [Array.toList_append, List.append_assoc]
        rw [← List.append_assoc, ← hlen]
        exact List.take_left
end
theorem wp_appendB {P : Program} {o : Oper} {act : Act} {K : Act → World → Prop} {Q : Exit → Act → World → Prop} {w : World} (s x : Operand) {t : TypeId}
    (ho : o.op = .call { callee := .builtin .append, args := #[s, x], argTypes := #[t, t] }) {e : TypeId} {z : Value} (E : Elt P t e 1 1 z) (base : Nat)
    (v : Value) (l : List UInt8) (hv : act.eval s = v) (a : Option Addr) (m c : Nat) (k : List UInt8) (hx : act.eval x = .slice a m c)
    (hown : OwnB w base e v l) (hm : m = k.length) (hk : RdB w a k) (hsz : l.length + k.length ≤ 140737488355328) (hbase : base ≤ w.heap.size)
    (h : ∀ v' w', OwnB w' base e v' (l ++ k) → Onto w v w' v' → K (act.put o.dst v') w') : o.wp P act w K Q := by
  obtain ⟨v', w', hr, h2, h3, h4⟩ := run_append_any E w base o.type v l.length (l.map bv) hown a m c (k.map bv) (by simp [hm]) hk (bv_one k) (by omega) (by omega) hbase
  unfold Oper.wp execOp
  simp only [ho, resolve, invoke, builtin, Sem.run_bind, Sem.run_pure, Result.andThen_ok, List.map_toArray, List.map_cons, List.map_nil, hv, hx, hr]
  refine h v' w' ?_ ⟨h3, h4⟩
  unfold OwnB
  rw [List.map_append, List.length_append, ← hm]
  exact h2
theorem step_appendM {ops : Array Oper} {rest : List Oper} {o : Oper} {act : Act} {Q : Exit → Act → World → Prop} {w : World} (hgd : o.guard = none) (s x : Operand)
    (ho : o.op = .call { callee := .builtin .append, args := #[s, x], argTypes := #[22, 3] }) (base : Nat)
    (v : Value) (l : List UInt8) (hv : act.eval s = v) (m : Nat) (hx : act.eval x = .int .i64 (m : Int)) (hown : OwnB w base 5 v l) (hl : 0 < l.length) (hl2 : l.length ≤ 1000000) (hm : 0 < m) (hm2 : m ≤ 1000000) (hbase : base ≤ w.heap.size)
    (h : ∀ v' w', OwnB w' base 5 v' (l ++ List.replicate m 0) → w.grownBy w' v.ownBlock → NewRow w v v' → wpList Try.prog ops Q rest (act.put o.dst v') w') : wpList Try.prog ops Q (o :: rest) act w := by
  refine wpList_plain hgd fun K hK => ?_
  obtain ⟨i, hi, hz, hs, hb⟩ := info_parts eltB.info
  obtain ⟨v', w', hr, h2, h3, h4⟩ := run_append_make (P := Try.prog) 22 o.type 5 3 i Try.underlying22 Try.underlying3 hi hz hs hb base v l hown hl hl2 m hm hm2 hbase
  unfold Oper.wp execOp
  simp only [ho, resolve, invoke, builtin, Sem.run_bind, Sem.run_pure, Result.andThen_ok, List.map_toArray, List.map_cons, List.map_nil, hv, hx, hr]
  refine hK _ _ (h v' w' ?_ h3 h4)
  unfold OwnB
  rw [List.length_append, List.length_replicate]
  exact h2
end Go.Proofs.Ytagipfkgnobjlaa
