/- Rows of versions of the call's own: loads, stores, appends; methods called through an interface. -/
import Derived.Test.YtcakdjnnfonijaaRoRef
import Derived.Test.YtcakdjnnfonijaaRoRun
import Derived.Test.YtcakdjnnfonijaaRoHeap
import Derived.Test.YtcakdjnnfonijaaRefLaw
import Derived.Great.BuildSlice
namespace Go.Proofs.Ytcakdjnnfonijaa
open Go.RowKit

theorem aggRf {s : ByteArray} {z : Int} : Agg Try.prog 25 [Value.string s, .int .i64 z].length := ⟨⟨_, Try.underlying25⟩, by kernel_rfl⟩
theorem eltRf : Elt Try.prog 26 25 2 24 (.agg #[.string ⟨#[]⟩, .int .i64 0]) := ⟨Try.underlying26, by kernel_rfl, by kernel_rfl, by decide⟩
theorem eltRy : Elt Try.prog 59 25 2 24 (.agg #[.string ⟨#[]⟩, .int .i64 0]) := ⟨Try.underlying59, by kernel_rfl, by kernel_rfl, by decide⟩
def OwnRf (w : World) (v : Value) (H : List Rf) : Prop := w.ownsRow 0 25 2 v H.length (H.flatMap rfC)
theorem OwnRf.nil (w : World) : OwnRf w (.slice none 0 0) [] := World.ownsRow_nil _ _ _ _
theorem OwnRf.lt {w : World} {v : Value} {H : List Rf} (h : OwnRf w v H) {g : Nat} (hg : v.ownBlock = some g) : g < w.heap.size := (World.ownsRow.lt h g hg).2
theorem OwnRf.keep {w w' : World} {X : Nat → Prop} (hk : KeepA X w w') {v : Value} {H : List Rf} (h : OwnRf w v H) (hx : ∀ g, v.ownBlock = some g → ¬ X g) : OwnRf w' v H := own_keep hk h hx
theorem OwnRf.later {w w' : World} (hb : Below w.heap.size w w') {v : Value} {H : List Rf} (h : OwnRf w v H) : OwnRf w' v H := h.keep (KeepA.of_below (X := fun _ => False) hb) fun _ _ h => h
theorem rfC_one (l : List Rf) : ∀ u ∈ l.flatMap rfC, u.oneCell' = true := fun u hu => by
  obtain ⟨x, -, hx⟩ := List.mem_flatMap.1 hu
  simp only [rfC, List.mem_cons, List.not_mem_nil, or_false] at hx
  rcases hx with rfl | rfl <;> rfl
theorem OwnRf.rd {w : World} {v : Value} {H : List Rf} (h : OwnRf w v H) : ∃ a cap, v = .slice a H.length cap ∧ H.length ≤ cap ∧ cap ≤ maxLen ∧ RdRf w a H := by
  have h2 := h
  obtain ⟨a, cap, h3, h4, h5⟩ := Rd.of_own h
  refine ⟨a, cap, h3, h4, ?_, rows_of_rd rfC_len (by decide) h5⟩
  rcases h2.2 with ⟨e, e2⟩ | ⟨g, cap', cur, e, -, -, -, hcm, -⟩
  · rw [h3] at e
    simp only [Value.slice.injEq] at e
    rw [e.2.2]; exact Nat.zero_le _
  · rw [h3] at e
    simp only [Value.slice.injEq] at e
    rw [e.2.2]; exact hcm
theorem OwnRf.at {w : World} {v : Value} {H : List Rf} (h : OwnRf w v H) (hp : 0 < H.length) : ∃ g cap cur, v = .slice (some ⟨g, 0, none⟩) H.length cap ∧ H.length ≤ cap ∧ cap ≤ maxLen ∧ w.heap[g]? = some (.cells cur 25 (0, 0)) ∧ cur.size = cap * 2 ∧ cur.toList.take (H.length * 2) = H.flatMap rfC ∧ ∀ i (hi : i < H.length), CellsAt w rfC g (i * 2) H[i] := by
  obtain ⟨a, cap0, h3, h4, h5, h6⟩ := h.rd
  rcases h.2 with ⟨e, e2⟩ | ⟨g, cap, cur, e, -, e2, e3, e4, e5, e6⟩
  · omega
  · refine ⟨g, cap, cur, e, e3, e4, e2, e5, e6, ?_⟩
    rw [h3] at e
    cases e
    rcases h6 with h6 | ⟨b, off, e7, -, h8⟩
    · rw [h6] at hp; exact absurd hp (by simp)
    · cases e7
      intro i hi
      have := h8 i hi
      rwa [Nat.zero_add] at this
theorem OwnRf.take {w : World} {a : Option Addr} {n cap : Nat} {H : List Rf} {x : Rf} (h : OwnRf w (.slice a n cap) (H ++ [x])) : OwnRf w (.slice a H.length cap) H := by
  refine ⟨flat_len rfC_len H, ?_⟩
  have hl : (H ++ [x]).length = H.length + 1 := by simp
  rcases h.2 with ⟨_, e2⟩ | ⟨g, cap', cur, e, e1, e2, e3, e4, e5, e6⟩
  · rw [hl] at e2; omega
  · cases e
    refine .inr ⟨g, cap, cur, rfl, e1, e2, by omega, e4, e5, ?_⟩
    have : cur.toList.take (H.length * 2) = (cur.toList.take ((H ++ [x]).length * 2)).take (H.length * 2) := by
      rw [List.take_take]; congr 1; rw [hl]; omega
    rw [this, e6, List.flatMap_append, List.take_left' (flat_len rfC_len H)]
theorem flat_set {H : List Rf} {i : Nat} (hi : i < H.length) (x : Rf) : (H.set i x).flatMap rfC = (H.flatMap rfC).take (i * 2) ++ rfC x ++ (H.flatMap rfC).drop (i * 2 + 2) := by
  rw [List.set_eq_take_append_cons_drop, if_pos hi]
  have e1 : H.flatMap rfC = (H.take i).flatMap rfC ++ (rfC H[i] ++ (H.drop (i + 1)).flatMap rfC) := by
    conv => lhs; rw [← List.take_append_drop i H, List.flatMap_append, List.drop_eq_getElem_cons hi, List.flatMap_cons]
  have l1 : ((H.take i).flatMap rfC).length = i * 2 := by rw [flat_len rfC_len, List.length_take]; congr 1; omega
  have d : ((H.take i).flatMap rfC ++ (rfC H[i] ++ (H.drop (i + 1)).flatMap rfC)).drop (i * 2 + 2) = (H.drop (i + 1)).flatMap rfC := by
    rw [← List.append_assoc]
    exact List.drop_left' (by rw [List.length_append, l1, rfC_len])
  rw [e1, d, List.flatMap_append, List.flatMap_cons, List.take_left' l1, List.append_assoc]
theorem take_mid {α : Type} (l m : List α) (a n : Nat) (h : a + m.length ≤ n) (hn : n ≤ l.length) : (l.take a ++ m ++ l.drop (a + m.length)).take n = (l.take n).take a ++ m ++ (l.take n).drop (a + m.length) := by
  have hl : (l.take a ++ m).length = a + m.length := by rw [List.length_append, List.length_take]; omega
  rw [List.take_append, hl, List.take_of_length_le (by omega : (l.take a ++ m).length ≤ n), List.take_take, Nat.min_eq_left (by omega : a ≤ n), List.drop_take]
theorem wp_storeOwn {o : Oper} {act : Act} {K : Act → World → Prop} {Q : Exit → Act → World → Prop} {w : World} (x y : Operand) (ho : o.op = .store 25 x y) (hd : o.dst = none)
    {v : Value} {H : List Rf} (h : OwnRf w v H) {g cap : Nat} (hv : v = .slice (some ⟨g, 0, none⟩) H.length cap) {i : Nat} (hi : i < H.length) (r : Rf) (hx : act.eval x = .pointer (some ⟨g, i * 2, none⟩)) (hy : act.eval y = rfV r)
    (hn : ∀ w', OwnRf w' v (H.set i r) → w.grownBy w' (some g) → K act w') : o.wp Try.prog act w K Q := by
  rcases h.2 with ⟨e, e2⟩ | ⟨g', cap', cur, e, e1, e2, e3, e4, e5, e6⟩
  · omega
  · rw [hv] at e
    cases e
    have hsz : i * 2 + 2 ≤ cur.size := by rw [e5]; omega
    have hst := run_storeCells_at Try.prog g (i * 2) 25 (rfC r) 0 cur w e2 (by rw [rfC_len]; omega) (fun u hu => rfC_one [r] u (by simpa using hu))
    obtain ⟨new, hnew⟩ : ∃ new, (cur.toList.take (i * 2 + 0) ++ rfC r ++ cur.toList.drop (i * 2 + 0 + (rfC r).length)).toArray = new := ⟨_, rfl⟩
    rw [hnew] at hst
    have hrow := setRow_heap w g cur new 25 (0, 0) e2
    have hi2 : (Try.prog.info? 25).map (·.size) = some 2 := by kernel_rfl
    have hrun : (storeVar 25 ⟨g, i * 2, none⟩ (rfV r)).run Try.prog w = .ok () (w.setRow g new) := by
      cases hq : Try.prog.info? 25 with
      | none => simp [hq] at hi2
      | some inf =>
        have hs : inf.size = 2 := by simpa [hq] using hi2
        have hc : (rfV r).cells = (rfC r).toArray := rfl
        simp only [storeVar, Sem.run_bind, sizeOf, typeInfo, hc]
        simp [hs, rfC_len, hst, hq, Sem.run_bind]
    unfold Oper.wp execOp
    simp only [ho, hx, hy, Instr.storeAt, Instr.sureAddr, Sem.run_bind, Sem.run_pure, Result.andThen_ok, hrun]
    have hset : (H.set i r).length = H.length := List.length_set ..
    have hown : OwnRf (w.setRow g new) v (H.set i r) := by
      unfold OwnRf
      rw [hset]
      refine ⟨by rw [← hset]; exact flat_len rfC_len _, .inr ⟨g, cap, new, hv, Nat.zero_le _, hrow, e3, e4, ?_, ?_⟩⟩
      · rw [← hnew]
        simp only [List.size_toArray, List.length_append, List.length_take, List.length_drop, Array.length_toList, rfC_len]
        omega
      · rw [← hnew, flat_set hi, ← e6]
        have hcl : cur.toList.length = cap * 2 := by simpa using e5
        exact take_mid cur.toList (rfC r) (i * 2) (H.length * 2) (by rw [rfC_len]; omega) (by omega)
    have := hn _ hown (grown_setRow w g new)
    show K (act.put o.dst _) _
    rw [hd]
    exact this
/-- A version is loaded. -/
theorem wp_loadRf {o : Oper} {act : Act} {K : Act → World → Prop} {Q : Exit → Act → World → Prop} {w : World} (x : Operand) (ho : o.op = .load 25 x) {b k : Nat} {r : Rf} (h : CellsAt w rfC b k r) (hx : act.eval x = .pointer (some ⟨b, k, none⟩))
    (hn : K (act.put o.dst (.agg #[.string r.1, .int .i64 r.2])) w) : o.wp Try.prog act w K Q := by
  have hrun := run_loadVar_cells (P := Try.prog) w ⟨b, k, none⟩ 25 (rfC r) aggRf fun j v hv => by
    have hadd : (⟨b, k, none⟩ : Addr).add j = ⟨b, k + j, none⟩ := by unfold Addr.add; split <;> simp_all
    rw [hadd]
    exact h j v hv
  unfold Oper.wp execOp
  simp only [ho, hx, Instr.loadAt, Instr.sureAddr, Sem.run_bind, Sem.run_pure, Result.andThen_ok, hrun]
  exact hn
theorem step_loadRf {ops : Array Oper} {rest : List Oper} {o : Oper} {act : Act} {Q : Exit → Act → World → Prop} {w : World} (hgd : o.guard = none) (x : Operand) (ho : o.op = .load 25 x) {b k : Nat} {r : Rf} (h : CellsAt w rfC b k r) (hx : act.eval x = .pointer (some ⟨b, k, none⟩))
    (hn : wpList Try.prog ops Q rest (act.put o.dst (.agg #[.string r.1, .int .i64 r.2])) w) : wpList Try.prog ops Q (o :: rest) act w :=
  wpList_plain hgd fun _ hK => wp_loadRf x ho h hx (hK _ _ hn)
theorem step_loadRfG {ops : Array Oper} {rest : List Oper} {o : Oper} {act : Act} {Q : Exit → Act → World → Prop} {w : World} (hw : Region.wanted o (yielded ops act.tmps) = true) (x : Operand) (ho : o.op = .load 25 x) {b k : Nat} {r : Rf} (h : CellsAt w rfC b k r) (hx : act.eval x = .pointer (some ⟨b, k, none⟩))
    (hn : wpList Try.prog ops Q rest (act.put o.dst (.agg #[.string r.1, .int .i64 r.2])) w) : wpList Try.prog ops Q (o :: rest) act w :=
  wpList_step fun _ hK => by
    rw [if_pos hw]
    exact wp_loadRf x ho h hx (hK _ _ hn)
theorem RowAt.rf {w : World} {b : Nat} {t : TypeId} {r : Rf} (h : RowAt w b t #[.string r.1, .int .i64 r.2]) : CellsAt w rfC b 0 r := fun j v hv => by
  rw [Nat.zero_add, h.cell j]
  simpa [rfC] using hv
/-- A version is added. -/
theorem wp_pushRf {t : TypeId} {z : Value} (E : Elt Try.prog t 25 2 24 z) {o : Oper} {act : Act} {K : Act → World → Prop} {Q : Exit → Act → World → Prop} {w : World} (s x : Operand) (ho : o.op = .call { callee := .builtin .append, args := #[s, x], argTypes := #[t, t] })
    (v : Value) (H : List Rf) (hv : act.eval s = v) (g : Nat) (r : Rf) (hx : act.eval x = .slice (some ⟨g, 0, none⟩) 1 1) (hown : OwnRf w v H) (hg : CellsAt w rfC g 0 r) (hl : g < w.heap.size) (hsz : H.length ≤ 1000000)
    (h : ∀ v' w', OwnRf w' v' (H ++ [r]) → w.grownBy w' v.ownBlock → NewRow w v v' → K (act.put o.dst v') w') : o.wp Try.prog act w K Q := by
  have hrd : Rd w (some ⟨g, 0, none⟩) (rfC r) := .inr ⟨g, 0, rfl, hl, fun k hk => hg k _ (List.getElem?_eq_getElem hk)⟩
  obtain ⟨v', w', hrun, q2, q3, q4⟩ := run_append_any E w 0 o.type v H.length (H.flatMap rfC) hown (some ⟨g, 0, none⟩) 1 1 (rfC r) rfl hrd (fun u hu => rfC_one [r] u (by simpa using hu)) (by omega) (by omega) (Nat.zero_le _)
  unfold Oper.wp execOp
  simp only [ho, resolve, invoke, builtin, Sem.run_bind, Sem.run_pure, Result.andThen_ok, List.map_toArray, List.map_cons, List.map_nil, hv, hx, hrun]
  refine h v' w' ?_ q3 q4
  unfold OwnRf
  rw [List.length_append, List.flatMap_append]
  simpa using q2
theorem step_pushRf {t : TypeId} {z : Value} (E : Elt Try.prog t 25 2 24 z) {ops : Array Oper} {rest : List Oper} {o : Oper} {act : Act} {Q : Exit → Act → World → Prop} {w : World} (hgd : o.guard = none) (s x : Operand) (ho : o.op = .call { callee := .builtin .append, args := #[s, x], argTypes := #[t, t] })
    (v : Value) (H : List Rf) (hv : act.eval s = v) (g : Nat) (r : Rf) (hx : act.eval x = .slice (some ⟨g, 0, none⟩) 1 1) (hown : OwnRf w v H) (hg : CellsAt w rfC g 0 r) (hl : g < w.heap.size) (hsz : H.length ≤ 1000000)
    (h : ∀ v' w', OwnRf w' v' (H ++ [r]) → w.grownBy w' v.ownBlock → NewRow w v v' → wpList Try.prog ops Q rest (act.put o.dst v') w') : wpList Try.prog ops Q (o :: rest) act w :=
  wpList_plain hgd fun _ hK => wp_pushRf E s x ho v H hv g r hx hown hg hl hsz fun v' w' q1 q2 q3 => hK _ _ (h v' w' q1 q2 q3)
/-- A method called through an interface. -/
theorem wp_invoke {P : Program} {o : Oper} {act : Act} {K : Act → World → Prop} {Q : Exit → Act → World → Prop} {w : World} (r : Operand) (name : String) (args : Array Operand) (tys : Array TypeId) (ho : o.op = .call { callee := .invoke r name, args := args, argTypes := tys })
    {t : TypeId} {x rc : Value} {f : FuncId} {fn : Func} (hr : act.eval r = .iface t x) (hm : (method (P.types.size + Made.depth) t x name).run P w = .ok (f, rc) w) (hf : P.funcs[f]? = some fn) (hb : fn.body.isNone = false) (hnm : (fn.name == "runtime.NumGoroutine") = false)
    (h : Calls P f (#[rc] ++ args.map act.eval) w fun
      | .returned v, w'' => K (act.put o.dst v) w''
      | .panicked chain, w'' => Q (.panic chain) act w''
      | .outgrown, _ => LetsOut Q) : o.wp P act w K Q := by
  have hrun : (execOp act.eval o).run P w = .ok (.enter f (#[rc] ++ args.map act.eval)) w := by
    unfold execOp
    have hext : (#[Value.iface t x] ++ args.map act.eval).extract 1 (#[Value.iface t x] ++ args.map act.eval).size = args.map act.eval := by
      apply Array.ext'
      simp [List.take_of_length_le]
    simp only [ho, resolve, hr, Sem.run_bind, Sem.run_pure, Result.andThen_ok, invoke]
    have h0 : (#[Value.iface t x] ++ args.map act.eval)[0]? = some (.iface t x) := by
      rw [Array.getElem?_append_left (by simp)]
      rfl
    simp only [h0, callMethod, Sem.run_bind, run_program, Result.andThen_ok, hm, hext, callFunc, hf, hnm, hb]
    rfl
  unfold Oper.wp
  rw [hrun, Oper.upon_enter]
  exact h
end Go.Proofs.Ytcakdjnnfonijaa
