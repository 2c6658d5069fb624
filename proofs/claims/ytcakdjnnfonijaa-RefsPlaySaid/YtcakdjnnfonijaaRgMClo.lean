/- maps.Clone of a map of versions. -/
import Derived.Test.YtcakdjnnfonijaaRgStep
namespace Go.Proofs.Ytcakdjnnfonijaa
open Go.RowKit

theorem dclone_find (fn : Func) (h : fn.name = "maps.clone") : Extern.find fn = some Extern.MapsClone.clone := by
  unfold Extern.find
  rw [h]
  rfl
theorem dclone_next (fn : Func) (h : fn.name = "maps.clone") (ho : fn.origin = "") : Extern.findNext fn = none := by
  unfold Extern.findNext
  rw [h, ho]
  rfl
theorem drun_clone {P : Program} {w : World} {r clock : Nat} {es : Array MapEntry} (t : TypeId) (hb : w.heap[r]? = some (.map es clock)) : (Extern.MapsClone.clone #[.iface t (.map (some r))]).run P w = .ok (.iface t (.map (some w.heap.size))) (w.alloc (.map es clock)) := by
  have e : Extern.MapsClone.clone #[.iface t (.map (some r))] = (do
      let .map entries clock ← getObj r | stuck "maps.clone: a map expected"
      pure (.iface t (.map (some (← newObj (.map entries clock)))))) := rfl
  rw [e, Sem.run_bind, MapKept.run_getObj_map hb]
  rfl
set_option maxRecDepth 100000 in
theorem callClone {w : World} {r clock : Nat} {es : Array MapEntry} (t : TypeId) (hb : w.heap[r]? = some (.map es clock)) : (callFunc 55 #[.iface t (.map (some r))]).run Try.prog w = .ok (.value (.iface t (.map (some w.heap.size)))) (w.alloc (.map es clock)) := by
  have hf : Try.prog.funcs[55]? = some Try.f55 := by kernel_rfl
  have hname : Try.f55.name = "maps.clone" := by kernel_rfl
  have horg : Try.f55.origin = "" := by kernel_rfl
  have hbo : Try.f55.body = none := by kernel_rfl
  simp [callFunc, hf, hname, hbo, dclone_find _ hname, dclone_next _ hname horg, Sem.run_bind, drun_clone t hb]
set_option maxRecDepth 100000 in
theorem step_clone {ops : Array Oper} {rest : List Oper} {o : Oper} {act : Act} {Q : Exit → Act → World → Prop} {w : World} (hgd : o.guard = none) (x : Operand) (T : TypeId) (ho : o.op = .call { callee := .value (.func 55), args := #[x], argTypes := #[T] }) {m : Nat} {es : Array MapEntry} {clock : Nat} (t : TypeId)
    (h : w.heap[m]? = some (.map es clock)) (hx : act.eval x = .iface t (.map (some m)))
    (hK : ∀ w', w'.heap[w.heap.size]? = some (.map es clock) → Below w.heap.size w w' → w'.heap.size = w.heap.size + 1 → wpList Try.prog ops Q rest (act.put o.dst (.iface t (.map (some w.heap.size)))) w') : wpList Try.prog ops Q (o :: rest) act w :=
  wpList_plain hgd fun K hK' => by
    unfold Oper.wp execOp
    simp only [ho]
    have hr := callClone t h
    have hv : act.eval (.func 55) = .func (.func 55) #[] #[] := rfl
    simp [resolve, invoke, hx, hv, Deferred.ofValue, hr]
    exact hK' _ _ (hK _ (heap_alloc_new w _) (below_alloc _) (by simp))
theorem run_beqMap (w : World) (m : Nat) : (binOp .eql 53 (.map (some m)) (.map none)).run Try.prog w = .ok (.bool false) w := by
  simp only [binOp]
  have h : (Op.equalIn 10000 53 (.map (some m)) (.map none)).run Try.prog w = .ok false w := by
    show (Op.equalIn (9999 + 1) _ _ _).run Try.prog w = _
    unfold Op.equalIn
    rw [Sem.run_bind, run_underlying Try.underlying53]
    rfl
  simp [Op.equal, Op.maxDepth, h]
set_option maxRecDepth 100000 in
theorem mapclone_any {w : World} {m : Nat} {es : Array MapEntry} {clock : Nat} (h : w.heap[m]? = some (.map es clock)) :
    Calls Try.prog 45 #[.map (some m)] w fun e w' => e = .returned (.map (some w.heap.size)) ∧ w'.heap[w.heap.size]? = some (.map es clock) ∧ Below w.heap.size w w' ∧ w'.heap.size = w.heap.size + 1 := by
  have H := Lib.hid h
  have hq := run_beqMap w m
  have ha : ∀ w v x, (Instr.typeAssert (.iface 53 v) x 53 false).run Try.prog w = .ok v w := fun w v x => by simp [Instr.typeAssert, run_underlying Try.underlying53, go_sem, Result.andThen]
  clear h
  go_enter Try.func45, Try.ntmps45
  go_wp2_with (refine step_clone rfl (.tmp 6) _ rfl 53 H.out rfl ?_; intro w2 q1 q2 q3)
  go_ret
  exact ⟨rfl, q1, q2, q3⟩
theorem rclone_any {w : World} {m : Nat} {f : Rf → Option Value} (h : MapR w m rfV f) : Calls Try.prog 45 #[.map (some m)] w fun e w' => e = .returned (.map (some w.heap.size)) ∧ MapR w' w.heap.size rfV f ∧ Below w.heap.size w w' ∧ w'.heap.size = w.heap.size + 1 := by
  obtain ⟨es, c, h1, h2⟩ := h
  exact (mapclone_any h1).mono fun e w' ⟨q1, q2, q3, q4⟩ => ⟨q1, ⟨es, c, q2, h2⟩, q3, q4⟩
end Go.Proofs.Ytcakdjnnfonijaa
