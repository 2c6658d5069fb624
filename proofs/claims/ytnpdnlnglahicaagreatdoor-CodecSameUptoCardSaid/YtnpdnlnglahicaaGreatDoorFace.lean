/- protocodec's face: what it defers does nothing when nothing panics. -/
import Derived.Test.YtnpdnlnglahicaaGreatDoorEvComp
import Derived.Test.YtnpdnlnglahicaaGreatDoorProg
import Derived.RecoverIn
namespace Go.Proofs.YtnpdnlnglahicaaGreatDoor
open Go.RowKit

theorem recover_region {F : Fence} {n : Nat} {P : Program} {id : Nat} {o : Oper} {Q : Exit → Act → List Frame → World → Prop} {a : Act} {cs : List Frame} {w : World} (ho : o.op = Op.call { callee := Callee.builtin Builtin.recover, args := #[], argTypes := #[] }) (hg : o.guard = none)
    (hF : ∀ f, F.fn f) (hr : recoverD cs = none) (h : Q .normal (a.put o.dst .nilIface) cs w) : (Code.region id #[o] false).wpSIn F n P Q a cs w := by
  refine wpSIn_region ?_
  show wpOpsSIn _ _ _ _ _ [0] _ _ _
  have h0 : (#[o] : Array Oper)[0]? = some o := rfl
  have hrun : (execOp a.eval o).run P w = .ok .recover w := by
    unfold execOp
    simp only [ho]
    rfl
  have hw : Region.wanted o (yielded #[o] a.tmps) = true := by unfold Region.wanted; rw [hg]
  simp only [wpOpsSIn, h0]
  refine ⟨fun f _ => hF f, ?_⟩
  rw [if_pos hw, hrun, hr]
  exact h
theorem one_list {F : Fence} {n : Nat} {P : Program} {ops : Array Oper} {o : Oper} {Q : Exit → Act → World → Prop} {a : Act} {w : World} {v : Value} (hg : o.guard = none) (hd : ∀ c, o.op ≠ .defer c)
    (hF : ∀ f, F.fn f) (hr : (execOp a.eval o).run P w = .ok (.value v) w) (h : Q .normal (a.put o.dst v) w) : wpListIn F n P ops Q [o] a w := by
  have hw : Region.wanted o (yielded ops a.tmps) = true := by unfold Region.wanted; rw [hg]
  unfold wpListIn
  rw [if_pos hw]
  refine ⟨fun f _ => hF f, ?_⟩
  rw [Oper.semAt_eq _ _ _ hd, hr]
  exact h
def nilOr : Operand → Value
  | .const v => v
  | _ => .nilIface
theorem face_rec : Rec Tryz.prog [38] := by
  intro g hg a w
  obtain rfl : g = 38 := by simpa using hg
  refine callsDIn_of_wpSIn (F := Fence.wide) Tryz.func38 rfl trivial fun c₀ cs hc => ?_
  have hr : recoverD (c₀ :: cs) = none := by simp [recoverD, hc]
  obtain ⟨a0, ha0, hs0, hd0⟩ : ∃ a0 : Act, ({ tmps := #[Value.pointer (some a)] ++ Array.replicate (Tryz.f38.ntmps - #[Value.pointer (some a)].size) undef, defers := [] } : Act) = a0 ∧ a0.tmps.size = 12 ∧ a0.defers = [] := ⟨_, rfl, by simp [Tryz.f38], rfl⟩
  rw [ha0]
  clear ha0
  refine wpSIn_seq (recover_region rfl rfl (fun _ => trivial) hr ?_)
  refine wpSIn_of_wpIn rfl ?_
  refine wpIn_block (wpIn_seq (wpIn_region_list ?_))
  have e5 : (a0.put (some 4) .nilIface).eval (.tmp 4) = .nilIface := by simp [Act.eval, Act.put, hs0]
  have e6 : (a0.put (some 4) .nilIface).eval (.const .nilIface) = .nilIface := rfl
  refine one_list (v := .bool true) rfl (fun c hh => by cases hh) (fun _ => trivial) ?_ ?_
  · rw [execOp_congr (ρ' := nilOr) _ (fun cs b hh => by cases hh) (fun x hx => by
      simp only [Op.operands, List.mem_toArray, List.mem_cons, List.not_mem_nil, or_false] at hx
      rcases hx with rfl | rfl
      · exact e5
      · exact e6)]
    exact runS_run _ _ w (by kernel_rfl)
  obtain ⟨a1, ha1, hs1, hd1⟩ : ∃ a1 : Act, a0.put (some 4) .nilIface = a1 ∧ a1.tmps.size = 12 ∧ a1.defers = [] := ⟨_, rfl, by simp [Act.put, hs0], hd0⟩
  rw [ha1]
  have e7 : (a1.put (some 6) (.bool true)).eval (.tmp 6) = .bool true := by simp [Act.eval, Act.put, hs1]
  refine wpIn_cond_true e7 (wpIn_region_list ?_)
  refine one_list (v := (a1.put (some 6) (.bool true)).eval (.tmp 4)) rfl (fun c hh => by cases hh) (fun _ => trivial) rfl ?_
  refine ⟨hd1, .returning, by rw [← hc], .tuple #[], results_none rfl _ _ _, ⟨_, rfl⟩, rfl, Below.refl _ _⟩
end Go.Proofs.YtnpdnlnglahicaaGreatDoor
