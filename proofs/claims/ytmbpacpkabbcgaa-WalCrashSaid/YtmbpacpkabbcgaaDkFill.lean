/- Bytes of so many sectors. -/
import Derived.Test.YtmbpacpkabbcgaaDkWrite
import Derived.Laws.OwnMore
import Derived.Laws.MakeOwn
namespace Go.Proofs.Ytmbpacpkabbcgaa
open Go.RowKit

def flatS (L : Int → List UInt8) (at_ : Int) (n : Nat) : List UInt8 := (List.range n).flatMap fun (i : Nat) => L (at_ + (i : Int))
theorem flatS_succ (L : Int → List UInt8) (at_ : Int) (n : Nat) : flatS L at_ (n + 1) = flatS L at_ n ++ L (at_ + (n : Int)) := by
  unfold flatS
  rw [List.range_succ, List.flatMap_append, List.flatMap_singleton]
theorem flatS_len {L : Int → List UInt8} (hL : ∀ k, (L k).length = 512) (at_ : Int) : ∀ n, (flatS L at_ n).length = n * 512
  | 0 => by simp [flatS]
  | n + 1 => by rw [flatS_succ, List.length_append, flatS_len hL at_ n, hL, Nat.succ_mul]
theorem flatS_congr {L M : Int → List UInt8} (at_ : Int) : ∀ n, (∀ i : Nat, i < n → L (at_ + (i : Int)) = M (at_ + (i : Int))) → flatS L at_ n = flatS M at_ n
  | 0, _ => rfl
  | n + 1, h => by rw [flatS_succ, flatS_succ, flatS_congr at_ n fun i hi => h i (by omega), h n (by omega)]
theorem flatS_splice {L : Int → List UInt8} (hL : ∀ k, (L k).length = 512) (at_ : Int) (s : List UInt8) (hs : s.length = 512) (i : Nat) : ∀ n, i < n → splice (flatS L at_ n) (i * 512) s = flatS (updS L (at_ + (i : Int), s)) at_ n
  | 0, h => by omega
  | n + 1, h => by
    have hl := flatS_len hL at_ n
    rw [flatS_succ, flatS_succ]
    by_cases hi : i < n
    · rw [← flatS_splice hL at_ s hs i n hi]
      have hu : updS L (at_ + (i : Int), s) (at_ + (n : Int)) = L (at_ + (n : Int)) := by unfold updS; rw [if_neg (by dsimp only; omega)]
      rw [hu]
      unfold splice
      rw [List.take_append_of_le_length (by omega), List.drop_append_of_le_length (by omega), List.append_assoc, List.append_assoc]
    · obtain rfl : i = n := by omega
      have hu : updS L (at_ + (i : Int), s) (at_ + (i : Int)) = s := by unfold updS; rw [if_pos rfl]
      rw [hu, flatS_congr (M := updS L (at_ + (i : Int), s)) at_ i fun j hj => by unfold updS; rw [if_neg (by dsimp only; omega)]] at *
      unfold splice
      have h5 := hL (at_ + (i : Int))
      rw [List.take_append_of_le_length (by omega), List.take_of_length_le (by omega), List.drop_of_length_le (by rw [List.length_append]; omega), List.append_nil]
theorem splice_map {α β : Type} (f : α → β) (l s : List α) (off : Nat) : splice (l.map f) off (s.map f) = (splice l off s).map f := by
  unfold splice
  simp
theorem flatS_nought (at_ : Int) : ∀ n, flatS (fun _ => nought) at_ n = List.replicate (n * 512) 0
  | 0 => by simp [flatS]
  | n + 1 => by rw [flatS_succ, flatS_nought at_ n, Nat.succ_mul]; exact List.replicate_append_replicate
/-- What is there behind the first i sectors. -/
def upTo (L : Int → List UInt8) (at_ : Int) (i : Nat) : Int → List UInt8 := fun k => if k < at_ + (i : Int) then L k else nought
theorem upTo_len {L : Int → List UInt8} (hL : ∀ k, (L k).length = 512) (at_ : Int) (i : Nat) : ∀ k, (upTo L at_ i k).length = 512 := fun k => by
  unfold upTo
  split
  · exact hL k
  · exact List.length_replicate
theorem upTo_succ (L : Int → List UInt8) (at_ : Int) (i n : Nat) : flatS (updS (upTo L at_ i) (at_ + (i : Int), L (at_ + (i : Int)))) at_ n = flatS (upTo L at_ (i + 1)) at_ n := by
  refine flatS_congr at_ n fun j _ => ?_
  unfold updS upTo
  dsimp only
  by_cases h : j = i
  · subst h; rw [if_pos rfl, if_pos (by omega)]
  · rw [if_neg (by omega)]
    by_cases h2 : j < i
    · rw [if_pos (by omega), if_pos (by omega)]
    · rw [if_neg (by omega), if_neg (by omega)]
theorem upTo_all (L : Int → List UInt8) (at_ : Int) (n : Nat) : flatS (upTo L at_ n) at_ n = flatS L at_ n := flatS_congr at_ n fun j hj => by unfold upTo; rw [if_pos (by omega)]
theorem upTo_none (L : Int → List UInt8) (at_ : Int) (n : Nat) : flatS (upTo L at_ 0) at_ n = List.replicate (n * 512) 0 := by
  rw [← flatS_nought at_]
  exact flatS_congr at_ n fun j hj => by unfold upTo; rw [if_neg (by omega)]
/-- A piece that is not among the sectors. -/
theorem flatS_out (L : Int → List UInt8) (at_ : Int) (n : Nat) (p : Int × List UInt8) (h : ¬ (at_ ≤ p.1 ∧ p.1 < at_ + (n : Int))) : flatS (updS L p) at_ n = flatS L at_ n := flatS_congr at_ n fun j hj => by
  unfold updS
  rw [if_neg (by omega)]
theorem eltB : Elt Try.prog 41 5 1 1 (.int .u8 0) := ⟨Try.underlying41, by kernel_rfl, rfl, by decide⟩
set_option maxRecDepth 100000 in
/-- So many bytes are made. -/
theorem step_makeB {ops : Array Oper} {rest : List Oper} {o : Oper} {act : Act} {Q : Exit → Act → World → Prop} {w : World} (hgd : o.guard = none) (l c : Operand) (ho : o.op = .makeSlice 41 l c) (n : Nat) (hl : act.eval l = .int .i64 (n : Int)) (hc : act.eval c = .int .i64 (n : Int)) (hm : n ≤ 281474976710656)
    (h : ∀ w', RowAt w' w.heap.size 5 ((List.replicate n (0 : UInt8)).map bv).toArray → Below w.heap.size w w' → wpList Try.prog ops Q rest (act.put o.dst (.slice (some ⟨w.heap.size, 0, none⟩) n n)) w') : wpList Try.prog ops Q (o :: rest) act w := by
  obtain ⟨i, hi, hz0, hs, hby⟩ := info_parts eltB.info
  refine wpList_plain hgd fun K hK => ?_
  obtain ⟨w', hrun, r1, r2⟩ := run_make_full (P := Try.prog) w w.heap.size _ _ i _ 1 eltB.und hi hz0 hs .i64 .i64 n (by rw [hby]; omega) (by unfold maxLen; omega) (Nat.le_refl _)
  unfold Oper.wp execOp
  simp only [ho, hl, hc, Sem.run_bind, Sem.run_pure, Result.andThen_ok, hrun]
  refine hK _ _ (h w' ?_ ⟨r2.os, r2.tape, r2.output, r2.size, fun k hk => r2.block k hk (by simp)⟩)
  rw [show (Value.int .u8 0).cells = #[Value.int .u8 0] from rfl, Nat.mul_one, toList_madeCells_one] at r1
  rcases r1.2 with ⟨h1, _⟩ | ⟨g, cap, cur, h1, _, hg, h3, _, h4, h5⟩
  · cases h1
  · simp only [Value.slice.injEq, Option.some.injEq, Addr.mk.injEq, and_true, true_and] at h1
    obtain ⟨rfl, rfl⟩ := h1
    rw [Nat.mul_one] at h4 h5
    rw [List.take_of_length_le (by rw [Array.length_toList]; omega)] at h5
    unfold RowAt
    rw [hg, List.map_replicate]
    congr 2
    apply Array.toList_inj.1
    rw [h5]
    rfl
end Go.Proofs.Ytmbpacpkabbcgaa
