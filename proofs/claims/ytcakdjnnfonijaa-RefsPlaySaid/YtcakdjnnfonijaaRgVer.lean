/- Rows whose numbers are counted up; appends of versions; a step's row. -/
import Derived.Test.YtcakdjnnfonijaaRgLw
import Derived.Test.YtcakdjnnfonijaaRgStep
import Derived.Test.YtcakdjnnfonijaaRoKnown
import Derived.Deep.DeepCutAuto
import Derived.Deep.CutBlock
namespace Go.Proofs.Ytcakdjnnfonijaa
open Go.RowKit

/-- A row of n versions whose numbers may be written. -/
def VerRow (w : World) (b n : Nat) : Prop := ∃ cs, w.heap[b]? = some (.cells cs 25 (0, 0)) ∧ ∀ j, j < n → ∃ z, cs[j * 2 + 1]? = some (.int .i64 z)
theorem VerRow.of_own {w : World} {v : Value} {H : List Rf} (h : OwnRf w v H) (hp : 0 < H.length) : ∃ g cap, v = .slice (some ⟨g, 0, none⟩) H.length cap ∧ H.length ≤ cap ∧ cap ≤ maxLen ∧ VerRow w g H.length := by
  obtain ⟨g, cap, cur, e, q1, q2, q3, -, -, q6⟩ := h.at hp
  refine ⟨g, cap, e, q1, q2, cur, q3, fun j hj => ⟨H[j].2, ?_⟩⟩
  have := q6 j hj 1 _ rfl
  rw [← this]
  exact (cell_of_row w g (j * 2 + 1) cur _ _ q3).symm
theorem VerRow.less {w : World} {b n m : Nat} (h : VerRow w b n) (hm : m ≤ n) : VerRow w b m := by
  obtain ⟨cs, q1, q2⟩ := h
  exact ⟨cs, q1, fun j hj => q2 j (by omega)⟩
theorem VerRow.lt {w : World} {b n : Nat} (h : VerRow w b n) : b < w.heap.size := by
  obtain ⟨cs, q1, q2⟩ := h
  exact (Array.getElem?_eq_some_iff.1 q1).1
theorem VerRow.keep {w w' : World} {b n : Nat} {X : Nat → Prop} (h : VerRow w b n) (hk : KeepA X w w') (hx : ¬ X b) : VerRow w' b n := by
  have hl := h.lt
  obtain ⟨cs, q1, q2⟩ := h
  exact ⟨cs, (hk.same b hl hx).trans q1, q2⟩
theorem VerRow.at {w : World} {b n j : Nat} (h : VerRow w b n) (hj : j < n) : ∃ z, w.cell? ⟨b, j * 2 + 1, none⟩ = some (.int .i64 z) ∧ w.frozen? ⟨b, j * 2 + 1, none⟩ = false := by
  obtain ⟨cs, q1, q2⟩ := h
  obtain ⟨z, hz⟩ := q2 j hj
  exact ⟨z, (cell_of_row w b _ cs _ _ q1).trans hz, frozen_of_row w b _ cs _ q1⟩
theorem VerRow.set {w : World} {b n j : Nat} (h : VerRow w b n) (_hj : j < n) (z : Int) : VerRow (w.setCell ⟨b, j * 2 + 1, none⟩ (.int .i64 z)) b n ∧ KeepA (fun k => k = b) w (w.setCell ⟨b, j * 2 + 1, none⟩ (.int .i64 z)) := by
  obtain ⟨cs, q1, q2⟩ := h
  refine ⟨⟨_, heap_setCell_same w b _ cs _ _ q1, fun i hi => ?_⟩, (KeepA.refl _ _).setCell rfl⟩
  rw [Array.getElem?_setIfInBounds]
  split
  · rename_i e
    obtain ⟨y, hy⟩ := q2 i hi
    have := (Array.getElem?_eq_some_iff.1 hy).1
    rw [if_pos (by rw [e]; exact this)]
    exact ⟨z, rfl⟩
  · exact q2 i hi
theorem wp_appendRf {o : Oper} {act : Act} {K : Act → World → Prop} {Q : Exit → Act → World → Prop} {w : World} (s x : Operand) (ho : o.op = .call { callee := .builtin .append, args := #[s, x], argTypes := #[26, 26] })
    (v : Value) (H : List Rf) (hv : act.eval s = v) (a : Option Addr) (n c : Nat) (l : List Rf) (hn : l.length = n) (hx : act.eval x = .slice a n c) (hown : OwnRf w v H) (hrd : RdRf w a l) (hsz : H.length ≤ 1000000) (hsz2 : n ≤ 1000000)
    (h : ∀ v' w', OwnRf w' v' (H ++ l) → w.grownBy w' v.ownBlock → NewRow w v v' → K (act.put o.dst v') w') : o.wp Try.prog act w K Q := by
  obtain ⟨v', w', hrun, q2, q3, q4⟩ := run_append_any eltRf w 0 o.type v H.length (H.flatMap rfC) hown a n c (l.flatMap rfC) (by rw [flat_len rfC_len, hn]) (rd_of_rows rfC_len (by decide) hrd) (fun u hu => rfC_one l u hu) (by omega) (by omega) (Nat.zero_le _)
  unfold Oper.wp execOp
  simp only [ho, resolve, invoke, builtin, Sem.run_bind, Sem.run_pure, Result.andThen_ok, List.map_toArray, List.map_cons, List.map_nil, hv, hx, hrun]
  refine h v' w' ?_ q3 q4
  unfold OwnRf
  rw [List.length_append, List.flatMap_append, hn]
  exact q2
theorem aggSt {kd : Int} {s : ByteArray} {z : Int} {ta : Option Addr} {m tc : Nat} : Agg Try.prog 44 [Value.int .i64 kd, .string s, .int .i64 z, .slice ta m tc].length := ⟨⟨_, Try.underlying44⟩, by kernel_rfl⟩
theorem keep_none {w w' : World} (h : w.grownBy w' none) : Below w.heap.size w w' := ⟨h.os, h.tape, h.output, h.size, fun k hk => h.block k hk (by simp)⟩
end Go.Proofs.Ytcakdjnnfonijaa
