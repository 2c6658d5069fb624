/- A copy of links, row by row. -/
import Derived.Test.YtcakdjnnfonijaaRoOrd
import Derived.Test.YtcakdjnnfonijaaRoOpen
namespace Go.Proofs.Ytcakdjnnfonijaa
open Go.RowKit

theorem lkC_len (x : Lk) : (lkC x).length = 3 := rfl
theorem eltLk : Elt Try.prog 22 28 3 48 (.agg #[.string ⟨#[]⟩, .int .i64 0, .slice none 0 0]) := ⟨Try.underlying22, by kernel_rfl, by kernel_rfl, by decide⟩
def OwnLk (w : World) (v : Value) (H : List Lk) : Prop := w.ownsRow 0 28 3 v H.length (H.flatMap lkC)
theorem lkC_one (l : List Lk) : ∀ u ∈ l.flatMap lkC, u.oneCell' = true := fun u hu => by
  obtain ⟨x, -, hx⟩ := List.mem_flatMap.1 hu
  simp only [lkC, List.mem_cons, List.not_mem_nil, or_false] at hx
  rcases hx with rfl | rfl | rfl <;> rfl
theorem OwnLk.nil (w : World) : OwnLk w (.slice none 0 0) [] := World.ownsRow_nil _ _ _ _
theorem OwnLk.lt {w : World} {v : Value} {H : List Lk} (h : OwnLk w v H) {g : Nat} (hg : v.ownBlock = some g) : g < w.heap.size := (World.ownsRow.lt h g hg).2
theorem OwnLk.keep {w w' : World} {X : Nat → Prop} (hk : KeepA X w w') {v : Value} {H : List Lk} (h : OwnLk w v H) (hx : ∀ g, v.ownBlock = some g → ¬ X g) : OwnLk w' v H := own_keep hk h hx
theorem OwnLk.rd {w : World} {v : Value} {H : List Lk} (h : OwnLk w v H) : ∃ a cap, v = .slice a H.length cap ∧ RowsAt w a 3 H (CellsAt w lkC) := by
  obtain ⟨a, cap, h3, -, h5⟩ := Rd.of_own h
  exact ⟨a, cap, h3, rows_of_rd lkC_len (by decide) h5⟩
/-- A row of links is added. -/
theorem wp_pushLk {o : Oper} {act : Act} {K : Act → World → Prop} {Q : Exit → Act → World → Prop} {w : World} (s x : Operand) (ho : o.op = .call { callee := .builtin .append, args := #[s, x], argTypes := #[22, 22] })
    (v : Value) (H : List Lk) (hv : act.eval s = v) (g : Nat) (r : Lk) (hx : act.eval x = .slice (some ⟨g, 0, none⟩) 1 1) (hown : OwnLk w v H) (hg : CellsAt w lkC g 0 r) (hl : g < w.heap.size) (hsz : H.length ≤ 1000000)
    (h : ∀ v' w', OwnLk w' v' (H ++ [r]) → w.grownBy w' v.ownBlock → NewRow w v v' → K (act.put o.dst v') w') : o.wp Try.prog act w K Q := by
  have hrd : Rd w (some ⟨g, 0, none⟩) (lkC r) := .inr ⟨g, 0, rfl, hl, fun k hk => hg k _ (List.getElem?_eq_getElem hk)⟩
  obtain ⟨v', w', hrun, q2, q3, q4⟩ := run_append_any eltLk w 0 o.type v H.length (H.flatMap lkC) hown (some ⟨g, 0, none⟩) 1 1 (lkC r) rfl hrd (fun u hu => lkC_one [r] u (by simpa using hu)) (by omega) (by omega) (Nat.zero_le _)
  unfold Oper.wp execOp
  simp only [ho, resolve, invoke, builtin, Sem.run_bind, Sem.run_pure, Result.andThen_ok, List.map_toArray, List.map_cons, List.map_nil, hv, hx, hrun]
  refine h v' w' ?_ q3 q4
  unfold OwnLk
  rw [List.length_append, List.flatMap_append]
  simpa using q2
/-- A row of versions is copied. -/
theorem wp_copyRf {o : Oper} {act : Act} {K : Act → World → Prop} {Q : Exit → Act → World → Prop} {w : World} (s x : Operand) (ho : o.op = .call { callee := .builtin .append, args := #[s, x], argTypes := #[26, 26] })
    (hv : act.eval s = .slice none 0 0) (a : Option Addr) (n c : Nat) (l : List Rf) (hn : l.length = n) (hx : act.eval x = .slice a n c) (hrd : RdRf w a l) (hsz : n ≤ 1000000)
    (h : ∀ a' c' w', OwnRf w' (.slice a' n c') l → w.grownBy w' none → NewRow w (.slice none 0 0) (.slice a' n c') → K (act.put o.dst (.slice a' n c')) w') : o.wp Try.prog act w K Q := by
  obtain ⟨v', w', hrun, q2, q3, q4⟩ := run_append_any eltRf w 0 o.type (.slice none 0 0) 0 [] (World.ownsRow_nil _ _ _ _) a n c (l.flatMap rfC) (by rw [flat_len rfC_len, hn]) (rd_of_rows rfC_len (by decide) hrd) (fun u hu => rfC_one l u hu) (by omega) (by omega) (Nat.zero_le _)
  have hown : OwnRf w' v' l := by
    unfold OwnRf
    rw [hn]
    simpa using q2
  obtain ⟨a', c', hv', -, -, -⟩ := hown.rd
  rw [hn] at hv'
  subst hv'
  unfold Oper.wp execOp
  simp only [ho, resolve, invoke, builtin, Sem.run_bind, Sem.run_pure, Result.andThen_ok, List.map_toArray, List.map_cons, List.map_nil, hv, hx, hrun]
  exact h a' c' w' hown q3 q4
def lkS (x : Lk) : Value := .slice x.ta x.ts.length x.tc
end Go.Proofs.Ytcakdjnnfonijaa
