/- Rows of structs: how they lie. Nothing of the program is used here. -/
import Derived.Test.YtcakdjnnfonijaaHeap
import Derived.Test.YtcakdjnnfonijaaRow
import Derived.Test.YtcakdjnnfonijaaRange
namespace Go.Proofs.Ytcakdjnnfonijaa
open Go.RowKit

def RowsAt {α : Type} (w : World) (a : Option Addr) (k : Nat) (l : List α) (Q : Nat → Nat → α → Prop) : Prop :=
  l = [] ∨ ∃ b off, a = some ⟨b, off, none⟩ ∧ b < w.heap.size ∧ ∀ i (h : i < l.length), Q b (off + i * k) l[i]
theorem RowsAt.imp {α : Type} {w w' : World} {a : Option Addr} {k : Nat} {l : List α} {Q Q' : Nat → Nat → α → Prop} (h : RowsAt w a k l Q) (hs : w.heap.size ≤ w'.heap.size) (hq : ∀ b o x, b < w.heap.size → Q b o x → Q' b o x) : RowsAt w' a k l Q' := by
  rcases h with h | ⟨b, off, ha, hlt, hi⟩
  · exact .inl h
  · exact .inr ⟨b, off, ha, Nat.lt_of_lt_of_le hlt hs, fun i h => hq _ _ _ hlt (hi i h)⟩
theorem cell_later {w w' : World} {b o : Nat} {v : Value} (hb : Below w.heap.size w w') (hlt : b < w.heap.size) (h : w.cell? ⟨b, o, none⟩ = some v) : w'.cell? ⟨b, o, none⟩ = some v := (hb.cell (p := ⟨b, o, none⟩) hlt).trans h
section
variable {α : Type} {C : α → List Value} {k : Nat}
theorem flat_len (hC : ∀ x, (C x).length = k) (l : List α) : (l.flatMap C).length = l.length * k := by
  induction l with
  | nil => simp
  | cons x r ih => rw [List.flatMap_cons, List.length_append, hC, ih, List.length_cons, Nat.succ_mul]; omega
theorem flat_get (hC : ∀ x, (C x).length = k) : ∀ (l : List α) (i : Nat) (h : i < l.length) (j : Nat) (v : Value), (C l[i])[j]? = some v → (l.flatMap C)[i * k + j]? = some v
  | [], i, h, _, _, _ => by simp at h
  | x :: r, 0, h, j, v, hv => by
    rw [List.flatMap_cons, Nat.zero_mul, Nat.zero_add]
    have hj : j < (C x).length := (List.getElem?_eq_some_iff.1 hv).1
    rw [List.getElem?_append_left hj]
    exact hv
  | x :: r, i + 1, h, j, v, hv => by
    rw [List.flatMap_cons, List.getElem?_append_right (by rw [hC, Nat.succ_mul]; omega), hC, show (i + 1) * k + j - k = i * k + j by rw [Nat.succ_mul]; omega]
    exact flat_get hC r i (by simpa using h) j v (by simpa using hv)
def CellsAt (w : World) (C : α → List Value) (b o : Nat) (x : α) : Prop := ∀ j v, (C x)[j]? = some v → w.cell? ⟨b, o + j, none⟩ = some v
theorem rows_of_rd {w : World} {a : Option Addr} {l : List α} (hC : ∀ x, (C x).length = k) (hk : 0 < k) (h : Rd w a (l.flatMap C)) : RowsAt w a k l (CellsAt w C) := by
  rcases h with h | ⟨b, off, ha, hlt, hi⟩
  · refine .inl ?_
    have := flat_len hC l
    rw [h] at this
    simp only [List.length_nil] at this
    exact List.eq_nil_of_length_eq_zero (by rcases Nat.mul_eq_zero.1 this.symm with h | h <;> omega)
  · refine .inr ⟨b, off, ha, hlt, fun i h j v hv => ?_⟩
    obtain ⟨hj, he⟩ := List.getElem?_eq_some_iff.1 (flat_get hC l i h j v hv)
    rw [← he, Nat.add_assoc]
    exact hi _ hj
theorem rd_of_rows {w : World} {a : Option Addr} {l : List α} (hC : ∀ x, (C x).length = k) (hk : 0 < k) (h : RowsAt w a k l (CellsAt w C)) : Rd w a (l.flatMap C) := by
  rcases h with h | ⟨b, off, ha, hlt, hi⟩
  · exact .inl (by rw [h]; rfl)
  · refine .inr ⟨b, off, ha, hlt, fun i h => ?_⟩
    have hl := flat_len hC l
    have hdiv : i / k < l.length := by rw [hl] at h; exact Nat.div_lt_of_lt_mul (by rw [Nat.mul_comm]; exact h)
    have hmod : i % k < (C l[i / k]).length := by rw [hC]; exact Nat.mod_lt _ hk
    have h1 := hi (i / k) hdiv (i % k) _ (List.getElem?_eq_getElem hmod)
    have h2 := flat_get hC l (i / k) hdiv (i % k) _ (List.getElem?_eq_getElem hmod)
    have e : i / k * k + i % k = i := by rw [Nat.mul_comm]; exact Nat.div_add_mod i k
    rw [e] at h2
    rw [Nat.add_assoc, e] at h1
    rw [h1, ← h2]
    exact List.getElem?_eq_getElem h
end
theorem CellsAt.later {α : Type} {C : α → List Value} {w w' : World} (hb : Below w.heap.size w w') {b o : Nat} {x : α} (hlt : b < w.heap.size) (h : CellsAt w C b o x) : CellsAt w' C b o x := fun j v hv => cell_later hb hlt (h j v hv)
theorem keep_grown {w w' : World} {b : Nat} (h : w.grownBy w' (some b)) : KeepA (fun k => k = b) w w' := ⟨h.os, h.tape, h.output, h.size, fun k hk hx => h.block k hk fun e => hx (Option.some.inj e)⟩
theorem own_keep {w w' : World} {X : Nat → Prop} (hk : KeepA X w w') {base : Nat} {e : TypeId} {size : Nat} {v : Value} {n : Nat} {xs : List Value} (h : w.ownsRow base e size v n xs) (hx : ∀ g, v.ownBlock = some g → ¬ X g) : w'.ownsRow base e size v n xs := by
  refine ⟨h.1, ?_⟩
  rcases h.2 with h | ⟨g, cap, cur, hv, hg, hh, r⟩
  · exact .inl h
  · refine .inr ⟨g, cap, cur, hv, hg, ?_, r⟩
    have hgx := hx g (by rw [hv]; rfl)
    exact (hk.same g (Array.getElem?_eq_some_iff.1 hh).1 hgx).trans hh
theorem row_keep {w w' : World} {X : Nat → Prop} (hk : KeepA X w w') {b : Nat} {t : TypeId} {cells : Array Value} (h : RowAt w b t cells) (hx : ¬ X b) : RowAt w' b t cells := (hk.same b h.lt hx).trans h
theorem keep_grownO {w w' : World} {row : Option Nat} (h : w.grownBy w' row) : KeepA (fun k => row = some k) w w' := ⟨h.os, h.tape, h.output, h.size, fun k hk hx => h.block k hk fun e => hx e.symm⟩
end Go.Proofs.Ytcakdjnnfonijaa
