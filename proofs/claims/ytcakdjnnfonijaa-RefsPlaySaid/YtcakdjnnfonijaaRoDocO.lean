/- The document's Order: the answer that the plain law tells. -/
import Derived.Test.YtcakdjnnfonijaaRoDoc
namespace Go.Proofs.Ytcakdjnnfonijaa
open Go.RowKit

/-- A row of links can be read. -/
def LkR (W : World) (b o : Nat) (x : Rf × List Rf) (ta : Option Addr) (tc : Nat) : Prop := CellsAt W rfC b o x.1 ∧ W.cell? ⟨b, o + 2, none⟩ = some (.slice ta x.2.length tc) ∧ RdRf W ta x.2
theorem mem_take_succ {α : Type} {L : List α} {k : Nat} (hk : k < L.length) (x : α) : x ∈ L.take (k + 1) ↔ x ∈ L.take k ∨ x = L[k] := by
  rw [← List.take_append_getElem hk, List.mem_append, List.mem_singleton]
theorem fold_succ {α β : Type} {L : List α} {k : Nat} (hk : k < L.length) (f : β → α → β) (z : β) : (L.take (k + 1)).foldl f z = f ((L.take k).foldl f z) L[k] := by
  rw [← List.take_append_getElem hk, List.foldl_append]; rfl
end Go.Proofs.Ytcakdjnnfonijaa
