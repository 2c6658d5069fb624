/- Values of messages as trees, and how they lie in memory. Nothing of the program is used here. -/
import Derived.Test.YtnpdnlnglahicaaGreatDoorHeap
import Derived.Test.YtnpdnlnglahicaaGreatDoorRow
namespace Go.Proofs.YtnpdnlnglahicaaGreatDoor
open Go.RowKit

/-- A field that is not known. -/
structure Fd where
  num : Int
  typ : Int
  word : Int
  bytes : List UInt8
/-- A value over values of a smaller depth. -/
structure PN (α : Type) where
  word : Int
  text : List UInt8
  fields : List (Int × List α)
  rest : List Fd
/-- Values of a depth. -/
def PVT : Nat → Type
  | 0 => Empty
  | d + 1 => PN (PVT d)
/-- The two slices of a value. -/
structure Hd where
  a : Option Addr
  n : Nat
  c : Nat
  a2 : Option Addr
  n2 : Nat
  c2 : Nat
def FdAt (w : World) (b o : Nat) (f : Fd) : Prop :=
  w.cell? ⟨b, o, none⟩ = some (.int .i64 f.num) ∧ w.cell? ⟨b, o + 1, none⟩ = some (.int .i64 f.typ) ∧ w.cell? ⟨b, o + 2, none⟩ = some (.int .u64 f.word) ∧ w.cell? ⟨b, o + 3, none⟩ = some (.string (str f.bytes))
/-- Rows of so many cells each lie from an address on. -/
def RowsAt {α : Type} (w : World) (a : Option Addr) (k : Nat) (l : List α) (Q : Nat → Nat → α → Prop) : Prop :=
  l = [] ∨ ∃ b off, a = some ⟨b, off, none⟩ ∧ b < w.heap.size ∧ ∀ i (h : i < l.length), Q b (off + i * k) l[i]
theorem RowsAt.imp {α : Type} {w w' : World} {a : Option Addr} {k : Nat} {l : List α} {Q Q' : Nat → Nat → α → Prop} (h : RowsAt w a k l Q) (hs : w.heap.size ≤ w'.heap.size) (hq : ∀ b o x, b < w.heap.size → Q b o x → Q' b o x) : RowsAt w' a k l Q' := by
  rcases h with h | ⟨b, off, ha, hlt, hi⟩
  · exact .inl h
  · exact .inr ⟨b, off, ha, Nat.lt_of_lt_of_le hlt hs, fun i h => hq _ _ _ hlt (hi i h)⟩
def HdAt (w : World) (b o : Nat) (x : Int) (s : List UInt8) (h : Hd) : Prop :=
  w.cell? ⟨b, o, none⟩ = some (.int .u64 x) ∧ w.cell? ⟨b, o + 1, none⟩ = some (.string (str s)) ∧ w.cell? ⟨b, o + 2, none⟩ = some (.slice h.a h.n h.c) ∧ w.cell? ⟨b, o + 3, none⟩ = some (.slice h.a2 h.n2 h.c2)
def RdF (w : World) (a : Option Addr) (l : List Fd) : Prop := RowsAt w a 4 l (FdAt w)
/-- A list of values. -/
def LstAt {α : Type} (w : World) (B : Hd → α → Prop) (wd : α → Int) (tx : α → List UInt8) (a : Option Addr) (n c : Nat) (l : List α) : Prop :=
  n = l.length ∧ n ≤ c ∧ c ≤ 9223372036854775807 ∧ RowsAt w a 4 l fun b o x => ∃ h, HdAt w b o (wd x) (tx x) h ∧ B h x
def EntAt {α : Type} (w : World) (B : Hd → α → Prop) (wd : α → Int) (tx : α → List UInt8) (b o : Nat) (e : Int × List α) : Prop :=
  ∃ a n c, w.cell? ⟨b, o, none⟩ = some (.int .i64 e.1) ∧ w.cell? ⟨b, o + 1, none⟩ = some (.slice a n c) ∧ LstAt w B wd tx a n c e.2
def wdT : (d : Nat) → PVT d → Int
  | 0, t => nomatch (show Empty from t)
  | _ + 1, t => PN.word t
def txT : (d : Nat) → PVT d → List UInt8
  | 0, t => nomatch (show Empty from t)
  | _ + 1, t => PN.text t
/-- What a value's slices hold. -/
def Body (w : World) : (d : Nat) → Hd → PVT d → Prop
  | 0, _, _ => False
  | d + 1, h, t => h.n = (PN.fields t).length ∧ h.n ≤ h.c ∧ h.c ≤ 9223372036854775807 ∧ h.n2 = (PN.rest t).length ∧ h.n2 ≤ h.c2 ∧ h.c2 ≤ 9223372036854775807 ∧ RdF w h.a2 (PN.rest t) ∧
      RowsAt w h.a 2 (PN.fields t) fun b o e => EntAt w (Body w d) (wdT d) (txT d) b o e
def hdV (x : Int) (s : List UInt8) (h : Hd) : Array Value := #[.int .u64 x, .string (str s), .slice h.a h.n h.c, .slice h.a2 h.n2 h.c2]
/-- A value reads as a tree. -/
def RdT (w : World) (d : Nat) (v : Value) (t : PVT d) : Prop := ∃ h, v = .agg (hdV (wdT d t) (txT d t) h) ∧ Body w d h t
theorem cell_later {w w' : World} {b o : Nat} {v : Value} (hb : Below w.heap.size w w') (hlt : b < w.heap.size) (h : w.cell? ⟨b, o, none⟩ = some v) : w'.cell? ⟨b, o, none⟩ = some v := (hb.cell (p := ⟨b, o, none⟩) hlt).trans h
theorem FdAt.later {w w' : World} (hb : Below w.heap.size w w') {b o : Nat} {f : Fd} (hlt : b < w.heap.size) (h : FdAt w b o f) : FdAt w' b o f :=
  ⟨cell_later hb hlt h.1, cell_later hb hlt h.2.1, cell_later hb hlt h.2.2.1, cell_later hb hlt h.2.2.2⟩
theorem HdAt.later {w w' : World} (hb : Below w.heap.size w w') {b o : Nat} {x : Int} {s : List UInt8} {h : Hd} (hlt : b < w.heap.size) (k : HdAt w b o x s h) : HdAt w' b o x s h :=
  ⟨cell_later hb hlt k.1, cell_later hb hlt k.2.1, cell_later hb hlt k.2.2.1, cell_later hb hlt k.2.2.2⟩
theorem RdF.later {w w' : World} (hb : Below w.heap.size w w') {a : Option Addr} {l : List Fd} (h : RdF w a l) : RdF w' a l := RowsAt.imp h hb.size fun _ _ _ hlt h => h.later hb hlt
theorem LstAt.later {α : Type} {w w' : World} (hb : Below w.heap.size w w') {B B' : Hd → α → Prop} (hB : ∀ h x, B h x → B' h x) {wd : α → Int} {tx : α → List UInt8} {a : Option Addr} {n c : Nat} {l : List α} (h : LstAt w B wd tx a n c l) : LstAt w' B' wd tx a n c l :=
  ⟨h.1, h.2.1, h.2.2.1, RowsAt.imp h.2.2.2 hb.size fun _ _ _ hlt ⟨hd, k1, k2⟩ => ⟨hd, k1.later hb hlt, hB _ _ k2⟩⟩
theorem EntAt.later {α : Type} {w w' : World} (hb : Below w.heap.size w w') {B B' : Hd → α → Prop} (hB : ∀ h x, B h x → B' h x) {wd : α → Int} {tx : α → List UInt8} {b o : Nat} {e : Int × List α} (hlt : b < w.heap.size) (h : EntAt w B wd tx b o e) : EntAt w' B' wd tx b o e := by
  obtain ⟨a, n, c, k1, k2, k3⟩ := h
  exact ⟨a, n, c, cell_later hb hlt k1, cell_later hb hlt k2, k3.later hb hB⟩
theorem Body.later {w w' : World} (hb : Below w.heap.size w w') : ∀ (d : Nat) (h : Hd) (t : PVT d), Body w d h t → Body w' d h t
  | 0, _, _, k => k.elim
  | d + 1, _, _, ⟨k1, k2, k3, k4, k5, k6, k7, k8⟩ => ⟨k1, k2, k3, k4, k5, k6, k7.later hb, RowsAt.imp k8 hb.size fun _ _ _ hlt k => k.later hb (fun h x => Body.later hb d h x) hlt⟩
theorem RdT.later {w w' : World} (hb : Below w.heap.size w w') {d : Nat} {v : Value} {t : PVT d} (h : RdT w d v t) : RdT w' d v t := by
  obtain ⟨hd, k1, k2⟩ := h
  exact ⟨hd, k1, k2.later hb⟩
/-- A tree of a depth is one of a greater depth. -/
def upT : (d : Nat) → PVT d → PVT (d + 1)
  | 0, t => nomatch (show Empty from t)
  | d + 1, t => (⟨PN.word t, PN.text t, (PN.fields t).map fun e => (e.1, e.2.map (upT d)), PN.rest t⟩ : PN (PVT (d + 1)))
theorem upT_wd : ∀ (d : Nat) (t : PVT d), wdT (d + 1) (upT d t) = wdT d t
  | 0, t => nomatch (show Empty from t)
  | _ + 1, _ => rfl
theorem upT_tx : ∀ (d : Nat) (t : PVT d), txT (d + 1) (upT d t) = txT d t
  | 0, t => nomatch (show Empty from t)
  | _ + 1, _ => rfl
theorem RowsAt.map {α β : Type} {w : World} {a : Option Addr} {k : Nat} {l : List α} {Q : Nat → Nat → α → Prop} {Q' : Nat → Nat → β → Prop} (f : α → β) (h : RowsAt w a k l Q) (hq : ∀ b o x, Q b o x → Q' b o (f x)) : RowsAt w a k (l.map f) Q' := by
  rcases h with h | ⟨b, off, ha, hlt, hi⟩
  · exact .inl (by rw [h]; rfl)
  · exact .inr ⟨b, off, ha, hlt, fun i h => by rw [List.getElem_map]; exact hq _ _ _ (hi i (by simpa using h))⟩
theorem Body.up {w : World} : ∀ (d : Nat) (h : Hd) (t : PVT d), Body w d h t → Body w (d + 1) h (upT d t)
  | 0, _, _, k => k.elim
  | d + 1, h, t, ⟨k1, k2, k3, k4, k5, k6, k7, k8⟩ => by
    refine ⟨?_, k2, k3, k4, k5, k6, k7, ?_⟩
    · show h.n = ((PN.fields t).map _).length
      rw [List.length_map]; exact k1
    · refine RowsAt.map (fun e : Int × List (PVT d) => (e.1, e.2.map (upT d))) k8 fun b o e ⟨a, n, c, c1, c2, l1, l2, l3, l4⟩ => ⟨a, n, c, c1, c2, by rw [List.length_map]; exact l1, l2, l3, ?_⟩
      refine RowsAt.map (upT d) l4 fun b o x ⟨hd, e1, e2⟩ => ⟨hd, ?_, Body.up d hd x e2⟩
      rw [upT_wd, upT_tx]
      exact e1
theorem RdT.up {w : World} {d : Nat} {v : Value} {t : PVT d} (h : RdT w d v t) : RdT w (d + 1) v (upT d t) := by
  obtain ⟨hd, k1, k2⟩ := h
  exact ⟨hd, by rw [upT_wd, upT_tx]; exact k1, k2.up⟩
theorem RdT.upto {w : World} {d : Nat} {v : Value} {t : PVT d} (h : RdT w d v t) : ∀ m, ∃ u : PVT (d + m), RdT w (d + m) v u
  | 0 => ⟨t, h⟩
  | m + 1 => let ⟨u, hu⟩ := RdT.upto h m; ⟨upT _ u, hu.up⟩
/-- Two values that can be read are trees of one depth. -/
theorem rd_both {w : World} {d e : Nat} {v x : Value} {t : PVT d} {u : PVT e} (h : RdT w d v t) (k : RdT w e x u) : ∃ (m : Nat) (t' u' : PVT m), RdT w m v t' ∧ RdT w m x u' := by
  obtain ⟨t', ht⟩ := h.upto e
  have hk := k.upto d
  rw [Nat.add_comm] at hk
  obtain ⟨u', hu⟩ := hk
  exact ⟨d + e, t', u', ht, hu⟩
end Go.Proofs.YtnpdnlnglahicaaGreatDoor
