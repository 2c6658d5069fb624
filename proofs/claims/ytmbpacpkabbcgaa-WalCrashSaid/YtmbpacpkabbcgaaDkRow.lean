/- Rows of structs, and fates: how they lie. -/
import Derived.Test.YtmbpacpkabbcgaaHeap
import Derived.Test.YtmbpacpkabbcgaaRow
import Derived.Test.YtmbpacpkabbcgaaProg
namespace Go.Proofs.Ytmbpacpkabbcgaa
open Go.RowKit

/-- Rows of so many cells each lie from an address on. -/
def RowsAt {α : Type} (w : World) (a : Option Addr) (k : Nat) (l : List α) (Q : Nat → Nat → α → Prop) : Prop :=
  l = [] ∨ ∃ b off, a = some ⟨b, off, none⟩ ∧ b < w.heap.size ∧ ∀ i (h : i < l.length), Q b (off + i * k) l[i]
theorem RowsAt.imp {α : Type} {w w' : World} {a : Option Addr} {k : Nat} {l : List α} {Q Q' : Nat → Nat → α → Prop} (h : RowsAt w a k l Q) (hs : w.heap.size ≤ w'.heap.size) (hq : ∀ b o x, b < w.heap.size → Q b o x → Q' b o x) : RowsAt w' a k l Q' := by
  rcases h with h | ⟨b, off, ha, hlt, hi⟩
  · exact .inl h
  · exact .inr ⟨b, off, ha, Nat.lt_of_lt_of_le hlt hs, fun i h => hq _ _ _ hlt (hi i h)⟩
theorem cell_later {w w' : World} {b o : Nat} {v : Value} (hb : Below w.heap.size w w') (hlt : b < w.heap.size) (h : w.cell? ⟨b, o, none⟩ = some v) : w'.cell? ⟨b, o, none⟩ = some v := (hb.cell (p := ⟨b, o, none⟩) hlt).trans h
/-- A step's fate. -/
structure Ft where
  kind : Int
  keep : Int
def FtAt (w : World) (b o : Nat) (f : Ft) : Prop := w.cell? ⟨b, o, none⟩ = some (.int .i64 f.kind) ∧ w.cell? ⟨b, o + 1, none⟩ = some (.int .i64 f.keep)
def RdFt (w : World) (a : Option Addr) (l : List Ft) : Prop := RowsAt w a 2 l (FtAt w)
theorem FtAt.later {w w' : World} (hb : Below w.heap.size w w') {b o : Nat} {f : Ft} (hlt : b < w.heap.size) (h : FtAt w b o f) : FtAt w' b o f := ⟨cell_later hb hlt h.1, cell_later hb hlt h.2⟩
theorem RdFt.later {w w' : World} (hb : Below w.heap.size w w') {a : Option Addr} {l : List Ft} (h : RdFt w a l) : RdFt w' a l := RowsAt.imp h hb.size fun _ _ _ hlt h => h.later hb hlt
/-- May it be? -/
def Ft.ok (f : Ft) : Bool := (f.kind == 0) || (f.kind == 1)
theorem all_take {α : Type} {p : α → Bool} {l : List α} {k : Nat} (h : k < l.length) : (l.take (k + 1)).all p = ((l.take k).all p && p l[k]) := by
  rw [List.take_succ_eq_append_getElem h, List.all_append]
  simp
theorem all_drop {α : Type} {p : α → Bool} {l : List α} {k : Nat} (h : k < l.length) (hp : p l[k] = false) : l.all p = false := by
  cases hh : l.all p with
  | false => rfl
  | true => rw [List.all_eq_true.1 hh _ (List.getElem_mem h)] at hp; cases hp
theorem notok_any (x y : Int) (w : World) : Calls Try.prog 47 #[.agg #[.int .i64 x, .int .i64 y]] w fun e w' => e = .returned (.bool (!(x == 0 || x == 1))) ∧ Below w.heap.size w w' := by
  by_cases h0 : x = 0
  · subst h0
    go_enter Try.func47, Try.ntmps47
    go_wp2
    go_ret
    exact ⟨rfl, below_alloc _⟩
  · by_cases h1 : x = 1
    · subst h1
      go_enter Try.func47, Try.ntmps47
      go_wp2
      go_ret
      exact ⟨rfl, below_alloc _⟩
    · have e0 : (x == 0) = false := by simpa using h0
      have e1 : (x == 1) = false := by simpa using h1
      rw [e0, e1]
      go_enter Try.func47, Try.ntmps47
      go_wp2
      all_goals go_ret
      all_goals (refine ⟨?_, below_alloc _⟩; first | rfl | simp [h0, h1])
set_option maxRecDepth 100000 in
theorem ftindex_any (a : Option Addr) (fs : List Ft) (n cap : Nat) (w : World) (hn : Hid (n = fs.length)) (hn2 : n ≤ 9223372036854775807) (hl : RdFt w a fs) :
    Calls Try.prog 59 #[.slice a n cap, .func (.func 47) #[] #[]] w fun e w' =>
      (∃ i : Int, e = .returned (.int .i64 i) ∧ ((0 ≤ i) ↔ fs.all Ft.ok = false)) ∧ Below w.heap.size w w' := by
  have HL := Lib.hid hl
  clear hl
  go_enter Try.func59, Try.ntmps59
  go_wp2
  go_loopw [8] (fun i wr => Below w.heap.size w wr ∧ ∃ k : Nat, k ≤ n ∧ i = .int .i64 k ∧ (fs.take k).all Ft.ok = true) (fun i _ => n - (intOf i).toNat)
  case atStart => exact ⟨Below.refl _ _, 0, Nat.zero_le _, rfl, rfl⟩
  case round =>
    obtain ⟨hb, k, hk, rfl, hall⟩ := hrel
    have HB := Lib.hid hb
    have HA := Lib.hid hall
    clear hb hall
    by_cases hkn : k < n
    · have hkl : k < fs.length := by rw [← hn.out]; omega
      obtain ⟨b2, off, rfl, hlt, hcell⟩ := HL.out.resolve_left (by intro e; rw [e] at hkl; simp at hkl)
      obtain ⟨c0, c1⟩ := (hcell k hkl).later HB.out hlt
      have hs1 : b2 < wr.heap.size := Nat.lt_of_lt_of_le hlt HB.out.size
      have HTK := Lib.hid (all_take (p := Ft.ok) hkl)
      have HDR := Lib.hid (all_drop (p := Ft.ok) hkl)
      obtain ⟨⟨x, y⟩, hf⟩ : ∃ f, fs[k] = f := ⟨_, rfl⟩
      have HTK : Hid ((fs.take (k + 1)).all Ft.ok = ((fs.take k).all Ft.ok && (x == 0 || x == 1))) := by
        have h := HTK.out
        rw [hf] at h
        exact h
      have HDR : Hid ((x == 0 || x == 1) = false → fs.all Ft.ok = false) := fun h => HDR.out (by rw [hf]; exact h)
      rw [hf] at c0 c1
      dsimp only at c0 c1
      clear hcell hf
      have hb1 : (k : Int) < (n : Int) := by omega
      obtain ⟨r, hr⟩ : ∃ r : Bool, (x == 0 || x == 1) = r := ⟨_, rfl⟩
      rw [hr] at HTK HDR
      have HNB := Lib.hid (notok_any x y)
      rw [hr] at HNB
      clear hr
      go_wp2_with fail
      refine (HNB.out _).mono ?_
      rintro _ w1 ⟨rfl, hbw⟩
      have HB1 := Lib.hid (below_trans HB.out hbw)
      clear hbw c0 c1
      cases r with
      | true =>
        have HK : Hid ((fs.take (k + 1)).all Ft.ok = true) := by
          have h := HTK.out
          rw [HA.out] at h
          exact h
        go_wp2
        exact ⟨⟨HB1.out, k + 1, by omega, by go_num, HK.out⟩, by simp [intOf]; omega⟩
      | false =>
        have HK : Hid (fs.all Ft.ok = false) := by first | exact HDR.out rfl | exact HDR.out trivial
        go_wp2
        go_ret
        exact ⟨⟨_, rfl, ⟨fun _ => HK.out, fun _ => by omega⟩⟩, HB1.out⟩
    · obtain rfl : k = n := by omega
      have HE : Hid (fs.all Ft.ok = true) := by
        have h := HA.out
        rw [hn.out, List.take_length] at h
        exact h
      go_wp2
      go_ret
      exact ⟨⟨-1, rfl, ⟨fun h => by omega, fun h => by rw [HE.out] at h; cases h⟩⟩, HB.out⟩
set_option maxRecDepth 100000 in
theorem ftcontains_any (a : Option Addr) (fs : List Ft) (n cap : Nat) (w : World) (hn : Hid (n = fs.length)) (hn2 : n ≤ 9223372036854775807) (hl : RdFt w a fs) :
    Calls Try.prog 46 #[.slice a n cap, .func (.func 47) #[] #[]] w fun e w' => e = .returned (.bool (!fs.all Ft.ok)) ∧ Below w.heap.size w w' := by
  go_enter Try.func46, Try.ntmps46
  go_wp2_with fail
  refine (ftindex_any a fs n cap w hn hn2 hl).mono ?_
  rintro e w1 ⟨⟨i, rfl, hi⟩, hb⟩
  have HI := Lib.hid hi
  clear hi
  go_wp2
  go_ret
  refine ⟨congrArg (fun b => Ending.returned (Value.bool b)) ?_, hb⟩
  cases hall : fs.all Ft.ok with
  | true => exact decide_eq_false fun h => by have := HI.out.1 h; rw [hall] at this; cases this
  | false => exact decide_eq_true (HI.out.2 hall)
/-- disk.right -/
theorem right_any (a : Option Addr) (fs : List Ft) (n cap : Nat) (w : World) (hn : Hid (n = fs.length)) (hn2 : n ≤ 9223372036854775807) (hl : RdFt w a fs) :
    Calls Try.prog 23 #[.slice a n cap] w fun e w' => e = .returned (.bool (fs.all Ft.ok)) ∧ Below w.heap.size w w' := by
  obtain ⟨r, hr⟩ : ∃ r, fs.all Ft.ok = r := ⟨_, rfl⟩
  have H := Lib.hid (fun w hl => ftcontains_any a fs n cap w hn hn2 hl)
  rw [hr] at H ⊢
  clear hr
  go_enter Try.func23, Try.ntmps23
  go_wp2_with fail
  refine (H.out _ hl).mono ?_
  rintro e w1 ⟨rfl, hb⟩
  have HB := Lib.hid hb
  clear hb
  cases r <;> (go_wp2; go_ret; exact ⟨rfl, HB.out⟩)
end Go.Proofs.Ytmbpacpkabbcgaa
