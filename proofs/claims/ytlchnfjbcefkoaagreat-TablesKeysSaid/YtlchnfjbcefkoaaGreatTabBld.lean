/- strings.Builder: a byte written behind others. -/
import Derived.Test.YtlchnfjbcefkoaaGreatTabKey
import Derived.Lib.Builder
import Derived.Shelf.Strings.Builder1
namespace Go.Proofs.YtlchnfjbcefkoaaGreat
open Go.RowKit

set_option maxRecDepth 100000 in
theorem ccheck_any (b : Nat) (p v : Value) (w : World) (h : RowAt w b 96 #[p, v]) (hp : p = .pointer none ∨ p = .pointer (some ⟨b, 0, none⟩)) :
    Calls Tryz.prog 88 #[.pointer (some ⟨b, 0, none⟩)] w fun e w' => e = .returned (.tuple #[]) ∧ RowAt w' b 96 #[.pointer (some ⟨b, 0, none⟩), v] ∧ w.grownBy w' (some b) := by
  have hc0 := h.cell 0
  have hf0 := h.frozen 0
  simp only [List.getElem?_toArray, List.getElem?_cons_zero] at hc0
  rcases hp with rfl | rfl
  · obtain ⟨j, hj, hjs⟩ := Option.map_eq_some_iff.1 (show (Tryz.prog.info? 96).map (·.size) = some 2 by kernel_rfl)
    have hsh : w.shape? b = some (96, 2) := by unfold World.shape?; rw [h]; rfl
    go_enter Tryz.func88, Tryz.ntmps88
    go_wp2
    rw [Lib.run_to_unsafe w ⟨b, 0, none⟩ Tryz.underlying94 Tryz.underlying201 hj (by rw [hjs]; decide) hsh (Nat.zero_lt_succ 1)]
    simp only [Result.andThen]
    rw [Oper.upon_value]
    go_wp2
    rw [run_callFunc_extern Tryz.func136 (by kernel_rfl) (by kernel_rfl) (by kernel_rfl) (e := Extern.AbiNoEscape.same) (by kernel_rfl)]
    rw [Lib.run_noEscape]
    simp only [Result.andThen]
    rw [Oper.upon_value]
    go_wp2
    rw [Lib.run_from_unsafe w ⟨b, 0, none⟩ Tryz.underlying201 Tryz.underlying94 hj hsh (by kernel_rfl)]
    simp only [Result.andThen]
    rw [Oper.upon_value]
    go_wp2
    go_end0
    exact ⟨rfl, h.set 0 _, grown_setCell _ _ _⟩
  · obtain ⟨j, hj, _⟩ := Option.map_eq_some_iff.1 (show (Tryz.prog.info? 96).map (·.size) = some 2 by kernel_rfl)
    go_enter Tryz.func88, Tryz.ntmps88
    go_wp2
    rw [Lib.run_neq_ptr_same w _ Tryz.underlying94 hj]
    go_wp2
    go_end0
    exact ⟨rfl, h, World.grownBy.refl _ _⟩
theorem OwnB.grownx {w w' : World} {base : Nat} {e : TypeId} {v : Value} {l : List UInt8} {b : Nat} (h : OwnB w base e v l) (hg : w.grownBy w' (some b)) (hr : v.ownBlock ≠ some b) : OwnB w' base e v l := by
  refine ⟨h.1, ?_⟩
  rcases h.2 with h | ⟨g, cap, cur, rfl, hbg, hh, r⟩
  · exact .inl h
  · exact .inr ⟨g, cap, cur, rfl, hbg, (hg.block g (Array.getElem?_eq_some_iff.1 hh).1 (fun e => hr (by first | exact e | exact e.symm))).trans hh, r⟩
theorem own_oneB {w : World} {base : Nat} {e : TypeId} {v : Value} {l : List UInt8} (h : OwnB w base e v l) : v.oneCell' = true := by
  obtain ⟨a, cap, rfl, _⟩ := h.rd
  rfl
/-- A builder that holds these bytes, all its own from a block on. -/
def Bld (w : World) (base b : Nat) (l : List UInt8) : Prop := Lib.IsBuilder 96 5 base b (Lib.byteCells l) w
theorem Bld.open {w : World} {base b : Nat} {l : List UInt8} (h : Bld w base b l) : base ≤ b ∧ ∃ p v, RowAt w b 96 #[p, v] ∧ (p = .pointer none ∨ p = .pointer (some ⟨b, 0, none⟩)) ∧ OwnB w base 5 v l ∧ v.ownBlock ≠ some b := by
  have hl : (Lib.byteCells l).length = l.length := by simp [Lib.byteCells]
  rcases h with ⟨hb, v, h1, h2, h3⟩ | ⟨hb, v, h1, h2, h3⟩
  · rw [hl] at h2
    exact ⟨hb, _, v, h1, .inl rfl, h2, h3⟩
  · rw [hl] at h2
    exact ⟨hb, _, v, h1, .inr rfl, h2, h3⟩
theorem Bld.mk {w : World} {base b : Nat} {l : List UInt8} {v : Value} (hb : base ≤ b) (h1 : RowAt w b 96 #[.pointer (some ⟨b, 0, none⟩), v]) (h2 : OwnB w base 5 v l) (h3 : v.ownBlock ≠ some b) : Bld w base b l := by
  refine .inr ⟨hb, v, h1, ?_, h3⟩
  rw [show (Lib.byteCells l).length = l.length by simp [Lib.byteCells]]
  exact h2
theorem Bld.new {w : World} {base : Nat} (hb : base ≤ w.heap.size) : Bld (w.alloc (.cells #[.pointer none, .slice none 0 0] 96)) base w.heap.size [] :=
  .inl ⟨hb, _, RowAt.new _ _ _, World.ownsRow_nil _ _ _ _, by simp [Value.ownBlock]⟩
set_option maxRecDepth 100000 in
theorem wbyte_any (base b : Nat) (l : List UInt8) (c : UInt8) (w : World) (h : Bld w base b l) (hs : l.length + 1 ≤ 140737488355328) (hbase : base ≤ w.heap.size) :
    Calls Tryz.prog 41 #[.pointer (some ⟨b, 0, none⟩), .int .u8 (c.toNat : Int)] w fun e w' => e = .returned .nilIface ∧ Bld w' base b (l ++ [c]) ∧ Below base w w' := by
  obtain ⟨hb, p, v, h1, hp, h2, h3⟩ := h.open
  have hw := h1.lt
  go_enter Tryz.func41, Tryz.ntmps41
  go_wp2_with fail
  refine (ccheck_any b p v w h1 hp).mono ?_
  rintro e w1 ⟨rfl, h4, h5⟩
  have h6 := h2.grownx h5 h3
  have hc1 := h4.cell 1
  simp only [List.getElem?_toArray, List.getElem?_cons_succ, List.getElem?_cons_zero] at hc1
  have hz := h5.size
  have HB1 := Lib.hid ((Below.refl base w).grown h5 hbase fun g hg => by rw [← Option.some.inj hg]; exact hb)
  have H4 := Lib.hid h4
  have H6 := Lib.hid h6
  have H3 := Lib.hid h3
  have HC := Lib.hid (rdB_lit w1 #[.int .u8 (c.toNat : Int)] 5 (0, 0) [c] rfl)
  clear h h1 h2 h3 h4 h5 h6 hp
  go_wp2_with (first
    | (at_builtin; refine step_appendO rfl (.tmp 11) (.tmp 13) rfl eltB base _ l rfl _ _ _ [c] rfl (H6.out.kept (below_alloc _) (Nat.le_refl _)) rfl HC.out hs (by rw [World.size_alloc]; omega) ?_; intro v2 w2 h7 h8; have h9 := (H4.out.below (below_alloc _)).onto h8 H3.out; have h10 := h8.sep (by rw [World.size_alloc]; omega) H3.out; have h11 := HB1.out.trans (((Below.refl _ w1).alloc (by omega) _).trans (h8.down (H6.out.kept (below_alloc _) (Nat.le_refl _)) (by rw [World.size_alloc]; omega))); have hz2 := h8.grown.size; have H7 := Lib.hid h7; have H9 := Lib.hid h9; have H10 := Lib.hid h10; have H11 := Lib.hid h11; clear h7 h8 h9 h10 h11)
    | (refine step_storeField rfl 23 (.tmp 16) (.tmp 14) rfl rfl b 1 v2 rfl rfl 96 _ #[.pointer (some ⟨b, 0, none⟩), v2] H9.out (by kernel_rfl) (by simp) (own_oneB H7.out) rfl ?_; intro w3 h12 h13; have H12 := Lib.hid h12; have H13 := Lib.hid (H7.out.grownx h13 H10.out); have H14 := Lib.hid (H11.out.grown h13 (by rw [World.size_alloc] at hz2; omega) fun g hg => by rw [← Option.some.inj hg]; exact hb); clear h12 h13))
  go_ret
  exact ⟨rfl, Bld.mk hb H12.out H13.out H10.out, H14.out⟩
end Go.Proofs.YtlchnfjbcefkoaaGreat
