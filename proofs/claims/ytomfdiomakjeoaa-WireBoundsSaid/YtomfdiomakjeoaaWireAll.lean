/- Copies of bytes: lexiconlaw17.spare, lexiconlaw17.kept, slices.Clone, and what wire.All hands back. -/
import Derived.Test.YtomfdiomakjeoaaWireFields
import Derived.Lib.SliceRun
namespace Go.Proofs.Ytomfdiomakjeoaa
open Go.RowKit

set_option maxRecDepth 100000 in
theorem num_any (k : Int) (w : World) : Calls Try.prog 16 #[.int .i64 k] w fun e w' => e = .returned (.int .i64 k) ∧ w = w' := by
  go_enter Try.func16, Try.ntmps16
  go_wp2
  go_ret
  exact ⟨rfl, rfl⟩
theorem own_empty (w : World) (base : Nat) (e : TypeId) (size : Nat) (h : base ≤ w.heap.size) : (w.alloc (.cells #[] e)).ownsRow base e size (.slice (some ⟨w.heap.size, 0, none⟩) 0 0) 0 [] :=
  ⟨by simp, .inr ⟨w.heap.size, 0, #[], rfl, h, heap_alloc_new w _, Nat.le_refl _, by unfold maxLen; omega, by simp, by simp⟩⟩
theorem OwnB.empty (w : World) (base : Nat) (e : TypeId) (h : base ≤ w.heap.size) : OwnB (w.alloc (.cells #[] e)) base e (.slice (some ⟨w.heap.size, 0, none⟩) 0 0) [] := own_empty w base e 1 h
theorem OwnB.some {w : World} {base : Nat} {e : TypeId} {v : Value} {l : List UInt8} (h : OwnB w base e v l) (hl : 0 < l.length) : ∃ g cap, v = .slice (some ⟨g, 0, none⟩) l.length cap ∧ base ≤ g ∧ g < w.heap.size ∧ l.length ≤ cap ∧ cap ≤ maxLen ∧ RdB w (some ⟨g, 0, none⟩) l := by
  obtain ⟨a, c, hv, hc, hr⟩ := h.rd
  rcases h.2 with ⟨rfl, h0⟩ | ⟨g, cap, cur, rfl, hbg, hg, hnc, hcm, hcs, htake⟩
  · omega
  · obtain ⟨rfl, _, rfl⟩ := by simpa using hv
    exact ⟨g, _, rfl, hbg, (Array.getElem?_eq_some_iff.1 hg).1, hnc, hcm, hr⟩
set_option maxRecDepth 100000 in
theorem spare_any (a : Option Addr) (l : List UInt8) (n cap : Nat) (w : World) (hn : Hid (n = l.length)) (hc : n ≤ cap) (hn2 : n ≤ 140737488355000) (hl : RdB w a l) :
    Calls Try.prog 12 #[.slice a n cap] w fun e w' =>
      ∃ b c, e = .returned (.slice (some ⟨b, 0, none⟩) n c) ∧ n + 1 ≤ c ∧ c ≤ 9223372036854775807 ∧ w.heap.size ≤ b ∧ b < w'.heap.size ∧ RdB w' (some ⟨b, 0, none⟩) (l ++ [165]) ∧ Below w.heap.size w w' := by
  have HL := Lib.hid hl
  clear hl
  go_enter Try.func12, Try.ntmps12
  go_wp2_with (first
    | (at_builtin; refine step_appendB rfl (.tmp 3) (.tmp 4) rfl eltB w.heap.size _ [] rfl _ _ _ l rfl (OwnB.empty w _ _ (Nat.le_refl _)) hn.out (HL.out.mono (below_alloc _)) (by rw [← hn.out]; simp; omega) (by simp) ?_; intro v1 w1 h1 h2; have H1 := Lib.hid h1; have H2 := Lib.hid ((below_alloc _).trans h2); clear h1 h2)
    | (at_builtin; refine step_appendB rfl (.tmp 5) (.tmp 6) rfl eltB w.heap.size _ ([] ++ l) rfl _ _ _ [165] rfl (H1.out.kept (below_alloc _) (Nat.le_refl _)) rfl (rdB_lit _ _ _ _ _ rfl) (by rw [List.nil_append, ← hn.out]; simp; omega) (by have := H2.out.size; simp; omega) ?_; intro v2 w2 h1 h2; obtain ⟨g2, c2, rfl, hg2, hgs, hc2, hcm, hr2⟩ := h1.some (by simp); have hl2 : ([] ++ l ++ [(165 : UInt8)]).length = n + 1 := (by rw [hn.out]; simp); rw [hl2] at hc2; rw [hl2]; have HR := Lib.hid hr2; have H3 := Lib.hid ((H2.out.trans ((Below.refl _ w1).alloc H2.out.size _)).trans h2); clear h1 h2 hr2 hl2))
  go_ret
  exact ⟨_, _, rfl, hc2, by unfold maxLen at hcm; omega, hg2, hgs, HR.out, H3.out⟩
set_option maxRecDepth 100000 in
theorem kept_any (a a2 : Option Addr) (l l2 : List UInt8) (n n2 cap cap2 : Nat) (x : UInt8) (w : World) (hn : Hid (n = l.length)) (hn2 : Hid (n2 = l2.length)) (hc : n2 + 1 ≤ cap) (hnn : n = n2) (hn3 : n ≤ 140737488355000) (hl : RdB w a (l ++ [x])) (hl2 : RdB w a2 l2) :
    Calls Try.prog 15 #[.slice a n cap, .slice a2 n2 cap2] w fun e w' => e = .returned (.bool (decide (l = l2) && decide (x = 165))) ∧ w = w' := by
  subst hnn
  obtain ⟨b, off, rfl, hb, hcell⟩ := hl.at (by simp)
  have h165 := hcell n (by rw [hn.out]; simp)
  have hx : (l ++ [x])[n]'(by rw [hn.out]; simp) = x := by have := hn.out; subst this; simp
  rw [hx] at h165
  have hl1 : RdB w (some ⟨b, off, none⟩) l := by
    have h := hl.take n
    have e : (l ++ [x]).take n = l := by have := hn.out; subst this; simp
    rwa [e] at h
  have hs1 := run_str (P := Try.prog) w 23 9 5 (some ⟨b, off, none⟩) n cap l Try.underlying23 Try.underlying5 Try.underlying9 hn.out hl1
  have hs2 := run_str (P := Try.prog) w 23 9 5 a2 n cap2 l2 Try.underlying23 Try.underlying5 Try.underlying9 hn2.out hl2
  obtain ⟨s1, e1⟩ : ∃ s, str l = s := ⟨_, rfl⟩
  obtain ⟨s2, e2⟩ : ∃ s, str l2 = s := ⟨_, rfl⟩
  have hiff : (s1.toList == s2.toList) = decide (l = l2) := by
    rw [← e1, ← e2, str_toList, str_toList]
    by_cases h : l = l2
    · rw [h]; simp
    · rw [decide_eq_false h]; exact beq_eq_false_iff_ne.2 h
  rw [e1] at hs1
  rw [e2] at hs2
  obtain ⟨y, hy⟩ : ∃ y, x.toNat = y := ⟨_, rfl⟩
  have hx165 : decide (x = 165) = ((y : Int) == 165) := by
    by_cases h : x = 165
    · subst h; subst hy; rfl
    · rw [decide_eq_false h]
      have : y ≠ 165 := fun e => h (UInt8.toNat_inj.1 (by rw [hy, e]; rfl))
      symm
      simp
      omega
  rw [hx165]
  rw [hy] at h165
  clear hcell hl hl1 hl2 hx hx165 hy e1 e2
  cases hd : decide (l = l2) with
  | true =>
    rw [hd] at hiff
    go_enter Try.func15, Try.ntmps15
    go_wp2
    go_ret
    exact ⟨rfl, rfl⟩
  | false =>
    rw [hd] at hiff
    go_enter Try.func15, Try.ntmps15
    go_wp2
    go_ret
    exact ⟨rfl, rfl⟩

theorem own_one {w : World} {base : Nat} {e : TypeId} {v : Value} {l : List UInt8} (h : OwnB w base e v l) : v.oneCell' = true := by
  obtain ⟨a, c, rfl, _⟩ := h.rd
  rfl
set_option maxRecDepth 100000 in
theorem clone_any (a : Option Addr) (l : List UInt8) (n cap : Nat) (w : World) (hn : Hid (n = l.length)) (hn2 : n ≤ 140737488355000) (hl : RdB w a l) :
    Calls Try.prog 44 #[.slice a n cap] w (RetB 5 w l) := by
  have HL := Lib.hid hl
  have hnil := fun a => Go.Lib.run_eql_slice_nil (P := Try.prog) w 23 5 a n cap 0 0 Try.underlying23
  cases a with
  | none =>
    have h0 : l = [] := by
      rcases hl with h | ⟨b, off, ha, _⟩
      · exact List.map_eq_nil_iff.1 h
      · cases ha
    subst h0
    clear hl HL
    go_enter Try.func44, Try.ntmps44
    go_wp2
    go_ret
    exact ⟨_, rfl, OwnB.nil _ _ _, Below.refl _ _⟩
  | some ad =>
    clear hl
    go_enter Try.func44, Try.ntmps44
    go_wp2_with (at_builtin; refine step_appendB rfl (.tmp 5) (.tmp 6) rfl eltB w.heap.size _ [] rfl _ _ _ l rfl (OwnB.empty w _ _ (Nat.le_refl _)) hn.out (HL.out.mono (below_alloc _)) (by rw [← hn.out]; simp; omega) (by simp) ?_; intro v1 w1 h1 h2; have H1 := Lib.hid h1; have H2 := Lib.hid ((below_alloc _).trans h2); clear h1 h2)
    go_ret
    exact ⟨_, rfl, H1.out, H2.out⟩
set_option maxRecDepth 100000 in
theorem all_any (a : Option Addr) (l : List UInt8) (n cap : Nat) (w : World) (hn : Hid (n = l.length)) (hl : RdB w a l) :
    Calls Try.prog 27 #[.slice a n cap] w fun e w' =>
      ∃ b v, e = .returned (.func (.func 45) #[] #[.pointer (some ⟨b, 0, none⟩)]) ∧ w.heap.size ≤ b ∧ Box w' b 23 v ∧ OwnB w' w.heap.size 5 v (if 1048576 < l.length then [] else l) ∧ Below w.heap.size w w' := by
  have HL := Lib.hid hl
  have hmf : ∀ fn first cap w, (Instr.makeFunc fn first cap).run Try.prog w = .ok (.func fn first cap) w := fun _ _ _ _ => rfl
  have hb0 := Box.new w 23 (.slice a n cap)
  have c0 := hb0.cell
  have f0 := hb0.frozen
  clear hl
  by_cases hbig : 1048576 < n
  · rw [if_pos (by rw [← hn.out]; exact hbig)]
    go_enter Try.func27, Try.ntmps27
    go_wp2_with fail
    refine (clone_any none [] 0 0 _ (show (0 : Nat) = _ from rfl) (by omega) (show RdB _ _ _ from .inl rfl)).mono ?_
    rintro e w1 ⟨v1, rfl, ho, hb1⟩
    have H1 := Lib.hid ho
    have HB1 := Lib.hid hb1
    have hbx := (Box.new w 23 (.slice none 0 0)).below hb1
    have c1 := hbx.cell
    have f1 := hbx.frozen
    clear ho hb1
    obtain ⟨a1, k1, hv1, _, _⟩ := H1.out.rd
    subst hv1
    go_wp2
    go_ret
    have hsz := HB1.out.size
    rw [World.size_alloc] at hsz
    refine ⟨_, _, rfl, Nat.le_refl _, hbx.set _, OwnB.mono (H1.out.grown (grown_setCell _ _ _) (fun g hg e => ?_)) (by simp), ?_⟩
    · have := (World.ownsRow.lt H1.out g e).1
      have : w.heap.size = g := Option.some.inj hg
      rw [World.size_alloc] at *
      omega
    · exact (below_trans (below_alloc _) HB1.out).grown (grown_setCell _ ⟨w.heap.size, 0, none⟩ _) (by omega) (fun g hg => by have : w.heap.size = g := Option.some.inj hg; omega)
  · rw [if_neg (by rw [← hn.out]; exact hbig)]
    go_enter Try.func27, Try.ntmps27
    go_wp2_with fail
    refine (clone_any a l n cap _ hn (by omega) (HL.out.mono (below_alloc _))).mono ?_
    rintro e w1 ⟨v1, rfl, ho, hb1⟩
    have H1 := Lib.hid ho
    have HB1 := Lib.hid hb1
    have hbx := hb0.below hb1
    have c1 := hbx.cell
    have f1 := hbx.frozen
    clear ho hb1
    obtain ⟨a1, k1, hv1, _, _⟩ := H1.out.rd
    subst hv1
    go_wp2
    go_ret
    have hsz := HB1.out.size
    rw [World.size_alloc] at hsz
    refine ⟨_, _, rfl, Nat.le_refl _, hbx.set _, OwnB.mono (H1.out.grown (grown_setCell _ _ _) (fun g hg e => ?_)) (by simp), ?_⟩
    · have := (World.ownsRow.lt H1.out g e).1
      have : w.heap.size = g := Option.some.inj hg
      rw [World.size_alloc] at *
      omega
    · exact (below_trans (below_alloc _) HB1.out).grown (grown_setCell _ ⟨w.heap.size, 0, none⟩ _) (by omega) (fun g hg => by have : w.heap.size = g := Option.some.inj hg; omega)
end Go.Proofs.Ytomfdiomakjeoaa
