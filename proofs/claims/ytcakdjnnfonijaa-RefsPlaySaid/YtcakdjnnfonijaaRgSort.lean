/- slices.SortFunc at versions by refs.Compare; slices.Collect, slices.SortedFunc. -/
import Derived.Test.YtcakdjnnfonijaaRgLay
namespace Go.Proofs.Ytcakdjnnfonijaa
open Go.RowKit Go.Shelf Go.Sort

set_option maxRecDepth 100000 in
theorem refcmp_grow (s t : ByteArray) (m n : Int) (w : World) : Calls Try.prog 42 #[.agg #[.string s, .int .i64 m], .agg #[.string t, .int .i64 n]] w fun e w' => e = .returned (.int .i64 (cmpR s t m n)) ∧ ∃ q os, w' = grow (w.drewN q) os := by
  go_enter Try.func42, Try.ntmps42
  go_wp2
  have HE0 : Hid (∃ os, ((w.alloc (.cells #[.string s, .int .i64 m] 25)).alloc (.cells #[.string t, .int .i64 n] 25)) = grow w os) := ⟨_, by rw [alloc_eq_grow, alloc_eq_grow, grow_grow]⟩
  have hr1 : RowAt ((w.alloc (.cells #[.string s, .int .i64 m] 25)).alloc (.cells #[.string t, .int .i64 n] 25)) w.heap.size 25 #[.string s, .int .i64 m] := (RowAt.new _ _ _).below (below_alloc _)
  have hr2 : RowAt ((w.alloc (.cells #[.string s, .int .i64 m] 25)).alloc (.cells #[.string t, .int .i64 n] 25)) (w.heap.size + 1) 25 #[.string t, .int .i64 n] := by
    have := RowAt.new (w.alloc (.cells #[.string s, .int .i64 m] 25)) 25 #[.string t, .int .i64 n]
    rwa [show (w.alloc (.cells #[.string s, .int .i64 m] 25)).heap.size = w.heap.size + 1 by simp] at this
  have k1 := hr1.cell 0
  have k2 := hr1.cell 1
  have k3 := hr2.cell 0
  have k4 := hr2.cell 1
  clear hr1 hr2
  revert HE0 k1 k2 k3 k4
  generalize (w.alloc (.cells #[.string s, .int .i64 m] 25)).alloc (.cells #[.string t, .int .i64 n] 25) = w1
  intro HE0 k1 k2 k3 k4
  have HS : ∀ (s t : ByteArray) (w : World), Calls Try.prog 53 #[.string s, .string t] w fun e w' => e = .returned (.int .i64 (cmpS s t)) ∧ w' = w := fun s t w => (cmpS_any s t w).mono fun e w' h => ⟨h.1, h.2.symm⟩
  have HI : ∀ (s t : Int) (w : World), Calls Try.prog 54 #[.int .i64 s, .int .i64 t] w fun e w' => e = .returned (.int .i64 (cmpI s t)) ∧ w' = w := fun s t w => (cmpI_any s t w).mono fun e w' h => ⟨h.1, h.2.symm⟩
  go_still_tail 10, (by kernel_rfl)
  repeat (first | still_step | still_call (HS _ _ _) | still_call (HI _ _ _))
  refine wpStill_nil ?_
  change wpList _ _ _ _ _ w1.drew
  have HE2 : Hid (∃ os, w1.drew = grow (w.drewN 1) os) := by
    obtain ⟨os, h⟩ := HE0.out
    exact ⟨os, by rw [h]; rfl⟩
  clear HE0 k1 k2 k3 k4 HS HI
  revert HE2
  generalize w1.drew = w2
  intro HE2
  go_wp2_with (first | (go_at_call 52; refine (or_any _ _ _ _ (RowAt.new _ _ _)).mono ?_; rintro e _ ⟨rfl, rfl⟩))
  go_ret
  obtain ⟨os, h⟩ := HE2.out
  exact ⟨rfl, 1, os ++ #[.cells #[.int .i64 (cmpS s t), .int .i64 (cmpI m n)] 3], by rw [alloc_eq_grow, h, grow_grow]⟩
def cfR (x y : Rf) : Int := cmpR x.1 y.1 x.2 y.2
theorem swoR : SWO (ltOf cfR) where
  irrefl x := totR.irr x
  trans x y z h1 h2 := totR.trans x y z h1 h2
  ntrans _ _ _ h1 h2 := totR.le_trans h2 h1
theorem cmpLaysR (blk off size : Nat) (w : World) : CmpLays Try.prog 42 #[] rfC 2 cfR blk off size w := fun _ _ _ _ x y => refcmp_grow x.1 y.1 x.2 y.2 _
/-- In order. -/
def sortRs (xs : List Rf) : List Rf := xs.mergeSort fun x y => !ltR y x
theorem sortRs_len (xs : List Rf) : (sortRs xs).length = xs.length := by unfold sortRs; simp
theorem putCells_take (F cur : Array Value) (h : F.size ≤ cur.size) : (putCells id 0 F cur).toList.take F.size = F.toList := by
  apply List.ext_getElem?
  intro t
  by_cases ht : t < F.size
  · rw [List.getElem?_take_of_lt ht]
    have hc : t < cur.size := by omega
    unfold putCells
    rw [Array.getElem?_toList, Array.getElem?_mapIdx, Array.getElem?_eq_getElem hc, Array.getElem?_toList, Array.getElem?_eq_getElem ht]
    simp [ht]
  · rw [List.getElem?_eq_none (by rw [List.length_take]; omega), List.getElem?_eq_none (by simp; omega)]
theorem flatK_rf (l : List Rf) : (flatK rfC 2 l.toArray).toList = l.flatMap rfC := by
  apply List.ext_getElem?
  intro t
  by_cases ht : t < l.length * 2
  · have h1 : t / 2 < l.length := by omega
    have h2 : t % 2 < 2 := by omega
    rw [Array.getElem?_toList, Array.getElem?_eq_getElem (by simp; omega)]
    have hg := get_flatK rfC 2 l.toArray t (by simpa using ht)
    rw [getElem!_pos _ t (by simp; omega)] at hg
    rw [hg]
    have he : (l.toArray)[t / 2]! = l[t / 2] := by simp [h1]
    rw [he]
    have hget := flat_get rfC_len l (t / 2) h1 (t % 2) ((rfC l[t / 2])[t % 2]!) (by
      rw [List.getElem!_eq_getElem?_getD]
      rcases (show t % 2 = 0 ∨ t % 2 = 1 by omega) with e | e <;> rw [e] <;> rfl)
    rw [show t / 2 * 2 + t % 2 = t by omega] at hget
    exact hget.symm
  · rw [List.getElem?_eq_none (by simp; omega), List.getElem?_eq_none (by rw [flat_len rfC_len]; omega)]
theorem sort_world {w : World} {xs ys : List Rf} {g cap : Nat} (h : OwnRf w (.slice (some ⟨g, 0, none⟩) xs.length cap) xs) (hp : 0 < xs.length) (hl : ys.length = xs.length) (n : Nat) (os : Array Obj) : OwnRf (sortWorldK rfC 2 w g 0 n ys.toArray os) (.slice (some ⟨g, 0, none⟩) ys.length cap) ys ∧ KeepA (fun k => k = g) w (sortWorldK rfC 2 w g 0 n ys.toArray os) := by
  rcases h.2 with ⟨e, e2⟩ | ⟨g', cap', cur, e, e1, e2, e3, e4, e5, e6⟩
  · omega
  · cases e
    have hg : g < w.heap.size := (Array.getElem?_eq_some_iff.1 e2).1
    have hrow : (sortWorldK rfC 2 w g 0 n ys.toArray os).heap[g]? = some (.cells (putCells id 0 (flatK rfC 2 ys.toArray) cur) 25 (0, 0)) := by
      show ((w.heap.modify g _) ++ os)[g]? = _
      rw [Array.getElem?_append_left (by simpa using hg), Array.getElem?_modify, if_pos rfl, e2]
      rfl
    have hF : (flatK rfC 2 ys.toArray).size = ys.length * 2 := by simp
    refine ⟨⟨flat_len rfC_len ys, .inr ⟨g, cap, _, rfl, Nat.zero_le _, hrow, by omega, e4, ?_, ?_⟩⟩, rfl, rfl, rfl, ?_, fun k hk hne => ?_⟩
    · unfold putCells; simp [e5]
    · rw [← hF, putCells_take _ _ (by rw [hF, e5]; omega), flatK_rf]
    · show w.heap.size ≤ ((w.heap.modify g _) ++ os).size
      simp
    · show ((w.heap.modify g _) ++ os)[k]? = _
      rw [Array.getElem?_append_left (by simpa using hk), Array.getElem?_modify, if_neg (fun e => hne e.symm)]
set_option maxRecDepth 100000 in
set_option maxHeartbeats 1000000 in
theorem sortfunc_any (v : Value) (xs : List Rf) (w : World) (h : OwnRf w v xs) (hsz : xs.length ≤ 1000000) :
    Calls Try.prog 50 #[v, .func (.func 42) #[] #[]] w fun e w' => e = .returned (.tuple #[]) ∧ OwnRf w' v (sortRs xs) ∧ KeepA (fun k => v.ownBlock = some k) w w' := by
  by_cases hp : 0 < xs.length
  · obtain ⟨g, cap, cur, rfl, h1, h2, h3, h4, h5, h6⟩ := h.at hp
    have hg : g < w.heap.size := (Array.getElem?_eq_some_iff.1 h3).1
    have hH : HoldsK rfC 2 w g 0 xs.toArray := fun j hj => by
      have hj : j < xs.length * 2 := by simpa using hj
      refine ⟨?_, by simpa using frozen_of_row w g (0 + j) _ _ h3⟩
      rw [Nat.zero_add, cell_of_row w g j cur _ (0, 0) h3, ← Array.getElem?_toList]
      have e1 : cur.toList[j]? = (cur.toList.take (xs.length * 2))[j]? := (List.getElem?_take_of_lt hj).symm
      rw [e1, h5, ← flatK_rf, Array.getElem?_toList, Array.getElem?_eq_getElem (by simpa using hj), getElem!_pos _ j (by simpa using hj)]
      rfl
    have eg : ∀ args w, (callFunc 42 args).run Try.prog w = .ok (.enter 42 args) w := enters_of Try.func42 (by kernel_rfl) rfl
    have hcon := AnyQ.slices_SortFunc_total sortRf 2 Try.isAgg25 Try.sizeOf25 rfC rfC_len (fun x u hu => rfC_one [x] u (by simpa using hu)) cfR swoR 42 #[] g 0 cap xs.toArray w eg (cmpLaysR g 0 _ w) hH hg (by simp; omega) (fun x y q1 q2 => totR.eq q1 q2)
    have hcon2 : Calls Try.prog 50 #[.slice (some ⟨g, 0, none⟩) xs.length cap, .func (.func 42) #[] #[]] w fun e w' => e = .returned (.tuple #[]) ∧ ∃ n os, w' = sortWorldK rfC 2 w g 0 n (sortRs xs).toArray os := by
      have := hcon
      simp only [List.size_toArray] at this
      exact this
    refine hcon2.mono ?_
    rintro e w' ⟨rfl, n, os, rfl⟩
    have hw := sort_world (ys := sortRs xs) h hp (sortRs_len xs) n os
    rw [sortRs_len] at hw
    exact ⟨rfl, hw.1, hw.2.mono fun k e => by subst e; rfl⟩
  · have e0 : xs = [] := List.eq_nil_of_length_eq_zero (by omega)
    subst e0
    obtain ⟨a, cap, hv, -⟩ := h.rd
    have hcon := AnyF.slices_SortFunc_none (P := Try.prog) (ρ := sortRf_ren) sortRf a cap (.func (.func 42) #[] #[]) w
    have hcon2 : Calls Try.prog 50 #[v, .func (.func 42) #[] #[]] w fun e w' => e = .returned (.tuple #[]) ∧ w' = w := by
      rw [hv]
      exact hcon
    refine hcon2.mono ?_
    rintro e w' ⟨rfl, rfl⟩
    exact ⟨rfl, by simpa [sortRs] using h, KeepA.refl _ _⟩
set_option maxRecDepth 100000 in
theorem sortedfunc_any (gf : Nat) (lb : Array Value) (eg : ∀ args w, (callFunc gf args).run Try.prog w = .ok (.enter gf args) w) (S : List Rf → Prop) (N : Nat) (hN : N ≤ 1000) (hS : ∀ xs, S xs → xs.length ≤ N) (w : World) (hseq : SeqStopsK Fence.wide 3 Try.prog gf lb argRf KeepsWalks S (fun _ => True) N w) :
    Calls Try.prog 40 #[.func (.func gf) #[] lb, .func (.func 42) #[] #[]] w fun e w' => ∃ v xs, e = .returned v ∧ S xs ∧ OwnRf w' v (sortRs xs) ∧ (∀ g, v.ownBlock = some g → w.heap.size ≤ g) ∧ Below w.heap.size w w' := by
  have HC : Hid (Calls Try.prog 49 #[.func (.func gf) #[] lb] w fun e w' => ∃ v xs, e = .returned v ∧ S xs ∧ OwnRf w' v xs ∧ (∀ g, v.ownBlock = some g → w.heap.size ≤ g) ∧ Below w.heap.size w w') := by
    have HA := Lib.hid (appseq_any gf lb eg S N hN w hseq)
    clear hseq eg
    refine Lib.hid ?_
    go_enter Try.func49, Try.ntmps49
    go_wp2_with (go_at_call 58; refine HA.out.mono ?_; rintro _ w2 ⟨v, xs, rfl, h1, h2, h3, h4⟩; have HR := Lib.hid (show ∃ v' xs, Ending.returned v = .returned v' ∧ S xs ∧ OwnRf w2 v' xs ∧ (∀ g, v'.ownBlock = some g → w.heap.size ≤ g) ∧ Below w.heap.size w w2 from ⟨v, xs, rfl, h1, h2, h3, h4⟩); clear h1 h2 h3 h4)
    go_ret
    exact HR.out
  have HS := Lib.hid hS
  clear hseq eg hS
  go_enter Try.func40, Try.ntmps40
  go_wp2_with (first
    | (go_at_call 49; refine HC.out.mono ?_; rintro _ w2 ⟨v, xs, rfl, h1, h2, h3, h4⟩; have H1 := Lib.hid h1; have H2 := Lib.hid h2; have H3 := Lib.hid h3; have H4 := Lib.hid h4; clear h1 h2 h3 h4)
    | (go_at_call 50; refine (sortfunc_any v xs w2 H2.out (by have := HS.out xs H1.out; omega)).mono ?_; rintro _ w3 ⟨rfl, g1, g2⟩; have G1 := Lib.hid g1; have G2 := Lib.hid g2; clear g1 g2))
  go_ret
  exact ⟨v, xs, rfl, H1.out, G1.out, H3.out, H4.out.trans (G2.out.below H4.out.size H3.out)⟩
/-- Rising versions. -/
def AscR (ks : List Rf) : Prop := ks.Pairwise fun a b => ltR a b = true
theorem AscR.nodup {ks : List Rf} (h : AscR ks) : ks.Nodup := List.Pairwise.imp (fun {a b} h e => by rw [e, totR.irr] at h; cases h) h
theorem sorted_eq : ∀ {l k : List Rf}, l.Perm k → l.Pairwise (fun a b => ltR b a = false) → k.Pairwise (fun a b => ltR b a = false) → l = k
  | [], k, hp, _, _ => (List.nil_perm.1 hp).symm ▸ rfl
  | a :: l, [], hp, _, _ => by simp at hp
  | a :: l, b :: k, hp, h1, h2 => by
    rw [List.pairwise_cons] at h1 h2
    have hab : a = b := by
      rcases List.mem_cons.1 (hp.mem_iff.1 List.mem_cons_self) with e | ha
      · exact e
      · rcases List.mem_cons.1 (hp.mem_iff.2 List.mem_cons_self) with e | hb
        · exact e.symm
        · exact totR.eq (h2.1 a ha) (h1.1 b hb)
    subst hab
    rw [sorted_eq (List.Perm.cons_inv hp) h1.2 h2.2]
theorem sortRs_eq {xs ks : List Rf} (h : AscR ks) (hn : xs.Nodup) (hm : ∀ k, k ∈ xs ↔ k ∈ ks) : sortRs xs = ks := by
  have hperm : xs.Perm ks := (List.perm_ext_iff_of_nodup hn h.nodup).2 hm
  refine sorted_eq ((List.mergeSort_perm xs _).trans hperm) ?_ (List.Pairwise.imp (fun {a b} h => totR.asym h) h)
  have := List.pairwise_mergeSort (le := fun x y => !ltR y x) (fun a b c h1 h2 => by
    simp only [Bool.not_eq_true'] at *
    exact totR.le_trans h1 h2) (fun a b => by
    cases hab : ltR a b with
    | true => simp [totR.asym hab]
    | false => simp) xs
  exact List.Pairwise.imp (fun {a b} h => by simpa using h) this
end Go.Proofs.Ytcakdjnnfonijaa
