/- A slice of fields that came in, as a claim's frame tells it, is a list of fields that can be read. -/
import Derived.Test.YtomfdiomakjeoaaWireBytes
import Derived.ProofKit
import Derived.Deep.Slices
namespace Go.Proofs.Ytomfdiomakjeoaa
open Go.RowKit Go.ChangeShapes

theorem list_of {α : Type} (Q : Nat → α → Prop) : ∀ n, (∀ i, i < n → ∃ x, Q i x) → ∃ l : List α, l.length = n ∧ ∀ i (h : i < l.length), Q i l[i] := by
  intro n
  induction n with
  | zero => intro _; exact ⟨[], rfl, fun i h => by simp at h⟩
  | succ n ih =>
    intro h
    obtain ⟨l, hl, hq⟩ := ih fun i hi => h i (by omega)
    obtain ⟨x, hx⟩ := h n (by omega)
    refine ⟨l ++ [x], by simp [hl], fun i hi => ?_⟩
    by_cases hin : i < l.length
    · rw [List.getElem_append_left hin]; exact hq i hin
    · have : i = n := by rw [List.length_append, hl] at hi; simp at hi; omega
      subst this
      rw [List.getElem_append_right (by omega)]
      simpa [hl] using hx
theorem fd_open {H : Type} {enc : TypeId × Value → H} {w : World} {base : Nat} {spare : Nat → Bool} {held : Bool} {fuel : Nat} {cs : List Value} {x : DataW H × List MemPlace}
    (h : DataW.trod enc Try.prog w base spare held fuel 40 cs = some x) : ∃ f : Fd, f.Ok ∧ cs = fdC f := by
  have c40 : Try.prog.cellsOf 40 = 4 := by kernel_rfl
  have c3 : Try.prog.cellsOf 3 = 1 := by kernel_rfl
  have c38 : Try.prog.cellsOf 38 = 1 := by kernel_rfl
  have c22 : Try.prog.cellsOf 22 = 1 := by kernel_rfl
  have c9 : Try.prog.cellsOf 9 = 1 := by kernel_rfl
  obtain ⟨xs, n, rfl, rfl, hlen, hxs, hf⟩ := DataW.trod_struct Try.underlying40 h
  have f0 := hf 0 _ rfl
  have f1 := hf 1 _ rfl
  have f2 := hf 2 _ rfl
  have f3 := hf 3 _ rfl
  rw [c40] at hlen
  have hx4 : xs.length = 4 := hxs
  obtain ⟨x0, x1, x2, x3, rfl⟩ : ∃ x0 x1 x2 x3, xs = [x0, x1, x2, x3] := by
    match xs, hx4 with
    | [x0, x1, x2, x3], _ => exact ⟨x0, x1, x2, x3, rfl⟩
  obtain ⟨y0, y1, y2, y3, rfl⟩ : ∃ y0 y1 y2 y3, cs = [y0, y1, y2, y3] := by
    match cs, hlen with
    | [y0, y1, y2, y3], _ => exact ⟨y0, y1, y2, y3, rfl⟩
  have g0 : DataW.trod enc Try.prog w base spare held n 3 (([y0, y1, y2, y3].drop 0).take (Try.prog.cellsOf 3)) = some x0 := f0
  have g1 : DataW.trod enc Try.prog w base spare held n 38 (([y0, y1, y2, y3].drop 1).take (Try.prog.cellsOf 38)) = some x1 := f1
  have g2 : DataW.trod enc Try.prog w base spare held n 22 (([y0, y1, y2, y3].drop 2).take (Try.prog.cellsOf 22)) = some x2 := f2
  have g3 : DataW.trod enc Try.prog w base spare held n 9 (([y0, y1, y2, y3].drop 3).take (Try.prog.cellsOf 9)) = some x3 := f3
  clear f0 f1 f2 f3
  rw [c3] at g0
  rw [c38] at g1
  rw [c22] at g2
  rw [c9] at g3
  obtain ⟨z0, e0, _, w0⟩ := DataW.trod_int Try.underlying3 g0
  obtain ⟨z1, e1, _, w1⟩ := DataW.trod_int Try.underlying38 g1
  obtain ⟨z2, e2, _, w2⟩ := DataW.trod_int Try.underlying22 g2
  obtain ⟨s, e3, _, _⟩ := DataW.trod_string Try.underlying9 g3
  obtain rfl : y0 = _ := (List.cons.inj e0).1
  obtain rfl : y1 = _ := (List.cons.inj e1).1
  obtain rfl : y2 = _ := (List.cons.inj e2).1
  obtain rfl : y3 = _ := (List.cons.inj e3).1
  have b0 : -9223372036854775808 ≤ z0 ∧ z0 ≤ 9223372036854775807 := by simpa [Lit.wf, IntKind.min, IntKind.max, IntKind.bits, IntKind.signed] using w0
  have b1 : -9223372036854775808 ≤ z1 ∧ z1 ≤ 9223372036854775807 := by simpa [Lit.wf, IntKind.min, IntKind.max, IntKind.bits, IntKind.signed] using w1
  have b2 : 0 ≤ z2 ∧ z2 ≤ 18446744073709551615 := by simpa [Lit.wf, IntKind.min, IntKind.max, IntKind.bits, IntKind.signed] using w2
  refine ⟨⟨z0, z1, z2.toNat, s.data.toList⟩, ⟨by dsimp only; omega, by dsimp only; omega, by dsimp only; omega, by dsimp only; omega, by dsimp only; omega⟩, ?_⟩
  have hs : str s.data.toList = s := by simp [str]
  unfold fdC
  dsimp only
  rw [Int.toNat_of_nonneg b2.1, hs]
theorem open_fields {H : Type} {enc : TypeId × Value → H} {w : World} {base : Nat} {spare : Nat → Bool} {held : Bool} {fuel : Nat} {a : Option Addr} {len cap : Nat} {x : DataW H × List MemPlace}
    (h : DataW.trod enc Try.prog w base spare held fuel 37 [.slice a len cap] = some x) : ∃ fs : List Fd, len = fs.length ∧ len ≤ cap ∧ (∀ f ∈ fs, f.Ok) ∧ RdF w a fs := by
  have c40 : Try.prog.cellsOf 40 = 4 := by kernel_rfl
  rcases Go.Deep.open_slice Try.underlying37 h with ⟨hcs, _⟩ | ⟨ad, len', cap', m, n, D, Pl, hcs, hb, hl, hm, hmm, _, hi⟩
  · simp at hcs
    obtain ⟨rfl, rfl, rfl⟩ := hcs
    exact ⟨[], rfl, Nat.le_refl _, by simp, .inl rfl⟩
  · simp at hcs
    obtain ⟨rfl, rfl, rfl⟩ := hcs
    rw [c40] at hi
    have hlm : len ≤ m := by rw [hmm]; split <;> omega
    obtain ⟨fs, hfl, hfs⟩ := list_of (fun i f => Fd.Ok f ∧ ∀ j v, (fdC f)[j]? = some v → w.cell? ((ad.add (i * 4)).add j) = some v) len fun i hi' => by
      obtain ⟨cs', hc, ht⟩ := hi i (by omega)
      obtain ⟨f, hok, rfl⟩ := fd_open ht
      refine ⟨f, hok, fun j v hv => ?_⟩
      unfold World.cells? at hc
      split at hc
      · have hj : j < 4 := (List.getElem?_eq_some_iff.1 hv).1
        have := mapM_some_get hc j j (by simp [hj])
        rw [this]
        exact hv
      · cases hc
    refine ⟨fs, hfl.symm, hl, fun f hf => ?_, ?_⟩
    · obtain ⟨i, hi', rfl⟩ := List.getElem_of_mem hf
      exact (hfs i hi').1
    · by_cases h0 : fs = []
      · subst h0; exact .inl rfl
      · have hp : 0 < fs.length := List.length_pos_iff.2 h0
        obtain ⟨b, off, spot⟩ := ad
        have c0 := (hfs 0 hp).2 0 _ rfl
        have hs : spot = none := by
          cases spot with
          | none => rfl
          | some s => simp only [Addr.add, World.cell?] at c0; split at c0 <;> simp at c0
        subst hs
        have hadd : ∀ i j, ((⟨b, off, none⟩ : Addr).add (i * 4)).add j = ⟨b, off + (i * 4 + j), none⟩ := fun i j => by
          rw [Go.Deep.add_add]; unfold Addr.add; split <;> simp_all
        refine .inr ⟨b, off, rfl, World.block_lt_of_cell? w _ c0, fun k hk => ?_⟩
        rw [fdsC_length] at hk
        have hdiv : k / 4 < fs.length := by omega
        have hmod : k % 4 < (fdC fs[k / 4]).length := Nat.mod_lt _ (by decide)
        have h1 := (hfs (k / 4) hdiv).2 (k % 4) _ (List.getElem?_eq_getElem hmod)
        have h2 := fdsC_get fs (k / 4) hdiv (k % 4) _ (List.getElem?_eq_getElem hmod)
        rw [hadd, show k / 4 * 4 + k % 4 = k by omega] at h1
        rw [show 4 * (k / 4) + k % 4 = k by omega] at h2
        rw [h1, ← h2]
        exact (List.getElem?_eq_getElem _)
end Go.Proofs.Ytomfdiomakjeoaa
