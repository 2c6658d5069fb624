/- What came in, as a claim's frame tells it, is a name, two keys and bytes that can be read. -/
import Derived.Test.YtlchnfjbcefkoaaGreatTabKey
import Derived.ProofKit
import Derived.Deep.Slices
namespace Go.Proofs.YtlchnfjbcefkoaaGreat
open Go.RowKit Go.ChangeShapes

theorem list_of {α : Type} (Q : Nat → α → Prop) : ∀ n, (∀ i, i < n → ∃ x, Q i x) → ∃ l : List α, l.length = n ∧ ∀ i (h : i < l.length), Q i l[i] := by
  intro n
  induction n with
  | zero => intro _; exact ⟨[], rfl, fun i h => by simp at h⟩
  | succ n ih =>
    intro h
    obtain ⟨l, hl, hq⟩ := ih fun i hi => h i (by omega)
    obtain ⟨x, hx⟩ := h n (by omega)
    refine ⟨l ++ [x], by simp [hl], fun i hi => ?_⟩
    by_cases hin : i < l.length
    · rw [List.getElem_append_left hin]; exact hq i hin
    · have : i = n := by rw [List.length_append, hl] at hi; simp at hi; omega
      subst this
      rw [List.getElem_append_right (by omega)]
      simpa [hl] using hx
section
variable {H : Type} {enc : TypeId × Value → H} {w : World} {base : Nat} {held : Bool} {fuel : Nat} {cs : List Value} {x : DataW H × List MemPlace}
set_option maxRecDepth 100000 in
theorem pt_open {spare : Nat → Bool} (h : DataW.trod enc Tryz.prog w base spare held fuel 42 cs = some x) : ∃ p : Pt, p.Ok ∧ cs = ptC p := by
  have c42 : Tryz.prog.cellsOf 42 = 3 := by kernel_rfl
  have c9 : Tryz.prog.cellsOf 9 = 1 := by kernel_rfl
  have c2 : Tryz.prog.cellsOf 2 = 1 := by kernel_rfl
  have c4 : Tryz.prog.cellsOf 4 = 1 := by kernel_rfl
  obtain ⟨xs, n, rfl, rfl, hlen, hxs, hf⟩ := DataW.trod_struct Tryz.underlying42 h
  have f0 := hf 0 _ rfl
  have f1 := hf 1 _ rfl
  have f2 := hf 2 _ rfl
  rw [c42] at hlen
  have hx3 : xs.length = 3 := hxs
  obtain ⟨x0, x1, x2, rfl⟩ : ∃ x0 x1 x2, xs = [x0, x1, x2] := by
    match xs, hx3 with
    | [x0, x1, x2], _ => exact ⟨x0, x1, x2, rfl⟩
  obtain ⟨y0, y1, y2, rfl⟩ : ∃ y0 y1 y2, cs = [y0, y1, y2] := by
    match cs, hlen with
    | [y0, y1, y2], _ => exact ⟨y0, y1, y2, rfl⟩
  have g0 : DataW.trod enc Tryz.prog w base spare held n 9 (([y0, y1, y2].drop 0).take (Tryz.prog.cellsOf 9)) = some x0 := f0
  have g1 : DataW.trod enc Tryz.prog w base spare held n 2 (([y0, y1, y2].drop 1).take (Tryz.prog.cellsOf 2)) = some x1 := f1
  have g2 : DataW.trod enc Tryz.prog w base spare held n 4 (([y0, y1, y2].drop 2).take (Tryz.prog.cellsOf 4)) = some x2 := f2
  clear f0 f1 f2
  rw [c9] at g0
  rw [c2] at g1
  rw [c4] at g2
  obtain ⟨s, e0, _, _⟩ := DataW.trod_string Tryz.underlying9 g0
  obtain ⟨z, e1, _, w1⟩ := DataW.trod_int Tryz.underlying2 g1
  obtain ⟨i, e2, _⟩ := DataW.trod_bool Tryz.underlying4 g2
  obtain rfl : y0 = _ := (List.cons.inj e0).1
  obtain rfl : y1 = _ := (List.cons.inj e1).1
  obtain rfl : y2 = _ := (List.cons.inj e2).1
  have b1 : -9223372036854775808 ≤ z ∧ z ≤ 9223372036854775807 := by simpa [Lit.wf, IntKind.min, IntKind.max, IntKind.bits, IntKind.signed] using w1
  refine ⟨⟨s.data.toList, z, i⟩, b1, ?_⟩
  have hs : str s.data.toList = s := by simp [str]
  unfold ptC
  dsimp only
  rw [hs]
theorem pts_open {spare : Nat → Bool} (h : DataW.trod enc Tryz.prog w base spare held fuel 22 cs = some x) : ∃ (a : Option Addr) (len cap : Nat) (ps : List Pt), cs = [.slice a len cap] ∧ len = ps.length ∧ len ≤ cap ∧ (∀ p ∈ ps, p.Ok) ∧ RdP w a ps := by
  have c42 : Tryz.prog.cellsOf 42 = 3 := by kernel_rfl
  rcases Go.Deep.open_slice Tryz.underlying22 h with ⟨hcs, _⟩ | ⟨ad, len, cap, m, n, D, Pl, hcs, hb, hl, hm, hmm, _, hi⟩
  · exact ⟨none, 0, 0, [], hcs, rfl, Nat.le_refl _, by simp, .inl rfl⟩
  · rw [c42] at hi
    have hlm : len ≤ m := by rw [hmm]; split <;> omega
    obtain ⟨fs, hfl, hfs⟩ := list_of (fun i f => Pt.Ok f ∧ ∀ j v, (ptC f)[j]? = some v → w.cell? ((ad.add (i * 3)).add j) = some v) len fun i hi' => by
      obtain ⟨cs', hc, ht⟩ := hi i (by omega)
      obtain ⟨f, hok, rfl⟩ := pt_open ht
      refine ⟨f, hok, fun j v hv => ?_⟩
      unfold World.cells? at hc
      split at hc
      · have hj : j < 3 := (List.getElem?_eq_some_iff.1 hv).1
        have := mapM_some_get hc j j (by simp [hj])
        rw [this]
        exact hv
      · cases hc
    refine ⟨some ad, len, cap, fs, hcs, hfl.symm, hl, fun f hf => ?_, ?_⟩
    · obtain ⟨i, hi', rfl⟩ := List.getElem_of_mem hf
      exact (hfs i hi').1
    · by_cases h0 : fs = []
      · subst h0; exact .inl rfl
      · have hp : 0 < fs.length := List.length_pos_iff.2 h0
        obtain ⟨b, off, spot⟩ := ad
        have c0 := (hfs 0 hp).2 0 _ rfl
        have hs : spot = none := by
          cases spot with
          | none => rfl
          | some s => simp only [Addr.add, World.cell?] at c0; split at c0 <;> simp at c0
        subst hs
        have hadd : ∀ i j, ((⟨b, off, none⟩ : Addr).add (i * 3)).add j = ⟨b, off + (i * 3 + j), none⟩ := fun i j => by
          rw [Go.Deep.add_add]; unfold Addr.add; split <;> simp_all
        refine .inr ⟨b, off, rfl, World.block_lt_of_cell? w _ c0, fun k hk => ?_⟩
        rw [ptsC_length] at hk
        have hdiv : k / 3 < fs.length := by omega
        have hmod : k % 3 < (ptC fs[k / 3]).length := Nat.mod_lt _ (by decide)
        have h1 := (hfs (k / 3) hdiv).2 (k % 3) _ (List.getElem?_eq_getElem hmod)
        have h2 := ptsC_get fs (k / 3) hdiv (k % 3) _ (List.getElem?_eq_getElem hmod)
        rw [hadd, show k / 3 * 3 + k % 3 = k by omega] at h1
        rw [show 3 * (k / 3) + k % 3 = k by omega] at h2
        rw [h1, ← h2]
        exact (List.getElem?_eq_getElem _)
theorem bytes_open (h : DataW.trod enc Tryz.prog w base (fun _ => true) held fuel 23 cs = some x) : ∃ (a : Option Addr) (len cap : Nat) (l : List UInt8), cs = [.slice a len cap] ∧ len = l.length ∧ len ≤ cap ∧ RdB w a l := by
  rcases open_ints Tryz.underlying23 Tryz.underlying5 (by kernel_rfl) h with ⟨hcs, _⟩ | ⟨ad, len, cap, zs, hcs, _, hl, hm, hz, _, hcell, hwz⟩
  · exact ⟨none, 0, 0, [], hcs, rfl, Nat.le_refl _, .inl rfl⟩
  · obtain ⟨l, h1, h2, _, h4⟩ := rows_bytes (w := w) (a := some ad) (len := len) (cap := cap) (zs := zs) (.inr ⟨ad, rfl, hl, hm, by simpa using hz, hcell, hwz⟩)
    exact ⟨some ad, len, cap, l, hcs, h1, h2, h4⟩
set_option maxRecDepth 100000 in
theorem keys_open (h : DataW.trod enc Tryz.prog w base (fun _ => true) held fuel 25 cs = some x) : ∃ (t : List UInt8) (a a2 a3 : Option Addr) (n cap n2 cap2 n3 cap3 : Nat) (ps qs : List Pt) (b : List UInt8),
    cs = [.string (str t), .slice a n cap, .slice a2 n2 cap2, .slice a3 n3 cap3] ∧ n = ps.length ∧ n ≤ cap ∧ (∀ p ∈ ps, p.Ok) ∧ RdP w a ps ∧ n2 = qs.length ∧ n2 ≤ cap2 ∧ (∀ p ∈ qs, p.Ok) ∧ RdP w a2 qs ∧ n3 = b.length ∧ n3 ≤ cap3 ∧ RdB w a3 b := by
  have cK : Tryz.prog.cellsOf 25 = 4 := by kernel_rfl
  have c9 : Tryz.prog.cellsOf 9 = 1 := by kernel_rfl
  have cP : Tryz.prog.cellsOf 22 = 1 := by kernel_rfl
  have cB : Tryz.prog.cellsOf 23 = 1 := by kernel_rfl
  obtain ⟨xs, n, rfl, rfl, hlen, hxs, hf⟩ := DataW.trod_struct Tryz.underlying25 h
  have f0 := hf 0 _ rfl
  have f1 := hf 1 _ rfl
  have f2 := hf 2 _ rfl
  have f3 := hf 3 _ rfl
  rw [cK] at hlen
  have hx4 : xs.length = 4 := hxs
  obtain ⟨x0, x1, x2, x3, rfl⟩ : ∃ x0 x1 x2 x3, xs = [x0, x1, x2, x3] := by
    match xs, hx4 with
    | [x0, x1, x2, x3], _ => exact ⟨x0, x1, x2, x3, rfl⟩
  obtain ⟨y0, y1, y2, y3, rfl⟩ : ∃ y0 y1 y2 y3, cs = [y0, y1, y2, y3] := by
    match cs, hlen with
    | [y0, y1, y2, y3], _ => exact ⟨y0, y1, y2, y3, rfl⟩
  have g0 : DataW.trod enc Tryz.prog w base (fun _ => true) held n 9 (([y0, y1, y2, y3].drop 0).take (Tryz.prog.cellsOf 9)) = some x0 := f0
  have g1 : DataW.trod enc Tryz.prog w base (fun _ => true) held n 22 (([y0, y1, y2, y3].drop 1).take (Tryz.prog.cellsOf 22)) = some x1 := f1
  have g2 : DataW.trod enc Tryz.prog w base (fun _ => true) held n 22 (([y0, y1, y2, y3].drop 2).take (Tryz.prog.cellsOf 22)) = some x2 := f2
  have g3 : DataW.trod enc Tryz.prog w base (fun _ => true) held n 23 (([y0, y1, y2, y3].drop 3).take (Tryz.prog.cellsOf 23)) = some x3 := f3
  clear f0 f1 f2 f3
  rw [c9] at g0
  rw [cP] at g1 g2
  rw [cB] at g3
  obtain ⟨s, e0, _, _⟩ := DataW.trod_string Tryz.underlying9 g0
  obtain ⟨a, n1, cap, ps, e1, h11, h12, h13, h14⟩ := pts_open g1
  obtain ⟨a2, n2, cap2, qs, e2, h21, h22, h23, h24⟩ := pts_open g2
  obtain ⟨a3, n3, cap3, b, e3, h31, h32, h33⟩ := bytes_open g3
  obtain rfl : y0 = _ := (List.cons.inj e0).1
  obtain rfl : y1 = _ := (List.cons.inj e1).1
  obtain rfl : y2 = _ := (List.cons.inj e2).1
  obtain rfl : y3 = _ := (List.cons.inj e3).1
  exact ⟨s.data.toList, a, a2, a3, n1, cap, n2, cap2, n3, cap3, ps, qs, b, by rw [show str s.data.toList = s by simp [str]], h11, h12, h13, h14, h21, h22, h23, h24, h31, h32, h33⟩
end
end Go.Proofs.YtlchnfjbcefkoaaGreat
