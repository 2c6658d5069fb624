/- What came in, as a claim's frame tells it: lives. -/
import Derived.Test.YtmbpacpkabbcgaaWlOpenIn
import Derived.Test.YtmbpacpkabbcgaaWlSteps
namespace Go.Proofs.Ytmbpacpkabbcgaa
open Go.RowKit Go.ChangeShapes

section
variable {H : Type} {enc : TypeId × Value → H} {w : World} {base : Nat} {spare : Nat → Bool} {held : Bool} {fuel : Nat} {cs : List Value} {x : DataW H × List MemPlace}
set_option maxRecDepth 100000 in
theorem lf_open (h : DataW.trod enc Try.prog w base spare held fuel 59 cs = some x) : ∃ s : Lf, LfOk w s ∧ cs = lfC s := by
  have cS : Try.prog.cellsOf 59 = 3 := by kernel_rfl
  have cF : Try.prog.cellsOf 42 = 1 := by kernel_rfl
  have cT : Try.prog.cellsOf 24 = 1 := by kernel_rfl
  have cI : Try.prog.cellsOf 57 = 1 := by kernel_rfl
  obtain ⟨xs, n, rfl, rfl, hlen, hxs, hf⟩ := DataW.trod_struct Try.underlying59 h
  have f0 := hf 0 _ rfl
  have f1 := hf 1 _ rfl
  have f2 := hf 2 _ rfl
  rw [cS] at hlen
  have hx3 : xs.length = 3 := hxs
  obtain ⟨x0, x1, x2, rfl⟩ : ∃ x0 x1 x2, xs = [x0, x1, x2] := by
    match xs, hx3 with
    | [x0, x1, x2], _ => exact ⟨x0, x1, x2, rfl⟩
  obtain ⟨y0, y1, y2, rfl⟩ : ∃ y0 y1 y2, cs = [y0, y1, y2] := by
    match cs, hlen with
    | [y0, y1, y2], _ => exact ⟨y0, y1, y2, rfl⟩
  have g0 : DataW.trod enc Try.prog w base spare held n 42 (([y0, y1, y2].drop 0).take (Try.prog.cellsOf 42)) = some x0 := f0
  have g1 : DataW.trod enc Try.prog w base spare held n 24 (([y0, y1, y2].drop 1).take (Try.prog.cellsOf 24)) = some x1 := f1
  have g2 : DataW.trod enc Try.prog w base spare held n 57 (([y0, y1, y2].drop 2).take (Try.prog.cellsOf 57)) = some x2 := f2
  clear f0 f1 f2
  rw [cF] at g0
  rw [cT] at g1
  rw [cI] at g2
  obtain ⟨a1, n1, c1', l1, e1, h11, h12, h13, h14⟩ := fts_open g0
  obtain ⟨a2, n2, c2', l2, e2, h21, h22, h23, h24, h25⟩ := wss_open g1
  obtain ⟨a3, n3, c3', l3, e3, h31, h32, h33, h34, h35⟩ := ints_open g2
  obtain rfl : y0 = _ := (List.cons.inj e1).1
  obtain rfl : y1 = _ := (List.cons.inj e2).1
  obtain rfl : y2 = _ := (List.cons.inj e3).1
  subst h11
  subst h21
  subst h31
  exact ⟨⟨a1, l1, c1', a2, l2, c2', a3, l3, c3'⟩, ⟨h14, by dsimp only; omega, h25, by dsimp only; omega, fun s hs => (h24 s hs).2.2.2, h35, h32, by dsimp only; omega, h34⟩, rfl⟩
set_option maxRecDepth 100000 in
theorem lfs_open (h : DataW.trod enc Try.prog w base spare held fuel 54 cs = some x) : ∃ (a : Option Addr) (n c : Nat) (l : List Lf), cs = [.slice a n c] ∧ n = l.length ∧ n ≤ c ∧ c ≤ 9223372036854775807 ∧ RdLf w a l := by
  have c3 : Try.prog.cellsOf 59 = 3 := by kernel_rfl
  rcases Go.Deep.open_slice Try.underlying54 h with ⟨hcs, _⟩ | ⟨ad, len, cap, m, n, D, Pl, hcs, hb, hl, hm, hmm, _, hi⟩
  · exact ⟨none, 0, 0, [], hcs, rfl, Nat.le_refl _, by omega, .inl rfl⟩
  · rw [c3] at hi
    have hlm : len ≤ m := by rw [hmm]; split <;> omega
    obtain ⟨l, h1, h2⟩ := rows_open (k := 3) (Q := fun b o (s : {s : Lf // LfOk w s}) => LfAt w b o s.1) (fun cs' s => cs' = lfC s.1) (by omega) (fun i h => let ⟨cs', k1, k2⟩ := hi i (Nat.lt_of_lt_of_le h hlm); let ⟨z, k3, k4⟩ := lf_open k2; ⟨cs', k1, ⟨z, k3⟩, k4⟩)
      (fun b o f cs' e H => by subst e; exact ⟨H, f.2⟩)
    refine ⟨some ad, len, cap, l.map (·.1), hcs, by simp [h1], hl, hm, ?_⟩
    rcases h2 with h | ⟨b, off, ha, hlt, hi⟩
    · exact .inl (by rw [h]; rfl)
    · exact .inr ⟨b, off, ha, hlt, fun i hi' => by have := hi i (by simpa using hi'); simpa using this⟩
set_option maxRecDepth 100000 in
theorem lives_open (h : DataW.trod enc Try.prog w base spare held fuel 56 cs = some x) : ∃ (sz fr ln : Int) (la : Option Addr) (l : List Lf) (nl lc : Nat), cs = [.int .i64 sz, .int .i64 fr, .int .i64 ln, .slice la nl lc] ∧ nl = l.length ∧ nl ≤ 9223372036854775807 ∧ RdLf w la l := by
  have cS : Try.prog.cellsOf 56 = 4 := by kernel_rfl
  have c3 : Try.prog.cellsOf 23 = 3 := by kernel_rfl
  have cL : Try.prog.cellsOf 54 = 1 := by kernel_rfl
  obtain ⟨xs, n, rfl, rfl, hlen, hxs, hf⟩ := DataW.trod_struct Try.underlying56 h
  have f0 := hf 0 _ rfl
  have f1 := hf 1 _ rfl
  rw [cS] at hlen
  have hx2 : xs.length = 2 := hxs
  obtain ⟨x0, x1, rfl⟩ : ∃ x0 x1, xs = [x0, x1] := by
    match xs, hx2 with
    | [x0, x1], _ => exact ⟨x0, x1, rfl⟩
  obtain ⟨y0, y1, y2, y3, rfl⟩ : ∃ y0 y1 y2 y3, cs = [y0, y1, y2, y3] := by
    match cs, hlen with
    | [y0, y1, y2, y3], _ => exact ⟨y0, y1, y2, y3, rfl⟩
  have g0 : DataW.trod enc Try.prog w base spare held n 23 (([y0, y1, y2, y3].drop 0).take (Try.prog.cellsOf 23)) = some x0 := f0
  have g1 : DataW.trod enc Try.prog w base spare held n 54 (([y0, y1, y2, y3].drop 3).take (Try.prog.cellsOf 54)) = some x1 := f1
  clear f0 f1
  rw [c3] at g0
  rw [cL] at g1
  obtain ⟨z0, z1, z2, e0⟩ := log_open g0
  obtain ⟨a1, n1, c1', l1, e1, h11, h12, h13, h14⟩ := lfs_open g1
  have e0' : [y0, y1, y2] = [Value.int .i64 z0, .int .i64 z1, .int .i64 z2] := e0
  simp only [List.cons.injEq, and_true] at e0'
  obtain ⟨rfl, rfl, rfl⟩ := e0'
  obtain rfl : y3 = _ := (List.cons.inj e1).1
  exact ⟨z0, z1, z2, a1, l1, n1, c1', rfl, h11, by omega, h14⟩
end
end Go.Proofs.Ytmbpacpkabbcgaa
