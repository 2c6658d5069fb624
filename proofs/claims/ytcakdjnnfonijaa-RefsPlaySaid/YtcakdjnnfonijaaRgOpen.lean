/- A script that came in. -/
import Derived.Test.YtcakdjnnfonijaaRgStep
import Derived.Test.YtcakdjnnfonijaaRoOpen
namespace Go.Proofs.Ytcakdjnnfonijaa
open Go.RowKit Go.ChangeShapes

section
variable {H : Type} {enc : TypeId × Value → H} {w : World} {base : Nat} {spare : Nat → Bool} {held : Bool} {fuel : Nat} {cs : List Value} {x : DataW H × List MemPlace}
def StOk (w : World) (s : St) : Prop := RdRf w s.ta s.ts ∧ s.ts.length ≤ s.tc ∧ s.ts.length ≤ 9223372036854775807
set_option maxRecDepth 100000 in
theorem st_open (h : DataW.trod enc Try.prog w base spare held fuel 44 cs = some x) : ∃ s : St, StOk w s ∧ cs = stC s := by
  have cS : Try.prog.cellsOf 44 = 4 := by kernel_rfl
  have c1 : Try.prog.cellsOf 3 = 1 := by kernel_rfl
  have c3 : Try.prog.cellsOf 25 = 2 := by kernel_rfl
  have cB : Try.prog.cellsOf 26 = 1 := by kernel_rfl
  obtain ⟨xs, n, rfl, rfl, hlen, hxs, hf⟩ := DataW.trod_struct Try.underlying44 h
  have f0 := hf 0 _ rfl
  have f1 := hf 1 _ rfl
  have f2 := hf 2 _ rfl
  rw [cS] at hlen
  have hx2 : xs.length = 3 := hxs
  obtain ⟨x0, x1, x2, rfl⟩ : ∃ x0 x1 x2, xs = [x0, x1, x2] := by
    match xs, hx2 with
    | [x0, x1, x2], _ => exact ⟨x0, x1, x2, rfl⟩
  obtain ⟨y0, y1, y2, y3, rfl⟩ : ∃ y0 y1 y2 y3, cs = [y0, y1, y2, y3] := by
    match cs, hlen with
    | [y0, y1, y2, y3], _ => exact ⟨y0, y1, y2, y3, rfl⟩
  have g0 : DataW.trod enc Try.prog w base spare held n 3 (([y0, y1, y2, y3].drop 0).take (Try.prog.cellsOf 3)) = some x0 := f0
  have g1 : DataW.trod enc Try.prog w base spare held n 25 (([y0, y1, y2, y3].drop 1).take (Try.prog.cellsOf 25)) = some x1 := f1
  have g2 : DataW.trod enc Try.prog w base spare held n 26 (([y0, y1, y2, y3].drop 3).take (Try.prog.cellsOf 26)) = some x2 := f2
  clear f0 f1 f2
  rw [c1] at g0
  rw [c3] at g1
  rw [cB] at g2
  obtain ⟨z0, e0, _, _⟩ := DataW.trod_int Try.underlying3 g0
  obtain ⟨s, z, e1⟩ := ref_open g1
  obtain ⟨a3, n3, c3', l3, e3, h31, h32, h33, h34⟩ := refs_open g2
  obtain rfl : y0 = _ := (List.cons.inj e0).1
  have e1' : [y1, y2] = [Value.string s, .int .i64 z] := e1
  simp only [List.cons.injEq, and_true] at e1'
  obtain ⟨rfl, rfl⟩ := e1'
  obtain rfl : y3 = _ := (List.cons.inj e3).1
  subst h31
  exact ⟨⟨z0, (s, z), a3, l3, c3'⟩, ⟨h34, h32, by dsimp only; omega⟩, rfl⟩
set_option maxRecDepth 100000 in
theorem sts_open (h : DataW.trod enc Try.prog w base spare held fuel 36 cs = some x) : ∃ (a : Option Addr) (n c : Nat) (l : List St), cs = [.slice a n c] ∧ n = l.length ∧ n ≤ c ∧ c ≤ 9223372036854775807 ∧ RdSt w a l := by
  have c3 : Try.prog.cellsOf 44 = 4 := by kernel_rfl
  rcases Go.Deep.open_slice Try.underlying36 h with ⟨hcs, _⟩ | ⟨ad, len, cap, m, n, D, Pl, hcs, hb, hl, hm, hmm, _, hi⟩
  · exact ⟨none, 0, 0, [], hcs, rfl, Nat.le_refl _, by omega, .inl rfl⟩
  · rw [c3] at hi
    have hlm : len ≤ m := by rw [hmm]; split <;> omega
    obtain ⟨l, h1, h2⟩ := rows_open (k := 4) (Q := fun b o (s : {s : St // StOk w s}) => StAt w b o s.1) (fun cs' s => cs' = stC s.1) (by omega) (fun i h => let ⟨cs', k1, k2⟩ := hi i (Nat.lt_of_lt_of_le h hlm); let ⟨z, k3, k4⟩ := st_open k2; ⟨cs', k1, ⟨z, k3⟩, k4⟩)
      (fun b o f cs' e H => by subst e; exact ⟨H, f.2.1, f.2.2.1, f.2.2.2⟩)
    refine ⟨some ad, len, cap, l.map (·.1), hcs, by simp [h1], hl, hm, ?_⟩
    rcases h2 with h | ⟨b, off, ha, hlt, hi⟩
    · exact .inl (by rw [h]; rfl)
    · exact .inr ⟨b, off, ha, hlt, fun i hi' => by have := hi i (by simpa using hi'); simpa using this⟩
end
end Go.Proofs.Ytcakdjnnfonijaa
