/- A version that came in is a text and a number. -/
import Derived.Test.YtcakdjnnfonijaaProg
import Derived.ProofKit
namespace Go.Proofs.Ytcakdjnnfonijaa
open Go.RowKit Go.ChangeShapes

set_option maxRecDepth 100000 in
theorem ref_open {H : Type} {enc : TypeId × Value → H} {w : World} {base : Nat} {spare : Nat → Bool} {held : Bool} {fuel : Nat} {cs : List Value} {x : DataW H × List MemPlace}
    (h : DataW.trod enc Try.prog w base spare held fuel 25 cs = some x) : ∃ (s : ByteArray) (n : Int), cs = [.string s, .int .i64 n] := by
  have c40 : Try.prog.cellsOf 25 = 2 := by kernel_rfl
  have c3 : Try.prog.cellsOf 3 = 1 := by kernel_rfl
  have c9 : Try.prog.cellsOf 9 = 1 := by kernel_rfl
  obtain ⟨xs, n, rfl, rfl, hlen, hxs, hf⟩ := DataW.trod_struct Try.underlying25 h
  have f0 := hf 0 _ rfl
  have f1 := hf 1 _ rfl
  rw [c40] at hlen
  have hx2 : xs.length = 2 := hxs
  obtain ⟨x0, x1, rfl⟩ : ∃ x0 x1, xs = [x0, x1] := by
    match xs, hx2 with
    | [x0, x1], _ => exact ⟨x0, x1, rfl⟩
  obtain ⟨y0, y1, rfl⟩ : ∃ y0 y1, cs = [y0, y1] := by
    match cs, hlen with
    | [y0, y1], _ => exact ⟨y0, y1, rfl⟩
  have g0 : DataW.trod enc Try.prog w base spare held n 9 (([y0, y1].drop 0).take (Try.prog.cellsOf 9)) = some x0 := f0
  have g1 : DataW.trod enc Try.prog w base spare held n 3 (([y0, y1].drop 1).take (Try.prog.cellsOf 3)) = some x1 := f1
  clear f0 f1
  rw [c9] at g0
  rw [c3] at g1
  obtain ⟨s, e0, _, _⟩ := DataW.trod_string Try.underlying9 g0
  obtain ⟨z, e1, _, _⟩ := DataW.trod_int Try.underlying3 g1
  obtain rfl : y0 = _ := (List.cons.inj e0).1
  obtain rfl : y1 = _ := (List.cons.inj e1).1
  exact ⟨s, z, rfl⟩
end Go.Proofs.Ytcakdjnnfonijaa
