/- What came in, as a claim's frame tells it: a size, fates, a script, picks. -/
import Derived.Test.YtchdipakekglmaaDkPlay
import Derived.ProofKit
import Derived.Deep.Slices
namespace Go.Proofs.Ytchdipakekglmaa
open Go.RowKit Go.ChangeShapes

theorem list_of {α : Type} (Q : Nat → α → Prop) : ∀ n, (∀ i, i < n → ∃ x, Q i x) → ∃ l : List α, l.length = n ∧ ∀ i (h : i < l.length), Q i l[i] := by
  intro n
  induction n with
  | zero => intro _; exact ⟨[], rfl, fun i h => by simp at h⟩
  | succ n ih =>
    intro h
    obtain ⟨l, hl, hq⟩ := ih fun i hi => h i (by omega)
    obtain ⟨x, hx⟩ := h n (by omega)
    refine ⟨l ++ [x], by simp [hl], fun i hi => ?_⟩
    by_cases hin : i < l.length
    · rw [List.getElem_append_left hin]; exact hq i hin
    · have : i = n := by rw [List.length_append, hl] at hi; simp at hi; omega
      subst this
      rw [List.getElem_append_right (by omega)]
      simpa [hl] using hx
theorem rows_open {α : Type} {w : World} {base : Nat} {Q : Nat → Nat → α → Prop} {k len : Nat} {ad : Addr} (P' : List Value → α → Prop) (hk : 0 < k)
    (hi : ∀ i, i < len → ∃ cs', w.cells? base (ad.add (i * k)) k = some cs' ∧ ∃ f, P' cs' f)
    (hQ : ∀ b o f cs', P' cs' f → (∀ j v, cs'[j]? = some v → w.cell? ⟨b, o + j, none⟩ = some v) → Q b o f) : ∃ l : List α, l.length = len ∧ RowsAt w (some ad) k l Q := by
  obtain ⟨l, hl, hq⟩ := list_of (fun i f => ∃ cs', w.cells? base (ad.add (i * k)) k = some cs' ∧ P' cs' f) len fun i h => by
    obtain ⟨cs', h1, f, h2⟩ := hi i h
    exact ⟨f, cs', h1, h2⟩
  refine ⟨l, hl, ?_⟩
  by_cases h0 : l = []
  · exact .inl h0
  · have hp : 0 < l.length := List.length_pos_iff.2 h0
    obtain ⟨b, off, spot⟩ := ad
    obtain ⟨cs0, c0, _⟩ := hq 0 hp
    obtain ⟨_, hlen, hc⟩ := World.cells?_some c0
    have h00 := hc 0 hk
    rw [List.getElem?_eq_getElem (by omega)] at h00
    have hs : spot = none := by
      cases spot with
      | none => rfl
      | some s => simp only [Addr.add, World.cell?] at h00; split at h00 <;> simp at h00
    subst hs
    have hadd : ∀ i j, ((⟨b, off, none⟩ : Addr).add i).add j = ⟨b, off + i + j, none⟩ := fun i j => by
      rw [Go.Deep.add_add]; unfold Addr.add; split <;> simp_all; omega
    rw [hadd] at h00
    have hlt : b < w.heap.size := World.block_lt_of_cell? w _ h00
    refine .inr ⟨b, off, rfl, hlt, fun i h => ?_⟩
    obtain ⟨cs', c1, c2⟩ := hq i h
    obtain ⟨_, hlen1, hc1⟩ := World.cells?_some c1
    refine hQ _ _ _ _ c2 fun j v hv => ?_
    have hj : j < k := by rw [← hlen1]; exact (List.getElem?_eq_some_iff.1 hv).1
    have := hc1 j hj
    rw [hadd] at this
    rw [this]; exact hv
section
variable {H : Type} {enc : TypeId × Value → H} {w : World} {base : Nat} {spare : Nat → Bool} {held : Bool} {fuel : Nat} {cs : List Value} {x : DataW H × List MemPlace}
theorem int_open (h : DataW.trod enc Try.prog w base spare held fuel 3 cs = some x) : ∃ z : Int, cs = [.int .i64 z] ∧ -9223372036854775808 ≤ z ∧ z ≤ 9223372036854775807 := by
  obtain ⟨z, e, _, w⟩ := DataW.trod_int Try.underlying3 h
  exact ⟨z, e, by simpa [Lit.wf, IntKind.min, IntKind.max, IntKind.bits, IntKind.signed] using w⟩
theorem kind_open (h : DataW.trod enc Try.prog w base spare held fuel 50 cs = some x) : ∃ z : Int, cs = [.int .i64 z] := by
  obtain ⟨z, e, _, _⟩ := DataW.trod_int Try.underlying50 h
  exact ⟨z, e⟩
theorem byte_open (h : DataW.trod enc Try.prog w base spare held fuel 5 cs = some x) : ∃ z : UInt8, cs = [bv z] := by
  obtain ⟨z, e, _, w⟩ := DataW.trod_int Try.underlying5 h
  have b : 0 ≤ z ∧ z ≤ 255 := by simpa [Lit.wf, IntKind.min, IntKind.max, IntKind.bits, IntKind.signed] using w
  refine ⟨UInt8.ofNat z.toNat, ?_⟩
  rw [e]
  unfold bv
  congr 2
  have : (UInt8.ofNat z.toNat).toNat = z.toNat := by rw [UInt8.toNat_ofNat']; omega
  rw [this]
  omega
theorem rd_of_rows1 {α : Type} {w : World} {a : Option Addr} {l : List α} (C : α → Value) (h : RowsAt w a 1 l (CellsAt w fun y => [C y])) : Rd w a (l.map C) := by
  rcases h with h | ⟨b, off, ha, hlt, hi⟩
  · exact .inl (by rw [h]; rfl)
  · refine .inr ⟨b, off, ha, hlt, fun k hk => ?_⟩
    have hk' : k < l.length := by simpa using hk
    have h1 := hi k hk' 0 (C l[k]) rfl
    rw [Nat.mul_one, Nat.add_zero] at h1
    rw [h1]
    simp
theorem ints_open (h : DataW.trod enc Try.prog w base spare held fuel 24 cs = some x) : ∃ (a : Option Addr) (n c : Nat) (l : List Int), cs = [.slice a n c] ∧ n = l.length ∧ n ≤ c ∧ c ≤ 9223372036854775807 ∧ (∀ z ∈ l, z < 9223372036854775808) ∧ RdI w a l := by
  have c3 : Try.prog.cellsOf 3 = 1 := by kernel_rfl
  rcases Go.Deep.open_slice Try.underlying24 h with ⟨hcs, _⟩ | ⟨ad, len, cap, m, n, D, Pl, hcs, hb, hl, hm, hmm, _, hi⟩
  · exact ⟨none, 0, 0, [], hcs, rfl, Nat.le_refl _, by omega, (fun z hz => by cases hz), .inl rfl⟩
  · rw [c3] at hi
    have hlm : len ≤ m := by rw [hmm]; split <;> omega
    obtain ⟨l, h1, h2⟩ := rows_open (k := 1) (Q := fun b o (z : {z : Int // z < 9223372036854775808}) => CellsAt w (fun z : {z : Int // z < 9223372036854775808} => [Value.int .i64 z.1]) b o z) (fun cs' z => cs' = [Value.int .i64 z.1]) (by omega) (fun i h => let ⟨cs', k1, k2⟩ := hi i (Nat.lt_of_lt_of_le h hlm); let ⟨z, k3, k4⟩ := int_open k2; ⟨cs', k1, ⟨z, by omega⟩, k3⟩)
      (fun b o f cs' e H => by subst e; exact H)
    refine ⟨some ad, len, cap, l.map (·.1), hcs, by simp [h1], hl, hm, fun z hz => ?_, ?_⟩
    · obtain ⟨y, _, rfl⟩ := List.mem_map.1 hz
      exact y.2
    · have := rd_of_rows1 (fun z : {z : Int // z < 9223372036854775808} => Value.int .i64 z.1) h2
      unfold RdI
      rw [List.map_map]
      exact this
theorem bys_open (h : DataW.trod enc Try.prog w base spare held fuel 39 cs = some x) : ∃ (a : Option Addr) (n c : Nat) (l : List UInt8), cs = [.slice a n c] ∧ n = l.length ∧ n ≤ c ∧ c ≤ 9223372036854775807 ∧ RdB w a l := by
  have c3 : Try.prog.cellsOf 5 = 1 := by kernel_rfl
  rcases Go.Deep.open_slice Try.underlying39 h with ⟨hcs, _⟩ | ⟨ad, len, cap, m, n, D, Pl, hcs, hb, hl, hm, hmm, _, hi⟩
  · exact ⟨none, 0, 0, [], hcs, rfl, Nat.le_refl _, by omega, .inl rfl⟩
  · rw [c3] at hi
    have hlm : len ≤ m := by rw [hmm]; split <;> omega
    obtain ⟨l, h1, h2⟩ := rows_open (k := 1) (Q := CellsAt w fun z => [bv z]) (fun cs' z => cs' = [bv z]) (by omega) (fun i h => let ⟨cs', k1, k2⟩ := hi i (Nat.lt_of_lt_of_le h hlm); let ⟨z, k3⟩ := byte_open k2; ⟨cs', k1, z, k3⟩)
      (fun b o f cs' e H => by subst e; exact H)
    exact ⟨some ad, len, cap, l, hcs, h1.symm, hl, hm, rd_of_rows1 bv h2⟩
theorem ft_open (h : DataW.trod enc Try.prog w base spare held fuel 52 cs = some x) : ∃ f : Ft, cs = ftC f := by
  have cF : Try.prog.cellsOf 52 = 2 := by kernel_rfl
  have c3 : Try.prog.cellsOf 3 = 1 := by kernel_rfl
  have c50 : Try.prog.cellsOf 50 = 1 := by kernel_rfl
  obtain ⟨xs, n, rfl, rfl, hlen, hxs, hf⟩ := DataW.trod_struct Try.underlying52 h
  have f0 := hf 0 _ rfl
  have f1 := hf 1 _ rfl
  rw [cF] at hlen
  have hx2 : xs.length = 2 := hxs
  obtain ⟨x0, x1, rfl⟩ : ∃ x0 x1, xs = [x0, x1] := by
    match xs, hx2 with
    | [x0, x1], _ => exact ⟨x0, x1, rfl⟩
  obtain ⟨y0, y1, rfl⟩ : ∃ y0 y1, cs = [y0, y1] := by
    match cs, hlen with
    | [y0, y1], _ => exact ⟨y0, y1, rfl⟩
  have g0 : DataW.trod enc Try.prog w base spare held n 50 (([y0, y1].drop 0).take (Try.prog.cellsOf 50)) = some x0 := f0
  have g1 : DataW.trod enc Try.prog w base spare held n 3 (([y0, y1].drop 1).take (Try.prog.cellsOf 3)) = some x1 := f1
  clear f0 f1
  rw [c50] at g0
  rw [c3] at g1
  obtain ⟨z0, e0⟩ := kind_open g0
  obtain ⟨z1, e1, _⟩ := int_open g1
  obtain rfl : y0 = _ := (List.cons.inj e0).1
  obtain rfl : y1 = _ := (List.cons.inj e1).1
  exact ⟨⟨z0, z1⟩, rfl⟩
theorem fts_open (h : DataW.trod enc Try.prog w base spare held fuel 22 cs = some x) : ∃ (a : Option Addr) (n c : Nat) (l : List Ft), cs = [.slice a n c] ∧ n = l.length ∧ n ≤ c ∧ c ≤ 9223372036854775807 ∧ RdFt w a l := by
  have c3 : Try.prog.cellsOf 52 = 2 := by kernel_rfl
  rcases Go.Deep.open_slice Try.underlying22 h with ⟨hcs, _⟩ | ⟨ad, len, cap, m, n, D, Pl, hcs, hb, hl, hm, hmm, _, hi⟩
  · exact ⟨none, 0, 0, [], hcs, rfl, Nat.le_refl _, by omega, .inl rfl⟩
  · rw [c3] at hi
    have hlm : len ≤ m := by rw [hmm]; split <;> omega
    obtain ⟨l, h1, h2⟩ := rows_open (k := 2) (Q := FtAt w) (fun cs' f => cs' = ftC f) (by omega) (fun i h => let ⟨cs', k1, k2⟩ := hi i (Nat.lt_of_lt_of_le h hlm); let ⟨z, k3⟩ := ft_open k2; ⟨cs', k1, z, k3⟩)
      (fun b o f cs' e H => by subst e; exact ⟨H 0 _ rfl, H 1 _ rfl⟩)
    exact ⟨some ad, len, cap, l, hcs, h1.symm, hl, hm, h2⟩
/-- A step that can be read. -/
def SpOk (w : World) (s : Sp) : Prop := RdB w s.ba s.bs ∧ s.bs.length ≤ s.bc ∧ RdFt w s.fa s.fs ∧ s.bs.length ≤ 9223372036854775807 ∧ s.fs.length ≤ 9223372036854775807 ∧ s.pn ≤ 9223372036854775807
set_option maxRecDepth 100000 in
theorem sp_open (h : DataW.trod enc Try.prog w base spare held fuel 49 cs = some x) : ∃ s : Sp, SpOk w s ∧ cs = spC s := by
  have cS : Try.prog.cellsOf 49 = 6 := by kernel_rfl
  have c3 : Try.prog.cellsOf 3 = 1 := by kernel_rfl
  have cB : Try.prog.cellsOf 39 = 1 := by kernel_rfl
  have cF : Try.prog.cellsOf 22 = 1 := by kernel_rfl
  have cI : Try.prog.cellsOf 24 = 1 := by kernel_rfl
  obtain ⟨xs, n, rfl, rfl, hlen, hxs, hf⟩ := DataW.trod_struct Try.underlying49 h
  have f0 := hf 0 _ rfl
  have f1 := hf 1 _ rfl
  have f2 := hf 2 _ rfl
  have f3 := hf 3 _ rfl
  have f4 := hf 4 _ rfl
  have f5 := hf 5 _ rfl
  rw [cS] at hlen
  have hx6 : xs.length = 6 := hxs
  obtain ⟨x0, x1, x2, x3, x4, x5, rfl⟩ : ∃ x0 x1 x2 x3 x4 x5, xs = [x0, x1, x2, x3, x4, x5] := by
    match xs, hx6 with
    | [x0, x1, x2, x3, x4, x5], _ => exact ⟨x0, x1, x2, x3, x4, x5, rfl⟩
  obtain ⟨y0, y1, y2, y3, y4, y5, rfl⟩ : ∃ y0 y1 y2 y3 y4 y5, cs = [y0, y1, y2, y3, y4, y5] := by
    match cs, hlen with
    | [y0, y1, y2, y3, y4, y5], _ => exact ⟨y0, y1, y2, y3, y4, y5, rfl⟩
  have g0 : DataW.trod enc Try.prog w base spare held n 3 (([y0, y1, y2, y3, y4, y5].drop 0).take (Try.prog.cellsOf 3)) = some x0 := f0
  have g1 : DataW.trod enc Try.prog w base spare held n 3 (([y0, y1, y2, y3, y4, y5].drop 1).take (Try.prog.cellsOf 3)) = some x1 := f1
  have g2 : DataW.trod enc Try.prog w base spare held n 3 (([y0, y1, y2, y3, y4, y5].drop 2).take (Try.prog.cellsOf 3)) = some x2 := f2
  have g3 : DataW.trod enc Try.prog w base spare held n 39 (([y0, y1, y2, y3, y4, y5].drop 3).take (Try.prog.cellsOf 39)) = some x3 := f3
  have g4 : DataW.trod enc Try.prog w base spare held n 22 (([y0, y1, y2, y3, y4, y5].drop 4).take (Try.prog.cellsOf 22)) = some x4 := f4
  have g5 : DataW.trod enc Try.prog w base spare held n 24 (([y0, y1, y2, y3, y4, y5].drop 5).take (Try.prog.cellsOf 24)) = some x5 := f5
  clear f0 f1 f2 f3 f4 f5
  rw [c3] at g0 g1 g2
  rw [cB] at g3
  rw [cF] at g4
  rw [cI] at g5
  obtain ⟨z0, e0, _⟩ := int_open g0
  obtain ⟨z1, e1, _⟩ := int_open g1
  obtain ⟨z2, e2, _⟩ := int_open g2
  obtain ⟨a3, n3, c3', l3, e3, h31, h32, h33, h34⟩ := bys_open g3
  obtain ⟨a4, n4, c4', l4, e4, h41, h42, h43, h44⟩ := fts_open g4
  obtain ⟨a5, n5, c5', l5, e5, h51, h52, h53, h54, h55⟩ := ints_open g5
  obtain rfl : y0 = _ := (List.cons.inj e0).1
  obtain rfl : y1 = _ := (List.cons.inj e1).1
  obtain rfl : y2 = _ := (List.cons.inj e2).1
  obtain rfl : y3 = _ := (List.cons.inj e3).1
  obtain rfl : y4 = _ := (List.cons.inj e4).1
  obtain rfl : y5 = _ := (List.cons.inj e5).1
  subst h31
  subst h41
  exact ⟨⟨z0, z1, z2, a3, l3, c3', a4, l4, c4', a5, n5, c5'⟩, ⟨h34, h32, h44, by dsimp only; omega, by dsimp only; omega, by dsimp only; omega⟩, rfl⟩
theorem sps_open (h : DataW.trod enc Try.prog w base spare held fuel 23 cs = some x) : ∃ (a : Option Addr) (n c : Nat) (l : List Sp), cs = [.slice a n c] ∧ n = l.length ∧ n ≤ c ∧ c ≤ 9223372036854775807 ∧ (∀ s ∈ l, SpOk w s) ∧ RdSt w a l := by
  have c3 : Try.prog.cellsOf 49 = 6 := by kernel_rfl
  rcases Go.Deep.open_slice Try.underlying23 h with ⟨hcs, _⟩ | ⟨ad, len, cap, m, n, D, Pl, hcs, hb, hl, hm, hmm, _, hi⟩
  · exact ⟨none, 0, 0, [], hcs, rfl, Nat.le_refl _, by omega, (fun s hs => by cases hs), .inl rfl⟩
  · rw [c3] at hi
    have hlm : len ≤ m := by rw [hmm]; split <;> omega
    obtain ⟨l, h1, h2⟩ := rows_open (k := 6) (Q := fun b o (s : {s : Sp // SpOk w s}) => StAt w b o s.1) (fun cs' s => cs' = spC s.1) (by omega) (fun i h => let ⟨cs', k1, k2⟩ := hi i (Nat.lt_of_lt_of_le h hlm); let ⟨z, k3, k4⟩ := sp_open k2; ⟨cs', k1, ⟨z, k3⟩, k4⟩)
      (fun b o f cs' e H => by subst e; exact ⟨H, f.2.1, f.2.2.1, f.2.2.2.1⟩)
    refine ⟨some ad, len, cap, l.map (·.1), hcs, by simp [h1], hl, hm, fun s hs => ?_, ?_⟩
    · obtain ⟨y, _, rfl⟩ := List.mem_map.1 hs
      exact y.2
    · rcases h2 with h | ⟨b, off, ha, hlt, hi⟩
      · exact .inl (by rw [h]; rfl)
      · exact .inr ⟨b, off, ha, hlt, fun i hi' => by have := hi i (by simpa using hi'); simpa using this⟩
set_option maxRecDepth 100000 in
theorem crash_open (h : DataW.trod enc Try.prog w base spare held fuel 26 cs = some x) : ∃ (sz : Int) (fa : Option Addr) (fs : List Ft) (nf cf : Nat) (sa : Option Addr) (l : List Sp) (ns cs' : Nat) (pa : Option Addr) (ps : List Int) (np cp : Nat),
    cs = [.int .i64 sz, .slice fa nf cf, .slice sa ns cs', .slice pa np cp] ∧ nf = fs.length ∧ nf ≤ 9223372036854775807 ∧ RdFt w fa fs ∧ ns = l.length ∧ ns ≤ 9223372036854775807 ∧ (∀ s ∈ l, s.bs.length ≤ 9223372036854775807 ∧ s.fs.length ≤ 9223372036854775807 ∧ s.pn ≤ 9223372036854775807) ∧ RdSt w sa l ∧
    np = ps.length ∧ np ≤ 9223372036854775807 ∧ np ≤ cp ∧ (∀ z ∈ ps, z < 9223372036854775808) ∧ RdI w pa ps := by
  have cS : Try.prog.cellsOf 26 = 4 := by kernel_rfl
  have c3 : Try.prog.cellsOf 3 = 1 := by kernel_rfl
  have cF : Try.prog.cellsOf 22 = 1 := by kernel_rfl
  have cT : Try.prog.cellsOf 23 = 1 := by kernel_rfl
  have cI : Try.prog.cellsOf 24 = 1 := by kernel_rfl
  obtain ⟨xs, n, rfl, rfl, hlen, hxs, hf⟩ := DataW.trod_struct Try.underlying26 h
  have f0 := hf 0 _ rfl
  have f1 := hf 1 _ rfl
  have f2 := hf 2 _ rfl
  have f3 := hf 3 _ rfl
  rw [cS] at hlen
  have hx4 : xs.length = 4 := hxs
  obtain ⟨x0, x1, x2, x3, rfl⟩ : ∃ x0 x1 x2 x3, xs = [x0, x1, x2, x3] := by
    match xs, hx4 with
    | [x0, x1, x2, x3], _ => exact ⟨x0, x1, x2, x3, rfl⟩
  obtain ⟨y0, y1, y2, y3, rfl⟩ : ∃ y0 y1 y2 y3, cs = [y0, y1, y2, y3] := by
    match cs, hlen with
    | [y0, y1, y2, y3], _ => exact ⟨y0, y1, y2, y3, rfl⟩
  have g0 : DataW.trod enc Try.prog w base spare held n 3 (([y0, y1, y2, y3].drop 0).take (Try.prog.cellsOf 3)) = some x0 := f0
  have g1 : DataW.trod enc Try.prog w base spare held n 22 (([y0, y1, y2, y3].drop 1).take (Try.prog.cellsOf 22)) = some x1 := f1
  have g2 : DataW.trod enc Try.prog w base spare held n 23 (([y0, y1, y2, y3].drop 2).take (Try.prog.cellsOf 23)) = some x2 := f2
  have g3 : DataW.trod enc Try.prog w base spare held n 24 (([y0, y1, y2, y3].drop 3).take (Try.prog.cellsOf 24)) = some x3 := f3
  clear f0 f1 f2 f3
  rw [c3] at g0
  rw [cF] at g1
  rw [cT] at g2
  rw [cI] at g3
  obtain ⟨z0, e0, _⟩ := int_open g0
  obtain ⟨a1, n1, c1', l1, e1, h11, h12, h13, h14⟩ := fts_open g1
  obtain ⟨a2, n2, c2', l2, e2, h21, h22, h23, h24, h25⟩ := sps_open g2
  obtain ⟨a3, n3, c3', l3, e3, h31, h32, h33, h34, h35⟩ := ints_open g3
  obtain rfl : y0 = _ := (List.cons.inj e0).1
  obtain rfl : y1 = _ := (List.cons.inj e1).1
  obtain rfl : y2 = _ := (List.cons.inj e2).1
  obtain rfl : y3 = _ := (List.cons.inj e3).1
  exact ⟨z0, a1, l1, n1, c1', a2, l2, n2, c2', a3, l3, n3, c3', rfl, h11, by omega, h14, h21, by omega, fun s hs => (h24 s hs).2.2.2, h25, h31, by omega, h32, h34, h35⟩
end
end Go.Proofs.Ytchdipakekglmaa
