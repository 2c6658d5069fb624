/- What came in, as a claim's frame tells it: a log's place, a script, lives. -/
import Derived.Test.YtmbpacpkabbcgaaWlSteps
import Derived.ProofKit
import Derived.Deep.Slices
namespace Go.Proofs.Ytmbpacpkabbcgaa
open Go.RowKit Go.ChangeShapes

theorem list_of {α : Type} (Q : Nat → α → Prop) : ∀ n, (∀ i, i < n → ∃ x, Q i x) → ∃ l : List α, l.length = n ∧ ∀ i (h : i < l.length), Q i l[i] := by
  intro n
  induction n with
  | zero => intro _; exact ⟨[], rfl, fun i h => by simp at h⟩
  | succ n ih =>
    intro h
    obtain ⟨l, hl, hq⟩ := ih fun i hi => h i (by omega)
    obtain ⟨x, hx⟩ := h n (by omega)
    refine ⟨l ++ [x], by simp [hl], fun i hi => ?_⟩
    by_cases hin : i < l.length
    · rw [List.getElem_append_left hin]; exact hq i hin
    · have : i = n := by rw [List.length_append, hl] at hi; simp at hi; omega
      subst this
      rw [List.getElem_append_right (by omega)]
      simpa [hl] using hx
theorem rows_open {α : Type} {w : World} {base : Nat} {Q : Nat → Nat → α → Prop} {k len : Nat} {ad : Addr} (P' : List Value → α → Prop) (hk : 0 < k)
    (hi : ∀ i, i < len → ∃ cs', w.cells? base (ad.add (i * k)) k = some cs' ∧ ∃ f, P' cs' f)
    (hQ : ∀ b o f cs', P' cs' f → (∀ j v, cs'[j]? = some v → w.cell? ⟨b, o + j, none⟩ = some v) → Q b o f) : ∃ l : List α, l.length = len ∧ RowsAt w (some ad) k l Q := by
  obtain ⟨l, hl, hq⟩ := list_of (fun i f => ∃ cs', w.cells? base (ad.add (i * k)) k = some cs' ∧ P' cs' f) len fun i h => by
    obtain ⟨cs', h1, f, h2⟩ := hi i h
    exact ⟨f, cs', h1, h2⟩
  refine ⟨l, hl, ?_⟩
  by_cases h0 : l = []
  · exact .inl h0
  · have hp : 0 < l.length := List.length_pos_iff.2 h0
    obtain ⟨b, off, spot⟩ := ad
    obtain ⟨cs0, c0, _⟩ := hq 0 hp
    obtain ⟨_, hlen, hc⟩ := World.cells?_some c0
    have h00 := hc 0 hk
    rw [List.getElem?_eq_getElem (by omega)] at h00
    have hs : spot = none := by
      cases spot with
      | none => rfl
      | some s => simp only [Addr.add, World.cell?] at h00; split at h00 <;> simp at h00
    subst hs
    have hadd : ∀ i j, ((⟨b, off, none⟩ : Addr).add i).add j = ⟨b, off + i + j, none⟩ := fun i j => by
      rw [Go.Deep.add_add]; unfold Addr.add; split <;> simp_all; omega
    rw [hadd] at h00
    have hlt : b < w.heap.size := World.block_lt_of_cell? w _ h00
    refine .inr ⟨b, off, rfl, hlt, fun i h => ?_⟩
    obtain ⟨cs', c1, c2⟩ := hq i h
    obtain ⟨_, hlen1, hc1⟩ := World.cells?_some c1
    refine hQ _ _ _ _ c2 fun j v hv => ?_
    have hj : j < k := by rw [← hlen1]; exact (List.getElem?_eq_some_iff.1 hv).1
    have := hc1 j hj
    rw [hadd] at this
    rw [this]; exact hv
section
variable {H : Type} {enc : TypeId × Value → H} {w : World} {base : Nat} {spare : Nat → Bool} {held : Bool} {fuel : Nat} {cs : List Value} {x : DataW H × List MemPlace}
theorem int_open (h : DataW.trod enc Try.prog w base spare held fuel 3 cs = some x) : ∃ z : Int, cs = [.int .i64 z] ∧ -9223372036854775808 ≤ z ∧ z ≤ 9223372036854775807 := by
  obtain ⟨z, e, _, w⟩ := DataW.trod_int Try.underlying3 h
  exact ⟨z, e, by simpa [Lit.wf, IntKind.min, IntKind.max, IntKind.bits, IntKind.signed] using w⟩
theorem kind_open (h : DataW.trod enc Try.prog w base spare held fuel 66 cs = some x) : ∃ z : Int, cs = [.int .i64 z] := by
  obtain ⟨z, e, _, _⟩ := DataW.trod_int Try.underlying66 h
  exact ⟨z, e⟩
theorem byte_open (h : DataW.trod enc Try.prog w base spare held fuel 5 cs = some x) : ∃ z : UInt8, cs = [bv z] := by
  obtain ⟨z, e, _, w⟩ := DataW.trod_int Try.underlying5 h
  have b : 0 ≤ z ∧ z ≤ 255 := by simpa [Lit.wf, IntKind.min, IntKind.max, IntKind.bits, IntKind.signed] using w
  refine ⟨UInt8.ofNat z.toNat, ?_⟩
  rw [e]
  unfold bv
  congr 2
  have : (UInt8.ofNat z.toNat).toNat = z.toNat := by rw [UInt8.toNat_ofNat']; omega
  rw [this]
  omega
theorem rd_of_rows1 {α : Type} {w : World} {a : Option Addr} {l : List α} (C : α → Value) (h : RowsAt w a 1 l (CellsAt w fun y => [C y])) : Rd w a (l.map C) := by
  rcases h with h | ⟨b, off, ha, hlt, hi⟩
  · exact .inl (by rw [h]; rfl)
  · refine .inr ⟨b, off, ha, hlt, fun k hk => ?_⟩
    have hk' : k < l.length := by simpa using hk
    have h1 := hi k hk' 0 (C l[k]) rfl
    rw [Nat.mul_one, Nat.add_zero] at h1
    rw [h1]
    simp
theorem ints_open (h : DataW.trod enc Try.prog w base spare held fuel 57 cs = some x) : ∃ (a : Option Addr) (n c : Nat) (l : List Int), cs = [.slice a n c] ∧ n = l.length ∧ n ≤ c ∧ c ≤ 9223372036854775807 ∧ (∀ z ∈ l, z < 9223372036854775808) ∧ RdI w a l := by
  have c3 : Try.prog.cellsOf 3 = 1 := by kernel_rfl
  rcases Go.Deep.open_slice Try.underlying57 h with ⟨hcs, _⟩ | ⟨ad, len, cap, m, n, D, Pl, hcs, hb, hl, hm, hmm, _, hi⟩
  · exact ⟨none, 0, 0, [], hcs, rfl, Nat.le_refl _, by omega, (fun z hz => by cases hz), .inl rfl⟩
  · rw [c3] at hi
    have hlm : len ≤ m := by rw [hmm]; split <;> omega
    obtain ⟨l, h1, h2⟩ := rows_open (k := 1) (Q := fun b o (z : {z : Int // z < 9223372036854775808}) => CellsAt w (fun z : {z : Int // z < 9223372036854775808} => [Value.int .i64 z.1]) b o z) (fun cs' z => cs' = [Value.int .i64 z.1]) (by omega) (fun i h => let ⟨cs', k1, k2⟩ := hi i (Nat.lt_of_lt_of_le h hlm); let ⟨z, k3, k4⟩ := int_open k2; ⟨cs', k1, ⟨z, by omega⟩, k3⟩)
      (fun b o f cs' e H => by subst e; exact H)
    refine ⟨some ad, len, cap, l.map (·.1), hcs, by simp [h1], hl, hm, fun z hz => ?_, ?_⟩
    · obtain ⟨y, _, rfl⟩ := List.mem_map.1 hz
      exact y.2
    · have := rd_of_rows1 (fun z : {z : Int // z < 9223372036854775808} => Value.int .i64 z.1) h2
      unfold RdI
      rw [List.map_map]
      exact this
theorem bys_open (h : DataW.trod enc Try.prog w base spare held fuel 41 cs = some x) : ∃ (a : Option Addr) (n c : Nat) (l : List UInt8), cs = [.slice a n c] ∧ n = l.length ∧ n ≤ c ∧ c ≤ 9223372036854775807 ∧ RdB w a l := by
  have c3 : Try.prog.cellsOf 5 = 1 := by kernel_rfl
  rcases Go.Deep.open_slice Try.underlying41 h with ⟨hcs, _⟩ | ⟨ad, len, cap, m, n, D, Pl, hcs, hb, hl, hm, hmm, _, hi⟩
  · exact ⟨none, 0, 0, [], hcs, rfl, Nat.le_refl _, by omega, .inl rfl⟩
  · rw [c3] at hi
    have hlm : len ≤ m := by rw [hmm]; split <;> omega
    obtain ⟨l, h1, h2⟩ := rows_open (k := 1) (Q := CellsAt w fun z => [bv z]) (fun cs' z => cs' = [bv z]) (by omega) (fun i h => let ⟨cs', k1, k2⟩ := hi i (Nat.lt_of_lt_of_le h hlm); let ⟨z, k3⟩ := byte_open k2; ⟨cs', k1, z, k3⟩)
      (fun b o f cs' e H => by subst e; exact H)
    exact ⟨some ad, len, cap, l, hcs, h1.symm, hl, hm, rd_of_rows1 bv h2⟩
set_option maxRecDepth 100000 in
theorem ft_open (h : DataW.trod enc Try.prog w base spare held fuel 68 cs = some x) : ∃ f : Ft, cs = ftC f := by
  have cF : Try.prog.cellsOf 68 = 2 := by kernel_rfl
  have c3 : Try.prog.cellsOf 3 = 1 := by kernel_rfl
  have c50 : Try.prog.cellsOf 66 = 1 := by kernel_rfl
  obtain ⟨xs, n, rfl, rfl, hlen, hxs, hf⟩ := DataW.trod_struct Try.underlying68 h
  have f0 := hf 0 _ rfl
  have f1 := hf 1 _ rfl
  rw [cF] at hlen
  have hx2 : xs.length = 2 := hxs
  obtain ⟨x0, x1, rfl⟩ : ∃ x0 x1, xs = [x0, x1] := by
    match xs, hx2 with
    | [x0, x1], _ => exact ⟨x0, x1, rfl⟩
  obtain ⟨y0, y1, rfl⟩ : ∃ y0 y1, cs = [y0, y1] := by
    match cs, hlen with
    | [y0, y1], _ => exact ⟨y0, y1, rfl⟩
  have g0 : DataW.trod enc Try.prog w base spare held n 66 (([y0, y1].drop 0).take (Try.prog.cellsOf 66)) = some x0 := f0
  have g1 : DataW.trod enc Try.prog w base spare held n 3 (([y0, y1].drop 1).take (Try.prog.cellsOf 3)) = some x1 := f1
  clear f0 f1
  rw [c50] at g0
  rw [c3] at g1
  obtain ⟨z0, e0⟩ := kind_open g0
  obtain ⟨z1, e1, _⟩ := int_open g1
  obtain rfl : y0 = _ := (List.cons.inj e0).1
  obtain rfl : y1 = _ := (List.cons.inj e1).1
  exact ⟨⟨z0, z1⟩, rfl⟩
set_option maxRecDepth 100000 in
theorem fts_open (h : DataW.trod enc Try.prog w base spare held fuel 42 cs = some x) : ∃ (a : Option Addr) (n c : Nat) (l : List Ft), cs = [.slice a n c] ∧ n = l.length ∧ n ≤ c ∧ c ≤ 9223372036854775807 ∧ RdFt w a l := by
  have c3 : Try.prog.cellsOf 68 = 2 := by kernel_rfl
  rcases Go.Deep.open_slice Try.underlying42 h with ⟨hcs, _⟩ | ⟨ad, len, cap, m, n, D, Pl, hcs, hb, hl, hm, hmm, _, hi⟩
  · exact ⟨none, 0, 0, [], hcs, rfl, Nat.le_refl _, by omega, .inl rfl⟩
  · rw [c3] at hi
    have hlm : len ≤ m := by rw [hmm]; split <;> omega
    obtain ⟨l, h1, h2⟩ := rows_open (k := 2) (Q := FtAt w) (fun cs' f => cs' = ftC f) (by omega) (fun i h => let ⟨cs', k1, k2⟩ := hi i (Nat.lt_of_lt_of_le h hlm); let ⟨z, k3⟩ := ft_open k2; ⟨cs', k1, z, k3⟩)
      (fun b o f cs' e H => by subst e; exact ⟨H 0 _ rfl, H 1 _ rfl⟩)
    exact ⟨some ad, len, cap, l, hcs, h1.symm, hl, hm, h2⟩
/-- A step that can be read. -/
def WsOk (w : World) (s : Ws) : Prop := RdB w s.ba s.bs ∧ s.bs.length ≤ s.bc ∧ RdFt w s.fa s.fs ∧ s.bs.length ≤ 9223372036854775807 ∧ s.fs.length ≤ 9223372036854775807
set_option maxRecDepth 100000 in
theorem ws_open (h : DataW.trod enc Try.prog w base spare held fuel 44 cs = some x) : ∃ s : Ws, WsOk w s ∧ cs = wsC s := by
  have cS : Try.prog.cellsOf 44 = 3 := by kernel_rfl
  have c3 : Try.prog.cellsOf 3 = 1 := by kernel_rfl
  have cB : Try.prog.cellsOf 41 = 1 := by kernel_rfl
  have cF : Try.prog.cellsOf 42 = 1 := by kernel_rfl
  obtain ⟨xs, n, rfl, rfl, hlen, hxs, hf⟩ := DataW.trod_struct Try.underlying44 h
  have f0 := hf 0 _ rfl
  have f1 := hf 1 _ rfl
  have f2 := hf 2 _ rfl
  rw [cS] at hlen
  have hx3 : xs.length = 3 := hxs
  obtain ⟨x0, x1, x2, rfl⟩ : ∃ x0 x1 x2, xs = [x0, x1, x2] := by
    match xs, hx3 with
    | [x0, x1, x2], _ => exact ⟨x0, x1, x2, rfl⟩
  obtain ⟨y0, y1, y2, rfl⟩ : ∃ y0 y1 y2, cs = [y0, y1, y2] := by
    match cs, hlen with
    | [y0, y1, y2], _ => exact ⟨y0, y1, y2, rfl⟩
  have g0 : DataW.trod enc Try.prog w base spare held n 3 (([y0, y1, y2].drop 0).take (Try.prog.cellsOf 3)) = some x0 := f0
  have g1 : DataW.trod enc Try.prog w base spare held n 41 (([y0, y1, y2].drop 1).take (Try.prog.cellsOf 41)) = some x1 := f1
  have g2 : DataW.trod enc Try.prog w base spare held n 42 (([y0, y1, y2].drop 2).take (Try.prog.cellsOf 42)) = some x2 := f2
  clear f0 f1 f2
  rw [c3] at g0
  rw [cB] at g1
  rw [cF] at g2
  obtain ⟨z0, e0, _⟩ := int_open g0
  obtain ⟨a3, n3, c3', l3, e3, h31, h32, h33, h34⟩ := bys_open g1
  obtain ⟨a4, n4, c4', l4, e4, h41, h42, h43, h44⟩ := fts_open g2
  obtain rfl : y0 = _ := (List.cons.inj e0).1
  obtain rfl : y1 = _ := (List.cons.inj e3).1
  obtain rfl : y2 = _ := (List.cons.inj e4).1
  subst h31
  subst h41
  exact ⟨⟨z0, a3, l3, c3', a4, l4, c4'⟩, ⟨h34, h32, h44, by dsimp only; omega, by dsimp only; omega⟩, rfl⟩
set_option maxRecDepth 100000 in
theorem wss_open (h : DataW.trod enc Try.prog w base spare held fuel 24 cs = some x) : ∃ (a : Option Addr) (n c : Nat) (l : List Ws), cs = [.slice a n c] ∧ n = l.length ∧ n ≤ c ∧ c ≤ 9223372036854775807 ∧ (∀ s ∈ l, WsOk w s) ∧ RdWs w a l := by
  have c3 : Try.prog.cellsOf 44 = 3 := by kernel_rfl
  rcases Go.Deep.open_slice Try.underlying24 h with ⟨hcs, _⟩ | ⟨ad, len, cap, m, n, D, Pl, hcs, hb, hl, hm, hmm, _, hi⟩
  · exact ⟨none, 0, 0, [], hcs, rfl, Nat.le_refl _, by omega, (fun s hs => by cases hs), .inl rfl⟩
  · rw [c3] at hi
    have hlm : len ≤ m := by rw [hmm]; split <;> omega
    obtain ⟨l, h1, h2⟩ := rows_open (k := 3) (Q := fun b o (s : {s : Ws // WsOk w s}) => WsAt w b o s.1) (fun cs' s => cs' = wsC s.1) (by omega) (fun i h => let ⟨cs', k1, k2⟩ := hi i (Nat.lt_of_lt_of_le h hlm); let ⟨z, k3, k4⟩ := ws_open k2; ⟨cs', k1, ⟨z, k3⟩, k4⟩)
      (fun b o f cs' e H => by subst e; exact ⟨H, f.2.1, f.2.2.1, f.2.2.2.1⟩)
    refine ⟨some ad, len, cap, l.map (·.1), hcs, by simp [h1], hl, hm, fun s hs => ?_, ?_⟩
    · obtain ⟨y, _, rfl⟩ := List.mem_map.1 hs
      exact y.2
    · rcases h2 with h | ⟨b, off, ha, hlt, hi⟩
      · exact .inl (by rw [h]; rfl)
      · exact .inr ⟨b, off, ha, hlt, fun i hi' => by have := hi i (by simpa using hi'); simpa using this⟩
set_option maxRecDepth 100000 in
theorem log_open (h : DataW.trod enc Try.prog w base spare held fuel 23 cs = some x) : ∃ sz fr ln : Int, cs = [.int .i64 sz, .int .i64 fr, .int .i64 ln] := by
  have cS : Try.prog.cellsOf 23 = 3 := by kernel_rfl
  have c3 : Try.prog.cellsOf 3 = 1 := by kernel_rfl
  obtain ⟨xs, n, rfl, rfl, hlen, hxs, hf⟩ := DataW.trod_struct Try.underlying23 h
  have f0 := hf 0 _ rfl
  have f1 := hf 1 _ rfl
  have f2 := hf 2 _ rfl
  rw [cS] at hlen
  have hx3 : xs.length = 3 := hxs
  obtain ⟨x0, x1, x2, rfl⟩ : ∃ x0 x1 x2, xs = [x0, x1, x2] := by
    match xs, hx3 with
    | [x0, x1, x2], _ => exact ⟨x0, x1, x2, rfl⟩
  obtain ⟨y0, y1, y2, rfl⟩ : ∃ y0 y1 y2, cs = [y0, y1, y2] := by
    match cs, hlen with
    | [y0, y1, y2], _ => exact ⟨y0, y1, y2, rfl⟩
  have g0 : DataW.trod enc Try.prog w base spare held n 3 (([y0, y1, y2].drop 0).take (Try.prog.cellsOf 3)) = some x0 := f0
  have g1 : DataW.trod enc Try.prog w base spare held n 3 (([y0, y1, y2].drop 1).take (Try.prog.cellsOf 3)) = some x1 := f1
  have g2 : DataW.trod enc Try.prog w base spare held n 3 (([y0, y1, y2].drop 2).take (Try.prog.cellsOf 3)) = some x2 := f2
  clear f0 f1 f2
  rw [c3] at g0 g1 g2
  obtain ⟨z0, e0, _⟩ := int_open g0
  obtain ⟨z1, e1, _⟩ := int_open g1
  obtain ⟨z2, e2, _⟩ := int_open g2
  obtain rfl : y0 = _ := (List.cons.inj e0).1
  obtain rfl : y1 = _ := (List.cons.inj e1).1
  obtain rfl : y2 = _ := (List.cons.inj e2).1
  exact ⟨z0, z1, z2, rfl⟩
theorem script_open (h : DataW.trod enc Try.prog w base spare held fuel 24 cs = some x) : ∃ (sa : Option Addr) (l : List Ws) (ns c : Nat), cs = [.slice sa ns c] ∧ ns = l.length ∧ ns ≤ 9223372036854775807 ∧ (∀ s ∈ l, s.bs.length ≤ 9223372036854775807 ∧ s.fs.length ≤ 9223372036854775807) ∧ RdWs w sa l := by
  obtain ⟨a, n, c, l, h1, h2, h3, h4, h5, h6⟩ := wss_open h
  exact ⟨a, l, n, c, h1, h2, Nat.le_trans h3 h4, fun s hs => ⟨(h5 s hs).2.2.2.1, (h5 s hs).2.2.2.2⟩, h6⟩
end
end Go.Proofs.Ytmbpacpkabbcgaa
