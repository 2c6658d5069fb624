/- A value of a message that came in, as a claim's frame tells it, is a tree that can be read. -/
import Derived.Test.YtnpdnlnglahicaaGreatDoorPv
import Derived.Test.YtnpdnlnglahicaaGreatDoorProg
import Derived.ProofKit
import Derived.Deep.Slices
namespace Go.Proofs.YtnpdnlnglahicaaGreatDoor
open Go.RowKit Go.ChangeShapes

theorem list_of {α : Type} (Q : Nat → α → Prop) : ∀ n, (∀ i, i < n → ∃ x, Q i x) → ∃ l : List α, l.length = n ∧ ∀ i (h : i < l.length), Q i l[i] := by
  intro n
  induction n with
  | zero => intro _; exact ⟨[], rfl, fun i h => by simp at h⟩
  | succ n ih =>
    intro h
    obtain ⟨l, hl, hq⟩ := ih fun i hi => h i (by omega)
    obtain ⟨x, hx⟩ := h n (by omega)
    refine ⟨l ++ [x], by simp [hl], fun i hi => ?_⟩
    by_cases hin : i < l.length
    · rw [List.getElem_append_left hin]; exact hq i hin
    · have : i = n := by rw [List.length_append, hl] at hi; simp at hi; omega
      subst this
      rw [List.getElem_append_right (by omega)]
      simpa [hl] using hx
theorem rows_open {α : Type} {w : World} {base : Nat} {Q : Nat → Nat → α → Prop} {k len : Nat} {ad : Addr} (P' : List Value → α → Prop) (hk : 0 < k)
    (hi : ∀ i, i < len → ∃ cs', w.cells? base (ad.add (i * k)) k = some cs' ∧ ∃ f, P' cs' f)
    (hQ : ∀ b o f cs', P' cs' f → (∀ j v, cs'[j]? = some v → w.cell? ⟨b, o + j, none⟩ = some v) → Q b o f) : ∃ l : List α, l.length = len ∧ RowsAt w (some ad) k l Q := by
  obtain ⟨l, hl, hq⟩ := list_of (fun i f => ∃ cs', w.cells? base (ad.add (i * k)) k = some cs' ∧ P' cs' f) len fun i h => by
    obtain ⟨cs', h1, f, h2⟩ := hi i h
    exact ⟨f, cs', h1, h2⟩
  refine ⟨l, hl, ?_⟩
  by_cases h0 : l = []
  · exact .inl h0
  · have hp : 0 < l.length := List.length_pos_iff.2 h0
    obtain ⟨b, off, spot⟩ := ad
    obtain ⟨cs0, c0, _⟩ := hq 0 hp
    obtain ⟨_, hlen, hc⟩ := World.cells?_some c0
    have h00 := hc 0 hk
    rw [List.getElem?_eq_getElem (by omega)] at h00
    have hs : spot = none := by
      cases spot with
      | none => rfl
      | some s => simp only [Addr.add, World.cell?] at h00; split at h00 <;> simp at h00
    subst hs
    have hadd : ∀ i j, ((⟨b, off, none⟩ : Addr).add i).add j = ⟨b, off + i + j, none⟩ := fun i j => by
      rw [Go.Deep.add_add]; unfold Addr.add; split <;> simp_all; omega
    rw [hadd] at h00
    have hlt : b < w.heap.size := World.block_lt_of_cell? w _ h00
    refine .inr ⟨b, off, rfl, hlt, fun i h => ?_⟩
    obtain ⟨cs', c1, c2⟩ := hq i h
    obtain ⟨_, hlen1, hc1⟩ := World.cells?_some c1
    refine hQ _ _ _ _ c2 fun j v hv => ?_
    have hj : j < k := by rw [← hlen1]; exact (List.getElem?_eq_some_iff.1 hv).1
    have := hc1 j hj
    rw [hadd] at this
    rw [this]; exact hv
section
variable {H : Type} {enc : TypeId × Value → H} {w : World} {base : Nat} {spare : Nat → Bool} {held : Bool} {fuel : Nat} {cs : List Value} {x : DataW H × List MemPlace}
theorem str_data (s : ByteArray) : str s.data.toList = s := by simp [str]
set_option maxRecDepth 100000 in
theorem fd_open (h : DataW.trod enc Tryz.prog w base spare held fuel 46 cs = some x) : ∃ f : Fd, cs = [.int .i64 f.num, .int .i64 f.typ, .int .u64 f.word, .string (str f.bytes)] := by
  have c40 : Tryz.prog.cellsOf 46 = 4 := by kernel_rfl
  have c3 : Tryz.prog.cellsOf 3 = 1 := by kernel_rfl
  have c38 : Tryz.prog.cellsOf 44 = 1 := by kernel_rfl
  have c22 : Tryz.prog.cellsOf 22 = 1 := by kernel_rfl
  have c9 : Tryz.prog.cellsOf 9 = 1 := by kernel_rfl
  obtain ⟨xs, n, rfl, rfl, hlen, hxs, hf⟩ := DataW.trod_struct Tryz.underlying46 h
  have f0 := hf 0 _ rfl
  have f1 := hf 1 _ rfl
  have f2 := hf 2 _ rfl
  have f3 := hf 3 _ rfl
  rw [c40] at hlen
  have hx4 : xs.length = 4 := hxs
  obtain ⟨x0, x1, x2, x3, rfl⟩ : ∃ x0 x1 x2 x3, xs = [x0, x1, x2, x3] := by
    match xs, hx4 with
    | [x0, x1, x2, x3], _ => exact ⟨x0, x1, x2, x3, rfl⟩
  obtain ⟨y0, y1, y2, y3, rfl⟩ : ∃ y0 y1 y2 y3, cs = [y0, y1, y2, y3] := by
    match cs, hlen with
    | [y0, y1, y2, y3], _ => exact ⟨y0, y1, y2, y3, rfl⟩
  have g0 : DataW.trod enc Tryz.prog w base spare held n 3 (([y0, y1, y2, y3].drop 0).take (Tryz.prog.cellsOf 3)) = some x0 := f0
  have g1 : DataW.trod enc Tryz.prog w base spare held n 44 (([y0, y1, y2, y3].drop 1).take (Tryz.prog.cellsOf 44)) = some x1 := f1
  have g2 : DataW.trod enc Tryz.prog w base spare held n 22 (([y0, y1, y2, y3].drop 2).take (Tryz.prog.cellsOf 22)) = some x2 := f2
  have g3 : DataW.trod enc Tryz.prog w base spare held n 9 (([y0, y1, y2, y3].drop 3).take (Tryz.prog.cellsOf 9)) = some x3 := f3
  clear f0 f1 f2 f3
  rw [c3] at g0
  rw [c38] at g1
  rw [c22] at g2
  rw [c9] at g3
  obtain ⟨z0, e0, _, _⟩ := DataW.trod_int Tryz.underlying3 g0
  obtain ⟨z1, e1, _, _⟩ := DataW.trod_int Tryz.underlying44 g1
  obtain ⟨z2, e2, _, _⟩ := DataW.trod_int Tryz.underlying22 g2
  obtain ⟨s, e3, _, _⟩ := DataW.trod_string Tryz.underlying9 g3
  obtain rfl : y0 = _ := (List.cons.inj e0).1
  obtain rfl : y1 = _ := (List.cons.inj e1).1
  obtain rfl : y2 = _ := (List.cons.inj e2).1
  obtain rfl : y3 = _ := (List.cons.inj e3).1
  exact ⟨⟨z0, z1, z2, s.data.toList⟩, by rw [str_data]⟩
theorem fds_open (h : DataW.trod enc Tryz.prog w base spare held fuel 24 cs = some x) : ∃ (a : Option Addr) (n c : Nat) (l : List Fd), cs = [.slice a n c] ∧ n = l.length ∧ n ≤ c ∧ c ≤ 9223372036854775807 ∧ RdF w a l := by
  have c40 : Tryz.prog.cellsOf 46 = 4 := by kernel_rfl
  rcases Go.Deep.open_slice Tryz.underlying24 h with ⟨hcs, _⟩ | ⟨ad, len, cap, m, n, D, Pl, hcs, hb, hl, hm, hmm, _, hi⟩
  · exact ⟨none, 0, 0, [], hcs, rfl, Nat.le_refl _, by omega, .inl rfl⟩
  · rw [c40] at hi
    have hlm : len ≤ m := by rw [hmm]; split <;> omega
    obtain ⟨l, h1, h2⟩ := rows_open (k := 4) (Q := FdAt w) (fun cs' (f : Fd) => cs' = [.int .i64 f.num, .int .i64 f.typ, .int .u64 f.word, .string (str f.bytes)]) (by omega) (fun i h => let ⟨cs', k1, k2⟩ := hi i (Nat.lt_of_lt_of_le h hlm); ⟨cs', k1, fd_open k2⟩)
      (fun b o f cs' e H => by subst e; exact ⟨H 0 _ rfl, H 1 _ rfl, H 2 _ rfl, H 3 _ rfl⟩)
    exact ⟨some ad, len, cap, l, hcs, h1.symm, hl, hm, h2⟩
end
set_option maxRecDepth 100000 in
theorem val_open {H : Type} {enc : TypeId × Value → H} {w : World} {base : Nat} {spare : Nat → Bool} {held : Bool} : ∀ (k m : Nat), m ≤ k → ∀ (cs : List Value) (x : DataW H × List MemPlace), DataW.trod enc Tryz.prog w base spare held m 26 cs = some x → ∃ (t : PVT k) (h : Hd), cs = (hdV (wdT k t) (txT k t) h).toList ∧ Body w k h t
  | 0, m, hmk, cs, x, h => by
    obtain ⟨xs, n, rfl, _⟩ := DataW.trod_struct Tryz.underlying26 h
    omega
  | k + 1, m, hmk, cs, x, h => by
    have cV : Tryz.prog.cellsOf 26 = 4 := by kernel_rfl
    have cE : Tryz.prog.cellsOf 43 = 2 := by kernel_rfl
    have c3 : Tryz.prog.cellsOf 3 = 1 := by kernel_rfl
    have c22 : Tryz.prog.cellsOf 22 = 1 := by kernel_rfl
    have c9 : Tryz.prog.cellsOf 9 = 1 := by kernel_rfl
    have cL : Tryz.prog.cellsOf 30 = 1 := by kernel_rfl
    have cF : Tryz.prog.cellsOf 23 = 1 := by kernel_rfl
    have cW : Tryz.prog.cellsOf 24 = 1 := by kernel_rfl
    have hE : ∀ (n : Nat), n ≤ k + 1 → ∀ (cs : List Value) (x : DataW H × List MemPlace), DataW.trod enc Tryz.prog w base spare held n 43 cs = some x → ∃ (e : Int × List (PVT k)) (a : Option Addr) (l c : Nat), cs = [.int .i64 e.1, .slice a l c] ∧ LstAt w (Body w k) (wdT k) (txT k) a l c e.2 := by
      intro n hn cs x h
      obtain ⟨xs, n', rfl, rfl, hlen, hxs, hf⟩ := DataW.trod_struct Tryz.underlying43 h
      have f0 := hf 0 _ rfl
      have f1 := hf 1 _ rfl
      rw [cE] at hlen
      have hx2 : xs.length = 2 := hxs
      obtain ⟨x0, x1, rfl⟩ : ∃ x0 x1, xs = [x0, x1] := by
        match xs, hx2 with
        | [x0, x1], _ => exact ⟨x0, x1, rfl⟩
      obtain ⟨y0, y1, rfl⟩ : ∃ y0 y1, cs = [y0, y1] := by
        match cs, hlen with
        | [y0, y1], _ => exact ⟨y0, y1, rfl⟩
      have g0 : DataW.trod enc Tryz.prog w base spare held n' 3 (([y0, y1].drop 0).take (Tryz.prog.cellsOf 3)) = some x0 := f0
      have g1 : DataW.trod enc Tryz.prog w base spare held n' 30 (([y0, y1].drop 1).take (Tryz.prog.cellsOf 30)) = some x1 := f1
      clear f0 f1
      rw [c3] at g0
      rw [cL] at g1
      obtain ⟨z0, e0, _, _⟩ := DataW.trod_int Tryz.underlying3 g0
      obtain rfl : y0 = _ := (List.cons.inj e0).1
      have g1 : DataW.trod enc Tryz.prog w base spare held n' 30 [y1] = some x1 := g1
      rcases DataW.trod_slice Tryz.underlying30 g1 with ⟨hcs, _⟩ | ⟨ad, len, cap, elems, _, n3, hn3, hcs, _, _, hl, hm, hel, hi, _, _⟩
      · obtain rfl : y1 = _ := (List.cons.inj hcs).1
        exact ⟨(z0, []), none, 0, 0, rfl, rfl, Nat.le_refl _, by omega, .inl rfl⟩
      · obtain rfl : y1 = _ := (List.cons.inj hcs).1
        rw [cV] at hi
        obtain ⟨l, h1, h2⟩ := rows_open (k := 4) (Q := fun b o x => ∃ h, HdAt w b o (wdT k x) (txT k x) h ∧ Body w k h x) (fun cs' (t : PVT k) => ∃ h, cs' = (hdV (wdT k t) (txT k t) h).toList ∧ Body w k h t) (by omega)
          (fun i h => by
            have hii := hi i h
            rw [List.getElem?_eq_getElem (by omega)] at hii
            obtain ⟨cs', k1, k2⟩ := Option.bind_eq_some_iff.1 hii
            obtain ⟨t, h, k3, k4⟩ := val_open k n3 (by omega) cs' _ k2
            exact ⟨cs', k1, t, h, k3, k4⟩)
          (fun b o f cs' ⟨h, e, hB⟩ H => by subst e; exact ⟨h, ⟨H 0 _ rfl, H 1 _ rfl, H 2 _ rfl, H 3 _ rfl⟩, hB⟩)
        exact ⟨(z0, l), some ad, len, cap, rfl, h1.symm, hl, hm, h2⟩
    obtain ⟨xs, n, rfl, rfl, hlen, hxs, hf⟩ := DataW.trod_struct Tryz.underlying26 h
    have f0 := hf 0 _ rfl
    have f1 := hf 1 _ rfl
    have f2 := hf 2 _ rfl
    have f3 := hf 3 _ rfl
    rw [cV] at hlen
    have hx4 : xs.length = 4 := hxs
    obtain ⟨x0, x1, x2, x3, rfl⟩ : ∃ x0 x1 x2 x3, xs = [x0, x1, x2, x3] := by
      match xs, hx4 with
      | [x0, x1, x2, x3], _ => exact ⟨x0, x1, x2, x3, rfl⟩
    obtain ⟨y0, y1, y2, y3, rfl⟩ : ∃ y0 y1 y2 y3, cs = [y0, y1, y2, y3] := by
      match cs, hlen with
      | [y0, y1, y2, y3], _ => exact ⟨y0, y1, y2, y3, rfl⟩
    have g0 : DataW.trod enc Tryz.prog w base spare held n 22 (([y0, y1, y2, y3].drop 0).take (Tryz.prog.cellsOf 22)) = some x0 := f0
    have g1 : DataW.trod enc Tryz.prog w base spare held n 9 (([y0, y1, y2, y3].drop 1).take (Tryz.prog.cellsOf 9)) = some x1 := f1
    have g2 : DataW.trod enc Tryz.prog w base spare held n 23 (([y0, y1, y2, y3].drop 2).take (Tryz.prog.cellsOf 23)) = some x2 := f2
    have g3 : DataW.trod enc Tryz.prog w base spare held n 24 (([y0, y1, y2, y3].drop 3).take (Tryz.prog.cellsOf 24)) = some x3 := f3
    clear f0 f1 f2 f3
    rw [c22] at g0
    rw [c9] at g1
    rw [cF] at g2
    rw [cW] at g3
    obtain ⟨z0, e0, _, _⟩ := DataW.trod_int Tryz.underlying22 g0
    obtain ⟨s, e1, _, _⟩ := DataW.trod_string Tryz.underlying9 g1
    obtain ⟨a2, n2, c2, rs, e3, q1, q2, q3, q4⟩ := fds_open g3
    obtain rfl : y0 = _ := (List.cons.inj e0).1
    obtain rfl : y1 = _ := (List.cons.inj e1).1
    obtain rfl : y3 = _ := (List.cons.inj e3).1
    have g2 : DataW.trod enc Tryz.prog w base spare held n 23 [y2] = some x2 := g2
    rcases DataW.trod_slice Tryz.underlying23 g2 with ⟨hcs, _⟩ | ⟨ad, len, cap, elems, _, n3, hn3, hcs, _, _, hl, hm, hel, hi, _, _⟩
    · obtain rfl : y2 = _ := (List.cons.inj hcs).1
      exact ⟨(⟨z0, s.data.toList, [], rs⟩ : PN (PVT k)), ⟨none, 0, 0, a2, n2, c2⟩, by show _ = [_, Value.string (str s.data.toList), _, _]; rw [str_data]; rfl, rfl, Nat.le_refl _, by show 0 ≤ _; omega, q1, q2, q3, q4, .inl rfl⟩
    · obtain rfl : y2 = _ := (List.cons.inj hcs).1
      rw [cE] at hi
      obtain ⟨l, h1, h2⟩ := rows_open (k := 2) (Q := fun b o e => EntAt w (Body w k) (wdT k) (txT k) b o e) (fun cs' (e : Int × List (PVT k)) => ∃ a l c, cs' = [.int .i64 e.1, .slice a l c] ∧ LstAt w (Body w k) (wdT k) (txT k) a l c e.2) (by omega)
        (fun i h => by
          have hii := hi i h
          rw [List.getElem?_eq_getElem (by omega)] at hii
          obtain ⟨cs', k1, k2⟩ := Option.bind_eq_some_iff.1 hii
          obtain ⟨e, a, l, c, k3, k4⟩ := hE n3 (by omega) cs' _ k2
          exact ⟨cs', k1, e, a, l, c, k3, k4⟩)
        (fun b o f cs' ⟨a, l, c, e, hB⟩ H => by subst e; exact ⟨a, l, c, H 0 _ rfl, H 1 _ rfl, hB⟩)
      exact ⟨(⟨z0, s.data.toList, l, rs⟩ : PN (PVT k)), ⟨some ad, len, cap, a2, n2, c2⟩, by show _ = [_, Value.string (str s.data.toList), _, _]; rw [str_data]; rfl, h1.symm, hl, hm, q1, q2, q3, q4, h2⟩
end Go.Proofs.YtnpdnlnglahicaaGreatDoor
