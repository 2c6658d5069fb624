/- Links that came in. -/
import Derived.Test.YtcakdjnnfonijaaRoLo
import Derived.Test.YtcakdjnnfonijaaRefOpen
import Derived.ProofKit
import Derived.Deep.Slices
namespace Go.Proofs.Ytcakdjnnfonijaa
open Go.RowKit Go.ChangeShapes

theorem list_of {α : Type} (Q : Nat → α → Prop) : ∀ n, (∀ i, i < n → ∃ x, Q i x) → ∃ l : List α, l.length = n ∧ ∀ i (h : i < l.length), Q i l[i] := by
  intro n
  induction n with
  | zero => intro _; exact ⟨[], rfl, fun i h => by simp at h⟩
  | succ n ih =>
    intro h
    obtain ⟨l, hl, hq⟩ := ih fun i hi => h i (by omega)
    obtain ⟨x, hx⟩ := h n (by omega)
    refine ⟨l ++ [x], by simp [hl], fun i hi => ?_⟩
    by_cases hin : i < l.length
    · rw [List.getElem_append_left hin]; exact hq i hin
    · have : i = n := by rw [List.length_append, hl] at hi; simp at hi; omega
      subst this
      rw [List.getElem_append_right (by omega)]
      simpa [hl] using hx
theorem rows_open {α : Type} {w : World} {base : Nat} {Q : Nat → Nat → α → Prop} {k len : Nat} {ad : Addr} (P' : List Value → α → Prop) (hk : 0 < k)
    (hi : ∀ i, i < len → ∃ cs', w.cells? base (ad.add (i * k)) k = some cs' ∧ ∃ f, P' cs' f)
    (hQ : ∀ b o f cs', P' cs' f → (∀ j v, cs'[j]? = some v → w.cell? ⟨b, o + j, none⟩ = some v) → Q b o f) : ∃ l : List α, l.length = len ∧ RowsAt w (some ad) k l Q := by
  obtain ⟨l, hl, hq⟩ := list_of (fun i f => ∃ cs', w.cells? base (ad.add (i * k)) k = some cs' ∧ P' cs' f) len fun i h => by
    obtain ⟨cs', h1, f, h2⟩ := hi i h
    exact ⟨f, cs', h1, h2⟩
  refine ⟨l, hl, ?_⟩
  by_cases h0 : l = []
  · exact .inl h0
  · have hp : 0 < l.length := List.length_pos_iff.2 h0
    obtain ⟨b, off, spot⟩ := ad
    obtain ⟨cs0, c0, _⟩ := hq 0 hp
    obtain ⟨_, hlen, hc⟩ := World.cells?_some c0
    have h00 := hc 0 hk
    rw [List.getElem?_eq_getElem (by omega)] at h00
    have hs : spot = none := by
      cases spot with
      | none => rfl
      | some s => simp only [Addr.add, World.cell?] at h00; split at h00 <;> simp at h00
    subst hs
    have hadd : ∀ i j, ((⟨b, off, none⟩ : Addr).add i).add j = ⟨b, off + i + j, none⟩ := fun i j => by
      rw [Go.Deep.add_add]; unfold Addr.add; split <;> simp_all; omega
    rw [hadd] at h00
    have hlt : b < w.heap.size := World.block_lt_of_cell? w _ h00
    refine .inr ⟨b, off, rfl, hlt, fun i h => ?_⟩
    obtain ⟨cs', c1, c2⟩ := hq i h
    obtain ⟨_, hlen1, hc1⟩ := World.cells?_some c1
    refine hQ _ _ _ _ c2 fun j v hv => ?_
    have hj : j < k := by rw [← hlen1]; exact (List.getElem?_eq_some_iff.1 hv).1
    have := hc1 j hj
    rw [hadd] at this
    rw [this]; exact hv
section
variable {H : Type} {enc : TypeId × Value → H} {w : World} {base : Nat} {spare : Nat → Bool} {held : Bool} {fuel : Nat} {cs : List Value} {x : DataW H × List MemPlace}
set_option maxRecDepth 100000 in
theorem refs_open (h : DataW.trod enc Try.prog w base spare held fuel 26 cs = some x) : ∃ (a : Option Addr) (n c : Nat) (l : List Rf), cs = [.slice a n c] ∧ n = l.length ∧ n ≤ c ∧ c ≤ 9223372036854775807 ∧ RdRf w a l := by
  have c3 : Try.prog.cellsOf 25 = 2 := by kernel_rfl
  rcases Go.Deep.open_slice Try.underlying26 h with ⟨hcs, _⟩ | ⟨ad, len, cap, m, n, D, Pl, hcs, hb, hl, hm, hmm, _, hi⟩
  · exact ⟨none, 0, 0, [], hcs, rfl, Nat.le_refl _, by omega, .inl rfl⟩
  · rw [c3] at hi
    have hlm : len ≤ m := by rw [hmm]; split <;> omega
    obtain ⟨l, h1, h2⟩ := rows_open (k := 2) (Q := CellsAt w rfC) (fun cs' (f : Rf) => cs' = rfC f) (by omega) (fun i h => let ⟨cs', k1, k2⟩ := hi i (Nat.lt_of_lt_of_le h hlm); let ⟨s, z, k3⟩ := ref_open k2; ⟨cs', k1, (s, z), k3⟩)
      (fun b o f cs' e H => by subst e; exact H)
    exact ⟨some ad, len, cap, l, hcs, h1.symm, hl, hm, h2⟩
end
end Go.Proofs.Ytcakdjnnfonijaa
