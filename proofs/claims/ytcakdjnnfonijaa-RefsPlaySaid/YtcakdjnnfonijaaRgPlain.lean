/- RefsPlay's plain law: what a script keeps true of the links. -/
import Derived.Test.YtcakdjnnfonijaaRgMClo
namespace Go.Proofs.Ytcakdjnnfonijaa
open Go.RowKit

theorem mem_insD {D : List (Rf × List Rf)} {v : Rf} {tg : List Rf} (x : Rf × List Rf) : x ∈ insD D v tg ↔ x = (v, tg) ∨ x ∈ D := by
  unfold insD
  rw [List.mem_append, List.mem_cons]
  have h : x ∈ D ↔ x ∈ D.take (insN D v) ∨ x ∈ D.drop (insN D v) := by
    rw [← List.mem_append, List.take_append_drop]
  rw [h]
  constructor
  · rintro (h | h | h)
    · exact .inr (.inl h)
    · exact .inl h
    · exact .inr (.inr h)
  · rintro (h | h | h)
    · exact .inr (.inl h)
    · exact .inl h
    · exact .inr (.inr h)
theorem asc_insD {D : List (Rf × List Rf)} {v : Rf} {tg : List Rf} (h : AscR (D.map (·.1))) (hv : v ∉ D.map (·.1)) : AscR ((insD D v tg).map (·.1)) := by
  obtain ⟨n, hn⟩ : ∃ n, insN D v = n := ⟨_, rfl⟩
  have e : (insD D v tg).map (·.1) = (D.map (·.1)).take n ++ v :: (D.map (·.1)).drop n := by
    unfold insD
    rw [hn, List.map_append, List.map_cons, List.map_take, List.map_drop]
  have hb : ∀ k (hk : k < D.length), k < n → ltR D[k].1 v = true := fun k hk hkn => by
    have := List.not_of_lt_findIdx (p := fun x : Rf × List Rf => !decide (cmpR x.1.1 v.1 x.1.2 v.2 < 0)) (xs := D) (i := k) (by rw [← hn] at hkn; exact hkn)
    simpa [ltR] using this
  have ha : ∀ (hk : n < D.length), ltR v D[n].1 = true := fun hk => by
    have h1 : ltR D[n].1 v = false := by
      have h2 := List.findIdx_getElem (p := fun x : Rf × List Rf => !decide (cmpR x.1.1 v.1 x.1.2 v.2 < 0)) (xs := D) (w := by rw [← hn] at hk; exact hk)
      have h3 : (!decide (cmpR D[n].1.1 v.1 D[n].1.2 v.2 < 0)) = true := by
        subst hn
        exact h2
      simpa [ltR] using h3
    rcases totR.tot D[n].1 v (fun e => hv (by rw [← e]; exact List.mem_map_of_mem (List.getElem_mem hk))) with h2 | h2
    · rw [h1] at h2; cases h2
    · exact h2
  have hg : ∀ i j (hi : i < D.length) (hj : j < D.length), i < j → ltR D[i].1 D[j].1 = true := fun i j hi hj hij => by
    have := (List.pairwise_iff_getElem.1 h) i j (by simpa using hi) (by simpa using hj) hij
    simpa using this
  rw [e]
  unfold AscR
  rw [List.pairwise_append, List.pairwise_cons]
  refine ⟨List.Pairwise.sublist (List.take_sublist _ _) h, ⟨fun b hb2 => ?_, List.Pairwise.sublist (List.drop_sublist _ _) h⟩, fun a ha2 b hb2 => ?_⟩
  · obtain ⟨k, hk, rfl⟩ := List.mem_iff_getElem.1 hb2
    rw [List.length_drop, List.length_map] at hk
    rw [List.getElem_drop, List.getElem_map]
    by_cases h0 : k = 0
    · subst h0
      exact ha (by omega)
    · exact totR.trans _ _ _ (ha (by omega)) (hg n (n + k) (by omega) (by omega) (by omega))
  · obtain ⟨i, hi, rfl⟩ := List.mem_iff_getElem.1 ha2
    rw [List.length_take, List.length_map] at hi
    rw [List.getElem_take, List.getElem_map]
    have h1 := hb i (by omega) (by omega)
    rcases List.mem_cons.1 hb2 with rfl | hb2
    · exact h1
    · obtain ⟨k, hk, rfl⟩ := List.mem_iff_getElem.1 hb2
      rw [List.length_drop, List.length_map] at hk
      rw [List.getElem_drop, List.getElem_map]
      exact hg i (n + k) (by omega) (by omega) (by omega)
theorem mem_remD {D : List (Rf × List Rf)} (hn : (D.map (·.1)).Nodup) {p : Nat} (hp : p < D.length) (x : Rf × List Rf) : x ∈ remD D p ↔ x ∈ D ∧ x.1 ≠ D[p].1 := by
  have hx : ∀ i j (hi : i < D.length) (hj : j < D.length), D[i].1 = D[j].1 → i = j := fun i j hi hj e => by
    have h1 := List.pairwise_iff_getElem.1 hn
    rcases Nat.lt_trichotomy i j with h | h | h
    · exact absurd (by rw [List.getElem_map, List.getElem_map]; exact e) (h1 i j (by simpa using hi) (by simpa using hj) h)
    · exact h
    · exact absurd (by rw [List.getElem_map, List.getElem_map]; exact e.symm) (h1 j i (by simpa using hj) (by simpa using hi) h)
  unfold remD
  rw [List.mem_append]
  constructor
  · rintro (h | h)
    · obtain ⟨i, hi, rfl⟩ := List.mem_iff_getElem.1 h
      rw [List.length_take] at hi
      rw [List.getElem_take]
      exact ⟨List.getElem_mem _, fun e => by have := hx i p (by omega) hp e; omega⟩
    · obtain ⟨i, hi, rfl⟩ := List.mem_iff_getElem.1 h
      rw [List.length_drop] at hi
      rw [List.getElem_drop]
      exact ⟨List.getElem_mem _, fun e => by have := hx _ p (by omega) hp e; omega⟩
  · rintro ⟨h, hne⟩
    obtain ⟨i, hi, rfl⟩ := List.mem_iff_getElem.1 h
    rcases Nat.lt_trichotomy i p with h | h | h
    · exact .inl (List.mem_iff_getElem.2 ⟨i, by rw [List.length_take]; omega, by rw [List.getElem_take]⟩)
    · subst h; exact absurd rfl hne
    · refine .inr (List.mem_iff_getElem.2 ⟨i - (p + 1), by rw [List.length_drop]; omega, ?_⟩)
      rw [List.getElem_drop]
      congr 1
      omega
theorem remD_sub (D : List (Rf × List Rf)) (p : Nat) : (remD D p).Sublist D := by
  unfold remD
  have h : (D.drop (p + 1)).Sublist (D.drop p) := by
    rw [← List.drop_drop]
    exact List.drop_sublist _ _
  have := List.Sublist.append (List.Sublist.refl (D.take p)) h
  rwa [List.take_append_drop] at this
/-- What s steps leave true of the links. -/
structure GInv (D : List (Rf × List Rf)) (rk : Rf → Nat) (s : Nat) : Prop where
  asc : AscR (D.map (·.1))
  two : ∀ x ∈ D, x.2.Nodup
  rank : Rank D rk
  low : ∀ x ∈ D, rk x.1 < s
  len : D.length ≤ s
  tgl : ∀ x ∈ D, x.2.length ≤ 64
theorem GInv.nil (rk : Rf → Nat) : GInv [] rk 0 := ⟨List.Pairwise.nil, fun x hx => (by cases hx), fun x hx => (by cases hx), fun x hx => (by cases hx), Nat.le_refl _, fun x hx => (by cases hx)⟩
theorem GInv.lks {D : List (Rf × List Rf)} {rk : Rf → Nat} {s : Nat} (h : GInv D rk s) : Lks D := ⟨h.asc.nodup, h.two⟩
theorem GInv.more {D : List (Rf × List Rf)} {rk : Rf → Nat} {s s' : Nat} (h : GInv D rk s) (hs : s ≤ s') : GInv D rk s' := ⟨h.asc, h.two, h.rank, fun x hx => Nat.lt_of_lt_of_le (h.low x hx) hs, Nat.le_trans h.len hs, h.tgl⟩
theorem tgt_len {l : List Rf} (h : tgt l = 0) : l.length ≤ 64 := by
  unfold tgt at h
  split at h
  · split at h
    · cases h
    · omega
  · cases h
theorem GInv.add {D : List (Rf × List Rf)} {rk : Rf → Nat} {s : Nat} {v : Rf} {tg : List Rf} (h : GInv D rk s) (hv : v ∉ D.map (·.1)) (ht : tgt tg = 0) (htg : ∀ t ∈ tg, t ∈ D.map (·.1)) : ∃ rk', GInv (insD D v tg) rk' (s + 1) := by
  refine ⟨fun u => if u = v then s else rk u, asc_insD h.asc hv, fun x hx => ?_, fun x hx t hxt => ?_, fun x hx => ?_, ?_, fun x hx => ?_⟩
  · rcases (mem_insD x).1 hx with rfl | hx
    · exact tgt_nodup (by rw [ht]; decide)
    · exact h.two x hx
  · have hk : ∀ u, u ∈ D.map (·.1) → u ∈ (insD D v tg).map (·.1) ∧ u ≠ v ∧ rk u < s := fun u hu => by
      obtain ⟨y, hy, rfl⟩ := List.mem_map.1 hu
      exact ⟨List.mem_map_of_mem ((mem_insD y).2 (.inr hy)), fun e => hv (by rw [← e]; exact hu), h.low y hy⟩
    rcases (mem_insD x).1 hx with rfl | hx
    · obtain ⟨q1, q2, q3⟩ := hk t (htg t hxt)
      refine ⟨q1, ?_⟩
      simp [q2, q3]
    · obtain ⟨r1, r2⟩ := h.rank x hx t hxt
      obtain ⟨q1, q2, q3⟩ := hk t r1
      obtain ⟨-, q4, -⟩ := hk x.1 (List.mem_map_of_mem hx)
      refine ⟨q1, ?_⟩
      simp [q2, q4, r2]
  · rcases (mem_insD x).1 hx with rfl | hx
    · simp
    · have q4 : x.1 ≠ v := fun e => hv (by rw [← e]; exact List.mem_map_of_mem hx)
      have := h.low x hx
      simp only [q4, if_false]
      omega
  · have h1 : (insD D v tg).length = D.length + 1 := by
      unfold insD
      rw [List.length_append, List.length_cons, List.length_take, List.length_drop]
      have : insN D v ≤ D.length := List.findIdx_le_length
      omega
    rw [h1]
    have := h.len
    omega
  · rcases (mem_insD x).1 hx with rfl | hx
    · exact tgt_len ht
    · exact h.tgl x hx
theorem GInv.rem {D : List (Rf × List Rf)} {rk : Rf → Nat} {s p : Nat} (h : GInv D rk s) (hp : p < D.length) (hb : behd D D[p].1 = []) : GInv (remD D p) rk s := by
  have hs := remD_sub D p
  refine ⟨List.Pairwise.sublist (hs.map _) h.asc, fun x hx => h.two x (hs.subset hx), fun x hx t ht => ?_, fun x hx => h.low x (hs.subset hx), Nat.le_trans hs.length_le h.len, fun x hx => h.tgl x (hs.subset hx)⟩
  obtain ⟨r1, r2⟩ := h.rank x (hs.subset hx) t ht
  refine ⟨?_, r2⟩
  obtain ⟨y, hy, rfl⟩ := List.mem_map.1 r1
  refine List.mem_map_of_mem ((mem_remD h.asc.nodup hp y).2 ⟨hy, fun e => ?_⟩)
  have : x.1 ∈ behd D D[p].1 := behd_iff.2 ⟨x, hs.subset hx, rfl, by rw [← e]; exact ht⟩
  rw [hb] at this
  cases this
end Go.Proofs.Ytcakdjnnfonijaa
