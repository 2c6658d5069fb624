/- refs.Order's state, plainly: what is left of each, who is behind a version; blocks that the heap does not touch; cmp.Or of errors. -/
import Derived.Test.YtcakdjnnfonijaaRoHeap2
import Derived.Test.YtcakdjnnfonijaaRoTgt
import Derived.Test.YtcakdjnnfonijaaRoErr
namespace Go.Proofs.Ytcakdjnnfonijaa
open Go.RowKit

/-- A number for each version that has links. -/
def keyF (L : List (Rf × List Rf)) (φ : Rf × List Rf → Int) (u : Rf) : Option Value := (L.find? (fun x => decide (x.1 = u))).map fun x => .int .i64 (φ x)
theorem keyF_nil (φ : Rf × List Rf → Int) : keyF [] φ = fun _ => none := rfl
theorem keyF_none {L : List (Rf × List Rf)} {φ : Rf × List Rf → Int} {u : Rf} : keyF L φ u = none ↔ u ∉ L.map (·.1) := by
  unfold keyF
  rw [Option.map_eq_none_iff, List.find?_eq_none]
  constructor
  · intro h hm
    obtain ⟨x, hx, e⟩ := List.mem_map.1 hm
    exact h x hx (by simpa using e)
  · intro h x hx e
    exact h (List.mem_map.2 ⟨x, hx, by simpa using e⟩)
theorem keyF_some {L : List (Rf × List Rf)} {φ : Rf × List Rf → Int} {u : Rf} {v : Value} (h : keyF L φ u = some v) : ∃ x ∈ L, x.1 = u ∧ v = .int .i64 (φ x) := by
  unfold keyF at h
  rw [Option.map_eq_some_iff] at h
  obtain ⟨x, hx, e⟩ := h
  exact ⟨x, List.mem_of_find?_eq_some hx, by simpa using List.find?_some hx, e.symm⟩
theorem keyF_mem {L : List (Rf × List Rf)} {φ : Rf × List Rf → Int} (hn : (L.map (·.1)).Nodup) {x : Rf × List Rf} (hx : x ∈ L) : keyF L φ x.1 = some (.int .i64 (φ x)) := by
  cases h : keyF L φ x.1 with
  | none => exact absurd (List.mem_map_of_mem hx) (keyF_none.1 h)
  | some v =>
    obtain ⟨y, hy, e, rfl⟩ := keyF_some h
    rw [nodup_inj hn y hy x hx e]
theorem keyF_isSome {L : List (Rf × List Rf)} {φ : Rf × List Rf → Int} {u : Rf} : (keyF L φ u).isSome = true ↔ u ∈ L.map (·.1) := by
  cases h : keyF L φ u with
  | none => simp only [Option.isSome_none, Bool.false_eq_true, false_iff]; exact keyF_none.1 h
  | some v =>
    obtain ⟨x, hx, e, -⟩ := keyF_some h
    simp only [Option.isSome_some, true_iff]
    exact List.mem_map.2 ⟨x, hx, e⟩
theorem keyF_upd {L : List (Rf × List Rf)} {φ φ' : Rf × List Rf → Int} (hn : (L.map (·.1)).Nodup) {x : Rf × List Rf} (hx : x ∈ L) {c : Int} (h1 : φ' x = c) (h2 : ∀ y ∈ L, y.1 ≠ x.1 → φ' y = φ y) (u : Rf) : (if u = x.1 then some (Value.int .i64 c) else keyF L φ u) = keyF L φ' u := by
  by_cases e : u = x.1
  · subst e
    rw [if_pos rfl, keyF_mem hn hx, h1]
  · rw [if_neg e]
    unfold keyF
    cases hf : L.find? (fun x => decide (x.1 = u)) with
    | none => rfl
    | some y =>
      have hy := List.mem_of_find?_eq_some hf
      have he : y.1 = u := by simpa using List.find?_some hf
      rw [Option.map_some, Option.map_some, h2 y hy (fun e2 => e (by rw [← he, e2]))]
theorem keyF_snoc {L : List (Rf × List Rf)} {i : Nat} (hi : i < L.length) {φ : Rf × List Rf → Int} (hnot : L[i].1 ∉ (L.take i).map (·.1)) (u : Rf) : (if u = L[i].1 then some (Value.int .i64 (φ L[i])) else keyF (L.take i) φ u) = keyF (L.take (i + 1)) φ u := by
  unfold keyF
  rw [← List.take_append_getElem hi, List.find?_append]
  by_cases e : u = L[i].1
  · rw [if_pos e]
    have hf : (L.take i).find? (fun x => decide (x.1 = u)) = none := by
      rw [List.find?_eq_none]
      intro x hx e2
      exact hnot (List.mem_map.2 ⟨x, hx, by rw [← e]; simpa using e2⟩)
    rw [hf]
    simp [e]
  · rw [if_neg e]
    cases hf : (L.take i).find? (fun x => decide (x.1 = u)) with
    | some y => simp
    | none =>
      simp
      exact fun h => e h.symm
/-- Who is behind a version, when j targets of x are done. -/
def behJ (P : List (Rf × List Rf)) (x : Rf × List Rf) (j : Nat) (t : Rf) : List Rf := behd P t ++ if memB t (x.2.take j) then [x.1] else []
theorem behJ_zero (P : List (Rf × List Rf)) (x : Rf × List Rf) (t : Rf) : behJ P x 0 t = behd P t := by
  unfold behJ
  have : memB t (x.2.take 0) = false := by simp [memB]
  rw [this]; simp
theorem behd_snoc (P : List (Rf × List Rf)) (x : Rf × List Rf) (t : Rf) : behd (P ++ [x]) t = behd P t ++ if memB t x.2 then [x.1] else [] := by
  unfold behd memB
  rw [List.filter_append, List.map_append]
  congr 1
  by_cases h : t ∈ x.2 <;> simp [h]
theorem behJ_end (P : List (Rf × List Rf)) (x : Rf × List Rf) (t : Rf) : behJ P x x.2.length t = behd (P ++ [x]) t := by
  unfold behJ
  rw [behd_snoc, List.take_length]
theorem behJ_succ {P : List (Rf × List Rf)} {x : Rf × List Rf} {j : Nat} (hj : j < x.2.length) (hn : x.2[j] ∉ x.2.take j) (u : Rf) : (if u = x.2[j] then behJ P x j x.2[j] ++ [x.1] else behJ P x j u) = behJ P x (j + 1) u := by
  unfold behJ
  by_cases e : u = x.2[j]
  · rw [if_pos e, e]
    have h1 : memB x.2[j] (x.2.take j) = false := memB_not.2 hn
    have h2 : memB x.2[j] (x.2.take (j + 1)) = true := memB_iff.2 (List.mem_iff_getElem.2 ⟨j, by rw [List.length_take]; omega, by rw [List.getElem_take]⟩)
    rw [h1, h2]
    simp
  · rw [if_neg e]
    have : memB u (x.2.take (j + 1)) = memB u (x.2.take j) := by
      cases h : memB u (x.2.take j) with
      | true => exact memB_iff.2 (by rw [← List.take_append_getElem hj]; exact List.mem_append_left _ (memB_iff.1 h))
      | false => exact memB_not.2 (by rw [← List.take_append_getElem hj, List.mem_append, List.mem_singleton]; exact fun h2 => h2.elim (memB_not.1 h) e)
    rw [this]
/-- The map of those behind, its rows all its own. -/
structure BhF (w : World) (base : Nat) (fb : Rf → Option Value) (B : Rf → List Rf) : Prop where
  no : ∀ t, fb t = none → B t = []
  yes : ∀ t v, fb t = some v → B t ≠ [] ∧ OwnRf w v (B t) ∧ ∀ g, v.ownBlock = some g → base ≤ g
  sep : ∀ t t' v v' g, fb t = some v → fb t' = some v' → v.ownBlock = some g → v'.ownBlock = some g → t = t'
theorem BhF.nil (w : World) (base : Nat) : BhF w base (fun _ => none) (fun _ => []) := ⟨(fun _ _ => rfl), (fun _ _ h => by cases h), (fun _ _ _ _ _ h => by cases h)⟩
theorem BhF.keep {w w' : World} {X : Nat → Prop} (hk : KeepA X w w') {base : Nat} {fb : Rf → Option Value} {B : Rf → List Rf} (h : BhF w base fb B) (hX : ∀ g, base ≤ g → ¬ X g) : BhF w' base fb B :=
  ⟨h.no, fun t v hv => ⟨(h.yes t v hv).1, (h.yes t v hv).2.1.keep hk fun g hg => hX g ((h.yes t v hv).2.2 g hg), (h.yes t v hv).2.2⟩, h.sep⟩
theorem BhF.later {w w' : World} (hb : Below w.heap.size w w') {base : Nat} {fb : Rf → Option Value} {B : Rf → List Rf} (h : BhF w base fb B) : BhF w' base fb B := h.keep (KeepA.of_below (X := fun _ => False) hb) fun _ _ h => h
theorem BhF.get {w : World} {base : Nat} {fb : Rf → Option Value} {B : Rf → List Rf} (h : BhF w base fb B) (t : Rf) {v : Value} (hv : (fb t).getD (.slice none 0 0) = v) : OwnRf w v (B t) ∧ ∀ g, v.ownBlock = some g → base ≤ g := by
  cases hf : fb t with
  | none =>
    rw [hf] at hv
    have hv : Value.slice none 0 0 = v := hv
    subst hv
    rw [h.no t hf]
    exact ⟨OwnRf.nil w, fun g hg => by simp [Value.ownBlock] at hg⟩
  | some u =>
    rw [hf] at hv
    have hv : u = v := hv
    subst hv
    exact (h.yes t u hf).2
/-- One more is behind t. -/
theorem BhF.push {w w' : World} {base : Nat} {fb : Rf → Option Value} {B : Rf → List Rf} (h : BhF w base fb B) (t x : Rf) {v v' : Value} (hv : (fb t).getD (.slice none 0 0) = v) (ho : OwnRf w' v' (B t ++ [x])) (hk : KeepA (fun k => v.ownBlock = some k ∨ k < base) w w') (hn : NewRow w v v') (hbase : base ≤ w.heap.size) :
    BhF w' base (fun j => if j = t then some v' else fb j) (fun j => if j = t then B t ++ [x] else B j) := by
  have hget := h.get t hv
  have hv' : ∀ g, v'.ownBlock = some g → base ≤ g := fun g hg => (hn g hg).elim (hget.2 g) (fun e => Nat.le_trans hbase e)
  have other : ∀ t' u g, t' ≠ t → fb t' = some u → u.ownBlock = some g → v.ownBlock ≠ some g := fun t' u g hne hu hg e => by
    cases hf : fb t with
    | none =>
      rw [hf] at hv
      have hv : Value.slice none 0 0 = v := hv
      rw [← hv] at e
      simp [Value.ownBlock] at e
    | some u2 =>
      rw [hf] at hv
      have hv : u2 = v := hv
      subst hv
      exact hne (h.sep t' t u u2 g hu hf hg e)
  have other' : ∀ t' u g, t' ≠ t → fb t' = some u → u.ownBlock = some g → v'.ownBlock ≠ some g := fun t' u g hne hu hg e => by
    rcases hn g e with e | e
    · exact other t' u g hne hu hg e
    · have := (h.yes t' u hu).2.1.lt hg
      omega
  refine ⟨fun j hj => ?_, fun j u hu => ?_, fun j j' u u' g hu hu' hg hg' => ?_⟩
  · by_cases e : j = t
    · simp [e] at hj
    · simp only [e, if_false] at hj ⊢
      exact h.no j hj
  · by_cases e : j = t
    · simp only [e, if_true, Option.some.injEq] at hu ⊢
      subst hu
      exact ⟨by simp, ho, hv'⟩
    · simp only [e, if_false] at hu ⊢
      refine ⟨(h.yes j u hu).1, (h.yes j u hu).2.1.keep hk fun g hg => ?_, (h.yes j u hu).2.2⟩
      rintro (e2 | e2)
      · exact other j u g e hu hg e2
      · have := (h.yes j u hu).2.2 g hg; omega
  · by_cases e : j = t <;> by_cases e' : j' = t
    · rw [e, e']
    · simp only [e, e', if_true, if_false, Option.some.injEq] at hu hu'
      subst hu
      exact absurd hg (other' j' u' g e' hu' hg')
    · simp only [e, e', if_true, if_false, Option.some.injEq] at hu hu'
      subst hu'
      exact absurd hg' (other' j u g e hu hg)
    · simp only [e, e', if_false] at hu hu'
      exact h.sep j j' u u' g hu hu' hg hg'
theorem BhF.eqB {w : World} {base : Nat} {fb : Rf → Option Value} {B B' : Rf → List Rf} (h : BhF w base fb B) (e : ∀ t, B t = B' t) : BhF w base fb B' := by
  have : B = B' := funext e
  rwa [← this]
/-- A block that the heap does not touch. -/
def Safe (w : World) (g : Nat) (v : Value) (p : Nat) : Prop := p < w.heap.size ∧ p ≠ g ∧ v.ownBlock ≠ some p
theorem HUp.safe {w w' : World} {g : Nat} {v v' : Value} (h : HUp w g v w' v') {p : Nat} (hp : Safe w g v p) : Safe w' g v' p ∧ w'.heap[p]? = w.heap[p]? := by
  refine ⟨⟨Nat.lt_of_lt_of_le hp.1 h.keep.size, hp.2.1, fun e => ?_⟩, h.keep.same p hp.1 fun e => e.elim hp.2.1 hp.2.2⟩
  rcases h.row p e with e | e
  · exact hp.2.2 e
  · have := hp.1; omega
theorem Safe.later {w w' : World} {g : Nat} {v : Value} {p : Nat} (hp : Safe w g v p) (hs : w.heap.size ≤ w'.heap.size) : Safe w' g v p := ⟨Nat.lt_of_lt_of_le hp.1 hs, hp.2⟩
theorem HUp.low {w w' : World} {g : Nat} {v v' : Value} (h : HUp w g v w' v') {S : Nat} (hg : S ≤ g) (hv : ∀ b, v.ownBlock = some b → S ≤ b) (hS : S ≤ w.heap.size) : (∀ b, v'.ownBlock = some b → S ≤ b) ∧ ∀ p, p < S → w'.heap[p]? = w.heap[p]? :=
  ⟨fun b hb => (h.row b hb).elim (hv b) (fun e => Nat.le_trans hS e), fun p hp => h.keep.same p (Nat.lt_of_lt_of_le hp hS) fun e => e.elim (fun e => by omega) (fun e => by have := hv p e; omega)⟩
set_option maxRecDepth 100000 in
set_option maxHeartbeats 1000000 in
theorem eor_any (b : Nat) (x y : Int) (w : World) (hr : RowAt w b 29 #[.int .i64 x, .int .i64 y]) :
    Calls Try.prog 27 #[.slice (some ⟨b, 0, none⟩) 2 2] w fun e w' => e = .returned (.int .i64 (cmpOr x y)) ∧ w = w' := by
  have h0 : w.cell? ⟨b, 0, none⟩ = some (.int .i64 x) := hr.cell 0
  have h1 : w.cell? ⟨b, 1, none⟩ = some (.int .i64 y) := hr.cell 1
  have H0 := Lib.hid h0
  have H1 := Lib.hid h1
  clear h0 h1 hr
  go_enter Try.func27, Try.ntmps27
  go_wp2
  go_loopw [8] (fun i wr => w = wr ∧ ∃ k : Nat, k ≤ 2 ∧ i = .int .i64 k ∧ (0 < k → x = 0) ∧ (1 < k → y = 0)) (fun i _ => 2 - (intOf i).toNat)
  case atStart => exact ⟨rfl, 0, by decide, rfl, fun h => by omega, fun h => by omega⟩
  case round =>
    obtain ⟨rfl, k, hk, rfl, hx, hy⟩ := hrel
    have h0 := H0.out
    have h1 := H1.out
    rcases (by omega : k = 0 ∨ k = 1 ∨ k = 2) with rfl | rfl | rfl
    · by_cases hx0 : x = 0
      · subst hx0
        go_wp2
        refine ⟨⟨trivial, 1, by decide, rfl, ?_, ?_⟩, by decide⟩ <;> first | trivial | exact fun _ => rfl | (intro h; omega)
      · have hb : (x != 0) = true := by simp [hx0]
        go_wp2
        go_ret
        exact ⟨by unfold cmpOr; rw [if_neg hx0]; rfl, rfl⟩
    · have hx0 := hx (by decide)
      subst hx0
      by_cases hy0 : y = 0
      · subst hy0
        go_wp2
        refine ⟨⟨trivial, 2, by decide, rfl, ?_, ?_⟩, by decide⟩ <;> first | trivial | exact fun _ => rfl | (intro h; omega)
      · have hb : (y != 0) = true := by simp [hy0]
        go_wp2
        go_ret
        exact ⟨by unfold cmpOr; rw [if_pos rfl]; rfl, rfl⟩
    · have hx0 := hx (by decide)
      have hy0 := hy (by decide)
      subst hx0 hy0
      go_wp2
      go_ret
      exact ⟨by unfold cmpOr; rw [if_pos rfl]; rfl, rfl⟩
end Go.Proofs.Ytcakdjnnfonijaa
