/- The pager's disk, plainly: pages, batches, the log; what each step makes of them. -/
import Derived.Test.YtagipfkgnobjlaaPgPlC
namespace Go.Proofs.Ytagipfkgnobjlaa
open Go.RowKit

/-- A page on a disk. -/
def pgV (n : Nat) (V : Int → List UInt8) (k : Nat) : List UInt8 := flatS V ((n : Int) + 2 * (k : Int)) 2
theorem flatS_two (V : Int → List UInt8) (a : Int) : flatS V a 2 = V a ++ V (a + 1) := by
  rw [show (2 : Nat) = 1 + 1 from rfl, flatS_succ, flatS_one]
  rfl
theorem pgV_congr {n : Nat} {V V' : Int → List UInt8} {k : Nat} (h0 : V' ((n : Int) + 2 * (k : Int)) = V ((n : Int) + 2 * (k : Int))) (h1 : V' ((n : Int) + 2 * (k : Int) + 1) = V ((n : Int) + 2 * (k : Int) + 1)) : pgV n V' k = pgV n V k := by
  unfold pgV
  rw [flatS_two, flatS_two, h0, h1]
theorem sec_two {B : List UInt8} (h : B.length = 1024) : sec B 0 ++ sec B 1 = B := by
  unfold sec
  rw [Nat.zero_mul, List.drop_zero, Nat.one_mul, List.take_of_length_le (l := B.drop 512) (by rw [List.length_drop]; omega), List.take_append_drop]
/-- A page is written. -/
theorem pgV_wps {n : Nat} {V : Int → List UInt8} {j : Nat} {B : List UInt8} (h : B.length = 1024) (k : Nat) : pgV n (laid V (wps ((n : Int) + 2 * (j : Int)) B 2)) k = if j = k then B else pgV n V k := by
  by_cases e : j = k
  · subst e
    rw [if_pos rfl]
    unfold pgV
    rw [flatS_two, laid_wps_at, laid_wps_at, if_pos (by omega), if_pos (by omega), show ((n : Int) + 2 * (j : Int) - ((n : Int) + 2 * (j : Int))).toNat = 0 by omega, show ((n : Int) + 2 * (j : Int) + 1 - ((n : Int) + 2 * (j : Int))).toNat = 1 by omega]
    exact sec_two h
  · rw [if_neg e]
    refine pgV_congr ?_ ?_
    · rw [laid_wps_at, if_neg (by omega)]
    · rw [laid_wps_at, if_neg (by omega)]
theorem putV_app (n : Nat) (room : Int) (V : Int → List UInt8) (a b : List (Nat × List UInt8)) : putV n room V (a ++ b) = putV n room (putV n room V a) b := by
  unfold putV
  rw [List.foldl_append]
/-- The last page of a number in a row. -/
def pgE : List (Nat × List UInt8) → Nat → Option (List UInt8)
  | [], _ => none
  | e :: l, k => (pgE l k).or (if e.1 = k then some e.2 else none)
theorem pgE_cons (e : Nat × List UInt8) (l : List (Nat × List UInt8)) (k : Nat) : pgE (e :: l) k = (pgE l k).or (if e.1 = k then some e.2 else none) := rfl
theorem pgE_app : ∀ (a b : List (Nat × List UInt8)) (k : Nat), pgE (a ++ b) k = (pgE b k).or (pgE a k)
  | [], b, k => by simp [pgE]
  | e :: a, b, k => by
    rw [List.cons_append, pgE_cons, pgE_app a b k, Option.or_assoc, pgE_cons]
theorem pgE_none : ∀ {l : List (Nat × List UInt8)} {k : Nat}, pgE l k = none → ∀ e ∈ l, e.1 ≠ k
  | [], _, _, e, he => by cases he
  | x :: l, k, h, e, he => by
    rw [pgE_cons] at h
    obtain ⟨h1, h2⟩ := Option.or_eq_none_iff.1 h
    rcases List.mem_cons.1 he with rfl | he
    · intro q
      rw [if_pos q] at h2
      cases h2
    · exact pgE_none h1 e he
theorem pgV_putE {n room : Nat} {V : Int → List UInt8} {e : Nat × List UInt8} (he : e.2.length = 1024) {k : Nat} (hk : k < room) : pgV n (putE n room V e) k = if e.1 = k then e.2 else pgV n V k := by
  unfold putE
  by_cases hr : (e.1 : Int) < (room : Int)
  · rw [if_pos hr, pgV_wps he]
  · rw [if_neg hr, if_neg (by omega)]
theorem pgV_putV {n room : Nat} : ∀ {l : List (Nat × List UInt8)} {V : Int → List UInt8}, (∀ e ∈ l, e.2.length = 1024) → ∀ {k : Nat}, k < room → pgV n (putV n room V l) k = (pgE l k).getD (pgV n V k)
  | [], V, _, k, _ => rfl
  | e :: l, V, h, k, hk => by
    show pgV n (putV n room (putE n room V e) l) k = _
    rw [pgV_putV (fun x hx => h x (List.mem_cons_of_mem _ hx)) hk, pgV_putE (h e List.mem_cons_self) hk]
    rw [pgE_cons]
    cases pgE l k with
    | some v => rfl
    | none =>
      rw [Option.none_or]
      by_cases q : e.1 = k
      · rw [if_pos q, if_pos q]
        try rfl
      · rw [if_neg q, if_neg q]
        try rfl
theorem low_putV {n room : Nat} : ∀ {l : List (Nat × List UInt8)} {V : Int → List UInt8} {q : Int}, q < (n : Int) → putV n room V l q = V q
  | [], V, q, _ => rfl
  | e :: l, V, q, hq => by
    show putV n room (putE n room V e) l q = _
    rw [low_putV hq]
    unfold putE
    split
    · rw [laid_wps_at, if_neg (by omega)]
    · rfl
theorem len_putV {n room : Nat} : ∀ {l : List (Nat × List UInt8)} {V : Int → List UInt8}, (∀ k, (V k).length = 512) → (∀ e ∈ l, e.2.length = 1024) → ∀ k, (putV n room V l k).length = 512
  | [], V, h, _, k => h k
  | e :: l, V, h, hl, k => by
    refine len_putV (V := putE n room V e) (fun k => ?_) (fun x hx => hl x (List.mem_cons_of_mem _ hx)) k
    unfold putE
    split
    · rw [laid_wps_at]
      split
      · rename_i hk
        have := hl e List.mem_cons_self
        unfold sec
        rw [List.length_take, List.length_drop]
        have h2 : (k - ((n : Int) + 2 * (e.1 : Int))).toNat < 2 := by omega
        have : (k - ((n : Int) + 2 * (e.1 : Int))).toNat * 512 ≤ 1 * 512 := Nat.mul_le_mul_right _ (by omega)
        omega
      · exact h k
    · exact h k
/-- The pages of a batch. -/
theorem ents_page {k : Nat} {B rest : List UInt8} (hk : k < 4294967296) (hB : B.length = 1024) : ents (lowB k 4 ++ B ++ rest) = (k, B) :: ents rest := by
  have hl := lowB_length 4 k
  rw [ents_cons (by rw [List.length_append, List.length_append, hl, hB]; omega)]
  congr 1
  · rw [List.append_assoc, List.take_append_of_le_length (by omega), List.take_of_length_le (by omega), leB_lowB 4 k (by simpa using hk), List.drop_append_of_le_length (by omega), List.drop_of_length_le (by omega), List.nil_append, List.take_append_of_le_length (by omega), List.take_of_length_le (by omega)]
  · rw [List.drop_append_of_le_length (by rw [List.length_append]; omega), List.drop_of_length_le (by rw [List.length_append]; omega), List.nil_append]
theorem ents_batch {tn : Int → Option (List UInt8)} : ∀ {L : List Nat}, (∀ k ∈ L, k < 4294967296 ∧ ((tn (k : Int)).getD []).length = 1024) → ents (batchB L tn) = L.map fun k : Nat => (k, (tn (k : Int)).getD [])
  | [], _ => by
    show ents [] = _
    rw [ents_nil (by simp)]
    rfl
  | k :: L, h => by
    obtain ⟨h1, h2⟩ := h k List.mem_cons_self
    have ih := ents_batch fun x hx => h x (List.mem_cons_of_mem _ hx)
    unfold batchB at ih ⊢
    rw [List.flatMap_cons, ents_page h1 h2, ih, List.map_cons]
theorem pgE_map {f : Nat → List UInt8} : ∀ {L : List Nat} {k : Nat}, pgE (L.map fun k : Nat => (k, f k)) k = if k ∈ L then some (f k) else none
  | [], k => by simp [pgE]
  | x :: L, k => by
    rw [List.map_cons]
    rw [pgE_cons, pgE_map (L := L)]
    by_cases h : k ∈ L
    · rw [if_pos h, if_pos (List.mem_cons_of_mem _ h)]; rfl
    · rw [if_neg h, Option.none_or]
      by_cases e : x = k
      · subst e
        rw [if_pos rfl, if_pos List.mem_cons_self]
      · rw [if_neg e, if_neg (fun q => by
          rcases List.mem_cons.1 q with q | q
          · exact e q.symm
          · exact h q)]
/-- What is read behind each step. -/
theorem AppR.view {B : List UInt8} {x x' : LX} (h : AppR B 0 x x') : x'.V = laid x.V (wps (0 + 2 + (x.used : Int)) (appB x.run x.used (lowB B.length 4 ++ B) (secsOf B.length)) ((appB x.run x.used (lowB B.length 4 ++ B) (secsOf B.length)).length / 512)) ∧ x'.fz = x.fz ∧ x'.run = x.run ∧ x'.base = x.base ∧ x'.used = x.used + secsOf B.length ∧ x'.ld = x.ld ∧ x'.bs = x.bs ++ [B] ∧ x'.D.pcs = [] ∧ x'.D.size = x.D.size := by
  obtain ⟨D', hw, hc⟩ := h
  have hD := hw.ok rfl
  rcases hc with ⟨-, rfl⟩ | ⟨hne, -⟩
  · subst hD
    refine ⟨?_, rfl, rfl, rfl, rfl, rfl, rfl, rfl, rfl⟩
    show laid (laid x.D.last _) [] = _
    rw [laid_app]
    rfl
  · exact absurd rfl hne
theorem ResetR.view {x x' : LX} (h : ResetR 0 x x') : x'.V = laid x.V (wps (0 + (((x.run + 1) % 2 : Nat) : Int)) (headB (x.run + 1) (x.run + 1)) ((headB (x.run + 1) (x.run + 1)).length / 512)) ∧ x'.fz = x.fz ∧ x'.run = x.run + 1 ∧ x'.base = x.run + 1 ∧ x'.used = 0 ∧ x'.ld = x.ld ∧ x'.bs = [] ∧ x'.D.pcs = [] ∧ x'.D.size = x.D.size := by
  obtain ⟨D', hw, hc⟩ := h
  have hD := hw.ok rfl
  rcases hc with ⟨-, rfl⟩ | ⟨hne, -⟩
  · subst hD
    refine ⟨?_, rfl, rfl, rfl, rfl, rfl, rfl, rfl, rfl⟩
    show laid (laid x.D.last _) [] = _
    rw [laid_app]
    rfl
  · exact absurd rfl hne
theorem SyncR.view {er : Int} {x x' : LX} (h : SyncR er x x') : x'.V = x.V ∧ x' = { x with D := x'.D } ∧ (∀ p ∈ x'.D.pcs, p ∈ x.D.pcs) ∧ (er = 0 → x'.D.pcs = []) ∧ x'.D.size = x.D.size := by
  obtain ⟨k, q1, q2, q3, rfl⟩ := h
  refine ⟨?_, rfl, fun p hp => List.mem_of_mem_drop hp, fun e => ?_, rfl⟩
  · show laid (laid x.D.last (x.D.pcs.take k)) (x.D.pcs.drop k) = laid x.D.last x.D.pcs
    rw [← laid_app, List.take_append_drop]
  · rcases q3 with ⟨-, rfl⟩ | h
    · show List.drop _ _ = _
      rw [List.drop_length]
    · rw [e] at h; cases h
/-- A row of pages is put, or its first pieces. -/
theorem PutR.view {n room : Nat} : ∀ {l : List (Nat × List UInt8)} {er : Int} {x x' : LX}, PutR n room l er x x' → (∀ e ∈ l, e.2.length = 1024) →
    (er = 0 → x'.V = putV n room x.V l) ∧ (∀ q : Int, (∀ e ∈ l, e.1 < room → q ≠ (n : Int) + 2 * (e.1 : Int) ∧ q ≠ (n : Int) + 2 * (e.1 : Int) + 1) → x'.V q = x.V q) ∧
    (∀ p ∈ x'.D.pcs, p ∈ x.D.pcs ∨ ∃ e ∈ l, e.1 < room ∧ (p.1 = (n : Int) + 2 * (e.1 : Int) ∨ p.1 = (n : Int) + 2 * (e.1 : Int) + 1))
  | [], er, x, x', h, _ => by
    obtain ⟨rfl, rfl⟩ := h
    exact ⟨fun _ => rfl, fun _ _ => rfl, fun p hp => .inl hp⟩
  | e :: l, er, x, x', h, hl => by
    unfold PutR at h
    have he := hl e List.mem_cons_self
    split at h
    · rename_i hr
      obtain ⟨e1, x1, ⟨k, q1, q2, q3, rfl⟩, hc⟩ := h
      rw [he] at q1 q3
      have hk2 : k ≤ 2 := q1
      have hv1 : ∀ q : Int, q ≠ (n : Int) + 2 * (e.1 : Int) → q ≠ (n : Int) + 2 * (e.1 : Int) + 1 → laid x.D.last (x.D.pcs ++ wps ((n : Int) + 2 * (e.1 : Int)) e.2 k) q = x.V q := fun q a b => by
        rw [laid_app, laid_wps_at, if_neg (by omega)]
        rfl
      have hp1 : ∀ p ∈ x.D.pcs ++ wps ((n : Int) + 2 * (e.1 : Int)) e.2 k, p ∈ x.D.pcs ∨ (p.1 = (n : Int) + 2 * (e.1 : Int) ∨ p.1 = (n : Int) + 2 * (e.1 : Int) + 1) := fun p hp => by
        rcases List.mem_append.1 hp with h | h
        · exact .inl h
        · unfold wps at h
          obtain ⟨i, hi, rfl⟩ := List.mem_map.1 h
          have := List.mem_range.1 hi
          refine .inr ?_
          show (n : Int) + 2 * (e.1 : Int) + (i : Int) = _ ∨ (n : Int) + 2 * (e.1 : Int) + (i : Int) = _
          omega
      rcases hc with ⟨hne, rfl, rfl⟩ | ⟨rfl, h⟩
      · refine ⟨fun e0 => absurd e0 hne, fun q hq => ?_, fun p hp => ?_⟩
        · obtain ⟨a, b⟩ := hq e List.mem_cons_self (by omega)
          exact hv1 q a b
        · rcases hp1 p hp with h | h
          · exact .inl h
          · exact .inr ⟨e, List.mem_cons_self, by omega, h⟩
      · obtain ⟨a1, a2, a3⟩ := h.view fun y hy => hl y (List.mem_cons_of_mem _ hy)
        have hk : k = 2 := by
          rcases q3 with ⟨-, h⟩ | h
          · exact h
          · cases h
        subst hk
        refine ⟨fun e0 => ?_, fun q hq => ?_, fun p hp => ?_⟩
        · rw [a1 e0]
          show putV n room _ l = putV n room (putE n room x.V e) l
          congr 1
          unfold putE
          rw [if_pos hr]
          show laid x.D.last (x.D.pcs ++ _) = _
          rw [laid_app]
          rfl
        · obtain ⟨a, b⟩ := hq e List.mem_cons_self (by omega)
          rw [a2 q fun y hy => hq y (List.mem_cons_of_mem _ hy)]
          exact hv1 q a b
        · rcases a3 p hp with h | ⟨y, hy, h⟩
          · rcases hp1 p h with h | h
            · exact .inl h
            · exact .inr ⟨e, List.mem_cons_self, by omega, h⟩
          · exact .inr ⟨y, List.mem_cons_of_mem _ hy, h⟩
    · rename_i hr
      obtain ⟨a1, a2, a3⟩ := h.view fun y hy => hl y (List.mem_cons_of_mem _ hy)
      refine ⟨fun e0 => ?_, fun q hq => a2 q fun y hy => hq y (List.mem_cons_of_mem _ hy), fun p hp => ?_⟩
      · rw [a1 e0]
        show _ = putV n room (putE n room x.V e) l
        unfold putE
        rw [if_neg hr]
      · rcases a3 p hp with h | ⟨y, hy, h⟩
        · exact .inl h
        · exact .inr ⟨y, List.mem_cons_of_mem _ hy, h⟩
/-- All pages that the log tells. -/
def logE (x : LX) : List (Nat × List UInt8) := x.bs.flatMap ents
theorem logE_len (x : LX) : ∀ e ∈ logE x, e.2.length = 1024 := fun e he => by
  unfold logE at he
  obtain ⟨b, -, h⟩ := List.mem_flatMap.1 he
  exact entsN_len _ _ e h
/-- A disk with a sound log; P: the pages, what is in the log among them. -/
structure DI (n room : Nat) (x : LX) (P : Nat → List UInt8) : Prop where
  lg : LgI x.V 0 n x.run x.base x.used x.bs
  fr : LgFree x.V 0 n x.run x.used
  pv : LgPrev x.V 0 x.run
  bz : x.base = x.run
  put : ∀ k, k < room → (pgE (logE x) k).getD (pgV n x.V k) = P k
  pcs : ∀ p ∈ x.D.pcs, ∃ e ∈ logE x, e.1 < room ∧ (p.1 = (n : Int) + 2 * (e.1 : Int) ∨ p.1 = (n : Int) + 2 * (e.1 : Int) + 1)
theorem LgPrev.congr {L M : Int → List UInt8} {run : Nat} (h : LgPrev L 0 run) (h0 : M 0 = L 0) (h1 : M (0 + 1) = L (0 + 1)) : LgPrev M 0 run := by
  unfold LgPrev Oth at h ⊢
  rw [h0, h1]
  exact h
section
variable {n room : Nat} {x x' : LX} {P : Nat → List UInt8}
/-- A batch is appended. -/
theorem DI.app (h : DI n room x P) {B : List UInt8} (hA : AppR B 0 x x') (hn : n < 4294967296) (hB : B.length < 4294967296) (hfit : x.used + secsOf B.length ≤ n - 2) (hn4 : 4 ≤ n) : DI n room x' (fun k => (pgE (ents B) k).getD (P k)) ∧ x'.D.pcs = [] ∧ ∀ k, pgV n x'.V k = pgV n x.V k := by
  obtain ⟨v1, v2, v3, v4, v5, v6, v7, v8, v9⟩ := hA.view
  obtain ⟨q1, q2⟩ := h.lg.append h.fr B hB hn hfit v1
  have hsec : (appB x.run x.used (lowB B.length 4 ++ B) (secsOf B.length)).length / 512 = secsOf B.length := by rw [appB_len, Nat.mul_div_cancel _ (by omega)]
  have hout : ∀ q : Int, (q < 2 ∨ (n : Int) ≤ q) → x'.V q = x.V q := fun q hq => by
    rw [v1, laid_wps_at, hsec, if_neg (by omega)]
  have hpg : ∀ k, pgV n x'.V k = pgV n x.V k := fun k => pgV_congr (hout _ (by omega)) (hout _ (by omega))
  have hE : logE x' = logE x ++ ents B := by
    unfold logE
    rw [v7, List.flatMap_append]
    simp
  refine ⟨⟨?_, ?_, ?_, by rw [v4, v3]; exact h.bz, fun k hk => ?_, fun p hp => by rw [v8] at hp; cases hp⟩, v8, hpg⟩
  · rw [v3, v4, v5, v7]; exact q1
  · rw [v3, v5]; exact q2
  · rw [v3]; exact h.pv.congr (hout _ (by omega)) (hout _ (by omega))
  · rw [hE, pgE_app, hpg, ← h.put k hk]
    cases pgE (ents B) k <;> rfl
/-- Pages of the log are put. -/
theorem DI.puts (h : DI n room x P) {l : List (Nat × List UInt8)} (hl : ∀ e ∈ l, e ∈ logE x) {er : Int} (hP : PutR n room l er x x') (hV : ∀ k, (x'.V k).length = 512) (hn4 : 4 ≤ n) : DI n room x' P ∧ (er = 0 → ∀ k, k < room → pgV n x'.V k = (pgE l k).getD (pgV n x.V k)) := by
  have hlen : ∀ e ∈ l, e.2.length = 1024 := fun e he => logE_len x e (hl e he)
  obtain ⟨v1, v2, v3⟩ := hP.view hlen
  obtain ⟨-, -, -, hx⟩ := hP.more hlen
  have hE : logE x' = logE x := by rw [hx]; rfl
  have hlow : ∀ q : Int, q < (n : Int) → x'.V q = x.V q := fun q hq => v2 q fun e _ _ => by omega
  have hpg : ∀ k, k < room → pgE (logE x) k = none → pgV n x'.V k = pgV n x.V k := fun k hk h0 => by
    have hno := pgE_none h0
    refine pgV_congr (v2 _ fun e he hr => ?_) (v2 _ fun e he hr => ?_)
    · have := hno e (hl e he)
      omega
    · have := hno e (hl e he)
      omega
  refine ⟨⟨?_, ?_, ?_, ?_, fun k hk => ?_, fun p hp => ?_⟩, fun e0 k hk => ?_⟩
  · rw [show x'.run = x.run by rw [hx], show x'.base = x.base by rw [hx], show x'.used = x.used by rw [hx], show x'.bs = x.bs by rw [hx]]
    exact h.lg.congr hn4 hV fun q _ hq => hlow q hq
  · rw [show x'.run = x.run by rw [hx], show x'.used = x.used by rw [hx]]
    exact h.fr.congr fun q _ hq => hlow q hq
  · rw [show x'.run = x.run by rw [hx]]
    exact h.pv.congr (hlow _ (by omega)) (hlow _ (by omega))
  · rw [show x'.run = x.run by rw [hx], show x'.base = x.base by rw [hx]]
    exact h.bz
  · rw [hE, ← h.put k hk]
    cases hg : pgE (logE x) k with
    | some v => rfl
    | none => rw [hpg k hk hg]
  · rw [hE]
    rcases v3 p hp with q | ⟨e, he, q⟩
    · exact h.pcs p q
    · exact ⟨e, hl e he, q⟩
  · rw [v1 e0, pgV_putV hlen hk]
theorem DI.sync (h : DI n room x P) {er : Int} (hS : SyncR er x x') : DI n room x' P ∧ (er = 0 → x'.D.pcs = []) ∧ x'.V = x.V := by
  obtain ⟨v1, v2, v3, v4, -⟩ := hS.view
  have hE : logE x' = logE x := by rw [v2]; rfl
  refine ⟨⟨?_, ?_, ?_, ?_, ?_, fun p hp => ?_⟩, v4, v1⟩
  · rw [v1, show x'.run = x.run by rw [v2], show x'.base = x.base by rw [v2], show x'.used = x.used by rw [v2], show x'.bs = x.bs by rw [v2]]
    exact h.lg
  · rw [v1, show x'.run = x.run by rw [v2], show x'.used = x.used by rw [v2]]
    exact h.fr
  · rw [v1, show x'.run = x.run by rw [v2]]
    exact h.pv
  · rw [show x'.run = x.run by rw [v2], show x'.base = x.base by rw [v2]]
    exact h.bz
  · rw [hE, v1]
    exact h.put
  · rw [hE]
    exact h.pcs p (v3 p hp)
/-- The log is emptied, where all its pages are put. -/
theorem DI.reset (h : DI n room x P) (hq : ∀ k, k < room → pgV n x.V k = P k) (hR : ResetR 0 x x') (hr : x.run + 1 < 4611686018427387904) (hn4 : 4 ≤ n) : DI n room x' P ∧ x'.D.pcs = [] ∧ (∀ k, pgV n x'.V k = pgV n x.V k) ∧ x'.bs = [] := by
  obtain ⟨v1, v2, v3, v4, v5, v6, v7, v8, v9⟩ := hR.view
  obtain ⟨q1, q2⟩ := h.lg.reset hr v1
  have hout : ∀ q : Int, (n : Int) ≤ q → x'.V q = x.V q := fun q hq => by
    rw [v1, laid_head, if_neg (by omega)]
  have hpg : ∀ k, pgV n x'.V k = pgV n x.V k := fun k => pgV_congr (hout _ (by omega)) (hout _ (by omega))
  refine ⟨⟨?_, ?_, ?_, by rw [v4, v3], fun k hk => ?_, fun p hp => by rw [v8] at hp; cases hp⟩, v8, hpg, v7⟩
  · rw [v3, v4, v5, v7]; exact q1
  · rw [v3, v5]; exact q2
  · rw [v3]; exact h.lg.prev v1
  · unfold logE
    rw [v7, hpg]
    exact hq k hk
end
end Go.Proofs.Ytagipfkgnobjlaa
