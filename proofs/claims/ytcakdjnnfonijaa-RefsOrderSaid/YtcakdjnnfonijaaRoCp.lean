/- A copy of links, row by row. -/
import Derived.Test.YtcakdjnnfonijaaRoOrd
import Derived.Test.YtcakdjnnfonijaaRoOpen
namespace Go.Proofs.Ytcakdjnnfonijaa
open Go.RowKit

theorem lkC_len (x : Lk) : (lkC x).length = 3 := rfl
theorem eltLk : Elt Try.prog 22 28 3 48 (.agg #[.string ⟨#[]⟩, .int .i64 0, .slice none 0 0]) := ⟨Try.underlying22, by kernel_rfl, by kernel_rfl, by decide⟩
def OwnLk (w : World) (v : Value) (H : List Lk) : Prop := w.ownsRow 0 28 3 v H.length (H.flatMap lkC)
theorem lkC_one (l : List Lk) : ∀ u ∈ l.flatMap lkC, u.oneCell' = true := fun u hu => by
  obtain ⟨x, -, hx⟩ := List.mem_flatMap.1 hu
  simp only [lkC, List.mem_cons, List.not_mem_nil, or_false] at hx
  rcases hx with rfl | rfl | rfl <;> rfl
theorem OwnLk.nil (w : World) : OwnLk w (.slice none 0 0) [] := World.ownsRow_nil _ _ _ _
theorem OwnLk.lt {w : World} {v : Value} {H : List Lk} (h : OwnLk w v H) {g : Nat} (hg : v.ownBlock = some g) : g < w.heap.size := (World.ownsRow.lt h g hg).2
theorem OwnLk.keep {w w' : World} {X : Nat → Prop} (hk : KeepA X w w') {v : Value} {H : List Lk} (h : OwnLk w v H) (hx : ∀ g, v.ownBlock = some g → ¬ X g) : OwnLk w' v H := own_keep hk h hx
theorem OwnLk.rd {w : World} {v : Value} {H : List Lk} (h : OwnLk w v H) : ∃ a cap, v = .slice a H.length cap ∧ RowsAt w a 3 H (CellsAt w lkC) := by
  obtain ⟨a, cap, h3, -, h5⟩ := Rd.of_own h
  exact ⟨a, cap, h3, rows_of_rd lkC_len (by decide) h5⟩
/-- A row of links is added. -/
theorem wp_pushLk {o : Oper} {act : Act} {K : Act → World → Prop} {Q : Exit → Act → World → Prop} {w : World} (s x : Operand) (ho : o.op = .call { callee := .builtin .append, args := #[s, x], argTypes := #[22, 22] })
    (v : Value) (H : List Lk) (hv : act.eval s = v) (g : Nat) (r : Lk) (hx : act.eval x = .slice (some ⟨g, 0, none⟩) 1 1) (hown : OwnLk w v H) (hg : CellsAt w lkC g 0 r) (hl : g < w.heap.size) (hsz : H.length ≤ 1000000)
    (h : ∀ v' w', OwnLk w' v' (H ++ [r]) → w.grownBy w' v.ownBlock → NewRow w v v' → K (act.put o.dst v') w') : o.wp Try.prog act w K Q := by
  have hrd : Rd w (some ⟨g, 0, none⟩) (lkC r) := .inr ⟨g, 0, rfl, hl, fun k hk => hg k _ (List.getElem?_eq_getElem hk)⟩
  obtain ⟨v', w', hrun, q2, q3, q4⟩ := run_append_any eltLk w 0 o.type v H.length (H.flatMap lkC) hown (some ⟨g, 0, none⟩) 1 1 (lkC r) rfl hrd (fun u hu => lkC_one [r] u (by simpa using hu)) (by omega) (by omega) (Nat.zero_le _)
  unfold Oper.wp execOp
  simp only [ho, resolve, invoke, builtin, Sem.run_bind, Sem.run_pure, Result.andThen_ok, List.map_toArray, List.map_cons, List.map_nil, hv, hx, hrun]
  refine h v' w' ?_ q3 q4
  unfold OwnLk
  rw [List.length_append, List.flatMap_append]
  simpa using q2
/-- A row of versions is copied. -/
theorem wp_copyRf {o : Oper} {act : Act} {K : Act → World → Prop} {Q : Exit → Act → World → Prop} {w : World} (s x : Operand) (ho : o.op = .call { callee := .builtin .append, args := #[s, x], argTypes := #[26, 26] })
    (hv : act.eval s = .slice none 0 0) (a : Option Addr) (n c : Nat) (l : List Rf) (hn : l.length = n) (hx : act.eval x = .slice a n c) (hrd : RdRf w a l) (hsz : n ≤ 1000000)
    (h : ∀ a' c' w', OwnRf w' (.slice a' n c') l → w.grownBy w' none → NewRow w (.slice none 0 0) (.slice a' n c') → K (act.put o.dst (.slice a' n c')) w') : o.wp Try.prog act w K Q := by
  obtain ⟨v', w', hrun, q2, q3, q4⟩ := run_append_any eltRf w 0 o.type (.slice none 0 0) 0 [] (World.ownsRow_nil _ _ _ _) a n c (l.flatMap rfC) (by rw [flat_len rfC_len, hn]) (rd_of_rows rfC_len (by decide) hrd) (fun u hu => rfC_one l u hu) (by omega) (by omega) (Nat.zero_le _)
  have hown : OwnRf w' v' l := by
    unfold OwnRf
    rw [hn]
    simpa using q2
  obtain ⟨a', c', hv', -, -, -⟩ := hown.rd
  rw [hn] at hv'
  subst hv'
  unfold Oper.wp execOp
  simp only [ho, resolve, invoke, builtin, Sem.run_bind, Sem.run_pure, Result.andThen_ok, List.map_toArray, List.map_cons, List.map_nil, hv, hx, hrun]
  exact h a' c' w' hown q3 q4
def lkS (x : Lk) : Value := .slice x.ta x.ts.length x.tc
/-- The copy so far. -/
structure CpSt (w0 w : World) (g : Nat) (v : Value) (cs : List Lk) : Prop where
  below : Below g w0 w
  own : OwnLk w v cs
  low : ∀ p, v.ownBlock = some p → g ≤ p
  tos : ∀ x ∈ cs, OwnRf w (lkS x) x.ts ∧ ∀ p, (lkS x).ownBlock = some p → v.ownBlock ≠ some p
section
variable {w0 w : World} {g : Nat} {v : Value} {cs : List Lk}
theorem CpSt.start (w0 : World) (g : Nat) : CpSt w0 w0 g (.slice none 0 0) [] := ⟨Below.refl _ _, OwnLk.nil _, fun p hp => by simp [Value.ownBlock] at hp, fun x hx => by cases hx⟩
theorem CpSt.push (h : CpSt w0 w g v cs) (hg : w0.heap.size = g) {x : Lk} {w1 w2 w3 : World} {v' : Value} (kb : Below w.heap.size w w1) (ho : OwnRf w1 (lkS x) x.ts) (hn : NewRow w (.slice none 0 0) (lkS x)) (hb : Below w1.heap.size w1 w2) (ho3 : OwnLk w3 v' (cs ++ [x])) (hg3 : w2.grownBy w3 v.ownBlock) (hn3 : NewRow w2 v v') : CpSt w0 w3 g v' (cs ++ [x]) := by
  have hgw : g ≤ w.heap.size := by rw [← hg]; exact h.below.size
  have kbw := below_trans kb hb
  have hn' : ∀ p, (lkS x).ownBlock = some p → w.heap.size ≤ p := fun p hp => (hn p hp).elim (fun e => by simp [Value.ownBlock] at e) id
  have hlt : ∀ p, v.ownBlock = some p → p < w.heap.size := fun p hp => h.own.lt hp
  refine ⟨below_grown (h.below.trans (kbw.mono hgw)) hg3 (by have := kbw.size; omega) h.low, ho3, fun p hp => (hn3 p hp).elim (h.low p) (fun e => by have := kbw.size; omega), fun y hy => ?_⟩
  have key : ∀ z : Lk, OwnRf w2 (lkS z) z.ts → (∀ p, (lkS z).ownBlock = some p → v.ownBlock ≠ some p) → OwnRf w3 (lkS z) z.ts ∧ ∀ p, (lkS z).ownBlock = some p → v'.ownBlock ≠ some p := fun z k1 k2 => by
    refine ⟨k1.keep (keep_grownO hg3) (fun p hp e => k2 p hp e), fun p hp e => ?_⟩
    rcases hn3 p e with e | e
    · exact k2 p hp e
    · have := k1.lt hp; omega
  rcases List.mem_append.1 hy with hy | hy
  · obtain ⟨k1, k2⟩ := h.tos y hy
    exact key y (k1.later kbw) k2
  · rw [List.mem_singleton.1 hy]
    exact key x (ho.later hb) fun p hp e => by have := hn' p hp; have := hlt p e; omega
theorem CpSt.rows (h : CpSt w0 w g v cs) {L : List (Rf × List Rf)} (hL : plainL cs = L) : ∃ a c b off, v = .slice a L.length c ∧ (0 < L.length → a = some ⟨b, off, none⟩ ∧ b < w.heap.size) ∧ ∀ k (hk : k < L.length), ∃ ta tc, ∀ W, Below w.heap.size w W → LkR W b (off + k * 3) L[k] ta tc := by
  subst hL
  obtain ⟨a, c, hv, hr⟩ := h.own.rd
  have hl : (plainL cs).length = cs.length := by simp [plainL]
  rcases hr with e | ⟨b, off, ha, hb, hi⟩
  · subst e
    exact ⟨a, c, 0, 0, hv, fun h => absurd h (by simp [plainL]), fun k hk => absurd hk (by simp [plainL])⟩
  · refine ⟨a, c, b, off, by rw [hl]; exact hv, fun _ => ⟨ha, hb⟩, fun k hk => ?_⟩
    have hk' : k < cs.length := by omega
    refine ⟨cs[k].ta, cs[k].tc, fun W hW => ?_⟩
    have hc := (hi k hk').later hW hb
    obtain ⟨a2, c2, e2, -, -, hrd⟩ := (h.tos cs[k] (List.getElem_mem hk')).1.rd
    unfold lkS at e2
    simp only [Value.slice.injEq] at e2
    obtain ⟨rfl, -, rfl⟩ := e2
    have e : (plainL cs)[k] = (cs[k].fr, cs[k].ts) := by simp [plainL]
    rw [e]
    refine ⟨fun j u hu => hc j u ?_, hc 2 _ rfl, hrd.later hW⟩
    match j, hu with
    | 0, hu => exact hu
    | 1, hu => exact hu
end
theorem topo_len {α : Type} [DecidableEq α] {lt : α → α → Bool} {L : List (α × List α)} : ∀ (k : Nat) (o out : List α), topo lt L k o = some out → out.length = o.length + k
  | 0, o, out, h => by cases h; rfl
  | k + 1, o, out, h => by
    unfold topo at h
    cases hp : pick lt L o with
    | none => rw [hp] at h; cases h
    | some v =>
      rw [hp] at h
      have := topo_len k _ out h
      rw [List.length_append, List.length_singleton] at this
      omega
theorem ordR_len (lt : Rf → Rf → Bool) (L : List (Rf × List Rf)) : (ordR lt L).1.length ≤ L.length := by
  unfold ordR
  split
  · simp
  · split
    · simp
    · split
      · simp
      · cases h : topo lt L L.length [] with
        | none => simp
        | some out =>
          have := topo_len _ _ _ h
          simp only [List.length_nil, Nat.zero_add] at this
          exact Nat.le_of_eq this
end Go.Proofs.Ytcakdjnnfonijaa
