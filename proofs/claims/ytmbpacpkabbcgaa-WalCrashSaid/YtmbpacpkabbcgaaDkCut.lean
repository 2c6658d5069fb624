/- What a crash leaves; laws for its walk. -/
import Derived.Test.YtmbpacpkabbcgaaDkClone
namespace Go.Proofs.Ytmbpacpkabbcgaa
open Go.RowKit

/-- How much of a new sector there is. -/
def keepN (p : Int) : Nat := ((p - 2) % 512).toNat
def cut (old new : List UInt8) (p : Int) : List UInt8 := if p = 0 then old else if p = 1 then new else new.take (keepN p) ++ old.drop (keepN p)
theorem cut_len {old new : List UInt8} (h1 : old.length = 512) (h2 : new.length = 512) (p : Int) : (cut old new p).length = 512 := by
  have hk : keepN p ≤ 512 := by unfold keepN; omega
  unfold cut
  split
  · exact h1
  · split
    · exact h2
    · rw [List.length_append, List.length_take, List.length_drop, h1, h2]; omega
theorem splice_cut {old new : List UInt8} (h1 : old.length = 512) (h2 : new.length = 512) {p : Int} (hp : ¬ p = 0) (hp1 : ¬ p = 1) : splice (old.map bv) 0 ((new.take (keepN p)).map bv) = (cut old new p).map bv := by
  have hk : keepN p ≤ 512 := by unfold keepN; omega
  rw [splice_map]
  unfold splice cut
  rw [if_neg hp, if_neg hp1, List.length_take, h2, Nat.min_eq_left hk]
  simp
def crsStep (s : (Int → List UInt8) × List Int) (p : Int × List UInt8) : (Int → List UInt8) × List Int := (updS s.1 (p.1, cut (s.1 p.1) p.2 (nextP s.2)), s.2.tail)
def crs (L : Int → List UInt8) (l : List Int) (pcs : List (Int × List UInt8)) : (Int → List UInt8) × List Int := pcs.foldl crsStep (L, l)
theorem crs_succ (L : Int → List UInt8) (l : List Int) {pcs : List (Int × List UInt8)} {k : Nat} (h : k < pcs.length) : crs L l (pcs.take (k + 1)) = crsStep (crs L l (pcs.take k)) pcs[k] := by
  unfold crs
  rw [List.take_succ_eq_append_getElem h, List.foldl_append]
  rfl
theorem crs_len {L : Int → List UInt8} (hL : ∀ k, (L k).length = 512) (l : List Int) (pcs : List (Int × List UInt8)) (hp : ∀ p ∈ pcs, p.2.length = 512) : ∀ k, ((crs L l pcs).1 k).length = 512 := by
  unfold crs
  induction pcs generalizing L l with
  | nil => exact hL
  | cons p r ih =>
    rw [List.foldl_cons]
    refine ih (L := (crsStep (L, l) p).1) (fun k => ?_) _ fun q hq => hp q (List.mem_cons_of_mem _ hq)
    unfold crsStep updS
    dsimp only
    split
    · exact cut_len (hL _) (hp p List.mem_cons_self) _
    · exact hL k
theorem crs_picks {L : Int → List UInt8} {l : List Int} {pcs : List (Int × List UInt8)} {P : Int → Prop} (h : ∀ x ∈ l, P x) : ∀ x ∈ (crs L l pcs).2, P x := by
  unfold crs
  induction pcs generalizing L l with
  | nil => exact h
  | cons p r ih =>
    rw [List.foldl_cons]
    exact ih (L := (crsStep (L, l) p).1) (l := (crsStep (L, l) p).2) fun x hx => h x (List.mem_of_mem_tail hx)
set_option maxRecDepth 100000 in
theorem wp_lookup {o : Oper} {act : Act} {K : Act → World → Prop} {Q : Exit → Act → World → Prop} {w : World} (x y : Operand) (ho : o.op = .lookup 64 x y false) {m : Nat} {es : Array MapEntry} {clock : Nat} {last : Int → List UInt8}
    (h : w.heap[m]? = some (.map es clock)) (hm : MapIs clock es.toList last) (k : Int) (hx : act.eval x = .map (some m)) (hy : act.eval y = .int .i64 k)
    (hK : K (act.put o.dst (.agg ((last k).map bv).toArray)) w) : o.wp Try.prog act w K Q := by
  unfold Oper.wp execOp
  simp only [ho, hx, hy]
  rw [Sem.run_bind, lookup_run h hm k]
  exact hK
set_option maxRecDepth 100000 in
theorem wp_allocZ {P : Program} {o : Oper} {act : Act} {K : Act → World → Prop} {Q : Exit → Act → World → Prop} {w : World} (ty : TypeId) (ho : o.op = .alloc ty) (Z : Array Value) (hz : (P.info? ty).map (·.zero) = some (some (.agg Z)))
    (h : ∀ w', RowAt w' w.heap.size ty Z → Below w.heap.size w w' → w'.heap.size = w.heap.size + 1 → K (act.put o.dst (.pointer (some ⟨w.heap.size, 0, none⟩))) w') : o.wp P act w K Q := by
  unfold Oper.wp execOp
  simp only [ho]
  have hr : (Instr.alloc ty true (.tuple #[])).run P w = .ok (.pointer (some ⟨w.heap.size, 0, none⟩)) (w.alloc (.cells Z ty)) := by
    cases hq : P.info? ty with
    | none => rw [hq] at hz; cases hz
    | some i =>
      rw [hq] at hz
      have hz : i.zero = some (.agg Z) := Option.some.inj hz
      simp [Instr.alloc, zeroValue, typeInfo, hq, hz, Sem.run_bind, newVar]
      rfl
  rw [Sem.run_bind, hr]
  exact h _ (RowAt.new _ _ _) (below_alloc _) (by simp)
theorem wp_storeRow {P : Program} {o : Oper} {a : Act} {w : World} {K : Act → World → Prop} {Q : Exit → Act → World → Prop} (ty : TypeId) (x y : Operand) (ho : o.op = .store ty x y)
    (b : Nat) (cells : Array Value) (hx : a.eval x = .pointer (some ⟨b, 0, none⟩)) (hy : a.eval y = .agg cells)
    (t : TypeId) (old : Array Value) (hg : RowAt w b t old) (hi : (P.info? ty).map (·.size) = some cells.size)
    (hold : old.size = cells.size) (h1 : cells.all (·.oneCell') = true)
    (h : ∀ w', RowAt w' b t cells → w.grownBy w' (some b) → K (a.put o.dst undef) w') : o.wp P a w K Q :=
  wp_store_row ty x y ho b cells hx hy t old hg hi hold h1 (h _ (setRow_heap w b old cells t (0, 0) hg) (grown_setRow w b cells))
theorem step_copyR {ops : Array Oper} {o : Oper} {a : Act} {w : World} {K : Act → World → Prop} {Q : Exit → Act → World → Prop} {E : Prop} (hgd : o.guard = none) (d s : Operand)
    (ho : o.op = .call { callee := .builtin .copy, args := #[d, s], argTypes := #[41, 41] })
    (g off dLen dCap : Nat) (ad : Addr) (sLen sCap : Nat) (hd : a.eval d = .slice (some ⟨g, off, none⟩) dLen dCap) (hs : a.eval s = .slice (some ad) sLen sCap)
    (T : TypeId) (cur : List Value) (hg : RowAt w g T cur.toArray) (cs : List Value) (hn : cs.length = Nat.min sLen dLen)
    (hsrc : ∀ j v, cs[j]? = some v → w.cell? (ad.add j) = some v) (hfit : off + cs.length ≤ cur.length) (h1 : ∀ v ∈ cs, v.oneCell' = true)
    (h : ∀ w', RowAt w' g T (splice cur off cs).toArray → w.grownBy w' (some g) → K (a.put o.dst (goInt cs.length)) w') :
    if Region.wanted o (yielded ops a.tmps) = true then Oper.wp Try.prog o a w K Q else E := by
  have hw : Region.wanted o (yielded ops a.tmps) = true := by simp [Region.wanted, hgd]
  rw [if_pos hw]
  have hrun := run_copy_row (P := Try.prog) w 41 41 o.type 5 g off dLen dCap ad sLen sCap cur.toArray T cs Try.underlying41 (by kernel_rfl) hg hn hsrc (by simpa using hfit) h1
  unfold Oper.wp
  simp [execOp, ho, resolve, invoke, builtin, hd, hs, hrun, Result.andThen]
  refine h _ (show _ = _ by simpa [splice] using setRow_heap w g _ _ _ _ hg) (grown_setRow w g _)
set_option maxRecDepth 100000 in
theorem yieldsIf_lookup {ops : Array Oper} {S : World → Prop} {o : Oper} {act : Act} (hw : Region.wanted o (yielded ops act.tmps) = true) (x y : Operand) (ho : o.op = .lookup 64 x y false) {m : Nat} {es : Array MapEntry} {clock : Nat} {last : Int → List UInt8}
    (hm : MapIs clock es.toList last) (k : Int) (hx : act.eval x = .map (some m)) (hy : act.eval y = .int .i64 k) (hS : ∀ w, S w → w.heap[m]? = some (.map es clock)) : YieldsIf Try.prog ops S o (.agg ((last k).map bv).toArray) act :=
  .inl ⟨hw, fun w hw' => by
    unfold execOp
    simp only [ho, hx, hy]
    rw [Sem.run_bind, lookup_run (hS w hw') hm k]
    rfl⟩
theorem RdI.low {w w' : World} {g : Nat} (hb : Below g w w') {a : Option Addr} {l : List Int} (h : RdI w a l) (hg : ∀ ad, a = some ad → l ≠ [] → ad.block < g) : RdI w' a l := by
  rcases h with h | ⟨b, off, ha, hlt, hc⟩
  · exact .inl h
  · by_cases hl : l = []
    · exact .inl (by rw [hl]; rfl)
    · have := hg _ ha hl
      exact .inr ⟨b, off, ha, Nat.lt_of_lt_of_le hlt hb.size, fun k hk => (hb.cell (p := ⟨b, off + k, none⟩) this).trans (hc k hk)⟩
/-- The round of a crash: the picks' box, the new map, the new disk's row. -/
def CrsInv (w wr : World) (g mo size : Nat) (S : (Int → List UInt8) × List Int) : Prop :=
  Below g w wr ∧ (∃ a n cap, RowAt wr g 57 #[.slice a n cap] ∧ n = S.2.length ∧ n ≤ cap ∧ RdI wr a S.2 ∧ ∀ ad, a = some ad → S.2 ≠ [] → ad.block < g) ∧ (∃ es cl, wr.heap[mo]? = some (.map es cl) ∧ MapIs cl es.toList S.1) ∧ RowAt wr (mo + 1) 71 #[.int .i64 (size : Int), .map (some mo), .slice none 0 0, .slice none 0 0, .int .i64 0]
theorem row_keep {w w' : World} {X : Nat → Prop} (hk : KeepA X w w') {b : Nat} {t : TypeId} {cells : Array Value} (h : RowAt w b t cells) (hx : ¬ X b) : RowAt w' b t cells := (hk.same b h.lt hx).trans h
theorem CrsInv.put {w wz w9 : World} {g mo size : Nat} {P : List Int} {L : Int → List UInt8} (hb : Below g w wz)
    (hbox : ∃ a n cap, RowAt wz g 57 #[.slice a n cap] ∧ n = P.length ∧ n ≤ cap ∧ RdI wz a P ∧ ∀ ad, a = some ad → P ≠ [] → ad.block < g)
    (ho : RowAt wz (mo + 1) 71 #[.int .i64 (size : Int), .map (some mo), .slice none 0 0, .slice none 0 0, .int .i64 0]) (hgm : g < mo) {es : Array MapEntry} {cl : Nat}
    (m1 : w9.heap[mo]? = some (.map es cl)) (m2 : MapIs cl es.toList L) (m3 : KeepA (fun k => k = mo) wz.drew w9) : CrsInv w w9 g mo size (L, P) := by
  have hd : Below wz.heap.size wz wz.drew := drewN_below (Below.refl _ wz) 1
  have hk : KeepA (fun k => k = mo) wz w9 := (KeepA.of_below hd).trans m3
  obtain ⟨a, n, cap, b1, b2, b3, b4, b5⟩ := hbox
  have hb9 : Below g wz w9 := hk.below (Nat.le_of_lt b1.lt) (by rintro x rfl; omega)
  exact ⟨hb.trans hb9, ⟨a, n, cap, row_keep hk b1 (by omega), b2, b3, RdI.low hb9 b4 b5, b5⟩, ⟨es, cl, m1, m2⟩, row_keep hk ho (by omega)⟩
theorem cut_zero (s t : List UInt8) : cut s t 0 = s := rfl
theorem cut_one (s t : List UInt8) : cut s t 1 = t := rfl
end Go.Proofs.Ytmbpacpkabbcgaa
