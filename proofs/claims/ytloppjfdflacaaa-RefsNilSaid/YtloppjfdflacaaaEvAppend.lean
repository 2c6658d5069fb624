/- A reckoner of closed runs, 11: append. Nothing of the program is used here. -/
import Derived.Test.YtloppjfdflacaaaEvEntry
import Derived.Deep.AppendSrc
import Derived.Deep.Upon
namespace Go.Proofs.Ytloppjfdflacaaa
open Go.RowKit

/-- A name is given up. -/
theorem Emb.kill {ρ : Env} {base : Nat} {w0 : World} {h : Hp} {w : World} (E : Emb ρ base w0 h w) (id : Nat) : Emb ρ base w0 (h.put id .gone) w := by
  have hgone : ∀ j, (h.put id .gone).get j ≠ .gone → j ≠ id ∧ h.get j ≠ .gone := fun j hj => by
    rw [Hp.get_put] at hj
    by_cases e : j = id
    · rw [if_pos e] at hj; exact absurd rfl hj
    · rw [if_neg e] at hj; exact ⟨e, hj⟩
  refine ⟨E.below, E.bw, E.fresh, fun j hj => ?_, fun j j' l l' hj hj' => E.apart j j' l l' (hgone j hj).2 (hgone j' hj').2⟩
  rw [Hp.get_put, if_neg (hgone j hj).1]
  exact E.live j (hgone j hj).2
/-- A block goes by another name. -/
theorem Emb.reuse {ρ : Env} {base : Nat} {w0 : World} {h : Hp} {w w' : World} (E : Emb ρ base w0 h w) {id : Nat} (hlive : h.get id ≠ .gone) {l l' : Loc} (hl : ρ id = some l) (hll : l'.blk = l.blk) (hg : w.grownBy w' (some l.blk)) {b' : Blk}
    (hr : BlkR (ρ.add h.nx l') l' b' w'.heap[l'.blk]?) : Emb (ρ.add h.nx l') base w0 ((h.put id .gone).new b') w' := by
  have hn := E.fresh0
  obtain ⟨l0, hl0, hb0, _⟩ := E.live id hlive
  obtain rfl := Option.some.inj (hl.symm.trans hl0)
  have hlt := (E.fresh id l hl).2
  have hidn : id ≠ h.nx := fun e => by rw [e, hn] at hl; cases hl
  have hget : ∀ j, j ≠ h.nx → ((h.put id .gone).new b').get j = if j = id then .gone else h.get j := fun j e => by rw [Hp.get_new, if_neg (show ¬ j = (h.put id .gone).nx from e), Hp.get_put]
  have hold : ∀ j, j ≠ h.nx → ((h.put id .gone).new b').get j ≠ .gone → j ≠ id ∧ h.get j ≠ .gone := fun j e hj => by
    rw [hget j e] at hj
    by_cases e' : j = id
    · rw [if_pos e'] at hj; exact absurd rfl hj
    · rw [if_neg e'] at hj; exact ⟨e', hj⟩
  have hadd : ∀ j, j ≠ h.nx → ρ.add h.nx l' j = ρ j := fun j e => by unfold Env.add; rw [if_neg e]
  refine ⟨E.below.grown hg E.bw (fun k hk => by obtain rfl := Option.some.inj hk; exact hb0), Nat.le_trans E.bw hg.size, fun j l1 hj => ?_, fun j hj => ?_, fun j j' l1 l1' hj hj' h0 h0' e => ?_⟩
  · by_cases e : j = h.nx
    · subst e
      rw [add_self] at hj
      obtain rfl := Option.some.inj hj
      exact ⟨Nat.lt_succ_self _, by rw [hll]; exact Nat.lt_of_lt_of_le hlt hg.size⟩
    · rw [hadd j e] at hj
      have := E.fresh j l1 hj
      exact ⟨Nat.lt_succ_of_lt this.1, Nat.lt_of_lt_of_le this.2 hg.size⟩
  · by_cases e : j = h.nx
    · subst e
      refine ⟨l', add_self _ _ _, by rw [hll]; exact hb0, ?_⟩
      rw [Hp.get_new, if_pos (show h.nx = (h.put id .gone).nx from rfl)]
      exact hr
    · obtain ⟨e1, hj1⟩ := hold j e hj
      obtain ⟨l1, hl1, hb1, hr1⟩ := E.live j hj1
      have hne : l1.blk ≠ l.blk := fun e' => e1 (E.apart j id l1 l hj1 hlive hl1 hl e')
      refine ⟨l1, by rw [hadd j e]; exact hl1, hb1, ?_⟩
      rw [hget j e, if_neg e1, hg.block l1.blk (E.fresh j l1 hl1).2 (fun e' => hne (Option.some.inj e'))]
      exact hr1.mono (Env.le_add hn)
  · by_cases e1 : j = h.nx
    · by_cases e2 : j' = h.nx
      · rw [e1, e2]
      · rw [e1, add_self] at h0
        obtain rfl := Option.some.inj h0
        rw [hadd j' e2] at h0'
        obtain ⟨e3, hj3⟩ := hold j' e2 hj'
        exact absurd (E.apart j' id l1' l hj3 hlive h0' hl (by rw [← e, hll])) e3
    · by_cases e2 : j' = h.nx
      · rw [e2, add_self] at h0'
        obtain rfl := Option.some.inj h0'
        rw [hadd j e1] at h0
        obtain ⟨e3, hj3⟩ := hold j e1 hj
        exact absurd (E.apart j id l1 l hj3 hlive h0 hl (by rw [e, hll])) e3
      · rw [hadd j e1] at h0
        rw [hadd j' e2] at h0'
        exact E.apart j j' l1 l1' (hold j e1 hj).2 (hold j' e2 hj').2 h0 h0' e
def allOne : List AV → Bool
  | [] => true
  | a :: r => match a.one with
    | true => allOne r
    | false => false
theorem allOne_spec : ∀ (cz : List AV), allOne cz = true → ∀ a ∈ cz, a.one = true
  | [], _, a, h => by cases h
  | b :: r, h, a, ha => by
    simp only [allOne] at h
    cases hb : b.one with
    | false => rw [hb] at h; cases h
    | true =>
      rw [hb] at h
      rcases List.mem_cons.1 ha with rfl | ha
      · exact hb
      · exact allOne_spec r h a ha
theorem allOne_real {ρ : Env} {cz : List AV} {xs : List Value} (h : allOne cz = true) (hr : AV.reals ρ cz = some xs) (u : Value) (hu : u ∈ xs) : u.oneCell' = true := by
  obtain ⟨a, ha, hx⟩ := reals_mem hr hu
  exact AV.one_real hx (allOne_spec cz h a ha)
def evSrc (P : Program) (h : Hp) (size : Nat) (tx : TypeId) (x : AV) : Option (Nat × List AV) := match P.underlying tx with
  | some (.slice _) => match x with
    | .v (.slice none 0 _) => some (0, [])
    | .slc id off len _ _ => match Nat.beq len 0 with
      | true => some (0, [])
      | false => match h.get id with
        | .cells t n dfl _ _ => match cellsFrom t n dfl (len * size) off with
          | some cs => match allOne cs with
            | true => some (len, cs)
            | false => none
          | none => none
        | _ => none
    | _ => none
  | some .string => match x with
    | .v (.string s) => match Nat.beq size 1 with
      | true => some (s.size, (byteCells s).map .v)
      | false => none
    | _ => none
  | _ => none
theorem evSrc_ok {P : Program} {ρ : Env} {base : Nat} {w0 : World} {h : Hp} {w : World} (E : Emb ρ base w0 h w) {size : Nat} {tx : TypeId} {x : AV} {xv : Value} {n : Nat} {cz : List AV} (hx : x.real ρ = some xv) (hs : evSrc P h size tx x = some (n, cz)) :
    ∃ xs, AV.reals ρ cz = some xs ∧ Src P size tx xv n xs w := by
  unfold evSrc at hs
  split at hs
  · rename_i e' hk
    split at hs
    · obtain ⟨rfl, rfl⟩ := Prod.mk.inj (Option.some.inj hs)
      simp only [AV.real, Option.some.injEq] at hx
      subst hx
      exact ⟨[], rfl, Src.ofNil w hk _⟩
    · rename_i id off len cap ex
      simp only [AV.real, Option.map_eq_some_iff] at hx
      obtain ⟨l, hl, rfl⟩ := hx
      split at hs
      · rename_i h0
        obtain rfl := Nat.eq_of_beq_eq_true h0
        obtain ⟨rfl, rfl⟩ := Prod.mk.inj (Option.some.inj hs)
        exact ⟨[], rfl, Src.ofSlice w hk _ 0 _ [] (by simp) (fun j u hj => by simp at hj) (fun u hu => by cases hu)⟩
      · split at hs
        · rename_i t m dfl elem opn hg
          split at hs
          · rename_i cs hcs
            split at hs
            · rename_i ho
              obtain ⟨rfl, rfl⟩ := Prod.mk.inj (Option.some.inj hs)
              obtain ⟨xs, h1, h2, _, h4⟩ := E.loads hg hl _ _ _ hcs
              exact ⟨xs, h1, Src.ofSlice w hk _ len _ xs h2 (fun j u hj => by rw [Addr.add_plain]; exact h4 j u hj) (allOne_real ho h1)⟩
            · cases hs
          · cases hs
        · cases hs
    · cases hs
  · rename_i hk
    split at hs
    · rename_i s
      split at hs
      · rename_i h1
        obtain rfl := Nat.eq_of_beq_eq_true h1
        obtain ⟨rfl, rfl⟩ := Prod.mk.inj (Option.some.inj hs)
        simp only [AV.real, Option.some.injEq] at hx
        subst hx
        exact ⟨byteCells s, reals_v ρ _, Src.ofString w hk s⟩
      · cases hs
    · cases hs
  · cases hs
theorem cellsFrom_some (t : Tr AV) (n : Nat) (dfl : AV) : ∀ (k i : Nat), i + k ≤ n → ∃ cz, cellsFrom t n dfl k i = some cz
  | 0, i, _ => ⟨[], rfl⟩
  | k + 1, i, h => by
    obtain ⟨cz, ha⟩ := cellsFrom_some t n dfl k (i + 1) (by omega)
    exact ⟨_, by simp only [cellsFrom, cellAt_lt (show i < n by omega), ha, Option.map_some]; rfl⟩
theorem cellsFrom_at (t : Tr AV) (n : Nat) (dfl : AV) : ∀ (k i : Nat) (cz : List AV), cellsFrom t n dfl k i = some cz → cz.length = k ∧ ∀ j, j < k → cz[j]? = cellAt t n dfl (i + j)
  | 0, i, cz, h => by
    obtain rfl := Option.some.inj h
    exact ⟨rfl, fun j hj => by omega⟩
  | k + 1, i, cz, h => by
    simp only [cellsFrom] at h
    split at h
    · rename_i a ha
      obtain ⟨r, hr, rfl⟩ := Option.map_eq_some_iff.1 h
      obtain ⟨h1, h2⟩ := cellsFrom_at t n dfl k (i + 1) r hr
      refine ⟨by simp [h1], fun j hj => ?_⟩
      cases j with
      | zero => simp [ha]
      | succ j => rw [List.getElem?_cons_succ, h2 j (by omega), show i + 1 + j = i + (j + 1) by omega]
    · cases h
def tGrow (tr : Tr AV) (m : Nat) (dfl : AV) (off k total : Nat) (cz : List AV) : Option (Tr AV × AV) := match Nat.beq off 0 with
  | true => (setCells total cz tr k).map (·, dfl)
  | false => match cellsFrom tr m dfl k off with
    | some os => (setCells total (os ++ cz) .nil 0).map (·, .tup [])
    | none => none
theorem tGrow_spec {tr : Tr AV} {m : Nat} {dfl : AV} {off k total : Nat} {cz os : List AV} {t' : Tr AV} {d' : AV} (hos : cellsFrom tr m dfl k off = some os) (ht : total = k + cz.length) (hm : off + k ≤ m) (h : tGrow tr m dfl off k total cz = some (t', d')) :
    ∀ j a, cellAt t' total d' j = some a → (os ++ cz)[j]? = some a := by
  obtain ⟨hl, ho⟩ := cellsFrom_at tr m dfl k off os hos
  intro j a hj
  obtain ⟨hlt, rfl⟩ := cellAt_some hj
  unfold tGrow at h
  split at h
  · rename_i h0
    obtain rfl := Nat.eq_of_beq_eq_true h0
    obtain ⟨t1, h1, h2⟩ := Option.map_eq_some_iff.1 h
    obtain ⟨rfl, rfl⟩ := Prod.mk.inj h2
    obtain ⟨_, _, h3⟩ := setCells_spec total cz tr k t1 h1
    rw [h3 j]
    by_cases e : j < k
    · rw [if_neg (by omega), List.getElem?_append_left (by omega), ho j e, Nat.zero_add, cellAt_lt (by omega)]
    · rw [if_pos (by omega), List.getElem?_append_right (by omega), hl, List.getElem?_eq_getElem (by omega)]
      rfl
  · rw [hos] at h
    obtain ⟨t1, h1, h2⟩ := Option.map_eq_some_iff.1 h
    obtain ⟨rfl, rfl⟩ := Prod.mk.inj h2
    obtain ⟨_, _, h3⟩ := setCells_spec total (os ++ cz) .nil 0 t1 h1
    rw [h3 j, if_pos ⟨Nat.zero_le _, by rw [List.length_append, hl]; omega⟩, Nat.sub_zero, List.getElem?_eq_getElem (by rw [List.length_append, hl]; omega)]
    rfl
theorem run_append_room_st {P : Program} (w w' : World) (t tx ty e : TypeId) (i : TypeInfo) (ht : P.underlying t = some (.slice e)) (hi : P.info? e = some i) (b off sLen sCap : Nat) (x : Value) (n : Nat) (news : List Value) (hs : Src P i.size tx x n news w)
    (hroom : sLen + n ≤ sCap) (hst : (storeCells ⟨b, off + sLen * i.size, none⟩ news).run P w = .ok () w') :
    (Builtin.append_ #[t, tx] ty #[.slice (some ⟨b, off, none⟩) sLen sCap, x]).run P w = .ok (.slice (some ⟨b, off, none⟩) (sLen + n) sCap) w' := by
  rcases hs.kind with ⟨e', hk⟩ | hk <;> simp [Builtin.append_, run_underlying ht, run_underlying hk, sizeOf, typeInfo, hi, hs.len, hroom, hs.cells, Addr.add_plain, hst]
def evAppend (P : Program) (h : Hp) (t tx : TypeId) (s x : AV) : Option (AV × Hp) := match P.underlying t with
  | some (.slice e) => match P.info? e with
    | some i => match evSrc P h i.size tx x with
      | some (n, cz) => match s with
        | .v (.slice none 0 0) => match Nat.beq n 0 with
          | true => some (.v (.slice none 0 0), h)
          | false => match i.zero with
            | some z => match Nat.ble (n * i.bytes) 140737488355328 with
              | true => match Nat.ble n 9223372036854775807 with
                | true => match Nat.beq z.cells.size i.size with
                  | true => (setCells (n * i.size) cz .nil 0).map fun t' => (.slc h.nx 0 n n false, h.new (.cells t' (n * i.size) (.tup []) e (some i.size)))
                  | false => none
                | false => none
              | false => none
            | none => none
        | .slc id off len cap ex => match Nat.beq n 0 with
          | true => match Nat.ble len cap with
            | true => some (.slc id off len cap ex, h)
            | false => none
          | false => match h.get id with
            | .cells tr m dfl elem opn => match Nat.ble (len + n) cap with
              | true => (setCells m cz tr (off + len * i.size)).map fun t' => (.slc id off (len + n) cap ex, h.put id (.cells t' m dfl elem opn))
              | false => match i.zero with
                | some z => match Nat.ble ((len + n) * i.bytes) 140737488355328 with
                  | true => match Nat.ble (len + n) 9223372036854775807 with
                    | true => match Nat.beq z.cells.size i.size with
                      | true => match Nat.ble (off + len * i.size) m with
                        | true => match tGrow tr m dfl off (len * i.size) ((len + n) * i.size) cz with
                          | some (t', d') => match ex with
                            | true => some (.slc h.nx 0 (len + n) (len + n) false, h.new (.cells t' ((len + n) * i.size) d' e (some i.size)))
                            | false => match opn with
                              | some sz => match Nat.beq sz i.size with
                                | true => match Nat.beq (off + cap * i.size) m with
                                  | true => match Nat.beq elem e with
                                    | true => some (.slc h.nx 0 (len + n) (len + n) false, (h.put id .gone).new (.cells t' ((len + n) * i.size) d' e (some i.size)))
                                    | false => none
                                  | false => none
                                | false => none
                              | none => none
                          | none => none
                        | false => none
                      | false => none
                    | false => none
                  | false => none
                | none => none
            | _ => none
        | _ => none
      | none => none
    | none => none
  | _ => none
theorem zeroCells_size (z : Array Value) (n : Nat) : (Builtin.zeroCells z n).size = n * z.size := by simp [Builtin.zeroCells]
/-- The new row of an append that grows. -/
theorem grown_row {ρ : Env} {os : List AV} {olds : List Value} {cz : List AV} {news : List Value} (h1 : AV.reals ρ os = some olds) (h2 : AV.reals ρ cz = some news) {k need size total : Nat} (hk : olds.length = k) (ht : total = k + news.length) {t' : Tr AV} {d' : AV}
    (hsp : ∀ j a, cellAt t' total d' j = some a → (os ++ cz)[j]? = some a) (e : TypeId) (b : Nat) {z : Value} (hz : z.cells.size = size) (cap : Nat) :
    BlkR ρ ⟨b, 0, cap - need⟩ (.cells t' total d' e (some size)) (some (.cells ((olds ++ news).toArray ++ Builtin.zeroCells z.cells (cap - need)) e)) := by
  have hsz : ((olds ++ news).toArray ++ Builtin.zeroCells z.cells (cap - need)).size = total + (cap - need) * size := by
    rw [Array.size_append, List.size_toArray, List.length_append, zeroCells_size, hz]; omega
  refine ⟨_, (0, 0), rfl, .inl rfl, ?_, (fun hh => by cases hh), fun sz hh => ?_, fun j a hj => ?_⟩
  · rw [hsz]; show 0 + total ≤ _; omega
  · obtain rfl := Option.some.inj hh
    rw [hsz]
    show 0 + total + (cap - need) * size ≤ _
    omega
  · obtain ⟨x, hx, hxj⟩ := reals_at (reals_append h1 h2) j a (hsp j a hj)
    refine ⟨x, hx, ?_⟩
    have hlt := (List.getElem?_eq_some_iff.1 hxj).1
    rw [show (⟨b, 0, cap - need⟩ : Loc).off + j = j from Nat.zero_add j, Array.getElem?_append_left (by simpa using hlt), List.getElem?_toArray]
    exact hxj
theorem evAppend_ok {P : Program} {ρ : Env} {base : Nat} {w0 : World} {h h' : Hp} {w : World} (E : Emb ρ base w0 h w) {t tx ty : TypeId} {s x v : AV} {sv xv : Value} (hs : s.real ρ = some sv) (hx : x.real ρ = some xv) (hv : evAppend P h t tx s x = some (v, h')) :
    Does P ρ base w0 (Builtin.append_ #[t, tx] ty #[sv, xv]) w v h' := by
  unfold evAppend at hv
  split at hv
  case h_2 => cases hv
  rename_i e ht
  split at hv
  case h_2 => cases hv
  rename_i i hi
  split at hv
  case h_2 => cases hv
  rename_i n cz hsrc
  obtain ⟨news, hnews, S⟩ := evSrc_ok E hx hsrc
  have hlen := reals_len hnews
  have hnl := S.newsLen
  split at hv
  · simp only [AV.real, Option.some.injEq] at hs
    subst hs
    split at hv
    · rename_i h0
      obtain rfl := Nat.eq_of_beq_eq_true h0
      obtain ⟨rfl, rfl⟩ := Prod.mk.inj (Option.some.inj hv)
      have hnil : news = [] := List.length_eq_zero_iff.1 (by rw [hnl, Nat.zero_mul])
      subst hnil
      exact does_pure E (run_append_nothing w t tx ty e i ht hi none 0 0 (Nat.le_refl _) xv S) rfl
    · rename_i h0
      have hn0 : n ≠ 0 := fun e' => by rw [e'] at h0; cases h0
      split at hv
      case h_2 => cases hv
      rename_i z hz
      split at hv
      case h_2 => cases hv
      rename_i hb
      have hb := Nat.le_of_ble_eq_true hb
      split at hv
      case h_2 => cases hv
      rename_i h63
      have h63 := Nat.le_of_ble_eq_true h63
      split at hv
      case h_2 => cases hv
      rename_i hzs
      have hzs := Nat.eq_of_beq_eq_true hzs
      obtain ⟨t', ht', h2⟩ := Option.map_eq_some_iff.1 hv
      obtain ⟨rfl, rfl⟩ := Prod.mk.inj h2
      have hrun := run_append_grow_src (P := P) w t tx ty e i z ht hi hz none 0 0 [] (run_firstCells_none w.drew i.size 0 0 0) xv n news S (by omega) (by omega) (by rw [Nat.zero_add]; exact growslice_fits (by omega) hb)
      rw [Nat.zero_add] at hrun
      have hge := grownCap_ge w n 0 e
      refine ⟨ρ.add h.nx ⟨w.heap.size, 0, grownCap w n 0 e - n⟩, _, _, hrun, ?_, Env.le_add E.fresh0, ?_⟩
      · simp only [AV.real, add_self, Option.map_some, Option.some.injEq, Value.slice.injEq, Bool.false_eq_true, if_false, true_and, Nat.zero_add]
        exact (Nat.add_sub_cancel' hge)
      · have hd := E.drew w.drew rfl rfl rfl rfl
        refine hd.alloc _ _ (grownCap w n 0 e - n) (grown_row (os := []) (olds := []) rfl (AV.reals_mono (Env.le_add E.fresh0) _ _ hnews) (k := 0) rfl (by rw [Nat.zero_add]; exact hnl.symm) ?_ e _ hzs (grownCap w n 0 e))
        intro j a hj
        obtain ⟨hlt, rfl⟩ := cellAt_some hj
        obtain ⟨_, _, h3⟩ := setCells_spec _ cz .nil 0 t' ht'
        rw [h3 j, if_pos (by omega), Nat.sub_zero, List.nil_append, List.getElem?_eq_getElem (by omega)]
        rfl
  · rename_i id off len cap ex
    simp only [AV.real, Option.map_eq_some_iff] at hs
    obtain ⟨l, hl, rfl⟩ := hs
    have hcap : cap ≤ (if ex = true then cap else cap + l.extra) := by split <;> omega
    split at hv
    · rename_i h0
      obtain rfl := Nat.eq_of_beq_eq_true h0
      split at hv
      case h_2 => cases hv
      rename_i hle
      have hle := Nat.le_of_ble_eq_true hle
      obtain ⟨rfl, rfl⟩ := Prod.mk.inj (Option.some.inj hv)
      have hnil : news = [] := List.length_eq_zero_iff.1 (by rw [hnl, Nat.zero_mul])
      subst hnil
      exact does_pure E (run_append_nothing w t tx ty e i ht hi _ len _ (by omega) xv S) (by simp [AV.real, hl])
    · rename_i h0
      have hn0 : n ≠ 0 := fun e' => by rw [e'] at h0; cases h0
      split at hv
      case h_2 => cases hv
      rename_i tr m dfl elem opn hg
      split at hv
      · rename_i hroom
        have hroom := Nat.le_of_ble_eq_true hroom
        obtain ⟨t', ht', h2⟩ := Option.map_eq_some_iff.1 hv
        obtain ⟨rfl, rfl⟩ := Prod.mk.inj h2
        obtain ⟨w', hst, E'⟩ := E.stores (P := P) hg hl hnews ht'
        rw [← Nat.add_assoc] at hst
        have hrun := run_append_room_st w w' t tx ty e i ht hi l.blk (l.off + off) len _ xv n news S (Nat.le_trans hroom hcap) hst
        exact ⟨ρ, w', _, hrun, by simp [AV.real, hl], Env.le_refl ρ, E'⟩
      · rename_i hroom
        have hroom : ¬ (len + n ≤ cap) := fun e' => by rw [Nat.ble_eq_true_of_le e'] at hroom; cases hroom
        split at hv
        case h_2 => cases hv
        rename_i z hz
        split at hv
        case h_2 => cases hv
        rename_i hb
        have hb := Nat.le_of_ble_eq_true hb
        split at hv
        case h_2 => cases hv
        rename_i h63
        have h63 := Nat.le_of_ble_eq_true h63
        split at hv
        case h_2 => cases hv
        rename_i hzs
        have hzs := Nat.eq_of_beq_eq_true hzs
        split at hv
        case h_2 => cases hv
        rename_i hmm
        have hmm := Nat.le_of_ble_eq_true hmm
        split at hv
        case h_2 => cases hv
        rename_i t' d' hgr
        obtain ⟨os, hos⟩ := cellsFrom_some tr m dfl (len * i.size) off hmm
        obtain ⟨olds, ho1, ho2, _, ho4⟩ := E.loads hg hl _ _ _ hos
        have htot : (len + n) * i.size = len * i.size + cz.length := by rw [← hlen, hnl, Nat.add_mul]
        have hspec := tGrow_spec hos htot hmm hgr
        have hold : ∀ c, (Builtin.firstCells i.size len (.slice (some ⟨l.blk, l.off + off, none⟩) len c)).run P w.drew = .ok olds.toArray w.drew := fun c =>
          run_firstCells_some w.drew i.size len _ len c olds ho2 (fun j u hj => by rw [Addr.add_plain]; exact ho4 j u hj)
        have growing : ∀ (sCap : Nat) (h1 : Hp), sCap < len + n → Emb ρ base w0 h1 w → h1.nx = h.nx → v = .slc h.nx 0 (len + n) (len + n) false → h' = h1.new (.cells t' ((len + n) * i.size) d' e (some i.size)) →
            Does P ρ base w0 (Builtin.append_ #[t, tx] ty #[.slice (some ⟨l.blk, l.off + off, none⟩) len sCap, xv]) w v h' := fun sCap h1 hlt E1 hnx ev eh => by
          subst ev eh
          have hrun := run_append_grow_src (P := P) w t tx ty e i z ht hi hz (some ⟨l.blk, l.off + off, none⟩) len sCap olds (hold sCap) xv n news S hlt (by omega) (growslice_fits hlt hb)
          have hge := grownCap_ge w (len + n) sCap e
          have hfr : ρ h1.nx = none := E1.fresh0
          refine ⟨ρ.add h1.nx ⟨w.heap.size, 0, grownCap w (len + n) sCap e - (len + n)⟩, _, _, hrun, ?_, Env.le_add hfr, ?_⟩
          · rw [← hnx]
            simp only [AV.real, add_self, Option.map_some, Option.some.injEq, Value.slice.injEq, Bool.false_eq_true, if_false, true_and, Nat.zero_add]
            exact (Nat.add_sub_cancel' hge)
          · have hd := E1.drew w.drew rfl rfl rfl rfl
            exact hd.alloc _ _ (grownCap w (len + n) sCap e - (len + n)) (grown_row (AV.reals_mono (Env.le_add hfr) _ _ ho1) (AV.reals_mono (Env.le_add hfr) _ _ hnews) ho2 (by rw [htot, ← hlen]) hspec e _ hzs (grownCap w (len + n) sCap e))
        split at hv
        · obtain ⟨rfl, rfl⟩ := Prod.mk.inj (Option.some.inj hv)
          simp only [if_true]
          exact growing cap h (by omega) E rfl rfl rfl
        · split at hv
          case h_2 => cases hv
          rename_i sz
          split at hv
          case h_2 => cases hv
          rename_i hsz
          obtain rfl := Nat.eq_of_beq_eq_true hsz
          split at hv
          case h_2 => cases hv
          rename_i hcm
          have hcm := Nat.eq_of_beq_eq_true hcm
          split at hv
          case h_2 => cases hv
          rename_i hel
          obtain rfl := Nat.eq_of_beq_eq_true hel
          obtain ⟨ev, eh⟩ := Prod.mk.inj (Option.some.inj hv)
          simp only [Bool.false_eq_true, if_false]
          by_cases hin : len + n ≤ cap + l.extra
          · subst ev eh
            have hlive : h.get id ≠ .gone := by rw [hg]; exact fun e => by cases e
            obtain ⟨l', C, fz, hl', hbase, hC, hfz, hn, _, hroomy, hc⟩ := E.cells hg
            obtain rfl := Option.some.inj (hl.symm.trans hl')
            have hsp := hroomy i.size rfl
            have hK : len * i.size + news.length + (cap + l.extra - (len + n)) * i.size = cap * i.size + l.extra * i.size := by
              rw [hnl, ← Nat.add_mul, ← Nat.add_mul, ← Nat.add_mul, Nat.add_sub_cancel' hin]
            have hfit : l.off + off + len * i.size + news.length ≤ C.size := by omega
            have hst := run_storeCells_fz P l.blk (l.off + off + len * i.size) elem fz C.size (some i.size) hfz news 0 C w rfl hC (by rw [Nat.add_zero]; exact hfit) S.one
            rw [Nat.add_zero] at hst
            have hrun := run_append_room_st w _ t tx ty elem i ht hi l.blk (l.off + off) len _ xv n news S hin hst
            have hfr := E.fresh0
            refine ⟨ρ.add h.nx ⟨l.blk, l.off + off, cap + l.extra - (len + n)⟩, _, _, hrun, ?_, Env.le_add hfr, E.reuse (l' := ⟨l.blk, l.off + off, cap + l.extra - (len + n)⟩) hlive hl rfl (grown_setRow w l.blk _) ?_⟩
            · simp only [AV.real, add_self, Option.map_some, Option.some.injEq, Value.slice.injEq, Bool.false_eq_true, if_false, true_and, Nat.add_zero]
              exact (Nat.add_sub_cancel' hin)
            · have hC' : (C.toList.take (l.off + off + len * i.size) ++ news ++ C.toList.drop (l.off + off + len * i.size + news.length)).toArray.size = C.size := by
                simp; omega
              refine ⟨_, fz, setRow_heap w l.blk C _ elem fz hC, by rw [hC']; exact hfz, ?_, (fun hh => by cases hh), fun sz hh => ?_, fun j a hj => ?_⟩
              · rw [hC']; show l.off + off + (len + n) * i.size ≤ C.size; rw [htot, ← hlen]; omega
              · obtain rfl := Option.some.inj hh
                rw [hC']
                show l.off + off + (len + n) * i.size + (cap + l.extra - (len + n)) * i.size ≤ C.size
                rw [htot, ← hlen]; omega
              · have hlt := (cellAt_some hj).1
                obtain ⟨y, hy, hyj⟩ := reals_at (reals_append (AV.reals_mono (Env.le_add hfr) _ _ ho1) (AV.reals_mono (Env.le_add hfr) _ _ hnews)) j a (hspec j a hj)
                refine ⟨y, hy, ?_⟩
                rw [List.getElem?_toArray, splice_get _ _ _ _ (by rw [Array.length_toList]; exact hfit)]
                show (if _ then _ else _) = _
                by_cases e1 : j < len * i.size
                · rw [if_neg (by show ¬ (_ ≤ l.off + off + j ∧ _); omega)]
                  rw [List.getElem?_append_left (by rw [ho2]; exact e1)] at hyj
                  have := ho4 j y hyj
                  rw [cell_of_row w _ _ C elem fz hC] at this
                  rw [Array.getElem?_toList]
                  exact this
                · rw [if_pos (by show _ ≤ l.off + off + j ∧ l.off + off + j < _; omega)]
                  rw [List.getElem?_append_right (by rw [ho2]; omega), ho2] at hyj
                  rw [← hyj]
                  congr 1
                  show l.off + off + j - _ = _
                  omega
          · exact growing (cap + l.extra) (h.put id .gone) (by omega) (E.kill id) rfl ev.symm eh.symm
  · cases hv
end Go.Proofs.Ytloppjfdflacaaa
