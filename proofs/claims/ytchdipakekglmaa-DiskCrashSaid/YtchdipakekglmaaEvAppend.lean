/- A reckoner of closed runs, 11: append. Nothing of the program is used here. -/
import Derived.Test.YtchdipakekglmaaEvEntry
import Derived.Deep.AppendSrc
import Derived.Deep.Upon
namespace Go.Proofs.Ytchdipakekglmaa
open Go.RowKit

/-- A name is given up. -/
theorem Emb.kill {ρ : Env} {base : Kp} {w0 : World} {h : Hp} {w : World} (E : Emb ρ base w0 h w) (id : Nat) : Emb ρ base w0 (h.put id .gone) w := by
  have hgone : ∀ j, (h.put id .gone).get j ≠ .gone → j ≠ id ∧ h.get j ≠ .gone := fun j hj => by
    rw [Hp.get_put] at hj
    by_cases e : j = id
    · rw [if_pos e] at hj; exact absurd rfl hj
    · rw [if_neg e] at hj; exact ⟨e, hj⟩
  refine ⟨E.below, E.bw, E.kept, E.fresh, fun j hj => ?_, fun j j' l l' hj hj' => E.apart j j' l l' (hgone j hj).2 (hgone j' hj').2⟩
  rw [Hp.get_put, if_neg (hgone j hj).1]
  exact E.live j (hgone j hj).2
/-- A block goes by another name. -/
theorem Emb.reuse {ρ : Env} {base : Kp} {w0 : World} {h : Hp} {w w' : World} (E : Emb ρ base w0 h w) {id : Nat} (hlive : h.get id ≠ .gone) {l l' : Loc} (hl : ρ id = some l) (hll : l'.blk = l.blk) (hg : w.grownBy w' (some l.blk)) {b' : Blk}
    (hr : BlkR (ρ.add h.nx l') l' b' w'.heap[l'.blk]?) : Emb (ρ.add h.nx l') base w0 ((h.put id .gone).new b') w' := by
  have hn := E.fresh0
  obtain ⟨l0, hl0, hb0, _⟩ := E.live id hlive
  obtain rfl := Option.some.inj (hl.symm.trans hl0)
  have hlt := (E.fresh id l hl).2
  have hidn : id ≠ h.nx := fun e => by rw [e, hn] at hl; cases hl
  have hget : ∀ j, j ≠ h.nx → ((h.put id .gone).new b').get j = if j = id then .gone else h.get j := fun j e => by rw [Hp.get_new, if_neg (show ¬ j = (h.put id .gone).nx from e), Hp.get_put]
  have hold : ∀ j, j ≠ h.nx → ((h.put id .gone).new b').get j ≠ .gone → j ≠ id ∧ h.get j ≠ .gone := fun j e hj => by
    rw [hget j e] at hj
    by_cases e' : j = id
    · rw [if_pos e'] at hj; exact absurd rfl hj
    · rw [if_neg e'] at hj; exact ⟨e', hj⟩
  have hadd : ∀ j, j ≠ h.nx → ρ.add h.nx l' j = ρ j := fun j e => by unfold Env.add; rw [if_neg e]
  refine ⟨E.below.grown hg E.bw (fun k hk => by obtain rfl := Option.some.inj hk; exact hb0.1), Nat.le_trans E.bw hg.size, fun b hB => ⟨Nat.lt_of_lt_of_le (E.kept b hB).1 hg.size, by rw [hg.block b (E.kept b hB).1 (fun e => hb0.2 (Option.some.inj e ▸ hB))]; exact (E.kept b hB).2⟩, fun j l1 hj => ?_, fun j hj => ?_, fun j j' l1 l1' hj hj' h0 h0' e => ?_⟩
  · by_cases e : j = h.nx
    · subst e
      rw [add_self] at hj
      obtain rfl := Option.some.inj hj
      exact ⟨Nat.lt_succ_self _, by rw [hll]; exact Nat.lt_of_lt_of_le hlt hg.size⟩
    · rw [hadd j e] at hj
      have := E.fresh j l1 hj
      exact ⟨Nat.lt_succ_of_lt this.1, Nat.lt_of_lt_of_le this.2 hg.size⟩
  · by_cases e : j = h.nx
    · subst e
      refine ⟨l', add_self _ _ _, by rw [hll]; exact hb0, ?_⟩
      rw [Hp.get_new, if_pos (show h.nx = (h.put id .gone).nx from rfl)]
      exact hr
    · obtain ⟨e1, hj1⟩ := hold j e hj
      obtain ⟨l1, hl1, hb1, hr1⟩ := E.live j hj1
      have hne : l1.blk ≠ l.blk := fun e' => e1 (E.apart j id l1 l hj1 hlive hl1 hl e')
      refine ⟨l1, by rw [hadd j e]; exact hl1, hb1, ?_⟩
      rw [hget j e, if_neg e1, hg.block l1.blk (E.fresh j l1 hl1).2 (fun e' => hne (Option.some.inj e'))]
      exact hr1.mono (Env.le_add hn)
  · by_cases e1 : j = h.nx
    · by_cases e2 : j' = h.nx
      · rw [e1, e2]
      · rw [e1, add_self] at h0
        obtain rfl := Option.some.inj h0
        rw [hadd j' e2] at h0'
        obtain ⟨e3, hj3⟩ := hold j' e2 hj'
        exact absurd (E.apart j' id l1' l hj3 hlive h0' hl (by rw [← e, hll])) e3
    · by_cases e2 : j' = h.nx
      · rw [e2, add_self] at h0'
        obtain rfl := Option.some.inj h0'
        rw [hadd j e1] at h0
        obtain ⟨e3, hj3⟩ := hold j e1 hj
        exact absurd (E.apart j id l1 l hj3 hlive h0 hl (by rw [e, hll])) e3
      · rw [hadd j e1] at h0
        rw [hadd j' e2] at h0'
        exact E.apart j j' l1 l1' (hold j e1 hj).2 (hold j' e2 hj').2 h0 h0' e
noncomputable def allOne : List AV → Bool
  | [] => true
  | a :: r => match a.one with
    | true => allOne r
    | false => false
theorem allOne_spec : ∀ (cz : List AV), allOne cz = true → ∀ a ∈ cz, a.one = true
  | [], _, a, h => by cases h
  | b :: r, h, a, ha => by
    simp only [allOne] at h
    cases hb : b.one with
    | false => rw [hb] at h; cases h
    | true =>
      rw [hb] at h
      rcases List.mem_cons.1 ha with rfl | ha
      · exact hb
      · exact allOne_spec r h a ha
theorem allOne_real {ρ : Env} {cz : List AV} {xs : List Value} (h : allOne cz = true) (hr : AV.reals ρ cz = some xs) (u : Value) (hu : u ∈ xs) : u.oneCell' = true := by
  obtain ⟨a, ha, hx⟩ := reals_mem hr hu
  exact AV.one_real hx (allOne_spec cz h a ha)
/-- A chunk of single cells. -/
noncomputable def oneCk : Ck → Bool
  | .l cs => allOne cs
  | .p _ _ => true
theorem oneCk_real {ρ : Env} {ck : Ck} {xs : List Value} (h : oneCk ck = true) (hr : AV.reals ρ ck.list = some xs) (u : Value) (hu : u ∈ xs) : u.oneCell' = true := by
  cases ck with
  | l cs => exact allOne_real h hr u hu
  | p n N =>
    have := (reals_v ρ (unpackL n N)).symm.trans hr
    obtain rfl := Option.some.inj this
    exact unpackL_one _ _ u hu
noncomputable def evSrc0 (P : Program) (h : Hp) (size : Nat) (tx : TypeId) (x : AV) : Option (Nat × Ck) := match P.underlying tx with
  | some (.slice _) => match x with
    | .v (.slice none 0 _) => some (0, .l [])
    | .slc id off len _ _ => match Nat.beq len 0 with
      | true => some (0, .l [])
      | false => match h.get id with
        | .cells c n _ _ => match readC c n (len * size) off with
          | some ck => match oneCk ck with
            | true => some (len, ck)
            | false => none
          | none => none
        | _ => none
    | _ => none
  | some .string => match x with
    | .v (.string s) => match Nat.beq size 1 with
      | true => some (s.size, .l ((byteCells s).map .v))
      | false => none
    | _ => none
  | _ => none
theorem evSrc0_ok {P : Program} {ρ : Env} {base : Kp} {w0 : World} {h : Hp} {w : World} (E : Emb ρ base w0 h w) {size : Nat} {tx : TypeId} {x : AV} {xv : Value} {n : Nat} {cz : Ck} (hx : x.real ρ = some xv) (hs : evSrc0 P h size tx x = some (n, cz)) :
    ∃ xs, AV.reals ρ cz.list = some xs ∧ Src P size tx xv n xs w := by
  unfold evSrc0 at hs
  split at hs
  · rename_i e' hk
    split at hs
    · obtain ⟨rfl, rfl⟩ := Prod.mk.inj (Option.some.inj hs)
      simp only [AV.real, Option.some.injEq] at hx
      subst hx
      exact ⟨[], rfl, Src.ofNil w hk _⟩
    · rename_i id off len cap ex
      simp only [AV.real, Option.map_eq_some_iff] at hx
      obtain ⟨l, hl, rfl⟩ := hx
      split at hs
      · rename_i h0
        obtain rfl := Nat.eq_of_beq_eq_true h0
        obtain ⟨rfl, rfl⟩ := Prod.mk.inj (Option.some.inj hs)
        exact ⟨[], rfl, Src.ofSlice w hk _ 0 _ [] (by simp) (fun j u hj => by simp at hj) (fun u hu => by cases hu)⟩
      · split at hs
        · rename_i t m elem opn hg
          split at hs
          · rename_i cs hcs
            split at hs
            · rename_i ho
              obtain ⟨rfl, rfl⟩ := Prod.mk.inj (Option.some.inj hs)
              obtain ⟨xs, h1, h2, _, h4⟩ := E.loads hg hl _ _ _ (readC_ok hcs)
              exact ⟨xs, h1, Src.ofSlice w hk _ len _ xs h2 (fun j u hj => by rw [Addr.add_plain]; exact h4 j u hj) (oneCk_real ho h1)⟩
            · cases hs
          · cases hs
        · cases hs
    · cases hs
  · rename_i hk
    split at hs
    · rename_i s
      split at hs
      · rename_i h1
        obtain rfl := Nat.eq_of_beq_eq_true h1
        obtain ⟨rfl, rfl⟩ := Prod.mk.inj (Option.some.inj hs)
        simp only [AV.real, Option.some.injEq] at hx
        subst hx
        exact ⟨byteCells s, reals_v ρ _, Src.ofString w hk s⟩
      · cases hs
    · cases hs
  · cases hs
/-- What an append adds: elements that are there, or so many zeros. -/
structure SrcX (P : Program) (i : TypeInfo) (tx : TypeId) (x : Value) (n : Nat) (news : List Value) (w : World) : Prop where
  newsLen : news.length = n * i.size
  one : ∀ u ∈ news, u.oneCell' = true
  how : Src P i.size tx x n news w ∨ ∃ kd k z, P.underlying tx = some (.int kd) ∧ x = .int k (n : Int) ∧ n ≤ 9223372036854775807 ∧ n * i.bytes ≤ 281474976710656 ∧ i.zero = some z ∧ n * i.size ≠ 0 ∧ news = (Builtin.zeroCells z.cells n).toList
noncomputable def zeroList (z : List AV) : Nat → List AV
  | 0 => []
  | n + 1 => z ++ zeroList z n
theorem zeroCells_succ (z : Array Value) (n : Nat) : (Builtin.zeroCells z (n + 1)).toList = z.toList ++ (Builtin.zeroCells z n).toList := by
  unfold Builtin.zeroCells
  apply List.ext_getElem?
  intro i
  rcases Nat.eq_zero_or_pos z.size with h0 | hpos
  · have hz : z = #[] := Array.eq_empty_of_size_eq_zero h0
    subst hz
    simp
  · by_cases h1 : i < z.size
    · have : i < (n + 1) * z.size := by rw [Nat.add_mul, Nat.one_mul]; omega
      rw [List.getElem?_append_left (by simpa using h1)]
      simp [this, Nat.mod_eq_of_lt h1, h1]
    · rw [List.getElem?_append_right (by simpa using h1)]
      by_cases h2 : i < (n + 1) * z.size
      · have h3 : i - z.size < n * z.size := by rw [Nat.add_mul, Nat.one_mul] at h2; omega
        have e1 : i % z.size = (i - z.size) % z.size := by rw [Nat.mod_eq_sub_mod (by omega)]
        simp [h2, h3, e1]
      · have h3 : ¬ i - z.size < n * z.size := by rw [Nat.add_mul, Nat.one_mul] at h2; omega
        simp [h2, h3]
theorem zeroList_real (ρ : Env) (z : Array Value) : ∀ n, AV.reals ρ (zeroList (z.toList.map .v) n) = some (Builtin.zeroCells z n).toList
  | 0 => by simp [zeroList, AV.reals, Builtin.zeroCells]
  | n + 1 => by
    rw [zeroCells_succ]
    simp only [zeroList]
    exact reals_append (reals_v ρ _) (zeroList_real ρ z n)
noncomputable def allOneV : List Value → Bool
  | [] => true
  | a :: r => match a.oneCell' with
    | true => allOneV r
    | false => false
theorem allOneV_spec : ∀ (l : List Value), allOneV l = true → ∀ u ∈ l, u.oneCell' = true
  | [], _, u, hu => by cases hu
  | a :: r, h, u, hu => by
    simp only [allOneV] at h
    split at h
    · rename_i h1
      rcases List.mem_cons.1 hu with rfl | hu
      · exact h1
      · exact allOneV_spec r h u hu
    · cases h
theorem zeroCells_mem (z : Array Value) : ∀ (n : Nat) (u : Value), u ∈ (Builtin.zeroCells z n).toList → u ∈ z.toList
  | 0, u, h => by simp [Builtin.zeroCells] at h
  | n + 1, u, h => by
    rw [zeroCells_succ] at h
    rcases List.mem_append.1 h with h | h
    · exact h
    · exact zeroCells_mem z n u h
/-- So many zeros. -/
noncomputable def zeroCk (z : List Value) (n : Nat) : Ck := match z with
  | [z0] => match packV z0 with
    | some 0 => .p n 0
    | _ => .l (zeroList (z.map .v) n)
  | _ => .l (zeroList (z.map .v) n)
theorem zeroList_one (u : Value) : ∀ n, zeroList [AV.v u] n = (List.replicate n u).map .v
  | 0 => rfl
  | n + 1 => by
    rw [List.replicate_succ, List.map_cons, ← zeroList_one u n]
    rfl
theorem zeroCk_list (z : List Value) (n : Nat) : (zeroCk z n).list = zeroList (z.map .v) n := by
  unfold zeroCk
  split
  · rename_i z0
    split
    · rename_i hp
      show (unpackL n 0).map AV.v = _
      rw [unpackL_zero, (packV_ok hp).2, List.map_cons, List.map_nil, zeroList_one]
    · rfl
  · rfl
noncomputable def evZeros (P : Program) (i : TypeInfo) (tx : TypeId) (x : AV) : Option (Nat × Ck) := match P.underlying tx with
  | some (.int _) => match x with
    | .v (.int _ (.ofNat n)) => match Nat.ble n 9223372036854775807 with
      | true => match Nat.ble (n * i.bytes) 281474976710656 with
        | true => match i.zero with
          | some z => match Nat.beq (n * i.size) 0 with
            | true => none
            | false => match Nat.beq z.cells.size i.size with
              | true => match allOneV z.cells.toList with
                | true => some (n, zeroCk z.cells.toList n)
                | false => none
              | false => none
          | none => none
        | false => none
      | false => none
    | _ => none
  | _ => none
noncomputable def evSrc (P : Program) (h : Hp) (i : TypeInfo) (tx : TypeId) (x : AV) : Option (Nat × Ck) := match evSrc0 P h i.size tx x with
  | some r => some r
  | none => evZeros P i tx x
theorem evSrc_ok {P : Program} {ρ : Env} {base : Kp} {w0 : World} {h : Hp} {w : World} (E : Emb ρ base w0 h w) {i : TypeInfo} {tx : TypeId} {x : AV} {xv : Value} {n : Nat} {cz : Ck} (hx : x.real ρ = some xv) (hs : evSrc P h i tx x = some (n, cz)) :
    ∃ xs, AV.reals ρ cz.list = some xs ∧ SrcX P i tx xv n xs w := by
  unfold evSrc at hs
  split at hs
  · rename_i r hr
    obtain rfl := Option.some.inj hs
    obtain ⟨xs, h1, h2⟩ := evSrc0_ok E hx hr
    exact ⟨xs, h1, h2.newsLen, h2.one, .inl h2⟩
  · rename_i hno
    unfold evZeros at hs
    split at hs
    case h_2 => cases hs
    rename_i kd hk
    split at hs
    case h_2 => cases hs
    rename_i k l
    clear hno
    obtain rfl := Option.some.inj hx
    split at hs
    case h_2 => cases hs
    rename_i h63
    have h63 := Nat.le_of_ble_eq_true h63
    split at hs
    case h_2 => cases hs
    rename_i h48
    have h48 := Nat.le_of_ble_eq_true h48
    split at hs
    case h_2 => cases hs
    rename_i z hz
    split at hs
    · cases hs
    rename_i h0
    have h0 : l * i.size ≠ 0 := fun e => by rw [e] at h0; cases h0
    split at hs
    case h_2 => cases hs
    rename_i hzs
    have hzs := Nat.eq_of_beq_eq_true hzs
    split at hs
    case h_2 => cases hs
    rename_i ho
    obtain ⟨rfl, rfl⟩ := Prod.mk.inj (Option.some.inj hs)
    refine ⟨_, (by rw [zeroCk_list]; exact zeroList_real ρ _ _), by simp [Builtin.zeroCells, hzs], fun u hu => allOneV_spec _ ho u (zeroCells_mem _ _ u hu), .inr ⟨kd, k, z, hk, rfl, h63, h48, hz, h0, rfl⟩⟩
theorem cellsFrom_some (c : Cl) (n : Nat) : ∀ (k i : Nat), i + k ≤ n → ∃ cz, cellsFrom c n k i = some cz
  | 0, i, _ => ⟨[], rfl⟩
  | k + 1, i, h => by
    obtain ⟨cz, ha⟩ := cellsFrom_some c n k (i + 1) (by omega)
    exact ⟨_, by simp only [cellsFrom, cellAt_lt (show i < n by omega), ha, Option.map_some]; rfl⟩
/-- The cells of a row that grows. -/
noncomputable def tGrow (c : Cl) (m off k total : Nat) (ck : Ck) : Option Cl :=
  Cl.rec (fun t N => Tr.rec (writeC total ck ⟨.nil, chunkN N off k⟩ k)
    (fun l o r _ _ => Bool.rec (Option.rec none (fun os => writeC total (.l (os ++ ck.list)) ⟨.nil, 0⟩ 0) (cellsFrom ⟨.node l o r, N⟩ m k off)) (writeC total ck ⟨.node l o r, N⟩ k) (Nat.beq off 0)) t) c
theorem tGrow_spec {c : Cl} {m off k total : Nat} {ck : Ck} {os : List AV} {c' : Cl} (hos : cellsFrom c m k off = some os) (ht : total = k + ck.list.length) (hm : off + k ≤ m) (h : tGrow c m off k total ck = some c') :
    ∀ j a, cellAt c' total j = some a → (os ++ ck.list)[j]? = some a := by
  obtain ⟨hl, ho⟩ := cellsFrom_at c m k off os hos
  intro j a hj
  obtain ⟨hlt, rfl⟩ := cellAt_some hj
  have same : ∀ c0 : Cl, (∀ j, j < k → os[j]? = some (c0.at j)) → writeC total ck c0 k = some c' → (os ++ ck.list)[j]? = some (c'.at j) := fun c0 h0 hw => by
    obtain ⟨_, _, h3⟩ := writeC_spec total ck c0 k c' hw
    rw [h3 j]
    by_cases e : j < k
    · rw [if_neg (by omega), List.getElem?_append_left (by omega), h0 j e]
    · rw [if_pos (by omega), List.getElem?_append_right (by omega), hl]
  obtain ⟨t, N⟩ := c
  cases t with
  | nil =>
    refine same ⟨.nil, chunkN N off k⟩ (fun j hj => ?_) h
    rw [ho j hj, cellAt_lt (by omega), Cl.at_nil, Cl.at_nil]
    rw [cellN_chunk _ _ _ _ hj]
  | node l o r =>
    have h : (Bool.rec (Option.rec none (fun os => writeC total (.l (os ++ ck.list)) ⟨.nil, 0⟩ 0) (cellsFrom ⟨.node l o r, N⟩ m k off)) (writeC total ck ⟨.node l o r, N⟩ k) (Nat.beq off 0) : Option Cl) = some c' := h
    cases h0 : Nat.beq off 0 with
    | true =>
      rw [h0] at h
      obtain rfl := Nat.eq_of_beq_eq_true h0
      exact same _ (fun j hj => by rw [ho j hj, cellAt_lt (by omega), Nat.zero_add]) h
    | false =>
      rw [h0, hos] at h
      obtain ⟨_, _, h3⟩ := writeC_spec total (.l (os ++ ck.list)) ⟨.nil, 0⟩ 0 c' h
      have hL : (Ck.l (os ++ ck.list)).list = os ++ ck.list := rfl
      rw [h3 j, hL, if_pos ⟨Nat.zero_le _, by rw [List.length_append, hl]; omega⟩, Nat.sub_zero]
theorem run_append_room_st {P : Program} (w w' : World) (t tx ty e : TypeId) (i : TypeInfo) (ht : P.underlying t = some (.slice e)) (hi : P.info? e = some i) (b off sLen sCap : Nat) (x : Value) (n : Nat) (news : List Value) (hs : Src P i.size tx x n news w)
    (hroom : sLen + n ≤ sCap) (hst : (storeCells ⟨b, off + sLen * i.size, none⟩ news).run P w = .ok () w') :
    (Builtin.append_ #[t, tx] ty #[.slice (some ⟨b, off, none⟩) sLen sCap, x]).run P w = .ok (.slice (some ⟨b, off, none⟩) (sLen + n) sCap) w' := by
  rcases hs.kind with ⟨e', hk⟩ | hk <;> simp [Builtin.append_, run_underlying ht, run_underlying hk, sizeOf, typeInfo, hi, hs.len, hroom, hs.cells, Addr.add_plain, hst]
theorem run_append_room_x {P : Program} (w w' : World) (t tx ty e : TypeId) (i : TypeInfo) (ht : P.underlying t = some (.slice e)) (hi : P.info? e = some i) (b off sLen sCap : Nat) (x : Value) (n : Nat) (news : List Value) (hs : SrcX P i tx x n news w)
    (hroom : sLen + n ≤ sCap) (hst : (storeCells ⟨b, off + sLen * i.size, none⟩ news).run P w = .ok () w') :
    (Builtin.append_ #[t, tx] ty #[.slice (some ⟨b, off, none⟩) sLen sCap, x]).run P w = .ok (.slice (some ⟨b, off, none⟩) (sLen + n) sCap) w' := by
  rcases hs.how with hs | ⟨kd, k, z, hk, rfl, h63, h48, hz, h0, rfl⟩
  · exact run_append_room_st w w' t tx ty e i ht hi b off sLen sCap x n news hs hroom hst
  · have hw : IntKind.i64.wrap (n : Int) = n := by simp [IntKind.wrap, IntKind.bits, IntKind.signed]; omega
    have h48' : ¬ (281474976710656 < (n : Int) * (i.bytes : Int)) := by rw [← Int.natCast_mul]; omega
    have hneg : ¬ ((n : Int) < 0) := by omega
    simp [Builtin.append_, run_underlying ht, run_underlying hk, sizeOf, typeInfo, zeroValue, hi, hz, asInt, asIntOf, hw, h48', hroom, h0, hneg, Addr.add_plain, hst]
theorem run_append_grow_x {P : Program} (w : World) (t tx ty e : TypeId) (i : TypeInfo) (z : Value) (ht : P.underlying t = some (.slice e)) (hi : P.info? e = some i) (hz : i.zero = some z) (base : Option Addr) (sLen sCap : Nat) (olds : List Value)
    (hold : (Builtin.firstCells i.size sLen (.slice base sLen sCap)).run P w.drew = .ok olds.toArray w.drew) (x : Value) (n : Nat) (news : List Value) (hs : SrcX P i tx x n news w)
    (hg : sCap < sLen + n) (h63 : ((sLen + n : Nat) : Int) ≤ 9223372036854775807) (hfit : Builtin.nextslicecap (sLen + n) sCap * i.bytes ≤ 281474976710656) :
    (Builtin.append_ #[t, tx] ty #[.slice base sLen sCap, x]).run P w =
      .ok (.slice (some ⟨w.heap.size, 0, none⟩) (sLen + n) (grownCap w (sLen + n) sCap e))
        (w.drew.alloc (.cells ((olds ++ news).toArray ++ Builtin.zeroCells z.cells (grownCap w (sLen + n) sCap e - (sLen + n))) e)) := by
  rcases hs.how with hs | ⟨kd, k, z', hk, rfl, h63n, h48, hz', h0, rfl⟩
  · exact run_append_grow_src w t tx ty e i z ht hi hz base sLen sCap olds hold x n news hs hg h63 hfit
  · obtain rfl := Option.some.inj (hz.symm.trans hz')
    have hw : IntKind.i64.wrap (n : Int) = n := by simp [IntKind.wrap, IntKind.bits, IntKind.signed]; omega
    have h48' : ¬ (281474976710656 < (n : Int) * (i.bytes : Int)) := by rw [← Int.natCast_mul]; omega
    have hneg : ¬ ((n : Int) < 0) := by omega
    have hn : ¬ (sLen + n ≤ sCap) := by omega
    have h63' : ¬ (9223372036854775807 < ((sLen : Int) + (n : Int))) := by omega
    have h49' : ¬ (281474976710656 < Builtin.nextslicecap (sLen + n) sCap * i.bytes) := by omega
    simp [Builtin.append_, run_underlying ht, run_underlying hk, sizeOf, typeInfo, zeroValue, hi, hz, asInt, asIntOf, hw, h48', h0, hneg, hn, h63', h49', Question.forced, hold, newRow, grownCap]
    congr 2
    apply Array.ext'
    simp [List.append_assoc]
theorem run_append_nothing_x {P : Program} (w : World) (t tx ty e : TypeId) (i : TypeInfo) (ht : P.underlying t = some (.slice e)) (hi : P.info? e = some i) (base : Option Addr) (sLen sCap : Nat) (hle : sLen ≤ sCap) (x : Value) (hs : SrcX P i tx x 0 [] w) :
    (Builtin.append_ #[t, tx] ty #[.slice base sLen sCap, x]).run P w = .ok (.slice base sLen sCap) w := by
  rcases hs.how with hs | ⟨kd, k, z', hk, rfl, h63n, h48, hz', h0, _⟩
  · exact run_append_nothing w t tx ty e i ht hi base sLen sCap hle x hs
  · exact absurd (Nat.zero_mul _) h0
noncomputable def evAppend (P : Program) (h : Hp) (t tx : TypeId) (s x : AV) : Option (AV × Hp) := match P.underlying t with
  | some (.slice e) => match P.info? e with
    | some i => match evSrc P h i tx x with
      | some (n, cz) => match s with
        | .v (.slice none 0 0) => match Nat.beq n 0 with
          | true => some (.v (.slice none 0 0), h)
          | false => match i.zero with
            | some z => match Nat.ble (n * i.bytes) 140737488355328 with
              | true => match Nat.ble n 9223372036854775807 with
                | true => match Nat.beq z.cells.size i.size with
                  | true => (writeC (n * i.size) cz ⟨.nil, 0⟩ 0).map fun t' => (.slc h.nx 0 n n false, h.new (.cells t' (n * i.size) e (some i.size)))
                  | false => none
                | false => none
              | false => none
            | none => none
        | .slc id off len cap ex => match Nat.beq n 0 with
          | true => match Nat.ble len cap with
            | true => some (.slc id off len cap ex, h)
            | false => none
          | false => match h.get id with
            | .cells tr m elem opn => match Nat.ble (len + n) cap with
              | true => (writeC m cz tr (off + len * i.size)).map fun t' => (.slc id off (len + n) cap ex, h.put id (.cells t' m elem opn))
              | false => match i.zero with
                | some z => match Nat.ble ((len + n) * i.bytes) 140737488355328 with
                  | true => match Nat.ble (len + n) 9223372036854775807 with
                    | true => match Nat.beq z.cells.size i.size with
                      | true => match Nat.ble (off + len * i.size) m with
                        | true => match tGrow tr m off (len * i.size) ((len + n) * i.size) cz with
                          | some t' => match ex with
                            | true => some (.slc h.nx 0 (len + n) (len + n) false, h.new (.cells t' ((len + n) * i.size) e (some i.size)))
                            | false => match opn with
                              | some sz => match Nat.beq sz i.size with
                                | true => match Nat.beq (off + cap * i.size) m with
                                  | true => match Nat.beq elem e with
                                    | true => some (.slc h.nx 0 (len + n) (len + n) false, (h.put id .gone).new (.cells t' ((len + n) * i.size) e (some i.size)))
                                    | false => none
                                  | false => none
                                | false => none
                              | none => none
                          | none => none
                        | false => none
                      | false => none
                    | false => none
                  | false => none
                | none => none
            | _ => none
        | _ => none
      | none => none
    | none => none
  | _ => none
theorem zeroCells_size (z : Array Value) (n : Nat) : (Builtin.zeroCells z n).size = n * z.size := by simp [Builtin.zeroCells]
/-- The new row of an append that grows. -/
theorem grown_row {ρ : Env} {os : List AV} {olds : List Value} {cz : List AV} {news : List Value} (h1 : AV.reals ρ os = some olds) (h2 : AV.reals ρ cz = some news) {k need size total : Nat} (hk : olds.length = k) (ht : total = k + news.length) {t' : Cl}
    (hsp : ∀ j a, cellAt t' total j = some a → (os ++ cz)[j]? = some a) (e : TypeId) (b : Nat) {z : Value} (hz : z.cells.size = size) (cap : Nat) :
    BlkR ρ ⟨b, 0, cap - need⟩ (.cells t' total e (some size)) (some (.cells ((olds ++ news).toArray ++ Builtin.zeroCells z.cells (cap - need)) e)) := by
  have hsz : ((olds ++ news).toArray ++ Builtin.zeroCells z.cells (cap - need)).size = total + (cap - need) * size := by
    rw [Array.size_append, List.size_toArray, List.length_append, zeroCells_size, hz]; omega
  refine ⟨_, (0, 0), rfl, .inl rfl, ?_, (fun hh => by cases hh), fun sz hh => ?_, fun j a hj => ?_⟩
  · rw [hsz]; show 0 + total ≤ _; omega
  · obtain rfl := Option.some.inj hh
    rw [hsz]
    show 0 + total + (cap - need) * size ≤ _
    omega
  · obtain ⟨x, hx, hxj⟩ := reals_at (reals_append h1 h2) j a (hsp j a hj)
    refine ⟨x, hx, ?_⟩
    have hlt := (List.getElem?_eq_some_iff.1 hxj).1
    rw [show (⟨b, 0, cap - need⟩ : Loc).off + j = j from Nat.zero_add j, Array.getElem?_append_left (by simpa using hlt), List.getElem?_toArray]
    exact hxj
theorem evAppend_ok {P : Program} {ρ : Env} {base : Kp} {w0 : World} {h h' : Hp} {w : World} (E : Emb ρ base w0 h w) {t tx ty : TypeId} {s x v : AV} {sv xv : Value} (hs : s.real ρ = some sv) (hx : x.real ρ = some xv) (hv : evAppend P h t tx s x = some (v, h')) :
    Does P ρ base w0 (Builtin.append_ #[t, tx] ty #[sv, xv]) w v h' := by
  unfold evAppend at hv
  split at hv
  case h_2 => cases hv
  rename_i e ht
  split at hv
  case h_2 => cases hv
  rename_i i hi
  split at hv
  case h_2 => cases hv
  rename_i n cz hsrc
  obtain ⟨news, hnews, S⟩ := evSrc_ok E hx hsrc
  have hlen := reals_len hnews
  have hnl := S.newsLen
  split at hv
  · simp only [AV.real, Option.some.injEq] at hs
    subst hs
    split at hv
    · rename_i h0
      obtain rfl := Nat.eq_of_beq_eq_true h0
      obtain ⟨rfl, rfl⟩ := Prod.mk.inj (Option.some.inj hv)
      have hnil : news = [] := List.length_eq_zero_iff.1 (by rw [hnl, Nat.zero_mul])
      subst hnil
      exact does_pure E (run_append_nothing_x w t tx ty e i ht hi none 0 0 (Nat.le_refl _) xv S) rfl
    · rename_i h0
      have hn0 : n ≠ 0 := fun e' => by rw [e'] at h0; cases h0
      split at hv
      case h_2 => cases hv
      rename_i z hz
      split at hv
      case h_2 => cases hv
      rename_i hb
      have hb := Nat.le_of_ble_eq_true hb
      split at hv
      case h_2 => cases hv
      rename_i h63
      have h63 := Nat.le_of_ble_eq_true h63
      split at hv
      case h_2 => cases hv
      rename_i hzs
      have hzs := Nat.eq_of_beq_eq_true hzs
      obtain ⟨t', ht', h2⟩ := Option.map_eq_some_iff.1 hv
      obtain ⟨rfl, rfl⟩ := Prod.mk.inj h2
      have hrun := run_append_grow_x (P := P) w t tx ty e i z ht hi hz none 0 0 [] (run_firstCells_none w.drew i.size 0 0 0) xv n news S (by omega) (by omega) (by rw [Nat.zero_add]; exact growslice_fits (by omega) hb)
      rw [Nat.zero_add] at hrun
      have hge := grownCap_ge w n 0 e
      refine ⟨ρ.add h.nx ⟨w.heap.size, 0, grownCap w n 0 e - n⟩, _, _, hrun, ?_, Env.le_add E.fresh0, ?_⟩
      · simp only [AV.real, add_self, Option.map_some, Option.some.injEq, Value.slice.injEq, Bool.false_eq_true, if_false, true_and, Nat.zero_add]
        exact (Nat.add_sub_cancel' hge)
      · have hd := E.drew w.drew rfl rfl rfl rfl
        refine hd.alloc _ _ (grownCap w n 0 e - n) (grown_row (os := []) (olds := []) rfl (AV.reals_mono (Env.le_add E.fresh0) _ _ hnews) (k := 0) rfl (by rw [Nat.zero_add]; exact hnl.symm) ?_ e _ hzs (grownCap w n 0 e))
        intro j a hj
        obtain ⟨hlt, rfl⟩ := cellAt_some hj
        obtain ⟨_, _, h3⟩ := writeC_spec _ cz _ 0 t' ht'
        rw [h3 j, if_pos (by omega), Nat.sub_zero, List.nil_append]
  · rename_i id off len cap ex
    simp only [AV.real, Option.map_eq_some_iff] at hs
    obtain ⟨l, hl, rfl⟩ := hs
    have hcap : cap ≤ (if ex = true then cap else cap + l.extra) := by split <;> omega
    split at hv
    · rename_i h0
      obtain rfl := Nat.eq_of_beq_eq_true h0
      split at hv
      case h_2 => cases hv
      rename_i hle
      have hle := Nat.le_of_ble_eq_true hle
      obtain ⟨rfl, rfl⟩ := Prod.mk.inj (Option.some.inj hv)
      have hnil : news = [] := List.length_eq_zero_iff.1 (by rw [hnl, Nat.zero_mul])
      subst hnil
      exact does_pure E (run_append_nothing_x w t tx ty e i ht hi _ len _ (by omega) xv S) (by simp [AV.real, hl])
    · rename_i h0
      have hn0 : n ≠ 0 := fun e' => by rw [e'] at h0; cases h0
      split at hv
      case h_2 => cases hv
      rename_i tr m elem opn hg
      split at hv
      · rename_i hroom
        have hroom := Nat.le_of_ble_eq_true hroom
        obtain ⟨t', ht', h2⟩ := Option.map_eq_some_iff.1 hv
        obtain ⟨rfl, rfl⟩ := Prod.mk.inj h2
        obtain ⟨w', hst, E'⟩ := E.stores (P := P) hg hl hnews ht'
        rw [← Nat.add_assoc] at hst
        have hrun := run_append_room_x w w' t tx ty e i ht hi l.blk (l.off + off) len _ xv n news S (Nat.le_trans hroom hcap) hst
        exact ⟨ρ, w', _, hrun, by simp [AV.real, hl], Env.le_refl ρ, E'⟩
      · rename_i hroom
        have hroom : ¬ (len + n ≤ cap) := fun e' => by rw [Nat.ble_eq_true_of_le e'] at hroom; cases hroom
        split at hv
        case h_2 => cases hv
        rename_i z hz
        split at hv
        case h_2 => cases hv
        rename_i hb
        have hb := Nat.le_of_ble_eq_true hb
        split at hv
        case h_2 => cases hv
        rename_i h63
        have h63 := Nat.le_of_ble_eq_true h63
        split at hv
        case h_2 => cases hv
        rename_i hzs
        have hzs := Nat.eq_of_beq_eq_true hzs
        split at hv
        case h_2 => cases hv
        rename_i hmm
        have hmm := Nat.le_of_ble_eq_true hmm
        split at hv
        case h_2 => cases hv
        rename_i t' hgr
        obtain ⟨os, hos⟩ := cellsFrom_some tr m (len * i.size) off hmm
        obtain ⟨olds, ho1, ho2, _, ho4⟩ := E.loads hg hl _ _ _ hos
        have htot : (len + n) * i.size = len * i.size + cz.list.length := by rw [← hlen, hnl, Nat.add_mul]
        have hspec := tGrow_spec hos htot hmm hgr
        have hold : ∀ c, (Builtin.firstCells i.size len (.slice (some ⟨l.blk, l.off + off, none⟩) len c)).run P w.drew = .ok olds.toArray w.drew := fun c =>
          run_firstCells_some w.drew i.size len _ len c olds ho2 (fun j u hj => by rw [Addr.add_plain]; exact ho4 j u hj)
        have growing : ∀ (sCap : Nat) (h1 : Hp), sCap < len + n → Emb ρ base w0 h1 w → h1.nx = h.nx → v = .slc h.nx 0 (len + n) (len + n) false → h' = h1.new (.cells t' ((len + n) * i.size) e (some i.size)) →
            Does P ρ base w0 (Builtin.append_ #[t, tx] ty #[.slice (some ⟨l.blk, l.off + off, none⟩) len sCap, xv]) w v h' := fun sCap h1 hlt E1 hnx ev eh => by
          subst ev eh
          have hrun := run_append_grow_x (P := P) w t tx ty e i z ht hi hz (some ⟨l.blk, l.off + off, none⟩) len sCap olds (hold sCap) xv n news S hlt (by omega) (growslice_fits hlt hb)
          have hge := grownCap_ge w (len + n) sCap e
          have hfr : ρ h1.nx = none := E1.fresh0
          refine ⟨ρ.add h1.nx ⟨w.heap.size, 0, grownCap w (len + n) sCap e - (len + n)⟩, _, _, hrun, ?_, Env.le_add hfr, ?_⟩
          · rw [← hnx]
            simp only [AV.real, add_self, Option.map_some, Option.some.injEq, Value.slice.injEq, Bool.false_eq_true, if_false, true_and, Nat.zero_add]
            exact (Nat.add_sub_cancel' hge)
          · have hd := E1.drew w.drew rfl rfl rfl rfl
            exact hd.alloc _ _ (grownCap w (len + n) sCap e - (len + n)) (grown_row (AV.reals_mono (Env.le_add hfr) _ _ ho1) (AV.reals_mono (Env.le_add hfr) _ _ hnews) ho2 (by rw [htot, ← hlen]) hspec e _ hzs (grownCap w (len + n) sCap e))
        split at hv
        · obtain ⟨rfl, rfl⟩ := Prod.mk.inj (Option.some.inj hv)
          simp only [if_true]
          exact growing cap h (by omega) E rfl rfl rfl
        · split at hv
          case h_2 => cases hv
          rename_i sz
          split at hv
          case h_2 => cases hv
          rename_i hsz
          obtain rfl := Nat.eq_of_beq_eq_true hsz
          split at hv
          case h_2 => cases hv
          rename_i hcm
          have hcm := Nat.eq_of_beq_eq_true hcm
          split at hv
          case h_2 => cases hv
          rename_i hel
          obtain rfl := Nat.eq_of_beq_eq_true hel
          obtain ⟨ev, eh⟩ := Prod.mk.inj (Option.some.inj hv)
          simp only [Bool.false_eq_true, if_false]
          by_cases hin : len + n ≤ cap + l.extra
          · subst ev eh
            have hlive : h.get id ≠ .gone := by rw [hg]; exact fun e => by cases e
            obtain ⟨l', C, fz, hl', hbase, hC, hfz, hn, _, hroomy, hc⟩ := E.cells hg
            obtain rfl := Option.some.inj (hl.symm.trans hl')
            have hsp := hroomy i.size rfl
            have hK : len * i.size + news.length + (cap + l.extra - (len + n)) * i.size = cap * i.size + l.extra * i.size := by
              rw [hnl, ← Nat.add_mul, ← Nat.add_mul, ← Nat.add_mul, Nat.add_sub_cancel' hin]
            have hfit : l.off + off + len * i.size + news.length ≤ C.size := by omega
            have hst := run_storeCells_fz P l.blk (l.off + off + len * i.size) elem fz C.size (some i.size) hfz news 0 C w rfl hC (by rw [Nat.add_zero]; exact hfit) S.one
            rw [Nat.add_zero] at hst
            have hrun := run_append_room_x w _ t tx ty elem i ht hi l.blk (l.off + off) len _ xv n news S hin hst
            have hfr := E.fresh0
            refine ⟨ρ.add h.nx ⟨l.blk, l.off + off, cap + l.extra - (len + n)⟩, _, _, hrun, ?_, Env.le_add hfr, E.reuse (l' := ⟨l.blk, l.off + off, cap + l.extra - (len + n)⟩) hlive hl rfl (grown_setRow w l.blk _) ?_⟩
            · simp only [AV.real, add_self, Option.map_some, Option.some.injEq, Value.slice.injEq, Bool.false_eq_true, if_false, true_and, Nat.add_zero]
              exact (Nat.add_sub_cancel' hin)
            · have hC' : (C.toList.take (l.off + off + len * i.size) ++ news ++ C.toList.drop (l.off + off + len * i.size + news.length)).toArray.size = C.size := by
                simp; omega
              refine ⟨_, fz, setRow_heap w l.blk C _ elem fz hC, by rw [hC']; exact hfz, ?_, (fun hh => by cases hh), fun sz hh => ?_, fun j a hj => ?_⟩
              · rw [hC']; show l.off + off + (len + n) * i.size ≤ C.size; rw [htot, ← hlen]; omega
              · obtain rfl := Option.some.inj hh
                rw [hC']
                show l.off + off + (len + n) * i.size + (cap + l.extra - (len + n)) * i.size ≤ C.size
                rw [htot, ← hlen]; omega
              · have hlt := (cellAt_some hj).1
                obtain ⟨y, hy, hyj⟩ := reals_at (reals_append (AV.reals_mono (Env.le_add hfr) _ _ ho1) (AV.reals_mono (Env.le_add hfr) _ _ hnews)) j a (hspec j a hj)
                refine ⟨y, hy, ?_⟩
                rw [List.getElem?_toArray, splice_get _ _ _ _ (by rw [Array.length_toList]; exact hfit)]
                show (if _ then _ else _) = _
                by_cases e1 : j < len * i.size
                · rw [if_neg (by show ¬ (_ ≤ l.off + off + j ∧ _); omega)]
                  rw [List.getElem?_append_left (by rw [ho2]; exact e1)] at hyj
                  have := ho4 j y hyj
                  rw [cell_of_row w _ _ C elem fz hC] at this
                  rw [Array.getElem?_toList]
                  exact this
                · rw [if_pos (by show _ ≤ l.off + off + j ∧ l.off + off + j < _; omega)]
                  rw [List.getElem?_append_right (by rw [ho2]; omega), ho2] at hyj
                  rw [← hyj]
                  congr 1
                  show l.off + off + j - _ = _
                  omega
          · exact growing (cap + l.extra) (h.put id .gone) (by omega) (E.kill id) rfl ev.symm eh.symm
  · cases hv
end Go.Proofs.Ytchdipakekglmaa
