/- A reckoner of closed runs, 12d: a text made a row of bytes; the mark behind such a row. Nothing of the program is used here. -/
import Derived.Test.YtchdipakekglmaaEvInt
import Derived.Laws.IdiomStrings
namespace Go.Proofs.Ytchdipakekglmaa
open Go.RowKit

noncomputable def evMark (P : Program) (h : Hp) (src dst : TypeId) (x : AV) : Option (AV × Hp) := match x with
  | .slc id off len cap ex => match Nat.beq src dst with
    | true => match P.underlying dst with
      | some (.slice e) => match P.underlying e with
        | some (.int .u8) => match h.get id with
          | .cells t n elem opn => some (.slc id off len cap ex, h.put id (.cells t n elem (some (opn.getD 0))))
          | _ => none
        | _ => none
      | _ => none
    | false => none
  | .v (.string s) => match P.underlying src with
    | some .string => match P.underlying dst with
      | some (.slice e) => match P.underlying e with
        | some (.int .u8) => match writeC s.size (.l ((byteCells s).map .v)) ⟨.nil, 0⟩ 0 with
          | some t => some (.slc h.nx 0 s.size s.size false, h.new (.cells t s.size e (some 1)))
          | none => none
        | _ => none
      | _ => none
    | _ => none
  | _ => none
theorem heap_freeze {w : World} {b k : Nat} {C : Array Value} {e : TypeId} {lo hi : Nat} (hC : w.heap[b]? = some (.cells C e (lo, hi))) :
    w.freeze ⟨b, k, none⟩ 1 = w.putObj b (.cells C e (if lo == hi then (k, k + 1) else (min lo k, max hi (k + 1)))) := by
  unfold World.freeze World.putObj
  rw [if_neg (by decide)]
  congr 1
  apply Array.ext_getElem?
  intro i
  rw [Array.getElem?_modify, Array.getElem?_setIfInBounds]
  by_cases h : b = i
  · subst h
    rw [if_pos rfl, if_pos rfl, hC]
    have hlt := (Array.getElem?_eq_some_iff.1 hC).1
    rw [if_pos hlt]
    rfl
  · rw [if_neg h, if_neg h]
theorem evMark_ok {P : Program} {ρ : Env} {base : Kp} {w0 : World} {h h' : Hp} {w : World} (E : Emb ρ base w0 h w) {src dst : TypeId} {x v : AV} {y : Value} (hx : x.real ρ = some y) (hv : evMark P h src dst x = some (v, h')) : Does P ρ base w0 (convert src dst y) w v h' := by
  unfold evMark at hv
  split at hv
  case h_3 => cases hv
  · rename_i id off len cap ex
    split at hv
    case h_2 => cases hv
    rename_i hsd
    obtain rfl := Nat.eq_of_beq_eq_true hsd
    split at hv
    case h_2 => cases hv
    rename_i e hd
    split at hv
    case h_2 => cases hv
    rename_i he
    split at hv
    case h_2 => cases hv
    rename_i t n elem opn hg
    obtain ⟨rfl, rfl⟩ := Prod.mk.inj (Option.some.inj hv)
    have hx0 := hx
    simp only [AV.real, Option.map_eq_some_iff] at hx
    obtain ⟨l, hl, rfl⟩ := hx
    have hlive : h.get id ≠ .gone := by rw [hg]; exact fun e => by cases e
    obtain ⟨l', C, fz, hl', hb, hC, hfz, hn, hnone, hsome, hc⟩ := E.cells hg
    obtain rfl := Option.some.inj (hl.symm.trans hl')
    obtain ⟨lo, hi⟩ := fz
    have hsh : w.shape? l.blk = some (elem, C.size) := by unfold World.shape?; rw [hC]
    refine ⟨ρ, _, _, ?_, hx0, Env.le_refl ρ, E.setObj hlive hl (.cells C elem (if lo == hi then (C.size, C.size + 1) else (min lo C.size, max hi (C.size + 1)))) _ ⟨C, _, rfl, .inr ⟨by simp, ?_⟩, hn, (fun hh => by cases hh), fun sz hh => ?_, hc⟩⟩
    · simp [convert, run_underlying hd, run_underlying he, markStringish, hsh]
      rw [heap_freeze hC]
      simp
    · split
      · exact Nat.le_refl _
      · rename_i hne
        rcases hfz with h0 | ⟨_, h1⟩
        · obtain ⟨rfl, rfl⟩ := Prod.mk.inj h0
          simp at hne
        · show C.size ≤ min lo C.size
          dsimp only at h1
          omega
    · obtain rfl := Option.some.inj hh
      cases opn with
      | none => simpa using hn
      | some sz => exact hsome sz rfl
  · rename_i s
    simp only [AV.real, Option.some.injEq] at hx
    subst hx
    split at hv
    case h_2 => cases hv
    rename_i hs
    split at hv
    case h_2 => cases hv
    rename_i e hd
    split at hv
    case h_2 => cases hv
    rename_i he
    split at hv
    case h_2 => cases hv
    rename_i t ht
    obtain ⟨rfl, rfl⟩ := Prod.mk.inj (Option.some.inj hv)
    have hrun := run_bytes_of_string (P := P) w src dst e s hs hd he
    have hge := grownCap_ge w s.size 0 e
    have hsz : (bytesRow s (grownCap w s.size 0 e)).size = grownCap w s.size 0 e := by
      unfold bytesRow
      rw [Array.size_append, Array.size_map, Array.size_replicate]
      show s.size + _ = _
      omega
    have hd' := E.drew w.drew rfl rfl rfl rfl
    refine ⟨ρ.add h.nx ⟨w.heap.size, 0, grownCap w s.size 0 e - s.size⟩, _, _, hrun, ?_, Env.le_add E.fresh0, hd'.alloc _ _ (grownCap w s.size 0 e - s.size) ⟨_, _, rfl, .inr ⟨by simp, Nat.le_refl _⟩, ?_, (fun hh => by cases hh), fun sz hh => ?_, fun j a hj => ?_⟩⟩
    · simp only [AV.real, add_self, Option.map_some, Option.some.injEq, Value.slice.injEq, Bool.false_eq_true, if_false, true_and, Nat.zero_add]
      omega
    · rw [hsz]
      show 0 + s.size ≤ _
      omega
    · obtain rfl := Option.some.inj hh
      rw [hsz]
      show 0 + s.size + (_ - _) * 1 ≤ _
      omega
    · obtain ⟨hlt, rfl⟩ := cellAt_some hj
      obtain ⟨_, _, h3⟩ := writeC_spec s.size (.l ((byteCells s).map .v)) ⟨.nil, 0⟩ 0 t ht
      have hL : (Ck.l ((byteCells s).map AV.v)).list = (byteCells s).map AV.v := rfl
      have h3 := h3 j
      rw [hL] at h3
      have hbl : (byteCells s).length = s.size := byteCells_length s
      have hlt2 : j < s.data.size := hlt
      rw [if_pos (show _ ∧ j < 0 + ((byteCells s).map AV.v).length by rw [List.length_map, hbl]; omega), Nat.sub_zero] at h3
      have hb : (byteCells s)[j]? = some (.int .u8 (s.data[j].toNat : Int)) := by
        unfold byteCells
        rw [List.getElem?_map, Array.getElem?_toList, Array.getElem?_eq_getElem hlt2]
        rfl
      have h3 : some (t.at j) = ((byteCells s).map AV.v)[j]? := h3
      rw [List.getElem?_map, hb] at h3
      rw [Option.some.inj h3]
      refine ⟨_, rfl, ?_⟩
      rw [Nat.zero_add]
      exact bytesRow_at s _ j hlt2
end Go.Proofs.Ytchdipakekglmaa
