/- The law's full; a Commit where nothing is open. -/
import Derived.Test.YtagipfkgnobjlaaPgPlB
namespace Go.Proofs.Ytagipfkgnobjlaa
open Go.RowKit

attribute [local go_sem] Oper.semAt_some
noncomputable def fullP (by_ : UInt8) : List UInt8 := List.replicate 1024 by_
theorem fullP_len (by_ : UInt8) : (fullP by_).length = 1024 := by unfold fullP; rw [List.length_replicate]
theorem full_more {L : List UInt8} {k : Nat} {y : UInt8} (hl : L.length = 1024) (hk : k < 1024) (h : L.take k = List.replicate k y) : (L.set k y).length = 1024 ∧ (L.set k y).take (k + 1) = List.replicate (k + 1) y := by
  refine ⟨by rw [List.length_set]; exact hl, ?_⟩
  have hk2 : k < (L.set k y).length := by rw [List.length_set, hl]; exact hk
  rw [← List.take_append_getElem hk2, List.getElem_set_self, List.take_set_of_le (Nat.le_refl k), h, List.replicate_succ']
set_option maxRecDepth 100000 in
set_option maxHeartbeats 2000000 in
theorem full_any (y : UInt8) (w : World) : Calls Try.prog 12 #[bv y] w (RetB 5 w (fullP y)) := by
  obtain ⟨g, hg⟩ : ∃ y, w.heap.size = y := ⟨_, rfl⟩
  obtain ⟨K, hK⟩ : ∃ K, RetB 5 w (fullP y) = K := ⟨_, rfl⟩
  have HK : Hid (∀ w', RowAt w' g 5 ((fullP y).map bv).toArray → Below w.heap.size w w' → K (.returned (.slice (some ⟨g, 0, none⟩) 1024 1024)) w') := Lib.hid fun w' h1 h2 => by
    rw [← hK]
    exact ⟨_, rfl, own_of_row h1 (fullP_len y) (by decide) (by rw [hg]; exact Nat.le_refl _), h2⟩
  rw [hK]
  obtain ⟨yn, hyn⟩ : ∃ z, y.toNat = z := ⟨_, rfl⟩
  have hbv : bv y = .int .u8 (yn : Int) := by rw [← hyn]; rfl
  have HBV := Lib.hid hbv
  have HG := Lib.hid hg
  rw [hbv]
  clear hK hyn hbv
  go_enter Try.func12, Try.ntmps12
  go_wp2_with (refine step_makeB rfl (.const (.int .i64 1024)) (.const (.int .i64 1024)) rfl 1024 rfl rfl (by omega) ?_; rw [hg]; intro w1 q1 q2; have HR1 := Lib.hid q1; have HB1 := Lib.hid q2; clear q1 q2)
  go_loopw [4] (fun iv wr => ∃ (k : Nat) (L : List UInt8), k ≤ 1024 ∧ iv = .int .i64 (k : Int) ∧ L.length = 1024 ∧ L.take k = List.replicate k y ∧ RowAt wr g 5 (L.map bv).toArray ∧ Below g w wr) (fun iv _ => 1024 - (intOf iv).toNat)
  case atStart => exact ⟨0, _, Nat.zero_le _, rfl, List.length_replicate, by simp, HR1.out, HB1.out⟩
  case round =>
    obtain ⟨k, L, hk, rfl, hl, ht, hrow, hb⟩ := hrel
    by_cases hkn : k < 1024
    · have hkl : k < L.length := by omega
      obtain ⟨z, hz⟩ : ∃ z, L[k] = z := ⟨_, rfl⟩
      have hc := hrow.cell k
      rw [List.getElem?_toArray, List.getElem?_map, List.getElem?_eq_getElem hkl, hz] at hc
      have hf := hrow.frozen k
      have hset : RowAt (wr.setCell ⟨g, k, none⟩ (.int .u8 (yn : Int))) g 5 ((L.set k y).map bv).toArray := by
        have := hrow.set k (.int .u8 (yn : Int))
        rw [← HBV.out] at this ⊢
        rw [List.map_set]
        simpa using this
      obtain ⟨m1, m2⟩ := full_more hl hkn ht
      have HE : Hid (∃ L' : List UInt8, L'.length = 1024 ∧ L'.take (k + 1) = List.replicate (k + 1) y ∧ RowAt (wr.setCell ⟨g, k, none⟩ (.int .u8 (yn : Int))) g 5 (L'.map bv).toArray ∧ Below g w (wr.setCell ⟨g, k, none⟩ (.int .u8 (yn : Int)))) := ⟨_, m1, m2, hset, hb.setCell (p := ⟨g, k, none⟩) (Nat.le_refl _) _⟩
      have hkI : (k : Int) < 1024 := by omega
      simp only [Option.map_some] at hc
      obtain ⟨zn, hzn⟩ : ∃ q, z.toNat = q := ⟨_, rfl⟩
      have hzb : bv z = .int .u8 (zn : Int) := by rw [← hzn]; rfl
      rw [hzb] at hc
      clear hl ht hrow hb hz hset m1 m2 hzn hzb hkl
      go_wp2
      obtain ⟨L', a1, a2, a3, a4⟩ := HE.out
      exact ⟨⟨k + 1, L', by omega, by go_num, a1, a2, a3, a4⟩, by simp [intOf]; omega⟩
    · have hkk : k = 1024 := by omega
      subst hkk
      have hL : L = fullP y := by
        have : L.take 1024 = L := List.take_of_length_le (by omega)
        rw [this] at ht
        exact ht
      subst hL
      have HE := Lib.hid (HK.out wr hrow (by rw [HG.out]; exact hb))
      clear hl ht hrow hb
      go_wp2
      exact HE.out
set_option maxRecDepth 100000 in
set_option maxHeartbeats 2000000 in
theorem pgCommit_idle (w : World) (pb d lb n room : Nat) (now was : Mt) (m : Nat) (h : PgRow w pb d lb n room now was m false false) :
    Calls Try.prog 14 #[.pointer (some ⟨pb, 0, none⟩)] w fun e w' => e = .returned (.int .i64 0) ∧ Below w.heap.size w w' := by
  obtain ⟨g1, hg1⟩ : ∃ y, w.heap.size = y := ⟨_, rfl⟩
  obtain ⟨w1, hw1⟩ : ∃ y, w.alloc (.cells #[.pointer (some ⟨pb, 0, none⟩)] 30) = y := ⟨_, rfl⟩
  have hb1 : Below w.heap.size w w1 := by rw [← hw1]; exact below_alloc _
  have hR1 : RowAt w1 g1 30 #[.pointer (some ⟨pb, 0, none⟩)] := by rw [← hw1, ← hg1]; exact RowAt.new _ _ _
  have hpp : w1.cell? ⟨g1, 0, none⟩ = some (.pointer (some ⟨pb, 0, none⟩)) := hR1.cell 0
  obtain ⟨c0, c1, c2, c3, c4, c5, c6, c26, c27, c28⟩ := (h.later hb1).cells
  have HN := Lib.hid (pgnone_any w1 pb d c0)
  have HB := Lib.hid hb1
  clear h hb1 hR1 c0 c1 c2 c3 c4 c5 c6 c26
  go_enter Try.func14, Try.ntmps14
  try simp only [hw1, hg1]
  go_wp2_with fail
  try simp only [hw1, hg1]
  refine HN.out.mono ?_
  rintro _ _ ⟨rfl, rfl⟩
  go_wp2
  go_ret
  exact ⟨rfl, hg1 ▸ HB.out⟩
end Go.Proofs.Ytagipfkgnobjlaa
