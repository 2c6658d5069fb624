/- bytes.Equal; a sector of a log that counts: wal.look$1. / What a log is on a disk, plainly; batches in the heap. / wal.look: what a log is on a disk. / wal.copied: batches in memory of their own; wal.Look. / Small functions of package wal: none, room, dies, Look, State. / A log and its disk, all their blocks in a set. -/
import Derived.Test.YtagipfkgnobjlaaWlLo
import Derived.WalkMore
namespace Go.Proofs.Ytagipfkgnobjlaa
open Go.RowKit

theorem convB (a : Option Addr) (l : List UInt8) (n c : Nat) (S : ByteArray) (hn : n = l.length) (hS : str l = S) (w : World) (h : RdB w a l) : (convert 22 9 (.slice a n c)).run Try.prog w = .ok (.string S) w := by
  subst hS
  exact run_str (P := Try.prog) w 22 9 5 a n c l Try.underlying22 Try.underlying5 Try.underlying9 hn h
theorem str_list (l : List UInt8) : (str l).toList = l := by
  rw [show (str l).toList = (str l).data.toList from by simp [ByteArray.toList_eq]]
  rfl
theorem equal_any (w : World) (a b : Option Addr) (l1 l2 : List UInt8) (n1 c1 n2 c2 : Nat) (h1 : n1 = l1.length) (h2 : n2 = l2.length) (r1 : RdB w a l1) (r2 : RdB w b l2) :
    Calls Try.prog 74 #[.slice a n1 c1, .slice b n2 c2] w fun e w' => e = .returned (.bool (l1 == l2)) ∧ w' = w := by
  obtain ⟨S1, hS1⟩ : ∃ S, str l1 = S := ⟨_, rfl⟩
  obtain ⟨S2, hS2⟩ : ∃ S, str l2 = S := ⟨_, rfl⟩
  have k1 := convB a l1 n1 c1 S1 h1 hS1 w r1
  have k2 := convB b l2 n2 c2 S2 h2 hS2 w r2
  have e1 : S1.toList = l1 := by rw [← hS1]; exact str_list l1
  have e2 : S2.toList = l2 := by rw [← hS2]; exact str_list l2
  obtain ⟨r, hr⟩ : ∃ r, (l1 == l2) = r := ⟨_, rfl⟩
  have hq : (S1.toList == S2.toList) = r := by rw [e1, e2]; exact hr
  rw [hr]
  clear hS1 hS2 e1 e2 hr h1 h2 r1 r2
  go_enter Try.func74, Try.ntmps74
  go_wp2
  go_ret
  refine ⟨?_, rfl⟩
  first | rfl | (rw [← hq]; rfl)
theorem RdB.sub {w : World} {b off : Nat} {l : List UInt8} (h : RdB w (some ⟨b, off, none⟩) l) (k m : Nat) : RdB w (some ⟨b, off + k, none⟩) ((l.drop k).take m) := by
  by_cases h0 : 0 < ((l.drop k).take m).length
  · rw [List.length_take, List.length_drop] at h0
    obtain ⟨b', off', ha, hlt, hc⟩ := h.at (by omega)
    cases ha
    refine .inr ⟨b, off + k, rfl, hlt, fun j hj => ?_⟩
    have hj2 : j < ((l.drop k).take m).length := by simpa using hj
    rw [List.length_take, List.length_drop] at hj2
    have := hc (k + j) (by omega)
    rw [Nat.add_assoc, this]
    simp [bv]
  · have : (l.drop k).take m = [] := List.eq_nil_of_length_eq_zero (by omega)
    rw [this]
    exact .inl rfl
/-- Does a sector count? -/
def secOk (s : List UInt8) (i base run : Nat) : Bool := (s.take 12 == s.drop 500) && ((leB ((s.drop 8).take 4) == i) && (decide (base ≤ leB (s.take 8)) && decide (leB (s.take 8) ≤ run)))
set_option maxRecDepth 100000 in
set_option maxHeartbeats 2000000 in
theorem sector_no (w : World) (nb bb lp : Nat) (n i : Nat) (h1 : w.cell? ⟨nb, 0, none⟩ = some (.int .i64 (n : Int))) (hn : 4 ≤ n) (hn2 : n ≤ 65536) (hi : i ≤ 100000) (hin : n - 2 ≤ i) :
    Calls Try.prog 73 #[.int .i64 (i : Int), .pointer (some ⟨nb, 0, none⟩), .pointer (some ⟨bb, 0, none⟩), .pointer (some ⟨lp, 0, none⟩)] w fun e w' => e = .returned (.tuple #[.slice none 0 0, .int .u64 0, .bool false]) ∧ w' = w := by
  have hw : IntKind.i64.wrap ((n : Int) - 2) = (n : Int) - 2 := IntWalk.i64_in _ (by omega)
  have hge : (n : Int) - 2 ≤ (i : Int) := by omega
  go_enter Try.func73, Try.ntmps73
  go_wp2
  go_ret3
  exact ⟨rfl, rfl⟩
set_option maxRecDepth 100000 in
set_option maxHeartbeats 4000000 in
theorem sector_yes (w : World) (nb bb lp lb : Nat) (n i : Nat) (ba bo bc : Nat) (BY : List UInt8) (run base : Nat) (h1 : w.cell? ⟨nb, 0, none⟩ = some (.int .i64 (n : Int))) (h2 : w.cell? ⟨bb, 0, none⟩ = some (.slice (some ⟨ba, bo, none⟩) ((n - 2) * 512) bc))
    (h3 : w.cell? ⟨lp, 0, none⟩ = some (.pointer (some ⟨lb, 0, none⟩))) (h4 : w.cell? ⟨lb, 3, none⟩ = some (.int .u64 (run : Int))) (h5 : w.cell? ⟨lb, 4, none⟩ = some (.int .u64 (base : Int)))
    (hn : 4 ≤ n) (hn2 : n ≤ 65536) (hi : i < n - 2) (hl : BY.length = (n - 2) * 512) (hc : (n - 2) * 512 ≤ bc) (hr : RdB w (some ⟨ba, bo, none⟩) BY) :
    Calls Try.prog 73 #[.int .i64 (i : Int), .pointer (some ⟨nb, 0, none⟩), .pointer (some ⟨bb, 0, none⟩), .pointer (some ⟨lp, 0, none⟩)] w fun e w' =>
      (∃ a c, e = .returned (.tuple #[.slice a 488 c, .int .u64 (leB ((sec BY i).take 8) : Int), .bool (secOk (sec BY i) i base run)]) ∧ RdB w' a (((sec BY i).drop 12).take 488) ∧ 488 ≤ c) ∧ Below w.heap.size w w' := by
  have hw : IntKind.i64.wrap ((n : Int) - 2) = (n : Int) - 2 := IntWalk.i64_in _ (by omega)
  have hlt : ¬ (n : Int) - 2 ≤ (i : Int) := by omega
  obtain ⟨o, ho⟩ : ∃ o, i * 512 = o := ⟨_, rfl⟩
  have hw1 : IntKind.i64.wrap ((i : Int) * 512) = (o : Int) := by rw [IntWalk.i64_in _ (by omega)]; omega
  have hw2 : IntKind.i64.wrap ((i : Int) + 1) = (i : Int) + 1 := IntWalk.i64_in _ (by omega)
  have hw3 : IntKind.i64.wrap (((i : Int) + 1) * 512) = ((o + 512 : Nat) : Int) := by rw [IntWalk.i64_in _ (by omega)]; omega
  have hob : o + 512 ≤ bc := by omega
  obtain ⟨cp, hcp⟩ : ∃ x, bc - o = x := ⟨_, rfl⟩
  have hcp5 : 512 ≤ cp := by omega
  have hc12 : (12 : Int) ≤ (cp : Int) := by omega
  have hc500 : (500 : Int) ≤ (cp : Int) := by omega
  have hc8 : (8 : Int) ≤ (cp : Int) := by omega
  have hn500 : ¬ cp = 500 := by omega
  have hn12 : ¬ cp = 12 := by omega
  have hn8 : ¬ cp = 8 := by omega
  obtain ⟨s, hs⟩ : ∃ s, sec BY i = s := ⟨_, rfl⟩
  have hsl : s.length = 512 := by rw [← hs]; exact sec_len (by omega)
  have hrs : RdB w (some ⟨ba, bo + o, none⟩) s := by
    have := hr.sub o 512
    rw [← ho] at this ⊢
    rw [← hs]
    exact this
  rw [hs]
  obtain ⟨r, hr'⟩ : ∃ r, leB (s.take 8) = r := ⟨_, rfl⟩
  have HV1 := Lib.hid (fun (w' : World) (hb : Below w.heap.size w w') (c : Nat) => value_any w' (some ⟨ba, bo + o, none⟩) (s.take 8) 8 c (by rw [List.length_take]; omega) (by omega) (by have := (hrs.mono hb).sub 0 8; simpa using this))
  have HV2 := Lib.hid (fun (w' : World) (hb : Below w.heap.size w w') (c : Nat) => value_any w' (some ⟨ba, bo + o + 8, none⟩) ((s.drop 8).take 4) 4 c (by rw [List.length_take, List.length_drop]; omega) (by omega) ((hrs.mono hb).sub 8 4))
  have HEQ := Lib.hid (fun (w' : World) (hb : Below w.heap.size w w') (c c' : Nat) => equal_any w' (some ⟨ba, bo + o, none⟩) (some ⟨ba, bo + o + 500, none⟩) (s.take 12) (s.drop 500) 12 c 12 c' (by rw [List.length_take]; omega) (by rw [List.length_drop]; omega) (by have := (hrs.mono hb).sub 0 12; simpa using this) (by have := (hrs.mono hb).sub 500 12; rw [List.take_of_length_le (by rw [List.length_drop]; omega)] at this; exact this))
  have HRS := Lib.hid hrs
  rw [hr'] at HV1
  obtain ⟨e1, he1⟩ : ∃ e : Bool, (s.take 12 == s.drop 500) = e := ⟨_, rfl⟩
  rw [he1] at HEQ
  obtain ⟨y, hy⟩ : ∃ y, leB ((s.drop 8).take 4) = y := ⟨_, rfl⟩
  rw [hy] at HV2
  have hsok : secOk s i base run = (e1 && ((y == i) && (decide (base ≤ r) && decide (r ≤ run)))) := by unfold secOk; rw [he1, hy, hr']
  rw [hsok, hr']
  obtain ⟨e2, he2⟩ : ∃ e : Bool, (y == i) = e := ⟨_, rfl⟩
  obtain ⟨e3, he3⟩ : ∃ e : Bool, decide (base ≤ r) = e := ⟨_, rfl⟩
  obtain ⟨e4, he4⟩ : ∃ e : Bool, decide (r ≤ run) = e := ⟨_, rfl⟩
  rw [he2, he3, he4]
  have hy2 : ((y : Int) == (i : Int)) = e2 := by rw [← he2, Bool.eq_iff_iff]; simp; omega
  have hb3 : decide ((base : Int) ≤ (r : Int)) = e3 := by rw [← he3]; simp
  have hb4 : decide ((r : Int) ≤ (run : Int)) = e4 := by rw [← he4]; simp
  have hiw : IntKind.u64.wrap (i : Int) = (i : Int) := by rw [IntWalk.u64_in _ ⟨by omega, by omega⟩]
  clear he2
  clear hr hs hsl hrs hr' he1 hy hsok
  go_enter Try.func73, Try.ntmps73
  go_wp2_with fail
  refine (HV1.out w (Below.refl _ _) _).mono ?_
  rintro _ w1 ⟨rfl, hb1⟩
  have HB1 := Lib.hid (show Below w.heap.size w w1.drew from drewN_below hb1 1)
  have hlp : lp < w.heap.size := World.block_lt_of_cell? w _ h3
  have hlb : lb < w.heap.size := World.block_lt_of_cell? w _ h4
  have HK : Hid (∀ w', Below w.heap.size w w' → w'.cell? ⟨lp, 0, none⟩ = some (.pointer (some ⟨lb, 0, none⟩)) ∧ w'.cell? ⟨lb, 3, none⟩ = some (.int .u64 (run : Int)) ∧ w'.cell? ⟨lb, 4, none⟩ = some (.int .u64 (base : Int))) := fun w' hb => ⟨cell_later hb hlp h3, cell_later hb hlb h4, cell_later hb hlb h5⟩
  have hk1 := HK.out _ HB1.out
  clear hb1 h1 h2 h3 h4 h5 HV1
  go_wp2
  cases e1 with
  | false =>
    refine wp_region_held_drew (S := fun w' => w'.cell? ⟨lp, 0, none⟩ = some (.pointer (some ⟨lb, 0, none⟩)) ∧ w'.cell? ⟨lb, 3, none⟩ = some (.int .u64 (run : Int)) ∧ w'.cell? ⟨lb, 4, none⟩ = some (.int .u64 (base : Int))) (by kernel_rfl) hk1 (fun hHeld => ?_)
    refine wpAnyH_take (i := 0) (v := ?_) rfl (by kernel_rfl) (by kernel_rfl) (by kernel_rfl) (fun _ _ _ h => h) (Or.inl ⟨by rfl, ?_⟩) hHeld ?_
    rotate_left
    · intro w' hS'
      (try dsimp only at hS')
      go_simp
      try with_reducible rfl
    try simp only [List.getElem_toArray, List.getElem_cons_succ, List.getElem_cons_zero, Act.put, List.setIfInBounds_toArray, List.set_cons_zero, List.set_cons_succ]
    refine wpAnyH_take (i := 1) (v := ?_) rfl (by kernel_rfl) (by kernel_rfl) (by kernel_rfl) (fun _ _ _ h => h) (Or.inl ⟨by rfl, ?_⟩) hHeld ?_
    rotate_left
    · intro w' hS'
      (try dsimp only at hS')
      go_simp
      try with_reducible rfl
    try simp only [List.getElem_toArray, List.getElem_cons_succ, List.getElem_cons_zero, Act.put, List.setIfInBounds_toArray, List.set_cons_zero, List.set_cons_succ]
    refine wpAnyH_take (i := 2) (v := ?_) rfl (by kernel_rfl) (by kernel_rfl) (by kernel_rfl) (fun _ _ _ h => h) (Or.inl ⟨by rfl, ?_⟩) hHeld ?_
    rotate_left
    · intro w' hS'
      (try dsimp only at hS')
      go_simp
      try with_reducible rfl
    try simp only [List.getElem_toArray, List.getElem_cons_succ, List.getElem_cons_zero, Act.put, List.setIfInBounds_toArray, List.set_cons_zero, List.set_cons_succ]
    refine wpAnyH_take (i := 3) (v := ?_) rfl (by kernel_rfl) (by kernel_rfl) (by kernel_rfl) (fun _ _ _ h => h) (Or.inl ⟨by rfl, ?_⟩) hHeld ?_
    rotate_left
    · intro w' hS'
      (try dsimp only at hS')
      go_simp
      try with_reducible rfl
    try simp only [List.getElem_toArray, List.getElem_cons_succ, List.getElem_cons_zero, Act.put, List.setIfInBounds_toArray, List.set_cons_zero, List.set_cons_succ]
    refine wpAnyH_ready (rs := [4]) (by kernel_rfl) (by simp) (AllReadyH.cons rfl (fun K hK => ?_) AllReadyH.nil)
    go_simp
    go_wp2_with (go_at_call 74; refine (HEQ.out w1.drew HB1.out _ _).mono ?_; rintro e w2 ⟨rfl, rfl⟩)
    refine hK.out _ _ hk1 (fun hHeld => ?_)
    try simp only [List.getElem_toArray, List.getElem_cons_succ, List.getElem_cons_zero, Act.put, List.setIfInBounds_toArray, List.set_cons_zero, List.set_cons_succ]
    clear hK K
    refine wpAnyH_take (i := 5) (v := ?_) rfl (by kernel_rfl) (by kernel_rfl) (by kernel_rfl) (fun _ _ _ h => h) (Or.inl ⟨by rfl, ?_⟩) hHeld ?_
    rotate_left
    · intro w' hS'
      (try dsimp only at hS')
      go_simp
      try with_reducible rfl
    try simp only [List.getElem_toArray, List.getElem_cons_succ, List.getElem_cons_zero, Act.put, List.setIfInBounds_toArray, List.set_cons_zero, List.set_cons_succ]
    refine wpAnyH_take (i := 6) (v := undef) rfl (by kernel_rfl) (by kernel_rfl) (by kernel_rfl) (fun _ _ _ h => h) (Or.inr ⟨by rfl, rfl⟩) hHeld ?_
    try simp only [List.getElem_toArray, List.getElem_cons_succ, List.getElem_cons_zero, Act.put, List.setIfInBounds_toArray, List.set_cons_zero, List.set_cons_succ]
    refine wpAnyH_take (i := 7) (v := undef) rfl (by kernel_rfl) (by kernel_rfl) (by kernel_rfl) (fun _ _ _ h => h) (Or.inr ⟨by rfl, rfl⟩) hHeld ?_
    try simp only [List.getElem_toArray, List.getElem_cons_succ, List.getElem_cons_zero, Act.put, List.setIfInBounds_toArray, List.set_cons_zero, List.set_cons_succ]
    refine wpAnyH_take (i := 8) (v := undef) rfl (by kernel_rfl) (by kernel_rfl) (by kernel_rfl) (fun _ _ _ h => h) (Or.inr ⟨by rfl, rfl⟩) hHeld ?_
    try simp only [List.getElem_toArray, List.getElem_cons_succ, List.getElem_cons_zero, Act.put, List.setIfInBounds_toArray, List.set_cons_zero, List.set_cons_succ]
    refine wpAnyH_take (i := 9) (v := undef) rfl (by kernel_rfl) (by kernel_rfl) (by kernel_rfl) (fun _ _ _ h => h) (Or.inr ⟨by rfl, rfl⟩) hHeld ?_
    try simp only [List.getElem_toArray, List.getElem_cons_succ, List.getElem_cons_zero, Act.put, List.setIfInBounds_toArray, List.set_cons_zero, List.set_cons_succ]
    refine wpAnyH_take (i := 10) (v := undef) rfl (by kernel_rfl) (by kernel_rfl) (by kernel_rfl) (fun _ _ _ h => h) (Or.inr ⟨by rfl, rfl⟩) hHeld ?_
    try simp only [List.getElem_toArray, List.getElem_cons_succ, List.getElem_cons_zero, Act.put, List.setIfInBounds_toArray, List.set_cons_zero, List.set_cons_succ]
    refine wpAnyH_take (i := 11) (v := undef) rfl (by kernel_rfl) (by kernel_rfl) (by kernel_rfl) (fun _ _ _ h => h) (Or.inr ⟨by rfl, rfl⟩) hHeld ?_
    try simp only [List.getElem_toArray, List.getElem_cons_succ, List.getElem_cons_zero, Act.put, List.setIfInBounds_toArray, List.set_cons_zero, List.set_cons_succ]
    refine wpAnyH_take (i := 12) (v := ?_) rfl (by kernel_rfl) (by kernel_rfl) (by kernel_rfl) (fun _ _ _ h => h) (Or.inl ⟨by rfl, ?_⟩) hHeld ?_
    rotate_left
    · intro w' hS'
      (try dsimp only at hS')
      go_simp
      try with_reducible rfl
    try simp only [List.getElem_toArray, List.getElem_cons_succ, List.getElem_cons_zero, Act.put, List.setIfInBounds_toArray, List.set_cons_zero, List.set_cons_succ]
    refine wpAnyH_take (i := 13) (v := ?_) rfl (by kernel_rfl) (by kernel_rfl) (by kernel_rfl) (fun _ _ _ h => h) (Or.inl ⟨by rfl, ?_⟩) hHeld ?_
    rotate_left
    · intro w' hS'
      (try dsimp only at hS')
      go_simp
      try with_reducible rfl
    try simp only [List.getElem_toArray, List.getElem_cons_succ, List.getElem_cons_zero, Act.put, List.setIfInBounds_toArray, List.set_cons_zero, List.set_cons_succ]
    refine wpAnyH_take (i := 14) (v := undef) rfl (by kernel_rfl) (by kernel_rfl) (by kernel_rfl) (fun _ _ _ h => h) (Or.inr ⟨by rfl, rfl⟩) hHeld ?_
    try simp only [List.getElem_toArray, List.getElem_cons_succ, List.getElem_cons_zero, Act.put, List.setIfInBounds_toArray, List.set_cons_zero, List.set_cons_succ]
    refine wpAnyH_take (i := 15) (v := undef) rfl (by kernel_rfl) (by kernel_rfl) (by kernel_rfl) (fun _ _ _ h => h) (Or.inr ⟨by rfl, rfl⟩) hHeld ?_
    try simp only [List.getElem_toArray, List.getElem_cons_succ, List.getElem_cons_zero, Act.put, List.setIfInBounds_toArray, List.set_cons_zero, List.set_cons_succ]
    refine wpAnyH_take (i := 16) (v := undef) rfl (by kernel_rfl) (by kernel_rfl) (by kernel_rfl) (fun _ _ _ h => h) (Or.inr ⟨by rfl, rfl⟩) hHeld ?_
    try simp only [List.getElem_toArray, List.getElem_cons_succ, List.getElem_cons_zero, Act.put, List.setIfInBounds_toArray, List.set_cons_zero, List.set_cons_succ]
    refine wpAnyH_take (i := 17) (v := undef) rfl (by kernel_rfl) (by kernel_rfl) (by kernel_rfl) (fun _ _ _ h => h) (Or.inr ⟨by rfl, rfl⟩) hHeld ?_
    try simp only [List.getElem_toArray, List.getElem_cons_succ, List.getElem_cons_zero, Act.put, List.setIfInBounds_toArray, List.set_cons_zero, List.set_cons_succ]
    refine wpAnyH_take (i := 18) (v := undef) rfl (by kernel_rfl) (by kernel_rfl) (by kernel_rfl) (fun _ _ _ h => h) (Or.inr ⟨by rfl, rfl⟩) hHeld ?_
    try simp only [List.getElem_toArray, List.getElem_cons_succ, List.getElem_cons_zero, Act.put, List.setIfInBounds_toArray, List.set_cons_zero, List.set_cons_succ]
    refine wpAnyH_take (i := 19) (v := undef) rfl (by kernel_rfl) (by kernel_rfl) (by kernel_rfl) (fun _ _ _ h => h) (Or.inr ⟨by rfl, rfl⟩) hHeld ?_
    try simp only [List.getElem_toArray, List.getElem_cons_succ, List.getElem_cons_zero, Act.put, List.setIfInBounds_toArray, List.set_cons_zero, List.set_cons_succ]
    refine wpAnyH_take (i := 20) (v := ?_) rfl (by kernel_rfl) (by kernel_rfl) (by kernel_rfl) (fun _ _ _ h => h) (Or.inl ⟨by rfl, ?_⟩) hHeld ?_
    rotate_left
    · intro w' hS'
      (try dsimp only at hS')
      go_simp
      try with_reducible rfl
    try simp only [List.getElem_toArray, List.getElem_cons_succ, List.getElem_cons_zero, Act.put, List.setIfInBounds_toArray, List.set_cons_zero, List.set_cons_succ]
    refine wpAnyH_take (i := 21) (v := ?_) rfl (by kernel_rfl) (by kernel_rfl) (by kernel_rfl) (fun _ _ _ h => h) (Or.inl ⟨by rfl, ?_⟩) hHeld ?_
    rotate_left
    · intro w' hS'
      (try dsimp only at hS')
      go_simp
      try with_reducible rfl
    try simp only [List.getElem_toArray, List.getElem_cons_succ, List.getElem_cons_zero, Act.put, List.setIfInBounds_toArray, List.set_cons_zero, List.set_cons_succ]
    refine wpAnyH_take (i := 22) (v := undef) rfl (by kernel_rfl) (by kernel_rfl) (by kernel_rfl) (fun _ _ _ h => h) (Or.inr ⟨by rfl, rfl⟩) hHeld ?_
    try simp only [List.getElem_toArray, List.getElem_cons_succ, List.getElem_cons_zero, Act.put, List.setIfInBounds_toArray, List.set_cons_zero, List.set_cons_succ]
    refine wpAnyH_take (i := 23) (v := undef) rfl (by kernel_rfl) (by kernel_rfl) (by kernel_rfl) (fun _ _ _ h => h) (Or.inr ⟨by rfl, rfl⟩) hHeld ?_
    try simp only [List.getElem_toArray, List.getElem_cons_succ, List.getElem_cons_zero, Act.put, List.setIfInBounds_toArray, List.set_cons_zero, List.set_cons_succ]
    refine wpAnyH_take (i := 24) (v := undef) rfl (by kernel_rfl) (by kernel_rfl) (by kernel_rfl) (fun _ _ _ h => h) (Or.inr ⟨by rfl, rfl⟩) hHeld ?_
    try simp only [List.getElem_toArray, List.getElem_cons_succ, List.getElem_cons_zero, Act.put, List.setIfInBounds_toArray, List.set_cons_zero, List.set_cons_succ]
    refine wpAnyH_take (i := 25) (v := undef) rfl (by kernel_rfl) (by kernel_rfl) (by kernel_rfl) (fun _ _ _ h => h) (Or.inr ⟨by rfl, rfl⟩) hHeld ?_
    try simp only [List.getElem_toArray, List.getElem_cons_succ, List.getElem_cons_zero, Act.put, List.setIfInBounds_toArray, List.set_cons_zero, List.set_cons_succ]
    refine wpAnyH_take (i := 26) (v := undef) rfl (by kernel_rfl) (by kernel_rfl) (by kernel_rfl) (fun _ _ _ h => h) (Or.inr ⟨by rfl, rfl⟩) hHeld ?_
    try simp only [List.getElem_toArray, List.getElem_cons_succ, List.getElem_cons_zero, Act.put, List.setIfInBounds_toArray, List.set_cons_zero, List.set_cons_succ]
    refine wpAnyH_take (i := 27) (v := undef) rfl (by kernel_rfl) (by kernel_rfl) (by kernel_rfl) (fun _ _ _ h => h) (Or.inr ⟨by rfl, rfl⟩) hHeld ?_
    try simp only [List.getElem_toArray, List.getElem_cons_succ, List.getElem_cons_zero, Act.put, List.setIfInBounds_toArray, List.set_cons_zero, List.set_cons_succ]
    refine wpAnyH_take (i := 28) (v := ?_) rfl (by kernel_rfl) (by kernel_rfl) (by kernel_rfl) (fun _ _ _ h => h) (Or.inl ⟨by rfl, ?_⟩) hHeld ?_
    rotate_left
    · intro w' hS'
      (try dsimp only at hS')
      go_simp
      try with_reducible rfl
    try simp only [List.getElem_toArray, List.getElem_cons_succ, List.getElem_cons_zero, Act.put, List.setIfInBounds_toArray, List.set_cons_zero, List.set_cons_succ]
    refine wpAnyH_take (i := 29) (v := ?_) rfl (by kernel_rfl) (by kernel_rfl) (by kernel_rfl) (fun _ _ _ h => h) (Or.inl ⟨by rfl, ?_⟩) hHeld ?_
    rotate_left
    · intro w' hS'
      (try dsimp only at hS')
      go_simp
      try with_reducible rfl
    try simp only [List.getElem_toArray, List.getElem_cons_succ, List.getElem_cons_zero, Act.put, List.setIfInBounds_toArray, List.set_cons_zero, List.set_cons_succ]
    refine wpAnyH_done (by kernel_rfl) ?_ _
    go_wp2
    go_ret3
    exact ⟨⟨_, cp - 12, rfl, (HRS.out.mono HB1.out).sub 12 488, by omega⟩, HB1.out⟩
  | true =>
    cases e2 with
    | false =>
      refine wp_region_held_drew (S := fun w' => w'.cell? ⟨lp, 0, none⟩ = some (.pointer (some ⟨lb, 0, none⟩)) ∧ w'.cell? ⟨lb, 3, none⟩ = some (.int .u64 (run : Int)) ∧ w'.cell? ⟨lb, 4, none⟩ = some (.int .u64 (base : Int))) (by kernel_rfl) hk1 (fun hHeld => ?_)
      refine wpAnyH_take (i := 0) (v := ?_) rfl (by kernel_rfl) (by kernel_rfl) (by kernel_rfl) (fun _ _ _ h => h) (Or.inl ⟨by rfl, ?_⟩) hHeld ?_
      rotate_left
      · intro w' hS'
        (try dsimp only at hS')
        go_simp
        try with_reducible rfl
      try simp only [List.getElem_toArray, List.getElem_cons_succ, List.getElem_cons_zero, Act.put, List.setIfInBounds_toArray, List.set_cons_zero, List.set_cons_succ]
      refine wpAnyH_take (i := 1) (v := ?_) rfl (by kernel_rfl) (by kernel_rfl) (by kernel_rfl) (fun _ _ _ h => h) (Or.inl ⟨by rfl, ?_⟩) hHeld ?_
      rotate_left
      · intro w' hS'
        (try dsimp only at hS')
        go_simp
        try with_reducible rfl
      try simp only [List.getElem_toArray, List.getElem_cons_succ, List.getElem_cons_zero, Act.put, List.setIfInBounds_toArray, List.set_cons_zero, List.set_cons_succ]
      refine wpAnyH_take (i := 2) (v := ?_) rfl (by kernel_rfl) (by kernel_rfl) (by kernel_rfl) (fun _ _ _ h => h) (Or.inl ⟨by rfl, ?_⟩) hHeld ?_
      rotate_left
      · intro w' hS'
        (try dsimp only at hS')
        go_simp
        try with_reducible rfl
      try simp only [List.getElem_toArray, List.getElem_cons_succ, List.getElem_cons_zero, Act.put, List.setIfInBounds_toArray, List.set_cons_zero, List.set_cons_succ]
      refine wpAnyH_take (i := 3) (v := ?_) rfl (by kernel_rfl) (by kernel_rfl) (by kernel_rfl) (fun _ _ _ h => h) (Or.inl ⟨by rfl, ?_⟩) hHeld ?_
      rotate_left
      · intro w' hS'
        (try dsimp only at hS')
        go_simp
        try with_reducible rfl
      try simp only [List.getElem_toArray, List.getElem_cons_succ, List.getElem_cons_zero, Act.put, List.setIfInBounds_toArray, List.set_cons_zero, List.set_cons_succ]
      refine wpAnyH_ready (rs := [4]) (by kernel_rfl) (by simp) (AllReadyH.cons rfl (fun K hK => ?_) AllReadyH.nil)
      go_simp
      go_wp2_with (go_at_call 74; refine (HEQ.out w1.drew HB1.out _ _).mono ?_; rintro e w2 ⟨rfl, rfl⟩)
      refine hK.out _ _ hk1 (fun hHeld => ?_)
      try simp only [List.getElem_toArray, List.getElem_cons_succ, List.getElem_cons_zero, Act.put, List.setIfInBounds_toArray, List.set_cons_zero, List.set_cons_succ]
      clear hK K
      refine wpAnyH_take (i := 5) (v := ?_) rfl (by kernel_rfl) (by kernel_rfl) (by kernel_rfl) (fun _ _ _ h => h) (Or.inl ⟨by rfl, ?_⟩) hHeld ?_
      rotate_left
      · intro w' hS'
        (try dsimp only at hS')
        go_simp
        try with_reducible rfl
      try simp only [List.getElem_toArray, List.getElem_cons_succ, List.getElem_cons_zero, Act.put, List.setIfInBounds_toArray, List.set_cons_zero, List.set_cons_succ]
      refine wpAnyH_take (i := 6) (v := ?_) rfl (by kernel_rfl) (by kernel_rfl) (by kernel_rfl) (fun _ _ _ h => h) (Or.inl ⟨by rfl, ?_⟩) hHeld ?_
      rotate_left
      · intro w' hS'
        (try dsimp only at hS')
        go_simp
        try with_reducible rfl
      try simp only [List.getElem_toArray, List.getElem_cons_succ, List.getElem_cons_zero, Act.put, List.setIfInBounds_toArray, List.set_cons_zero, List.set_cons_succ]
      refine wpAnyH_take (i := 7) (v := ?_) rfl (by kernel_rfl) (by kernel_rfl) (by kernel_rfl) (fun _ _ _ h => h) (Or.inl ⟨by rfl, ?_⟩) hHeld ?_
      rotate_left
      · intro w' hS'
        (try dsimp only at hS')
        go_simp
        try with_reducible rfl
      try simp only [List.getElem_toArray, List.getElem_cons_succ, List.getElem_cons_zero, Act.put, List.setIfInBounds_toArray, List.set_cons_zero, List.set_cons_succ]
      refine wpAnyH_take (i := 9) (v := ?_) rfl (by kernel_rfl) (by kernel_rfl) (by kernel_rfl) (fun _ _ _ h => h) (Or.inl ⟨by rfl, ?_⟩) hHeld ?_
      rotate_left
      · intro w' hS'
        (try dsimp only at hS')
        go_simp
        try with_reducible rfl
      try simp only [List.getElem_toArray, List.getElem_cons_succ, List.getElem_cons_zero, Act.put, List.setIfInBounds_toArray, List.set_cons_zero, List.set_cons_succ]
      refine wpAnyH_take (i := 10) (v := ?_) rfl (by kernel_rfl) (by kernel_rfl) (by kernel_rfl) (fun _ _ _ h => h) (Or.inl ⟨by rfl, ?_⟩) hHeld ?_
      rotate_left
      · intro w' hS'
        (try dsimp only at hS')
        go_simp
        try with_reducible rfl
      try simp only [List.getElem_toArray, List.getElem_cons_succ, List.getElem_cons_zero, Act.put, List.setIfInBounds_toArray, List.set_cons_zero, List.set_cons_succ]
      refine wpAnyH_ready (rs := [8]) (by kernel_rfl) (by simp) (AllReadyH.cons rfl (fun K hK => ?_) AllReadyH.nil)
      go_simp
      go_wp2_with (go_at_call 72; refine (HV2.out w1.drew HB1.out _).mono ?_; rintro e w3 ⟨rfl, hb3'⟩; have HB3 := Lib.hid (HB1.out.trans (hb3'.mono HB1.out.size)); have hk3 := HK.out _ HB3.out; clear hb3')
      refine hK.out _ _ hk3 (fun hHeld => ?_)
      try simp only [List.getElem_toArray, List.getElem_cons_succ, List.getElem_cons_zero, Act.put, List.setIfInBounds_toArray, List.set_cons_zero, List.set_cons_succ]
      clear hK K
      refine wpAnyH_take (i := 11) (v := ?_) rfl (by kernel_rfl) (by kernel_rfl) (by kernel_rfl) (fun _ _ _ h => h) (Or.inl ⟨by rfl, ?_⟩) hHeld ?_
      rotate_left
      · intro w' hS'
        (try dsimp only at hS')
        go_simp
        try with_reducible rfl
      try simp only [List.getElem_toArray, List.getElem_cons_succ, List.getElem_cons_zero, Act.put, List.setIfInBounds_toArray, List.set_cons_zero, List.set_cons_succ]
      refine wpAnyH_take (i := 12) (v := ?_) rfl (by kernel_rfl) (by kernel_rfl) (by kernel_rfl) (fun _ _ _ h => h) (Or.inl ⟨by rfl, ?_⟩) hHeld ?_
      rotate_left
      · intro w' hS'
        (try dsimp only at hS')
        go_simp
        try with_reducible rfl
      try simp only [List.getElem_toArray, List.getElem_cons_succ, List.getElem_cons_zero, Act.put, List.setIfInBounds_toArray, List.set_cons_zero, List.set_cons_succ]
      refine wpAnyH_take (i := 13) (v := ?_) rfl (by kernel_rfl) (by kernel_rfl) (by kernel_rfl) (fun _ _ _ h => h) (Or.inl ⟨by rfl, ?_⟩) hHeld ?_
      rotate_left
      · intro w' hS'
        (try dsimp only at hS')
        go_simp
        try with_reducible rfl
      try simp only [List.getElem_toArray, List.getElem_cons_succ, List.getElem_cons_zero, Act.put, List.setIfInBounds_toArray, List.set_cons_zero, List.set_cons_succ]
      refine wpAnyH_take (i := 14) (v := undef) rfl (by kernel_rfl) (by kernel_rfl) (by kernel_rfl) (fun _ _ _ h => h) (Or.inr ⟨by rfl, rfl⟩) hHeld ?_
      try simp only [List.getElem_toArray, List.getElem_cons_succ, List.getElem_cons_zero, Act.put, List.setIfInBounds_toArray, List.set_cons_zero, List.set_cons_succ]
      refine wpAnyH_take (i := 15) (v := undef) rfl (by kernel_rfl) (by kernel_rfl) (by kernel_rfl) (fun _ _ _ h => h) (Or.inr ⟨by rfl, rfl⟩) hHeld ?_
      try simp only [List.getElem_toArray, List.getElem_cons_succ, List.getElem_cons_zero, Act.put, List.setIfInBounds_toArray, List.set_cons_zero, List.set_cons_succ]
      refine wpAnyH_take (i := 16) (v := undef) rfl (by kernel_rfl) (by kernel_rfl) (by kernel_rfl) (fun _ _ _ h => h) (Or.inr ⟨by rfl, rfl⟩) hHeld ?_
      try simp only [List.getElem_toArray, List.getElem_cons_succ, List.getElem_cons_zero, Act.put, List.setIfInBounds_toArray, List.set_cons_zero, List.set_cons_succ]
      refine wpAnyH_take (i := 17) (v := undef) rfl (by kernel_rfl) (by kernel_rfl) (by kernel_rfl) (fun _ _ _ h => h) (Or.inr ⟨by rfl, rfl⟩) hHeld ?_
      try simp only [List.getElem_toArray, List.getElem_cons_succ, List.getElem_cons_zero, Act.put, List.setIfInBounds_toArray, List.set_cons_zero, List.set_cons_succ]
      refine wpAnyH_take (i := 18) (v := undef) rfl (by kernel_rfl) (by kernel_rfl) (by kernel_rfl) (fun _ _ _ h => h) (Or.inr ⟨by rfl, rfl⟩) hHeld ?_
      try simp only [List.getElem_toArray, List.getElem_cons_succ, List.getElem_cons_zero, Act.put, List.setIfInBounds_toArray, List.set_cons_zero, List.set_cons_succ]
      refine wpAnyH_take (i := 19) (v := undef) rfl (by kernel_rfl) (by kernel_rfl) (by kernel_rfl) (fun _ _ _ h => h) (Or.inr ⟨by rfl, rfl⟩) hHeld ?_
      try simp only [List.getElem_toArray, List.getElem_cons_succ, List.getElem_cons_zero, Act.put, List.setIfInBounds_toArray, List.set_cons_zero, List.set_cons_succ]
      refine wpAnyH_take (i := 20) (v := ?_) rfl (by kernel_rfl) (by kernel_rfl) (by kernel_rfl) (fun _ _ _ h => h) (Or.inl ⟨by rfl, ?_⟩) hHeld ?_
      rotate_left
      · intro w' hS'
        (try dsimp only at hS')
        go_simp
        try with_reducible rfl
      try simp only [List.getElem_toArray, List.getElem_cons_succ, List.getElem_cons_zero, Act.put, List.setIfInBounds_toArray, List.set_cons_zero, List.set_cons_succ]
      refine wpAnyH_take (i := 21) (v := ?_) rfl (by kernel_rfl) (by kernel_rfl) (by kernel_rfl) (fun _ _ _ h => h) (Or.inl ⟨by rfl, ?_⟩) hHeld ?_
      rotate_left
      · intro w' hS'
        (try dsimp only at hS')
        go_simp
        try with_reducible rfl
      try simp only [List.getElem_toArray, List.getElem_cons_succ, List.getElem_cons_zero, Act.put, List.setIfInBounds_toArray, List.set_cons_zero, List.set_cons_succ]
      refine wpAnyH_take (i := 22) (v := undef) rfl (by kernel_rfl) (by kernel_rfl) (by kernel_rfl) (fun _ _ _ h => h) (Or.inr ⟨by rfl, rfl⟩) hHeld ?_
      try simp only [List.getElem_toArray, List.getElem_cons_succ, List.getElem_cons_zero, Act.put, List.setIfInBounds_toArray, List.set_cons_zero, List.set_cons_succ]
      refine wpAnyH_take (i := 23) (v := undef) rfl (by kernel_rfl) (by kernel_rfl) (by kernel_rfl) (fun _ _ _ h => h) (Or.inr ⟨by rfl, rfl⟩) hHeld ?_
      try simp only [List.getElem_toArray, List.getElem_cons_succ, List.getElem_cons_zero, Act.put, List.setIfInBounds_toArray, List.set_cons_zero, List.set_cons_succ]
      refine wpAnyH_take (i := 24) (v := undef) rfl (by kernel_rfl) (by kernel_rfl) (by kernel_rfl) (fun _ _ _ h => h) (Or.inr ⟨by rfl, rfl⟩) hHeld ?_
      try simp only [List.getElem_toArray, List.getElem_cons_succ, List.getElem_cons_zero, Act.put, List.setIfInBounds_toArray, List.set_cons_zero, List.set_cons_succ]
      refine wpAnyH_take (i := 25) (v := undef) rfl (by kernel_rfl) (by kernel_rfl) (by kernel_rfl) (fun _ _ _ h => h) (Or.inr ⟨by rfl, rfl⟩) hHeld ?_
      try simp only [List.getElem_toArray, List.getElem_cons_succ, List.getElem_cons_zero, Act.put, List.setIfInBounds_toArray, List.set_cons_zero, List.set_cons_succ]
      refine wpAnyH_take (i := 26) (v := undef) rfl (by kernel_rfl) (by kernel_rfl) (by kernel_rfl) (fun _ _ _ h => h) (Or.inr ⟨by rfl, rfl⟩) hHeld ?_
      try simp only [List.getElem_toArray, List.getElem_cons_succ, List.getElem_cons_zero, Act.put, List.setIfInBounds_toArray, List.set_cons_zero, List.set_cons_succ]
      refine wpAnyH_take (i := 27) (v := undef) rfl (by kernel_rfl) (by kernel_rfl) (by kernel_rfl) (fun _ _ _ h => h) (Or.inr ⟨by rfl, rfl⟩) hHeld ?_
      try simp only [List.getElem_toArray, List.getElem_cons_succ, List.getElem_cons_zero, Act.put, List.setIfInBounds_toArray, List.set_cons_zero, List.set_cons_succ]
      refine wpAnyH_take (i := 28) (v := ?_) rfl (by kernel_rfl) (by kernel_rfl) (by kernel_rfl) (fun _ _ _ h => h) (Or.inl ⟨by rfl, ?_⟩) hHeld ?_
      rotate_left
      · intro w' hS'
        (try dsimp only at hS')
        go_simp
        try with_reducible rfl
      try simp only [List.getElem_toArray, List.getElem_cons_succ, List.getElem_cons_zero, Act.put, List.setIfInBounds_toArray, List.set_cons_zero, List.set_cons_succ]
      refine wpAnyH_take (i := 29) (v := ?_) rfl (by kernel_rfl) (by kernel_rfl) (by kernel_rfl) (fun _ _ _ h => h) (Or.inl ⟨by rfl, ?_⟩) hHeld ?_
      rotate_left
      · intro w' hS'
        (try dsimp only at hS')
        go_simp
        try with_reducible rfl
      try simp only [List.getElem_toArray, List.getElem_cons_succ, List.getElem_cons_zero, Act.put, List.setIfInBounds_toArray, List.set_cons_zero, List.set_cons_succ]
      refine wpAnyH_done (by kernel_rfl) ?_ _
      go_wp2
      go_ret3
      exact ⟨⟨_, cp - 12, rfl, (HRS.out.mono HB3.out).sub 12 488, by omega⟩, HB3.out⟩
    | true =>
      cases e3 with
      | false =>
        refine wp_region_held_drew (S := fun w' => w'.cell? ⟨lp, 0, none⟩ = some (.pointer (some ⟨lb, 0, none⟩)) ∧ w'.cell? ⟨lb, 3, none⟩ = some (.int .u64 (run : Int)) ∧ w'.cell? ⟨lb, 4, none⟩ = some (.int .u64 (base : Int))) (by kernel_rfl) hk1 (fun hHeld => ?_)
        refine wpAnyH_take (i := 0) (v := ?_) rfl (by kernel_rfl) (by kernel_rfl) (by kernel_rfl) (fun _ _ _ h => h) (Or.inl ⟨by rfl, ?_⟩) hHeld ?_
        rotate_left
        · intro w' hS'
          (try dsimp only at hS')
          go_simp
          try with_reducible rfl
        try simp only [List.getElem_toArray, List.getElem_cons_succ, List.getElem_cons_zero, Act.put, List.setIfInBounds_toArray, List.set_cons_zero, List.set_cons_succ]
        refine wpAnyH_take (i := 1) (v := ?_) rfl (by kernel_rfl) (by kernel_rfl) (by kernel_rfl) (fun _ _ _ h => h) (Or.inl ⟨by rfl, ?_⟩) hHeld ?_
        rotate_left
        · intro w' hS'
          (try dsimp only at hS')
          go_simp
          try with_reducible rfl
        try simp only [List.getElem_toArray, List.getElem_cons_succ, List.getElem_cons_zero, Act.put, List.setIfInBounds_toArray, List.set_cons_zero, List.set_cons_succ]
        refine wpAnyH_take (i := 2) (v := ?_) rfl (by kernel_rfl) (by kernel_rfl) (by kernel_rfl) (fun _ _ _ h => h) (Or.inl ⟨by rfl, ?_⟩) hHeld ?_
        rotate_left
        · intro w' hS'
          (try dsimp only at hS')
          go_simp
          try with_reducible rfl
        try simp only [List.getElem_toArray, List.getElem_cons_succ, List.getElem_cons_zero, Act.put, List.setIfInBounds_toArray, List.set_cons_zero, List.set_cons_succ]
        refine wpAnyH_take (i := 3) (v := ?_) rfl (by kernel_rfl) (by kernel_rfl) (by kernel_rfl) (fun _ _ _ h => h) (Or.inl ⟨by rfl, ?_⟩) hHeld ?_
        rotate_left
        · intro w' hS'
          (try dsimp only at hS')
          go_simp
          try with_reducible rfl
        try simp only [List.getElem_toArray, List.getElem_cons_succ, List.getElem_cons_zero, Act.put, List.setIfInBounds_toArray, List.set_cons_zero, List.set_cons_succ]
        refine wpAnyH_ready (rs := [4]) (by kernel_rfl) (by simp) (AllReadyH.cons rfl (fun K hK => ?_) AllReadyH.nil)
        go_simp
        go_wp2_with (go_at_call 74; refine (HEQ.out w1.drew HB1.out _ _).mono ?_; rintro e w2 ⟨rfl, rfl⟩)
        refine hK.out _ _ hk1 (fun hHeld => ?_)
        try simp only [List.getElem_toArray, List.getElem_cons_succ, List.getElem_cons_zero, Act.put, List.setIfInBounds_toArray, List.set_cons_zero, List.set_cons_succ]
        clear hK K
        refine wpAnyH_take (i := 5) (v := ?_) rfl (by kernel_rfl) (by kernel_rfl) (by kernel_rfl) (fun _ _ _ h => h) (Or.inl ⟨by rfl, ?_⟩) hHeld ?_
        rotate_left
        · intro w' hS'
          (try dsimp only at hS')
          go_simp
          try with_reducible rfl
        try simp only [List.getElem_toArray, List.getElem_cons_succ, List.getElem_cons_zero, Act.put, List.setIfInBounds_toArray, List.set_cons_zero, List.set_cons_succ]
        refine wpAnyH_take (i := 6) (v := ?_) rfl (by kernel_rfl) (by kernel_rfl) (by kernel_rfl) (fun _ _ _ h => h) (Or.inl ⟨by rfl, ?_⟩) hHeld ?_
        rotate_left
        · intro w' hS'
          (try dsimp only at hS')
          go_simp
          try with_reducible rfl
        try simp only [List.getElem_toArray, List.getElem_cons_succ, List.getElem_cons_zero, Act.put, List.setIfInBounds_toArray, List.set_cons_zero, List.set_cons_succ]
        refine wpAnyH_take (i := 7) (v := ?_) rfl (by kernel_rfl) (by kernel_rfl) (by kernel_rfl) (fun _ _ _ h => h) (Or.inl ⟨by rfl, ?_⟩) hHeld ?_
        rotate_left
        · intro w' hS'
          (try dsimp only at hS')
          go_simp
          try with_reducible rfl
        try simp only [List.getElem_toArray, List.getElem_cons_succ, List.getElem_cons_zero, Act.put, List.setIfInBounds_toArray, List.set_cons_zero, List.set_cons_succ]
        refine wpAnyH_take (i := 9) (v := ?_) rfl (by kernel_rfl) (by kernel_rfl) (by kernel_rfl) (fun _ _ _ h => h) (Or.inl ⟨by rfl, ?_⟩) hHeld ?_
        rotate_left
        · intro w' hS'
          (try dsimp only at hS')
          go_simp
          try with_reducible rfl
        try simp only [List.getElem_toArray, List.getElem_cons_succ, List.getElem_cons_zero, Act.put, List.setIfInBounds_toArray, List.set_cons_zero, List.set_cons_succ]
        refine wpAnyH_take (i := 10) (v := ?_) rfl (by kernel_rfl) (by kernel_rfl) (by kernel_rfl) (fun _ _ _ h => h) (Or.inl ⟨by rfl, ?_⟩) hHeld ?_
        rotate_left
        · intro w' hS'
          (try dsimp only at hS')
          go_simp
          try with_reducible rfl
        try simp only [List.getElem_toArray, List.getElem_cons_succ, List.getElem_cons_zero, Act.put, List.setIfInBounds_toArray, List.set_cons_zero, List.set_cons_succ]
        refine wpAnyH_ready (rs := [8]) (by kernel_rfl) (by simp) (AllReadyH.cons rfl (fun K hK => ?_) AllReadyH.nil)
        go_simp
        go_wp2_with (go_at_call 72; refine (HV2.out w1.drew HB1.out _).mono ?_; rintro e w3 ⟨rfl, hb3'⟩; have HB3 := Lib.hid (HB1.out.trans (hb3'.mono HB1.out.size)); have hk3 := HK.out _ HB3.out; clear hb3')
        refine hK.out _ _ hk3 (fun hHeld => ?_)
        try simp only [List.getElem_toArray, List.getElem_cons_succ, List.getElem_cons_zero, Act.put, List.setIfInBounds_toArray, List.set_cons_zero, List.set_cons_succ]
        clear hK K
        refine wpAnyH_take (i := 11) (v := ?_) rfl (by kernel_rfl) (by kernel_rfl) (by kernel_rfl) (fun _ _ _ h => h) (Or.inl ⟨by rfl, ?_⟩) hHeld ?_
        rotate_left
        · intro w' hS'
          (try dsimp only at hS')
          go_simp
          try with_reducible rfl
        try simp only [List.getElem_toArray, List.getElem_cons_succ, List.getElem_cons_zero, Act.put, List.setIfInBounds_toArray, List.set_cons_zero, List.set_cons_succ]
        refine wpAnyH_take (i := 12) (v := ?_) rfl (by kernel_rfl) (by kernel_rfl) (by kernel_rfl) (fun _ _ _ h => h) (Or.inl ⟨by rfl, ?_⟩) hHeld ?_
        rotate_left
        · intro w' hS'
          (try dsimp only at hS')
          go_simp
          try with_reducible rfl
        try simp only [List.getElem_toArray, List.getElem_cons_succ, List.getElem_cons_zero, Act.put, List.setIfInBounds_toArray, List.set_cons_zero, List.set_cons_succ]
        refine wpAnyH_take (i := 13) (v := ?_) rfl (by kernel_rfl) (by kernel_rfl) (by kernel_rfl) (fun _ _ _ h => h) (Or.inl ⟨by rfl, ?_⟩) hHeld ?_
        rotate_left
        · intro w' hS'
          (try dsimp only at hS')
          go_simp
          try with_reducible rfl
        try simp only [List.getElem_toArray, List.getElem_cons_succ, List.getElem_cons_zero, Act.put, List.setIfInBounds_toArray, List.set_cons_zero, List.set_cons_succ]
        refine wpAnyH_take (i := 14) (v := ?_) rfl (by kernel_rfl) (by kernel_rfl) (by kernel_rfl) (fun _ _ _ h => h) (Or.inl ⟨by rfl, ?_⟩) hHeld ?_
        rotate_left
        · intro w' hS'
          (try dsimp only at hS')
          go_simp
          try with_reducible rfl
        try simp only [List.getElem_toArray, List.getElem_cons_succ, List.getElem_cons_zero, Act.put, List.setIfInBounds_toArray, List.set_cons_zero, List.set_cons_succ]
        refine wpAnyH_take (i := 15) (v := ?_) rfl (by kernel_rfl) (by kernel_rfl) (by kernel_rfl) (fun _ _ _ h => h) (Or.inl ⟨by rfl, ?_⟩) hHeld ?_
        rotate_left
        · intro w' hS'
          (try dsimp only at hS')
          go_simp
          try with_reducible rfl
        try simp only [List.getElem_toArray, List.getElem_cons_succ, List.getElem_cons_zero, Act.put, List.setIfInBounds_toArray, List.set_cons_zero, List.set_cons_succ]
        refine wpAnyH_take (i := 16) (v := ?_) rfl (by kernel_rfl) (by kernel_rfl) (by kernel_rfl) (fun _ _ _ h => h) (Or.inl ⟨by rfl, ?_⟩) hHeld ?_
        rotate_left
        · intro w' hS'
          (try dsimp only at hS')
          go_simp
          try with_reducible rfl
        try simp only [List.getElem_toArray, List.getElem_cons_succ, List.getElem_cons_zero, Act.put, List.setIfInBounds_toArray, List.set_cons_zero, List.set_cons_succ]
        refine wpAnyH_take (i := 17) (v := ?_) rfl (by kernel_rfl) (by kernel_rfl) (by kernel_rfl) (fun _ _ _ h => h) (Or.inl ⟨by rfl, ?_⟩) hHeld ?_
        rotate_left
        · intro w' hS'
          (try dsimp only at hS')
          go_simp
          try with_reducible rfl
        try simp only [List.getElem_toArray, List.getElem_cons_succ, List.getElem_cons_zero, Act.put, List.setIfInBounds_toArray, List.set_cons_zero, List.set_cons_succ]
        refine wpAnyH_take (i := 18) (v := ?_) rfl (by kernel_rfl) (by kernel_rfl) (by kernel_rfl) (fun _ _ _ h => h) (Or.inl ⟨by rfl, ?_⟩) hHeld ?_
        rotate_left
        · intro w' hS'
          (try dsimp only at hS')
          go_simp
          try with_reducible rfl
        try simp only [List.getElem_toArray, List.getElem_cons_succ, List.getElem_cons_zero, Act.put, List.setIfInBounds_toArray, List.set_cons_zero, List.set_cons_succ]
        refine wpAnyH_take (i := 19) (v := ?_) rfl (by kernel_rfl) (by kernel_rfl) (by kernel_rfl) (fun _ _ _ h => h) (Or.inl ⟨by rfl, ?_⟩) hHeld ?_
        rotate_left
        · intro w' hS'
          (try dsimp only at hS')
          go_simp
          try with_reducible rfl
        try simp only [List.getElem_toArray, List.getElem_cons_succ, List.getElem_cons_zero, Act.put, List.setIfInBounds_toArray, List.set_cons_zero, List.set_cons_succ]
        refine wpAnyH_take (i := 20) (v := ?_) rfl (by kernel_rfl) (by kernel_rfl) (by kernel_rfl) (fun _ _ _ h => h) (Or.inl ⟨by rfl, ?_⟩) hHeld ?_
        rotate_left
        · intro w' hS'
          (try dsimp only at hS')
          go_simp
          try with_reducible rfl
        try simp only [List.getElem_toArray, List.getElem_cons_succ, List.getElem_cons_zero, Act.put, List.setIfInBounds_toArray, List.set_cons_zero, List.set_cons_succ]
        refine wpAnyH_take (i := 21) (v := ?_) rfl (by kernel_rfl) (by kernel_rfl) (by kernel_rfl) (fun _ _ _ h => h) (Or.inl ⟨by rfl, ?_⟩) hHeld ?_
        rotate_left
        · intro w' hS'
          (try dsimp only at hS')
          go_simp
          try with_reducible rfl
        try simp only [List.getElem_toArray, List.getElem_cons_succ, List.getElem_cons_zero, Act.put, List.setIfInBounds_toArray, List.set_cons_zero, List.set_cons_succ]
        refine wpAnyH_take (i := 22) (v := undef) rfl (by kernel_rfl) (by kernel_rfl) (by kernel_rfl) (fun _ _ _ h => h) (Or.inr ⟨by rfl, rfl⟩) hHeld ?_
        try simp only [List.getElem_toArray, List.getElem_cons_succ, List.getElem_cons_zero, Act.put, List.setIfInBounds_toArray, List.set_cons_zero, List.set_cons_succ]
        refine wpAnyH_take (i := 23) (v := undef) rfl (by kernel_rfl) (by kernel_rfl) (by kernel_rfl) (fun _ _ _ h => h) (Or.inr ⟨by rfl, rfl⟩) hHeld ?_
        try simp only [List.getElem_toArray, List.getElem_cons_succ, List.getElem_cons_zero, Act.put, List.setIfInBounds_toArray, List.set_cons_zero, List.set_cons_succ]
        refine wpAnyH_take (i := 24) (v := undef) rfl (by kernel_rfl) (by kernel_rfl) (by kernel_rfl) (fun _ _ _ h => h) (Or.inr ⟨by rfl, rfl⟩) hHeld ?_
        try simp only [List.getElem_toArray, List.getElem_cons_succ, List.getElem_cons_zero, Act.put, List.setIfInBounds_toArray, List.set_cons_zero, List.set_cons_succ]
        refine wpAnyH_take (i := 25) (v := undef) rfl (by kernel_rfl) (by kernel_rfl) (by kernel_rfl) (fun _ _ _ h => h) (Or.inr ⟨by rfl, rfl⟩) hHeld ?_
        try simp only [List.getElem_toArray, List.getElem_cons_succ, List.getElem_cons_zero, Act.put, List.setIfInBounds_toArray, List.set_cons_zero, List.set_cons_succ]
        refine wpAnyH_take (i := 26) (v := undef) rfl (by kernel_rfl) (by kernel_rfl) (by kernel_rfl) (fun _ _ _ h => h) (Or.inr ⟨by rfl, rfl⟩) hHeld ?_
        try simp only [List.getElem_toArray, List.getElem_cons_succ, List.getElem_cons_zero, Act.put, List.setIfInBounds_toArray, List.set_cons_zero, List.set_cons_succ]
        refine wpAnyH_take (i := 27) (v := undef) rfl (by kernel_rfl) (by kernel_rfl) (by kernel_rfl) (fun _ _ _ h => h) (Or.inr ⟨by rfl, rfl⟩) hHeld ?_
        try simp only [List.getElem_toArray, List.getElem_cons_succ, List.getElem_cons_zero, Act.put, List.setIfInBounds_toArray, List.set_cons_zero, List.set_cons_succ]
        refine wpAnyH_take (i := 28) (v := ?_) rfl (by kernel_rfl) (by kernel_rfl) (by kernel_rfl) (fun _ _ _ h => h) (Or.inl ⟨by rfl, ?_⟩) hHeld ?_
        rotate_left
        · intro w' hS'
          (try dsimp only at hS')
          go_simp
          try with_reducible rfl
        try simp only [List.getElem_toArray, List.getElem_cons_succ, List.getElem_cons_zero, Act.put, List.setIfInBounds_toArray, List.set_cons_zero, List.set_cons_succ]
        refine wpAnyH_take (i := 29) (v := ?_) rfl (by kernel_rfl) (by kernel_rfl) (by kernel_rfl) (fun _ _ _ h => h) (Or.inl ⟨by rfl, ?_⟩) hHeld ?_
        rotate_left
        · intro w' hS'
          (try dsimp only at hS')
          go_simp
          try with_reducible rfl
        try simp only [List.getElem_toArray, List.getElem_cons_succ, List.getElem_cons_zero, Act.put, List.setIfInBounds_toArray, List.set_cons_zero, List.set_cons_succ]
        refine wpAnyH_done (by kernel_rfl) ?_ _
        go_wp2
        go_ret3
        exact ⟨⟨_, cp - 12, rfl, (HRS.out.mono HB3.out).sub 12 488, by omega⟩, HB3.out⟩
      | true =>
        refine wp_region_held_drew (S := fun w' => w'.cell? ⟨lp, 0, none⟩ = some (.pointer (some ⟨lb, 0, none⟩)) ∧ w'.cell? ⟨lb, 3, none⟩ = some (.int .u64 (run : Int)) ∧ w'.cell? ⟨lb, 4, none⟩ = some (.int .u64 (base : Int))) (by kernel_rfl) hk1 (fun hHeld => ?_)
        refine wpAnyH_take (i := 0) (v := ?_) rfl (by kernel_rfl) (by kernel_rfl) (by kernel_rfl) (fun _ _ _ h => h) (Or.inl ⟨by rfl, ?_⟩) hHeld ?_
        rotate_left
        · intro w' hS'
          (try dsimp only at hS')
          go_simp
          try with_reducible rfl
        try simp only [List.getElem_toArray, List.getElem_cons_succ, List.getElem_cons_zero, Act.put, List.setIfInBounds_toArray, List.set_cons_zero, List.set_cons_succ]
        refine wpAnyH_take (i := 1) (v := ?_) rfl (by kernel_rfl) (by kernel_rfl) (by kernel_rfl) (fun _ _ _ h => h) (Or.inl ⟨by rfl, ?_⟩) hHeld ?_
        rotate_left
        · intro w' hS'
          (try dsimp only at hS')
          go_simp
          try with_reducible rfl
        try simp only [List.getElem_toArray, List.getElem_cons_succ, List.getElem_cons_zero, Act.put, List.setIfInBounds_toArray, List.set_cons_zero, List.set_cons_succ]
        refine wpAnyH_take (i := 2) (v := ?_) rfl (by kernel_rfl) (by kernel_rfl) (by kernel_rfl) (fun _ _ _ h => h) (Or.inl ⟨by rfl, ?_⟩) hHeld ?_
        rotate_left
        · intro w' hS'
          (try dsimp only at hS')
          go_simp
          try with_reducible rfl
        try simp only [List.getElem_toArray, List.getElem_cons_succ, List.getElem_cons_zero, Act.put, List.setIfInBounds_toArray, List.set_cons_zero, List.set_cons_succ]
        refine wpAnyH_take (i := 3) (v := ?_) rfl (by kernel_rfl) (by kernel_rfl) (by kernel_rfl) (fun _ _ _ h => h) (Or.inl ⟨by rfl, ?_⟩) hHeld ?_
        rotate_left
        · intro w' hS'
          (try dsimp only at hS')
          go_simp
          try with_reducible rfl
        try simp only [List.getElem_toArray, List.getElem_cons_succ, List.getElem_cons_zero, Act.put, List.setIfInBounds_toArray, List.set_cons_zero, List.set_cons_succ]
        refine wpAnyH_ready (rs := [4]) (by kernel_rfl) (by simp) (AllReadyH.cons rfl (fun K hK => ?_) AllReadyH.nil)
        go_simp
        go_wp2_with (go_at_call 74; refine (HEQ.out w1.drew HB1.out _ _).mono ?_; rintro e w2 ⟨rfl, rfl⟩)
        refine hK.out _ _ hk1 (fun hHeld => ?_)
        try simp only [List.getElem_toArray, List.getElem_cons_succ, List.getElem_cons_zero, Act.put, List.setIfInBounds_toArray, List.set_cons_zero, List.set_cons_succ]
        clear hK K
        refine wpAnyH_take (i := 5) (v := ?_) rfl (by kernel_rfl) (by kernel_rfl) (by kernel_rfl) (fun _ _ _ h => h) (Or.inl ⟨by rfl, ?_⟩) hHeld ?_
        rotate_left
        · intro w' hS'
          (try dsimp only at hS')
          go_simp
          try with_reducible rfl
        try simp only [List.getElem_toArray, List.getElem_cons_succ, List.getElem_cons_zero, Act.put, List.setIfInBounds_toArray, List.set_cons_zero, List.set_cons_succ]
        refine wpAnyH_take (i := 6) (v := ?_) rfl (by kernel_rfl) (by kernel_rfl) (by kernel_rfl) (fun _ _ _ h => h) (Or.inl ⟨by rfl, ?_⟩) hHeld ?_
        rotate_left
        · intro w' hS'
          (try dsimp only at hS')
          go_simp
          try with_reducible rfl
        try simp only [List.getElem_toArray, List.getElem_cons_succ, List.getElem_cons_zero, Act.put, List.setIfInBounds_toArray, List.set_cons_zero, List.set_cons_succ]
        refine wpAnyH_take (i := 7) (v := ?_) rfl (by kernel_rfl) (by kernel_rfl) (by kernel_rfl) (fun _ _ _ h => h) (Or.inl ⟨by rfl, ?_⟩) hHeld ?_
        rotate_left
        · intro w' hS'
          (try dsimp only at hS')
          go_simp
          try with_reducible rfl
        try simp only [List.getElem_toArray, List.getElem_cons_succ, List.getElem_cons_zero, Act.put, List.setIfInBounds_toArray, List.set_cons_zero, List.set_cons_succ]
        refine wpAnyH_take (i := 9) (v := ?_) rfl (by kernel_rfl) (by kernel_rfl) (by kernel_rfl) (fun _ _ _ h => h) (Or.inl ⟨by rfl, ?_⟩) hHeld ?_
        rotate_left
        · intro w' hS'
          (try dsimp only at hS')
          go_simp
          try with_reducible rfl
        try simp only [List.getElem_toArray, List.getElem_cons_succ, List.getElem_cons_zero, Act.put, List.setIfInBounds_toArray, List.set_cons_zero, List.set_cons_succ]
        refine wpAnyH_take (i := 10) (v := ?_) rfl (by kernel_rfl) (by kernel_rfl) (by kernel_rfl) (fun _ _ _ h => h) (Or.inl ⟨by rfl, ?_⟩) hHeld ?_
        rotate_left
        · intro w' hS'
          (try dsimp only at hS')
          go_simp
          try with_reducible rfl
        try simp only [List.getElem_toArray, List.getElem_cons_succ, List.getElem_cons_zero, Act.put, List.setIfInBounds_toArray, List.set_cons_zero, List.set_cons_succ]
        refine wpAnyH_ready (rs := [8]) (by kernel_rfl) (by simp) (AllReadyH.cons rfl (fun K hK => ?_) AllReadyH.nil)
        go_simp
        go_wp2_with (go_at_call 72; refine (HV2.out w1.drew HB1.out _).mono ?_; rintro e w3 ⟨rfl, hb3'⟩; have HB3 := Lib.hid (HB1.out.trans (hb3'.mono HB1.out.size)); have hk3 := HK.out _ HB3.out; clear hb3')
        refine hK.out _ _ hk3 (fun hHeld => ?_)
        try simp only [List.getElem_toArray, List.getElem_cons_succ, List.getElem_cons_zero, Act.put, List.setIfInBounds_toArray, List.set_cons_zero, List.set_cons_succ]
        clear hK K
        refine wpAnyH_take (i := 11) (v := ?_) rfl (by kernel_rfl) (by kernel_rfl) (by kernel_rfl) (fun _ _ _ h => h) (Or.inl ⟨by rfl, ?_⟩) hHeld ?_
        rotate_left
        · intro w' hS'
          (try dsimp only at hS')
          go_simp
          try with_reducible rfl
        try simp only [List.getElem_toArray, List.getElem_cons_succ, List.getElem_cons_zero, Act.put, List.setIfInBounds_toArray, List.set_cons_zero, List.set_cons_succ]
        refine wpAnyH_take (i := 12) (v := ?_) rfl (by kernel_rfl) (by kernel_rfl) (by kernel_rfl) (fun _ _ _ h => h) (Or.inl ⟨by rfl, ?_⟩) hHeld ?_
        rotate_left
        · intro w' hS'
          (try dsimp only at hS')
          go_simp
          try with_reducible rfl
        try simp only [List.getElem_toArray, List.getElem_cons_succ, List.getElem_cons_zero, Act.put, List.setIfInBounds_toArray, List.set_cons_zero, List.set_cons_succ]
        refine wpAnyH_take (i := 13) (v := ?_) rfl (by kernel_rfl) (by kernel_rfl) (by kernel_rfl) (fun _ _ _ h => h) (Or.inl ⟨by rfl, ?_⟩) hHeld ?_
        rotate_left
        · intro w' hS'
          (try dsimp only at hS')
          go_simp
          try with_reducible rfl
        try simp only [List.getElem_toArray, List.getElem_cons_succ, List.getElem_cons_zero, Act.put, List.setIfInBounds_toArray, List.set_cons_zero, List.set_cons_succ]
        refine wpAnyH_take (i := 14) (v := ?_) rfl (by kernel_rfl) (by kernel_rfl) (by kernel_rfl) (fun _ _ _ h => h) (Or.inl ⟨by rfl, ?_⟩) hHeld ?_
        rotate_left
        · intro w' hS'
          (try dsimp only at hS')
          go_simp
          try with_reducible rfl
        try simp only [List.getElem_toArray, List.getElem_cons_succ, List.getElem_cons_zero, Act.put, List.setIfInBounds_toArray, List.set_cons_zero, List.set_cons_succ]
        refine wpAnyH_take (i := 15) (v := ?_) rfl (by kernel_rfl) (by kernel_rfl) (by kernel_rfl) (fun _ _ _ h => h) (Or.inl ⟨by rfl, ?_⟩) hHeld ?_
        rotate_left
        · intro w' hS'
          (try dsimp only at hS')
          go_simp
          try with_reducible rfl
        try simp only [List.getElem_toArray, List.getElem_cons_succ, List.getElem_cons_zero, Act.put, List.setIfInBounds_toArray, List.set_cons_zero, List.set_cons_succ]
        refine wpAnyH_take (i := 16) (v := ?_) rfl (by kernel_rfl) (by kernel_rfl) (by kernel_rfl) (fun _ _ _ h => h) (Or.inl ⟨by rfl, ?_⟩) hHeld ?_
        rotate_left
        · intro w' hS'
          (try dsimp only at hS')
          go_simp
          try with_reducible rfl
        try simp only [List.getElem_toArray, List.getElem_cons_succ, List.getElem_cons_zero, Act.put, List.setIfInBounds_toArray, List.set_cons_zero, List.set_cons_succ]
        refine wpAnyH_take (i := 17) (v := ?_) rfl (by kernel_rfl) (by kernel_rfl) (by kernel_rfl) (fun _ _ _ h => h) (Or.inl ⟨by rfl, ?_⟩) hHeld ?_
        rotate_left
        · intro w' hS'
          (try dsimp only at hS')
          go_simp
          try with_reducible rfl
        try simp only [List.getElem_toArray, List.getElem_cons_succ, List.getElem_cons_zero, Act.put, List.setIfInBounds_toArray, List.set_cons_zero, List.set_cons_succ]
        refine wpAnyH_take (i := 18) (v := ?_) rfl (by kernel_rfl) (by kernel_rfl) (by kernel_rfl) (fun _ _ _ h => h) (Or.inl ⟨by rfl, ?_⟩) hHeld ?_
        rotate_left
        · intro w' hS'
          (try dsimp only at hS')
          go_simp
          try with_reducible rfl
        try simp only [List.getElem_toArray, List.getElem_cons_succ, List.getElem_cons_zero, Act.put, List.setIfInBounds_toArray, List.set_cons_zero, List.set_cons_succ]
        refine wpAnyH_take (i := 19) (v := ?_) rfl (by kernel_rfl) (by kernel_rfl) (by kernel_rfl) (fun _ _ _ h => h) (Or.inl ⟨by rfl, ?_⟩) hHeld ?_
        rotate_left
        · intro w' hS'
          (try dsimp only at hS')
          go_simp
          try with_reducible rfl
        try simp only [List.getElem_toArray, List.getElem_cons_succ, List.getElem_cons_zero, Act.put, List.setIfInBounds_toArray, List.set_cons_zero, List.set_cons_succ]
        refine wpAnyH_take (i := 20) (v := ?_) rfl (by kernel_rfl) (by kernel_rfl) (by kernel_rfl) (fun _ _ _ h => h) (Or.inl ⟨by rfl, ?_⟩) hHeld ?_
        rotate_left
        · intro w' hS'
          (try dsimp only at hS')
          go_simp
          try with_reducible rfl
        try simp only [List.getElem_toArray, List.getElem_cons_succ, List.getElem_cons_zero, Act.put, List.setIfInBounds_toArray, List.set_cons_zero, List.set_cons_succ]
        refine wpAnyH_take (i := 21) (v := ?_) rfl (by kernel_rfl) (by kernel_rfl) (by kernel_rfl) (fun _ _ _ h => h) (Or.inl ⟨by rfl, ?_⟩) hHeld ?_
        rotate_left
        · intro w' hS'
          (try dsimp only at hS')
          go_simp
          try with_reducible rfl
        try simp only [List.getElem_toArray, List.getElem_cons_succ, List.getElem_cons_zero, Act.put, List.setIfInBounds_toArray, List.set_cons_zero, List.set_cons_succ]
        refine wpAnyH_take (i := 22) (v := ?_) rfl (by kernel_rfl) (by kernel_rfl) (by kernel_rfl) (fun _ _ _ h => h) (Or.inl ⟨by rfl, ?_⟩) hHeld ?_
        rotate_left
        · intro w' hS'
          (try dsimp only at hS')
          go_simp
          try with_reducible rfl
        try simp only [List.getElem_toArray, List.getElem_cons_succ, List.getElem_cons_zero, Act.put, List.setIfInBounds_toArray, List.set_cons_zero, List.set_cons_succ]
        refine wpAnyH_take (i := 23) (v := ?_) rfl (by kernel_rfl) (by kernel_rfl) (by kernel_rfl) (fun _ _ _ h => h) (Or.inl ⟨by rfl, ?_⟩) hHeld ?_
        rotate_left
        · intro w' hS'
          (try dsimp only at hS')
          go_simp
          try with_reducible rfl
        try simp only [List.getElem_toArray, List.getElem_cons_succ, List.getElem_cons_zero, Act.put, List.setIfInBounds_toArray, List.set_cons_zero, List.set_cons_succ]
        refine wpAnyH_take (i := 24) (v := ?_) rfl (by kernel_rfl) (by kernel_rfl) (by kernel_rfl) (fun _ _ _ h => h) (Or.inl ⟨by rfl, ?_⟩) hHeld ?_
        rotate_left
        · intro w' hS'
          (try dsimp only at hS')
          go_simp
          try with_reducible rfl
        try simp only [List.getElem_toArray, List.getElem_cons_succ, List.getElem_cons_zero, Act.put, List.setIfInBounds_toArray, List.set_cons_zero, List.set_cons_succ]
        refine wpAnyH_take (i := 25) (v := ?_) rfl (by kernel_rfl) (by kernel_rfl) (by kernel_rfl) (fun _ _ _ h => h) (Or.inl ⟨by rfl, ?_⟩) hHeld ?_
        rotate_left
        · intro w' hS'
          (try dsimp only at hS')
          go_simp
          try with_reducible rfl
        try simp only [List.getElem_toArray, List.getElem_cons_succ, List.getElem_cons_zero, Act.put, List.setIfInBounds_toArray, List.set_cons_zero, List.set_cons_succ]
        refine wpAnyH_take (i := 26) (v := ?_) rfl (by kernel_rfl) (by kernel_rfl) (by kernel_rfl) (fun _ _ _ h => h) (Or.inl ⟨by rfl, ?_⟩) hHeld ?_
        rotate_left
        · intro w' hS'
          (try dsimp only at hS')
          go_simp
          try with_reducible rfl
        try simp only [List.getElem_toArray, List.getElem_cons_succ, List.getElem_cons_zero, Act.put, List.setIfInBounds_toArray, List.set_cons_zero, List.set_cons_succ]
        refine wpAnyH_take (i := 27) (v := ?_) rfl (by kernel_rfl) (by kernel_rfl) (by kernel_rfl) (fun _ _ _ h => h) (Or.inl ⟨by rfl, ?_⟩) hHeld ?_
        rotate_left
        · intro w' hS'
          (try dsimp only at hS')
          go_simp
          try with_reducible rfl
        try simp only [List.getElem_toArray, List.getElem_cons_succ, List.getElem_cons_zero, Act.put, List.setIfInBounds_toArray, List.set_cons_zero, List.set_cons_succ]
        refine wpAnyH_take (i := 28) (v := ?_) rfl (by kernel_rfl) (by kernel_rfl) (by kernel_rfl) (fun _ _ _ h => h) (Or.inl ⟨by rfl, ?_⟩) hHeld ?_
        rotate_left
        · intro w' hS'
          (try dsimp only at hS')
          go_simp
          try with_reducible rfl
        try simp only [List.getElem_toArray, List.getElem_cons_succ, List.getElem_cons_zero, Act.put, List.setIfInBounds_toArray, List.set_cons_zero, List.set_cons_succ]
        refine wpAnyH_take (i := 29) (v := ?_) rfl (by kernel_rfl) (by kernel_rfl) (by kernel_rfl) (fun _ _ _ h => h) (Or.inl ⟨by rfl, ?_⟩) hHeld ?_
        rotate_left
        · intro w' hS'
          (try dsimp only at hS')
          go_simp
          try with_reducible rfl
        try simp only [List.getElem_toArray, List.getElem_cons_succ, List.getElem_cons_zero, Act.put, List.setIfInBounds_toArray, List.set_cons_zero, List.set_cons_succ]
        refine wpAnyH_done (by kernel_rfl) ?_ _
        go_wp2
        go_ret3
        exact ⟨⟨_, cp - 12, rfl, (HRS.out.mono HB3.out).sub 12 488, by omega⟩, HB3.out⟩
end Go.Proofs.Ytagipfkgnobjlaa
namespace Go.Proofs.Ytagipfkgnobjlaa
open Go.RowKit

/-- A head that is read. -/
def hdOk (s : List UInt8) (i cur : Nat) : Bool := decide (cur < leB (s.take 8)) && (decide (leB (s.take 8) < 4611686018427387904) && ((leB (s.take 8) % 2 == i) && ((leB (s.take 8) == leB (s.drop 504)) && decide (leB ((s.drop 8).take 8) ≤ leB (s.take 8)))))
def hdStep (s : List UInt8) (i : Nat) (c : Nat × Nat) : Nat × Nat := if hdOk s i c.1 then (leB (s.take 8), leB ((s.drop 8).take 8)) else c
def headsP (L : Int → List UInt8) (from_ : Int) : Nat → Nat × Nat
  | 0 => (0, 0)
  | k + 1 => hdStep (L (from_ + (k : Int))) k (headsP L from_ k)
/-- A log's row. -/
def LgRow (w : World) (lb d : Nat) (from_ : Int) (n run base : Nat) (allv : Value) (used : Nat) (dead : Bool) : Prop :=
  RowAt w lb 96 #[.pointer (some ⟨d, 0, none⟩), .int .i64 from_, .int .i64 (n : Int), .int .u64 (run : Int), .int .u64 (base : Int), allv, .int .i64 (used : Int), .bool dead]
theorem leB8_lt {l : List UInt8} (h : l.length ≤ 8) : leB l < 18446744073709551616 := Nat.lt_of_lt_of_le (leB_lt l) (Nat.le_trans (Nat.pow_le_pow_right (by omega) h) (by decide))
theorem headsP_lt {L : Int → List UInt8} (hL : ∀ k, (L k).length = 512) (from_ : Int) : ∀ k, (headsP L from_ k).1 < 18446744073709551616 ∧ (headsP L from_ k).2 < 18446744073709551616
  | 0 => by unfold headsP; exact ⟨by decide, by decide⟩
  | k + 1 => by
    unfold headsP hdStep
    split
    · exact ⟨leB8_lt (by rw [List.length_take]; omega), leB8_lt (by rw [List.length_take]; omega)⟩
    · exact headsP_lt hL from_ k
/-- The heads are read: what stands. -/
structure HInv (w wr : World) (g d : Nat) (from_ : Int) (n run base : Nat) (allv : Value) (used : Nat) : Prop where
  bel : Below g w wr
  box : RowAt wr g 3 #[.int .i64 (n : Int)]
  ptr : RowAt wr (g + 2) 60 #[.pointer (some ⟨g + 1, 0, none⟩)]
  row : LgRow wr (g + 1) d from_ n run base allv used false
theorem HInv.later {w wr w' : World} {g d : Nat} {from_ : Int} {n run base : Nat} {allv : Value} {used : Nat} (h : HInv w wr g d from_ n run base allv used) (hb : Below wr.heap.size wr w') : HInv w w' g d from_ n run base allv used :=
  ⟨h.bel.trans (hb.mono (Nat.le_of_lt h.box.lt)), RowAt.below h.box hb, RowAt.below h.ptr hb, RowAt.below h.row hb⟩
theorem HInv.put {w wr : World} {g d : Nat} {from_ : Int} {n run base : Nat} {allv : Value} {used : Nat} (h : HInv w wr g d from_ n run base allv used) (r bs : Nat) :
    HInv w ((wr.setCell ⟨g + 1, 3, none⟩ (.int .u64 (r : Int))).setCell ⟨g + 1, 4, none⟩ (.int .u64 (bs : Int))) g d from_ n r bs allv used := by
  have hs : g ≤ wr.heap.size := Nat.le_of_lt h.box.lt
  refine ⟨?_, (h.box.other _ (by simp)).other _ (by simp), (h.ptr.other _ (by simp)).other _ (by simp), ?_⟩
  · refine (h.bel.trans (below_of_grown (grown_setCell wr ⟨g + 1, 3, none⟩ _) hs (by intro x hx; cases hx; exact Nat.le_succ g))).trans (below_of_grown (grown_setCell _ ⟨g + 1, 4, none⟩ _) (by simpa using hs) (by intro x hx; cases hx; exact Nat.le_succ g))
  · have h1 := (RowAt.set h.row 3 (.int .u64 (r : Int))).set 4 (.int .u64 (bs : Int))
    exact h1
theorem flatS_one (L : Int → List UInt8) (at_ : Int) : flatS L at_ 1 = L at_ := by
  rw [show (1 : Nat) = 0 + 1 from rfl, flatS_succ]
  simp [flatS]
/-- A body that no log wrote: a run ahead of the head's. -/
def stale (BY : List UInt8) (run : Nat) : Nat → Bool
  | 0 => false
  | m + 1 => stale BY run m || decide (run < leB ((sec BY m).take 8))
theorem stale_mono {BY : List UInt8} {run m n : Nat} (h : stale BY run m = true) (hmn : m ≤ n) : stale BY run n = true := by
  obtain ⟨d, rfl⟩ := Nat.exists_eq_add_of_le hmn
  clear hmn
  induction d with
  | zero => exact h
  | succ d ih => rw [← Nat.add_assoc]; unfold stale; rw [ih]; rfl
/-- Does sector i count, of run r? -/
def secGood (BY : List UInt8) (n base run r i : Nat) : Bool := decide (i < n - 2) && (secOk (sec BY i) i base run && (leB ((sec BY i).take 8) == r))
def dataOf (BY : List UInt8) (i : Nat) : List UInt8 := ((sec BY i).drop 12).take 488
/-- The bytes of a batch, out of sectors of one run. -/
def coll (BY : List UInt8) (n base run r long : Nat) : Nat → Nat → List UInt8 → Option (List UInt8 × Nat)
  | 0, i, acc => if long ≤ acc.length then some (acc, i) else none
  | f + 1, i, acc => if long ≤ acc.length then some (acc, i) else if secGood BY n base run r i then coll BY n base run r long f (i + 1) (acc ++ dataOf BY i) else none
def longOf (BY : List UInt8) (i : Nat) : Nat := leB ((dataOf BY i).take 4) + 4
/-- A log's batches. -/
def parse (BY : List UInt8) (n base run : Nat) : Nat → Nat → Nat → List (List UInt8) → Nat × List (List UInt8)
  | 0, used, _, bs => (used, bs)
  | f + 1, used, least, bs =>
    if decide (used < n - 2) && (secOk (sec BY used) used base run && decide (least ≤ leB ((sec BY used).take 8))) then
      match coll BY n base run (leB ((sec BY used).take 8)) (longOf BY used) (n - used) used [] with
      | none => (used, bs)
      | some (acc, i) => parse BY n base run f i (leB ((sec BY used).take 8)) (bs ++ [(acc.take (longOf BY used)).drop 4])
    else (used, bs)
/-- What lies in the body. -/
def bodyP (L : Int → List UInt8) (from_ : Int) (n : Nat) : List UInt8 := flatS L (from_ + 2) (n - 2)
/-- What look answers. -/
def lookP (L : Int → List UInt8) (from_ : Int) (n : Nat) : Option (Nat × Nat × Nat × List (List UInt8)) :=
  if (headsP L from_ 2).1 = 0 then none
  else if stale (bodyP L from_ n) (headsP L from_ 2).1 (n - 2) then none
  else some ((headsP L from_ 2).1, (headsP L from_ 2).2, parse (bodyP L from_ n) n (headsP L from_ 2).2 (headsP L from_ 2).1 (n + 1) 0 (headsP L from_ 2).2 [])
/-- Batches in the heap. -/
def Bats (w : World) (base : Nat) (v : Value) (bs : List (List UInt8)) : Prop :=
  ∃ xs : List (Option Addr × Nat × List UInt8), xs.map (fun x => x.2.2) = bs ∧ w.ownsRow base 22 1 v xs.length (xs.map fun x => .slice x.1 x.2.2.length x.2.1) ∧
    ∀ x ∈ xs, RdB w x.1 x.2.2 ∧ ∀ ad, x.1 = some ad → base ≤ ad.block ∧ ad.block < w.heap.size ∧ v.ownBlock ≠ some ad.block
def LookPost (w : World) (b : Nat) (from_ : Int) (n : Nat) (o : Option (Nat × Nat × Nat × List (List UInt8))) (e : Ending) (w' : World) : Prop :=
  Below w.heap.size w w' ∧ match o with
  | none => e = .returned (.tuple #[.pointer none, .int .i64 9])
  | some (run, base, used, bs) => ∃ lb allv, e = .returned (.tuple #[.pointer (some ⟨lb, 0, none⟩), .int .i64 0]) ∧ w.heap.size ≤ lb ∧ LgRow w' lb b from_ n run base allv used false ∧ Bats w' (lb + 1) allv bs
theorem bodyP_len {L : Int → List UInt8} (hL : ∀ k, (L k).length = 512) (from_ : Int) (n : Nat) : (bodyP L from_ n).length = (n - 2) * 512 := flatS_len hL _ _
theorem lookP_zero {L : Int → List UInt8} {from_ : Int} {n run base : Nat} (h : headsP L from_ 2 = (run, base)) (h0 : run = 0) : lookP L from_ n = none := by unfold lookP; rw [h, if_pos h0]
theorem lookP_stale {L : Int → List UInt8} {from_ : Int} {n run base : Nat} {BY : List UInt8} (h : headsP L from_ 2 = (run, base)) (hB : bodyP L from_ n = BY) (hs : stale BY run (n - 2) = true) : lookP L from_ n = none := by
  unfold lookP
  rw [h, hB]
  split
  · rfl
  · rfl
theorem lookP_good {L : Int → List UInt8} {from_ : Int} {n run base : Nat} {BY : List UInt8} (h : headsP L from_ 2 = (run, base)) (hB : bodyP L from_ n = BY) (h0 : run ≠ 0) (hs : stale BY run (n - 2) = false) : lookP L from_ n = some (run, base, parse BY n base run (n + 1) 0 base []) := by
  unfold lookP
  rw [h, hB, if_neg h0, if_neg (by simp [hs])]
theorem Bats.nil (w : World) (base : Nat) : Bats w base (.slice none 0 0) [] := ⟨[], rfl, World.ownsRow_nil w base _ 1, fun x hx => by cases hx⟩
theorem Bats.lt {w : World} {base : Nat} {v : Value} {bs : List (List UInt8)} (h : Bats w base v bs) : ∀ g, v.ownBlock = some g → base ≤ g ∧ g < w.heap.size := by
  obtain ⟨xs, -, ho, -⟩ := h
  exact World.ownsRow.lt ho
theorem Bats.keep {w w' : World} {X : Nat → Prop} (hk : KeepA X w w') {base : Nat} {v : Value} {bs : List (List UInt8)} (h : Bats w base v bs) (hx : ∀ g, base ≤ g → g < w.heap.size → ¬ X g) : Bats w' base v bs := by
  obtain ⟨xs, h1, h2, h3⟩ := h
  refine ⟨xs, h1, own_keep hk h2 (fun g hg => hx g (World.ownsRow.lt h2 g hg).1 (World.ownsRow.lt h2 g hg).2), fun x hm => ?_⟩
  obtain ⟨r, q⟩ := h3 x hm
  refine ⟨Rd.keepA r hk (fun b off he hb => hx b (q _ he).1 hb), fun ad he => ?_⟩
  obtain ⟨q1, q2, q3⟩ := q ad he
  exact ⟨q1, Nat.lt_of_lt_of_le q2 hk.size, q3⟩
theorem Bats.later {w w' : World} (hb : Below w.heap.size w w') {base : Nat} {v : Value} {bs : List (List UInt8)} (h : Bats w base v bs) : Bats w' base v bs := h.keep (KeepA.of_below (X := fun _ => False) hb) fun _ _ _ h => h
theorem Bats.down {w : World} {base base' : Nat} {v : Value} {bs : List (List UInt8)} (h : Bats w base v bs) (hb : base' ≤ base) : Bats w base' v bs := by
  obtain ⟨xs, h1, h2, h3⟩ := h
  refine ⟨xs, h1, ⟨h2.1, ?_⟩, fun x hm => ⟨(h3 x hm).1, fun ad he => ⟨Nat.le_trans hb ((h3 x hm).2 ad he).1, ((h3 x hm).2 ad he).2⟩⟩⟩
  rcases h2.2 with h | ⟨g, cap, cur, hv, hg, r⟩
  · exact .inl h
  · exact .inr ⟨g, cap, cur, hv, Nat.le_trans hb hg, r⟩
theorem eltV : Elt Try.prog 94 22 1 24 (.slice none 0 0) := ⟨Try.underlying94, by kernel_rfl, rfl, by decide⟩
theorem wp_pushV {o : Oper} {act : Act} {K : Act → World → Prop} {Q : Exit → Act → World → Prop} {w : World} (s x : Operand)
    (ho : o.op = .call { callee := .builtin .append, args := #[s, x], argTypes := #[94, 94] }) (base : Nat)
    (v : Value) (bs : List (List UInt8)) (hv : act.eval s = v) (g : Nat) (a : Option Addr) (l : List UInt8) (c : Nat) (hx : act.eval x = .slice (some ⟨g, 0, none⟩) 1 1)
    (hB : Bats w base v bs) (hg : RowAt w g 22 #[.slice a l.length c]) (hr : RdB w a l) (ha : ∀ ad, a = some ad → base ≤ ad.block ∧ ad.block < w.heap.size ∧ v.ownBlock ≠ some ad.block) (hsz : bs.length ≤ 1000000) (hbase : base ≤ w.heap.size)
    (h : ∀ v' w', Bats w' base v' (bs ++ [l]) → w.grownBy w' v.ownBlock → NewRow w v v' → K (act.put o.dst v') w') : o.wp Try.prog act w K Q := by
  obtain ⟨xs, h1, h2, h3⟩ := hB
  have hxl : xs.length = bs.length := by rw [← h1, List.length_map]
  have hrd : Rd w (some ⟨g, 0, none⟩) [.slice a l.length c] := .inr ⟨g, 0, rfl, hg.lt, fun k hkl => by
    obtain rfl : k = 0 := by simpa using hkl
    exact hg.cell 0⟩
  obtain ⟨v', w', hrun, q2, q3, q4⟩ := run_append_any eltV w base o.type v xs.length _ h2 (some ⟨g, 0, none⟩) 1 1 [.slice a l.length c] rfl hrd (fun u hu => by rw [List.mem_singleton.1 hu]; rfl) (by omega) (by omega) hbase
  unfold Oper.wp execOp
  simp only [ho, resolve, invoke, builtin, Sem.run_bind, Sem.run_pure, Result.andThen_ok, List.map_toArray, List.map_cons, List.map_nil, hv, hx, hrun]
  refine h v' w' ⟨xs ++ [(a, c, l)], by simp [h1], ?_, fun y hy => ?_⟩ q3 q4
  · rw [List.map_append, List.length_append]
    exact q2
  · have hlt : ∀ gg, v.ownBlock = some gg → gg < w.heap.size := fun gg hgg => (World.ownsRow.lt h2 gg hgg).2
    have key : ∀ (z : Option Addr × Nat × List UInt8), RdB w z.1 z.2.2 → (∀ ad, z.1 = some ad → base ≤ ad.block ∧ ad.block < w.heap.size ∧ v.ownBlock ≠ some ad.block) → RdB w' z.1 z.2.2 ∧ ∀ ad, z.1 = some ad → base ≤ ad.block ∧ ad.block < w'.heap.size ∧ v'.ownBlock ≠ some ad.block := by
      intro z hz hzz
      refine ⟨Rd.keepA hz (keep_grownO q3) (fun b off he hb e => (hzz _ he).2.2 e), fun ad he => ⟨(hzz ad he).1, Nat.lt_of_lt_of_le (hzz ad he).2.1 q3.size, fun e => ?_⟩⟩
      rcases q4 _ e with e2 | e2
      · exact (hzz ad he).2.2 e2
      · exact absurd (hzz ad he).2.1 (by omega)
    rcases List.mem_append.1 hy with hy | hy
    · exact key y (h3 y hy).1 (h3 y hy).2
    · obtain rfl := List.mem_singleton.1 hy
      exact key _ hr ha
/-- A sector, counting or not: one contract of look$1. -/
theorem sector_any (w : World) (nb bb lp lb : Nat) (n i : Nat) (ba bo bc : Nat) (BY : List UInt8) (run base : Nat) (h1 : w.cell? ⟨nb, 0, none⟩ = some (.int .i64 (n : Int))) (h2 : w.cell? ⟨bb, 0, none⟩ = some (.slice (some ⟨ba, bo, none⟩) ((n - 2) * 512) bc))
    (h3 : w.cell? ⟨lp, 0, none⟩ = some (.pointer (some ⟨lb, 0, none⟩))) (h4 : w.cell? ⟨lb, 3, none⟩ = some (.int .u64 (run : Int))) (h5 : w.cell? ⟨lb, 4, none⟩ = some (.int .u64 (base : Int)))
    (hn : 4 ≤ n) (hn2 : n ≤ 65536) (hi : i ≤ 100000) (hl : BY.length = (n - 2) * 512) (hc : (n - 2) * 512 ≤ bc) (hr : RdB w (some ⟨ba, bo, none⟩) BY) :
    Calls Try.prog 73 #[.int .i64 (i : Int), .pointer (some ⟨nb, 0, none⟩), .pointer (some ⟨bb, 0, none⟩), .pointer (some ⟨lp, 0, none⟩)] w fun e w' =>
      (∃ a m c r ok, e = .returned (.tuple #[.slice a m c, .int .u64 ((r : Nat) : Int), .bool ok]) ∧ r < 18446744073709551616 ∧ ok = (decide (i < n - 2) && secOk (sec BY i) i base run) ∧
        (ok = true → r = leB ((sec BY i).take 8) ∧ m = 488 ∧ RdB w' a (dataOf BY i) ∧ 488 ≤ c)) ∧ Below w.heap.size w w' := by
  by_cases hin : i < n - 2
  · refine (sector_yes w nb bb lp lb n i ba bo bc BY run base h1 h2 h3 h4 h5 hn hn2 hin hl hc hr).mono ?_
    rintro _ w' ⟨⟨a, c, rfl, hrd, hcc⟩, hb⟩
    exact ⟨⟨a, 488, c, _, _, rfl, leB8_lt (by rw [List.length_take]; omega), by rw [decide_eq_true hin]; rfl, fun _ => ⟨rfl, rfl, hrd, hcc⟩⟩, hb⟩
  · refine (sector_no w nb bb lp n i h1 hn hn2 hi (by omega)).mono ?_
    rintro _ w' ⟨rfl, rfl⟩
    exact ⟨⟨none, 0, 0, 0, false, rfl, by omega, by rw [decide_eq_false hin]; rfl, fun h => by cases h⟩, Below.refl _ _⟩
theorem parse_stop {BY : List UInt8} {n base run f used least : Nat} {bs : List (List UInt8)} (h : (decide (used < n - 2) && secOk (sec BY used) used base run) = false ∨ leB ((sec BY used).take 8) < least) : parse BY n base run (f + 1) used least bs = (used, bs) := by
  unfold parse
  rw [if_neg]
  intro hc
  simp only [Bool.and_eq_true, decide_eq_true_eq] at hc
  rcases h with h | h
  · rw [decide_eq_true hc.1, hc.2.1] at h
    cases h
  · omega
theorem parse_cut {BY : List UInt8} {n base run f used least : Nat} {bs : List (List UInt8)} (h : coll BY n base run (leB ((sec BY used).take 8)) (longOf BY used) (n - used) used [] = none) : parse BY n base run (f + 1) used least bs = (used, bs) := by
  unfold parse
  split
  · rw [h]
  · rfl
theorem parse_more {BY : List UInt8} {n base run f used least : Nat} {bs : List (List UInt8)} {acc : List UInt8} {i : Nat} (h0 : (decide (used < n - 2) && secOk (sec BY used) used base run) = true) (h1 : least ≤ leB ((sec BY used).take 8))
    (h : coll BY n base run (leB ((sec BY used).take 8)) (longOf BY used) (n - used) used [] = some (acc, i)) : parse BY n base run (f + 1) used least bs = parse BY n base run f i (leB ((sec BY used).take 8)) (bs ++ [(acc.take (longOf BY used)).drop 4]) := by
  conv => lhs; unfold parse
  simp only [Bool.and_eq_true, decide_eq_true_eq] at h0
  rw [if_pos (by simp only [Bool.and_eq_true, decide_eq_true_eq]; exact ⟨h0.1, h0.2, h1⟩), h]
theorem coll_end {BY : List UInt8} {n base run r long f i : Nat} {acc : List UInt8} (h : long ≤ acc.length) : coll BY n base run r long f i acc = some (acc, i) := by
  cases f <;> (unfold coll; rw [if_pos h])
theorem coll_no {BY : List UInt8} {n base run r long f i : Nat} {acc : List UInt8} (h : ¬ long ≤ acc.length) (hs : (decide (i < n - 2) && secOk (sec BY i) i base run) = false ∨ leB ((sec BY i).take 8) ≠ r) : coll BY n base run r long f i acc = none := by
  cases f with
  | zero => unfold coll; rw [if_neg h]
  | succ f =>
    unfold coll
    rw [if_neg h, if_neg]
    intro hc
    unfold secGood at hc
    simp only [Bool.and_eq_true, decide_eq_true_eq, beq_iff_eq] at hc
    rcases hs with h | h
    · rw [decide_eq_true hc.1, hc.2.1] at h
      cases h
    · exact h hc.2.2
theorem coll_yes {BY : List UInt8} {n base run r long f i : Nat} {acc : List UInt8} (h : ¬ long ≤ acc.length) (hs : (decide (i < n - 2) && secOk (sec BY i) i base run) = true) (hr : leB ((sec BY i).take 8) = r) : coll BY n base run r long (f + 1) i acc = coll BY n base run r long f (i + 1) (acc ++ dataOf BY i) := by
  simp only [Bool.and_eq_true, decide_eq_true_eq] at hs
  conv => lhs; unfold coll
  rw [if_neg h, if_pos (by unfold secGood; simp only [Bool.and_eq_true, decide_eq_true_eq, beq_iff_eq]; exact ⟨hs.1, hs.2, hr⟩)]
end Go.Proofs.Ytagipfkgnobjlaa
namespace Go.Proofs.Ytagipfkgnobjlaa
open Go.RowKit

/-- The batches are read: what stands. -/
structure LInv (w5 wr : World) (g d : Nat) (from_ : Int) (n run base : Nat) (allv : Value) (used : Nat) (bs : List (List UInt8)) : Prop where
  keep : KeepA (fun y => y = g + 1) w5 wr
  row : LgRow wr (g + 1) d from_ n run base allv used false
  bats : Bats wr w5.heap.size allv bs
theorem LInv.later {w5 wr w' : World} {g d : Nat} {from_ : Int} {n run base : Nat} {allv : Value} {used : Nat} {bs : List (List UInt8)} (h : LInv w5 wr g d from_ n run base allv used bs) (hb : Below wr.heap.size wr w') : LInv w5 w' g d from_ n run base allv used bs :=
  ⟨h.keep.trans (KeepA.of_below hb), RowAt.below h.row hb, h.bats.later hb⟩
theorem LInv.grown {w5 wr w9 w10 : World} {g d : Nat} {from_ : Int} {n run base : Nat} {allv : Value} {used : Nat} {bs : List (List UInt8)} (h : LInv w5 wr g d from_ n run base allv used bs) (hg : g + 1 < w5.heap.size) (hb : Below wr.heap.size wr w9)
    (hgr : w9.grownBy w10 allv.ownBlock) : LgRow w10 (g + 1) d from_ n run base allv used false :=
  RowAt.grown (RowAt.below h.row hb) hgr (fun g' hg' e => by have := (h.bats.lt g' hg').1; omega)
theorem LInv.grownK {w5 wr w9 w10 : World} {g d : Nat} {from_ : Int} {n run base : Nat} {allv : Value} {used : Nat} {bs : List (List UInt8)} (h : LInv w5 wr g d from_ n run base allv used bs) (hb : Below wr.heap.size wr w9)
    (hgr : w9.grownBy w10 allv.ownBlock) : KeepA (fun y => y = g + 1) w5 w10 := (h.keep.trans (KeepA.of_below hb)).trans2 (keep_grownO hgr) (fun y hy e => by have := (h.bats.lt y e).1; omega)
theorem Bats.sl {w : World} {base : Nat} {v : Value} {bs : List (List UInt8)} (h : Bats w base v bs) : ∃ a n c, v = .slice a n c := by
  obtain ⟨xs, -, ho, -⟩ := h
  obtain ⟨a, c, hv, -, -⟩ := Rd.of_own ho
  exact ⟨a, _, c, hv⟩
theorem LInv.push {w5 wr w9 w10 : World} {g d : Nat} {from_ : Int} {n run base : Nat} {allv v10 : Value} {used : Nat} {bs bs2 : List (List UInt8)} (h : LInv w5 wr g d from_ n run base allv used bs) (hg : g + 1 < w5.heap.size) (hb : Below wr.heap.size wr w9)
    (hgr : w9.grownBy w10 allv.ownBlock) (hB : Bats w10 w5.heap.size v10 bs2) (j : Nat) : LInv w5 ((w10.setCell ⟨g + 1, 5, none⟩ v10).setCell ⟨g + 1, 6, none⟩ (.int .i64 (j : Int))) g d from_ n run base v10 j bs2 := by
  have hr10 := h.grown hg hb hgr
  have hk10 : KeepA (fun y => y = g + 1) w5 w10 := (h.keep.trans (KeepA.of_below hb)).trans2 (keep_grownO hgr) (fun y hy e => by have := (h.bats.lt y e).1; omega)
  have hset : KeepA (fun y => y = g + 1) w10 ((w10.setCell ⟨g + 1, 5, none⟩ v10).setCell ⟨g + 1, 6, none⟩ (.int .i64 (j : Int))) := ((KeepA.refl (fun y => y = g + 1) w10).setCell (a := ⟨g + 1, 5, none⟩) rfl).setCell (a := ⟨g + 1, 6, none⟩) rfl
  refine ⟨hk10.trans hset, ?_, hB.keep hset (fun gg h1 _ e => by omega)⟩
  exact (RowAt.set hr10 5 v10).set 6 (.int .i64 (j : Int))
set_option maxRecDepth 100000 in
set_option maxHeartbeats 4000000 in
theorem look_any (w : World) (S : Nat → Prop) (b : Nat) (D : DK) (F : Nat) (from_ : Int) (n : Nat) (h : DkS w S b D F) (hok : askW D.size from_ (n : Int) = 0) (hp : D.pcs.length ≤ 900000) :
    Calls Try.prog 54 #[.pointer (some ⟨b, 0, none⟩), .int .i64 from_, .int .i64 (n : Int)] w (LookPost w b from_ n (lookP (laid D.last D.pcs) from_ n)) := by
  have HA := Lib.hid (fun w h => asked_s w S b D F from_ n h)
  rw [hok] at HA
  have hz := h.sizes
  obtain ⟨hn4, hf0, hfs⟩ : 4 ≤ n ∧ 0 ≤ from_ ∧ from_ + (n : Int) ≤ D.size := by
    unfold askW at hok
    split at hok
    · cases hok
    · split at hok
      · cases hok
      · omega
  have hsec := h.sec
  have hps := h.psec
  obtain ⟨L, hL⟩ : ∃ L, laid D.last D.pcs = L := ⟨_, rfl⟩
  rw [hL]
  have hLl : ∀ k, (L k).length = 512 := by rw [← hL]; exact laid_len hsec _ fun p hp => (hps p hp).2.2
  obtain ⟨g, hg⟩ : ∃ x, w.heap.size = x := ⟨_, rfl⟩
  have hbl := h.blt.1
  rw [hg] at hbl
  have HRD := Lib.hid (fun (w : World) (at_ : Int) (k : Nat) (hh : DkS w S b D F) h1 h2 => read_any w 0 b D F at_ k hh.isDk (by omega) h1 h2)
  rw [hL] at HRD
  have HD := Lib.hid h
  have HL := Lib.hid hL
  have HLL := Lib.hid hLl
  clear h hok hsec hps hL hLl
  go_enter Try.func54, Try.ntmps54
  obtain ⟨W0, hW0⟩ : ∃ x, w.alloc (.cells #[.int .i64 (n : Int)] 3) = x := ⟨_, rfl⟩
  have HN0 : Hid (RowAt W0 g 3 #[.int .i64 (n : Int)]) := by rw [← hW0, ← hg]; exact RowAt.new _ _ _
  have hb0 : Below w.heap.size w W0 := by rw [← hW0]; exact below_alloc _
  have hW0s : W0.heap.size = g + 1 := by rw [← hW0, ← hg]; simp
  have HD0 := Lib.hid (HD.out.later hb0)
  have HB0 := Lib.hid hb0
  have n0 := HN0.out.cell 0
  simp only [List.getElem?_toArray, List.getElem?_cons_zero] at n0
  clear hb0
  go_wp2
  go_step3
  go_wp2_with fail
  clear hW0
  refine (HA.out _ HD0.out).mono ?_
  rintro _ w1 ⟨rfl, rfl⟩
  go_upto_region 6 with fail
  obtain ⟨W2, hW2⟩ : ∃ x, (w1.alloc (.cells #[.pointer (some ⟨b, 0, none⟩), .int .i64 from_, .int .i64 (n : Int), .int .u64 0, .int .u64 0, .slice none 0 0, .int .i64 0, .bool false] 96)).alloc (.cells #[.pointer (some ⟨g + 1, 0, none⟩)] 60) = x := ⟨_, rfl⟩
  have HI2 : Hid (HInv w W2 g b from_ n 0 0 (.slice none 0 0) 0) := by
    have hbb := below_trans (below_alloc (w := w1) (.cells #[.pointer (some ⟨b, 0, none⟩), .int .i64 from_, .int .i64 (n : Int), .int .u64 0, .int .u64 0, .slice none 0 0, .int .i64 0, .bool false] 96)) (below_alloc (.cells #[.pointer (some ⟨g + 1, 0, none⟩)] 60))
    rw [← hW2]
    refine ⟨?_, RowAt.below HN0.out hbb, ?_, ?_⟩
    · have h1 := HB0.out
      rw [hg] at h1
      exact h1.trans (hbb.mono (by omega))
    · have h1 := RowAt.new (w1.alloc (.cells #[.pointer (some ⟨b, 0, none⟩), .int .i64 from_, .int .i64 (n : Int), .int .u64 0, .int .u64 0, .slice none 0 0, .int .i64 0, .bool false] 96)) 60 #[.pointer (some ⟨g + 1, 0, none⟩)]
      rw [World.size_alloc, hW0s] at h1
      exact h1
    · have h1 := RowAt.below (RowAt.new w1 96 #[.pointer (some ⟨b, 0, none⟩), .int .i64 from_, .int .i64 (n : Int), .int .u64 0, .int .u64 0, .slice none 0 0, .int .i64 0, .bool false]) (below_alloc (.cells #[.pointer (some ⟨g + 1, 0, none⟩)] 60))
      rw [hW0s] at h1
      exact h1
  rw [show g + 1 + 1 = g + 2 from rfl]
  rw [hW2]
  clear hW2 n0
  go_wp2
  go_loopw [43] (fun i wr => ∃ k : Nat, k ≤ 2 ∧ i = .int .i64 k ∧ HInv w wr g b from_ n (headsP L from_ k).1 (headsP L from_ k).2 (.slice none 0 0) 0) (fun i _ => 2 - (intOf i).toNat)
  case atStart => exact ⟨0, by omega, rfl, HI2.out⟩
  case round =>
    clear HI2
    obtain ⟨k, hk, rfl, hinv⟩ := hrel
    have HINV := Lib.hid hinv
    by_cases hk2 : k < 2
    · have hbw : Below w.heap.size w wr := by rw [hg]; exact hinv.bel
      have hk2I : (k : Int) < 2 := by omega
      have haw : IntKind.i64.wrap (from_ + (k : Int)) = from_ + (k : Int) := IntWalk.i64_in _ (by omega)
      obtain ⟨s, hs⟩ : ∃ s, L (from_ + (k : Int)) = s := ⟨_, rfl⟩
      have hsl : s.length = 512 := by rw [← hs]; exact HLL.out _
      have HR1 : Hid (Calls Try.prog 32 #[.pointer (some ⟨b, 0, none⟩), .int .i64 (from_ + (k : Int)), .int .i64 1] wr fun e w' => (∃ v, e = .returned (.tuple #[v, .int .i64 0]) ∧ OwnB w' wr.heap.size 5 v s) ∧ Below wr.heap.size wr w') := by
        have h := HRD.out wr (from_ + (k : Int)) 1 (HD.out.later hbw) (by omega) (by omega)
        rw [flatS_one, hs] at h
        exact h
      obtain ⟨c, hc⟩ : ∃ c, headsP L from_ k = c := ⟨_, rfl⟩
      have hst : headsP L from_ (k + 1) = hdStep s k c := by rw [← hc, ← hs]; rfl
      have hclt := headsP_lt HLL.out from_ k
      rw [hc] at hinv hclt HINV
      have HST := Lib.hid hst
      clear hst hs hbw hinv hc
      go_wp2_with fail
      refine HR1.out.mono ?_
      rintro _ w3 ⟨⟨v, rfl, hv⟩, hb3⟩
      obtain ⟨a, cp, hv2, hcp, hrd⟩ := OwnB.rd hv
      rw [hsl] at hv2 hcp
      obtain ⟨sb, so, rfl, -, -⟩ := hrd.at (by omega)
      subst hv2
      have HI3 := Lib.hid (HINV.out.later hb3)
      have HRD3 := Lib.hid hrd
      have hc8 : (8 : Int) ≤ (cp : Int) := by omega
      have hc504 : (504 : Int) ≤ (cp : Int) := by omega
      have hc16 : (16 : Int) ≤ (cp : Int) := by omega
      have hn8 : ¬ cp = 8 := by omega
      have hn504 : ¬ cp = 504 := by omega
      have hn16 : ¬ cp = 16 := by omega
      have HV1 := Lib.hid (fun (w' : World) (hb : Below w3.heap.size w3 w') (c : Nat) => value_any w' (some ⟨sb, so, none⟩) (s.take 8) 8 c (by rw [List.length_take]; omega) (by omega) (by have := (hrd.mono hb).sub 0 8; simpa using this))
      have HV2 := Lib.hid (fun (w' : World) (hb : Below w3.heap.size w3 w') (c : Nat) => value_any w' (some ⟨sb, so + 504, none⟩) (s.drop 504) 8 c (by rw [List.length_drop]; omega) (by omega) (by have := (hrd.mono hb).sub 504 8; rw [List.take_of_length_le (by rw [List.length_drop]; omega)] at this; exact this))
      have HV3 := Lib.hid (fun (w' : World) (hb : Below w3.heap.size w3 w') (c : Nat) => value_any w' (some ⟨sb, so + 8, none⟩) ((s.drop 8).take 8) 8 c (by rw [List.length_take, List.length_drop]; omega) (by omega) ((hrd.mono hb).sub 8 8))
      obtain ⟨r, hr⟩ : ∃ r, leB (s.take 8) = r := ⟨_, rfl⟩
      obtain ⟨q, hq⟩ : ∃ q, leB (s.drop 504) = q := ⟨_, rfl⟩
      obtain ⟨bs, hbs⟩ : ∃ q, leB ((s.drop 8).take 8) = q := ⟨_, rfl⟩
      rw [hr] at HV1
      rw [hq] at HV2
      rw [hbs] at HV3
      have hrl : r < 18446744073709551616 := by rw [← hr]; exact leB8_lt (by rw [List.length_take]; omega)
      have hbl2 : bs < 18446744073709551616 := by rw [← hbs]; exact leB8_lt (by rw [List.length_take]; omega)
      have hstep : hdStep s k c = if decide (c.1 < r) && (decide (r < 4611686018427387904) && ((r % 2 == k) && ((r == q) && decide (bs ≤ r)))) then (r, bs) else c := by unfold hdStep hdOk; rw [hr, hq, hbs]
      have HSTEP := Lib.hid hstep
      clear hv hb3 hrd hr hq hbs hstep hsl
      go_wp2_with fail
      refine (HV1.out w3 (Below.refl _ _) _).mono ?_
      rintro _ w4 ⟨rfl, hb4⟩
      have HB4 := Lib.hid hb4
      have HI4 := Lib.hid (HI3.out.later hb4)
      clear hb4
      have p0 := HI4.out.ptr.cell 0
      have p3 := HI4.out.row.cell 3
      simp only [List.getElem?_toArray, List.getElem?_cons_zero, List.getElem?_cons_succ] at p0 p3
      obtain ⟨cr, cb⟩ := c
      dsimp only at p3 hclt
      have c1I : ((cr : Int) < (r : Int)) = (cr < r) := by simp
      by_cases c1 : cr < r
      rotate_left
      · have c1I : ¬ (cr : Int) < (r : Int) := by omega
        go_wp2
        refine ⟨⟨k + 1, by omega, by go_num, ?_⟩, by simp [intOf]; omega⟩
        rw [HST.out, HSTEP.out, if_neg (fun h => by simp only [Bool.and_eq_true, decide_eq_true_eq, beq_iff_eq] at h; omega)]
        exact HI4.out
      have c1I : (cr : Int) < (r : Int) := by omega
      by_cases c2 : r < 4611686018427387904
      rotate_left
      · have c2I : decide ((r : Int) < 4611686018427387904) = false := decide_eq_false (by omega)
        have c2N : decide (r < 4611686018427387904) = false := decide_eq_false c2
        have C2 := Lib.hid c2
        clear c2
        go_wp2
        have c2 := C2.out
        refine ⟨⟨k + 1, by omega, by go_num, ?_⟩, by simp [intOf]; omega⟩
        rw [HST.out, HSTEP.out, if_neg (fun h => by simp only [Bool.and_eq_true, decide_eq_true_eq, beq_iff_eq] at h; omega)]
        exact HI4.out
      have c2I : (r : Int) < 4611686018427387904 := by omega
      have hkw : IntKind.u64.wrap (k : Int) = (k : Int) := IntWalk.u64_in _ ⟨by omega, by omega⟩
      by_cases c3 : r % 2 = k
      rotate_left
      · have c3I : ¬ (r : Int) % 2 = (k : Int) := by omega
        go_wp2
        refine ⟨⟨k + 1, by omega, by go_num, ?_⟩, by simp [intOf]; omega⟩
        rw [HST.out, HSTEP.out, if_neg (fun h => by simp only [Bool.and_eq_true, decide_eq_true_eq, beq_iff_eq] at h; omega)]
        exact HI4.out
      have c3I : (r : Int) % 2 = (k : Int) := by omega
      go_wp2_with fail
      refine (HV2.out w4 HB4.out _).mono ?_
      rintro _ w5 ⟨rfl, hb5⟩
      have HB5 := Lib.hid (HB4.out.trans (hb5.mono HB4.out.size))
      have HI5 := Lib.hid (HI4.out.later hb5)
      clear hb5 p0 p3
      by_cases c4 : r = q
      rotate_left
      · have c4I : ¬ (r : Int) = (q : Int) := by omega
        go_wp2
        refine ⟨⟨k + 1, by omega, by go_num, ?_⟩, by simp [intOf]; omega⟩
        rw [HST.out, HSTEP.out, if_neg (fun h => by simp only [Bool.and_eq_true, decide_eq_true_eq, beq_iff_eq] at h; omega)]
        exact HI5.out
      subst c4
      go_wp2_with fail
      refine (HV3.out w5 HB5.out _).mono ?_
      rintro _ w6 ⟨rfl, hb6⟩
      have HB6 := Lib.hid (HB5.out.trans (hb6.mono HB5.out.size))
      have HI6 := Lib.hid (HI5.out.later hb6)
      clear hb6
      by_cases c5 : bs ≤ r
      rotate_left
      · have c5I : ¬ (bs : Int) ≤ (r : Int) := by omega
        go_wp2
        refine ⟨⟨k + 1, by omega, by go_num, ?_⟩, by simp [intOf]; omega⟩
        rw [HST.out, HSTEP.out, if_neg (fun h => by simp only [Bool.and_eq_true, decide_eq_true_eq, beq_iff_eq] at h; omega)]
        exact HI6.out
      have c5I : (bs : Int) ≤ (r : Int) := by omega
      go_wp2
      have p0 := HI6.out.ptr.cell 0
      have p3 := HI6.out.row.cell 3
      have p4 := HI6.out.row.cell 4
      simp only [List.getElem?_toArray, List.getElem?_cons_zero, List.getElem?_cons_succ] at p0 p3 p4
      have HB6d := Lib.hid (show Below w3.heap.size w3 w6.drew from drewN_below HB6.out 1)
      have hk1 : w6.drew.cell? ⟨g + 2, 0, none⟩ = some (.pointer (some ⟨g + 1, 0, none⟩)) ∧ w6.drew.cell? ⟨g + 1, 3, none⟩ = some (.int .u64 (cr : Int)) ∧ w6.drew.cell? ⟨g + 1, 4, none⟩ = some (.int .u64 (cb : Int)) := ⟨p0, p3, p4⟩
      have hgs : g + 2 < w6.drew.heap.size := HI6.out.ptr.lt
      clear p0 p3 p4
      refine wp_region_held_drew (S := fun w' => w'.cell? ⟨g + 2, 0, none⟩ = some (.pointer (some ⟨g + 1, 0, none⟩))) (by kernel_rfl) hk1.1 (fun hHeld => ?_)
      refine wpAnyH_take (i := 0) (v := ?_) rfl (by kernel_rfl) (by kernel_rfl) (by kernel_rfl) (fun _ _ _ h => h) (Or.inl ⟨by rfl, ?_⟩) hHeld ?_
      rotate_left
      · intro w' hS'
        (try dsimp only at hS')
        go_simp
        try with_reducible rfl
      try simp only [List.getElem_toArray, List.getElem_cons_succ, List.getElem_cons_zero, Act.put, List.setIfInBounds_toArray, List.set_cons_zero, List.set_cons_succ]
      refine wpAnyH_take (i := 1) (v := ?_) rfl (by kernel_rfl) (by kernel_rfl) (by kernel_rfl) (fun _ _ _ h => h) (Or.inl ⟨by rfl, ?_⟩) hHeld ?_
      rotate_left
      · intro w' hS'
        (try dsimp only at hS')
        go_simp
        try with_reducible rfl
      try simp only [List.getElem_toArray, List.getElem_cons_succ, List.getElem_cons_zero, Act.put, List.setIfInBounds_toArray, List.set_cons_zero, List.set_cons_succ]
      refine wpAnyH_take (i := 2) (v := ?_) rfl (by kernel_rfl) (by kernel_rfl) (by kernel_rfl) (fun _ _ _ h => h) (Or.inl ⟨by rfl, ?_⟩) hHeld ?_
      rotate_left
      · intro w' hS'
        (try dsimp only at hS')
        go_simp
        try with_reducible rfl
      try simp only [List.getElem_toArray, List.getElem_cons_succ, List.getElem_cons_zero, Act.put, List.setIfInBounds_toArray, List.set_cons_zero, List.set_cons_succ]
      refine wpAnyH_take (i := 3) (v := ?_) rfl (by kernel_rfl) (by kernel_rfl) (by kernel_rfl) (fun _ _ _ h => h) (Or.inl ⟨by rfl, ?_⟩) hHeld ?_
      rotate_left
      · intro w' hS'
        (try dsimp only at hS')
        go_simp
        try with_reducible rfl
      try simp only [List.getElem_toArray, List.getElem_cons_succ, List.getElem_cons_zero, Act.put, List.setIfInBounds_toArray, List.set_cons_zero, List.set_cons_succ]
      refine wpAnyH_take (i := 4) (v := ?_) rfl (by kernel_rfl) (by kernel_rfl) (by kernel_rfl) (fun _ _ _ h => h) (Or.inl ⟨by rfl, ?_⟩) hHeld ?_
      rotate_left
      · intro w' hS'
        (try dsimp only at hS')
        go_simp
        try with_reducible rfl
      try simp only [List.getElem_toArray, List.getElem_cons_succ, List.getElem_cons_zero, Act.put, List.setIfInBounds_toArray, List.set_cons_zero, List.set_cons_succ]
      refine wpAnyH_ready (rs := [5]) (by kernel_rfl) (by simp) (AllReadyH.cons rfl (fun K hK => ?_) AllReadyH.nil)
      go_simp
      go_wp2_with (go_at_call 72; refine (HV3.out w6.drew HB6d.out _).mono ?_; rintro e w7 ⟨rfl, hb7⟩; have HB7 := Lib.hid hb7; have hk7 : w7.cell? ⟨g + 2, 0, none⟩ = some (.pointer (some ⟨g + 1, 0, none⟩)) := cell_later hb7 (by omega) hk1.1; have HI7 : Hid (HInv w w7 g b from_ n cr cb (.slice none 0 0) 0) := HI6.out.later (below_trans (drewN_below (Below.refl _ w6) 1) hb7); clear hb7)
      refine hK.out _ _ hk7 (fun hHeld => ?_)
      try simp only [List.getElem_toArray, List.getElem_cons_succ, List.getElem_cons_zero, Act.put, List.setIfInBounds_toArray, List.set_cons_zero, List.set_cons_succ]
      clear hK K
      refine wpAnyH_take (i := 6) (v := ?_) rfl (by kernel_rfl) (by kernel_rfl) (by kernel_rfl) (fun _ _ _ h => h) (Or.inl ⟨by rfl, ?_⟩) hHeld ?_
      rotate_left
      · intro w' hS'
        (try dsimp only at hS')
        go_simp
        try with_reducible rfl
      try simp only [List.getElem_toArray, List.getElem_cons_succ, List.getElem_cons_zero, Act.put, List.setIfInBounds_toArray, List.set_cons_zero, List.set_cons_succ]
      refine wpAnyH_take (i := 7) (v := ?_) rfl (by kernel_rfl) (by kernel_rfl) (by kernel_rfl) (fun _ _ _ h => h) (Or.inl ⟨by rfl, ?_⟩) hHeld ?_
      rotate_left
      · intro w' hS'
        (try dsimp only at hS')
        go_simp
        try with_reducible rfl
      try simp only [List.getElem_toArray, List.getElem_cons_succ, List.getElem_cons_zero, Act.put, List.setIfInBounds_toArray, List.set_cons_zero, List.set_cons_succ]
      have q3 := HI7.out.row.cell 3
      have z3 := HI7.out.row.frozen 3
      have q4 := HI7.out.row.cell 4
      have hP7 := HI7.out.put r bs
      simp only [List.getElem?_toArray, List.getElem?_cons_zero, List.getElem?_cons_succ] at q3 q4
      have q4' : (w7.setCell ⟨g + 1, 3, none⟩ (.int .u64 (r : Int))).cell? ⟨g + 1, 4, none⟩ = some (.int .u64 (cb : Int)) := (HI7.out.row.set 3 (.int .u64 (r : Int))).cell 4
      have z4' : (w7.setCell ⟨g + 1, 3, none⟩ (.int .u64 (r : Int))).frozen? ⟨g + 1, 4, none⟩ = false := (HI7.out.row.set 3 (.int .u64 (r : Int))).frozen 4
      have hk8 : (w7.setCell ⟨g + 1, 3, none⟩ (.int .u64 (r : Int))).cell? ⟨g + 2, 0, none⟩ = some (.pointer (some ⟨g + 1, 0, none⟩)) := (HI7.out.ptr.other (a := ⟨g + 1, 3, none⟩) (.int .u64 (r : Int)) (by simp)).cell 0
      have hk9 := (hP7.ptr).cell 0
      simp only [List.getElem?_toArray, List.getElem?_cons_zero, List.getElem?_cons_succ] at hk9
      refine wpAnyH_ready (rs := [8]) (by kernel_rfl) (by simp) (AllReadyH.cons rfl (fun K hK => ?_) AllReadyH.nil)
      go_simp
      refine hK.out _ _ hk8 (fun hHeld => ?_)
      try simp only [List.getElem_toArray, List.getElem_cons_succ, List.getElem_cons_zero, Act.put, List.setIfInBounds_toArray, List.set_cons_zero, List.set_cons_succ]
      clear hK K
      refine wpAnyH_take (i := 9) (v := ?_) rfl (by kernel_rfl) (by kernel_rfl) (by kernel_rfl) (fun _ _ _ h => h) (Or.inl ⟨by rfl, ?_⟩) hHeld ?_
      rotate_left
      · intro w' hS'
        (try dsimp only at hS')
        go_simp
        try with_reducible rfl
      try simp only [List.getElem_toArray, List.getElem_cons_succ, List.getElem_cons_zero, Act.put, List.setIfInBounds_toArray, List.set_cons_zero, List.set_cons_succ]
      refine wpAnyH_take (i := 10) (v := ?_) rfl (by kernel_rfl) (by kernel_rfl) (by kernel_rfl) (fun _ _ _ h => h) (Or.inl ⟨by rfl, ?_⟩) hHeld ?_
      rotate_left
      · intro w' hS'
        (try dsimp only at hS')
        go_simp
        try with_reducible rfl
      try simp only [List.getElem_toArray, List.getElem_cons_succ, List.getElem_cons_zero, Act.put, List.setIfInBounds_toArray, List.set_cons_zero, List.set_cons_succ]
      refine wpAnyH_ready (rs := [11]) (by kernel_rfl) (by simp) (AllReadyH.cons rfl (fun K hK => ?_) AllReadyH.nil)
      go_simp
      refine hK.out _ _ hk9 (fun hHeld => ?_)
      try simp only [List.getElem_toArray, List.getElem_cons_succ, List.getElem_cons_zero, Act.put, List.setIfInBounds_toArray, List.set_cons_zero, List.set_cons_succ]
      clear hK K
      refine wpAnyH_done (by kernel_rfl) ?_ _
      go_wp2
      refine ⟨⟨k + 1, by omega, by go_num, ?_⟩, by simp [intOf]; omega⟩
      rw [HST.out, HSTEP.out, if_pos (by simp only [Bool.and_eq_true, decide_eq_true_eq, beq_iff_eq]; exact ⟨c1, c2, c3, trivial, c5⟩)]
      exact hP7
    · have hk2' : k = 2 := by omega
      subst hk2'
      obtain ⟨⟨run, base⟩, hrb⟩ : ∃ x, headsP L from_ 2 = x := ⟨_, rfl⟩
      have HLT := Lib.hid (headsP_lt HLL.out from_ 2)
      rw [hrb] at hinv HINV HLT
      dsimp only at hinv HINV HLT
      have HRB := Lib.hid hrb
      have hbw : Below w.heap.size w wr := by rw [hg]; exact hinv.bel
      have HDr := Lib.hid (HD.out.later hbw)
      have HBw := Lib.hid hbw
      have p0 := hinv.ptr.cell 0
      have p3 := hinv.row.cell 3
      have n0 := hinv.box.cell 0
      simp only [List.getElem?_toArray, List.getElem?_cons_zero, List.getElem?_cons_succ] at p0 p3 n0
      clear hinv hrb hbw
      by_cases hr0 : run = 0
      · have HLP := Lib.hid (lookP_zero (n := n) HRB.out hr0)
        subst hr0
        go_wp2
        rw [Exit.noGoto_ret]
        go_ret2
        rw [HLP.out]
        exact ⟨HBw.out, rfl⟩
      have hr0I : ¬ (run : Int) = 0 := by omega
      have hfw : IntKind.i64.wrap (from_ + 2) = from_ + 2 := IntWalk.i64_in _ (by omega)
      have hnw : IntKind.i64.wrap ((n : Int) - 2) = ((n - 2 : Nat) : Int) := by rw [IntWalk.i64_in _ (by omega)]; omega
      obtain ⟨BY, hBY⟩ : ∃ x, bodyP L from_ n = x := ⟨_, rfl⟩
      have hBl : BY.length = (n - 2) * 512 := by rw [← hBY]; exact bodyP_len HLL.out _ _
      have HR1 : Hid (Calls Try.prog 32 #[.pointer (some ⟨b, 0, none⟩), .int .i64 (from_ + 2), .int .i64 ((n - 2 : Nat) : Int)] wr fun e w' => (∃ v, e = .returned (.tuple #[v, .int .i64 0]) ∧ OwnB w' wr.heap.size 5 v BY) ∧ Below wr.heap.size wr w') := by
        have h := HRD.out wr (from_ + 2) (n - 2) HDr.out (by omega) (by omega)
        rw [show flatS L (from_ + 2) (n - 2) = BY from hBY] at h
        exact h
      have HBYP := Lib.hid hBY
      have HBL := Lib.hid hBl
      clear hBY
      go_wp2_with fail
      refine HR1.out.mono ?_
      rintro _ w3 ⟨⟨v, rfl, hv⟩, hb3⟩
      obtain ⟨a, cp, hv2, hcp, hrd⟩ := OwnB.rd hv
      rw [hBl] at hv2 hcp
      obtain ⟨sb, so, rfl, -, -⟩ := hrd.at (by omega)
      subst hv2
      have hsb := (World.ownsRow.lt hv sb rfl).1
      have hptr := HINV.out.ptr.lt
      have HI3 := Lib.hid (HINV.out.later hb3)
      have HRD3 := Lib.hid hrd
      clear hv hb3 hrd p0 p3 n0 HINV HR1 HBw HDr
      obtain ⟨m, hm⟩ : ∃ x, (n - 2) * 512 = x := ⟨_, rfl⟩
      have HM := Lib.hid hm
      rw [hm] at hcp hBl ⊢
      clear hm HBL
      obtain ⟨x, hx⟩ : ∃ x, w3.heap.size = x := ⟨_, rfl⟩
      obtain ⟨W4, hW4⟩ : ∃ y, w3.alloc (.cells #[.slice (some ⟨sb, so, none⟩) m cp] 22) = y := ⟨_, rfl⟩
      have hb4 : Below w3.heap.size w3 W4 := by rw [← hW4]; exact below_alloc _
      have hxl : g + 2 < x := by rw [← hx]; exact HI3.out.ptr.lt
      have HX4 : Hid (RowAt W4 x 22 #[.slice (some ⟨sb, so, none⟩) m cp]) := by rw [← hW4, ← hx]; exact RowAt.new _ _ _
      have HI4 := Lib.hid (HI3.out.later hb4)
      have HRD4 := Lib.hid (HRD3.out.mono hb4)
      clear hb4
      go_wp2
      clear hW4 hx HI3 HRD3
      go_loopw [17] (fun i wr => ∃ (k o : Nat), k ≤ n - 2 ∧ o = k * 512 ∧ i = .int .i64 (o : Int) ∧ Below W4.heap.size W4 wr ∧ stale BY run k = false) (fun i _ => m - (intOf i).toNat)
      case atStart => exact ⟨0, 0, by omega, by omega, rfl, Below.refl _ _, rfl⟩
      case round =>
        obtain ⟨k, o, hk, ho, rfl, hbr, hst⟩ := hrel
        have HBR := Lib.hid hbr
        have HST := Lib.hid hst
        have HI5 := Lib.hid (HI4.out.later hbr)
        have HX5 := Lib.hid (RowAt.below HX4.out hbr)
        have x0 := HX5.out.cell 0
        have p0 := HI5.out.ptr.cell 0
        have p3 := HI5.out.row.cell 3
        simp only [List.getElem?_toArray, List.getElem?_cons_zero, List.getElem?_cons_succ] at x0 p0 p3
        have HO := Lib.hid ho
        have HMM := HM.out
        clear hst
        by_cases hkn : k < n - 2
        · have hom : o + 512 ≤ m := by omega
          have homI : (o : Int) < (m : Int) := by omega
          have ho5 : IntKind.i64.wrap ((o : Int) + 512) = ((o + 512 : Nat) : Int) := by rw [IntWalk.i64_in _ (by omega)]; omega
          have ho8 : IntKind.i64.wrap ((o : Int) + 8) = ((o + 8 : Nat) : Int) := by rw [IntWalk.i64_in _ (by omega)]; omega
          have hoc : o + 8 ≤ cp := by omega
          obtain ⟨s, hs⟩ : ∃ s, sec BY k = s := ⟨_, rfl⟩
          have hsl : s.length = 512 := by rw [← hs]; exact sec_len (by omega)
          have hrs : RdB W4 (some ⟨sb, so + o, none⟩) (s.take 8) := by
            have := HRD4.out.sub o 8
            rw [show s.take 8 = (BY.drop o).take 8 from by rw [← hs, sec, ← ho, List.take_take]; rfl]
            exact this
          obtain ⟨r, hr⟩ : ∃ r, leB (s.take 8) = r := ⟨_, rfl⟩
          have HV := Lib.hid (fun (w' : World) (hb : Below W4.heap.size W4 w') (c : Nat) => value_any w' (some ⟨sb, so + o, none⟩) (s.take 8) 8 c (by rw [List.length_take]; omega) (by omega) (hrs.mono hb))
          rw [hr] at HV
          have hrl : r < 18446744073709551616 := by rw [← hr]; exact leB8_lt (by rw [List.length_take]; omega)
          have hstep : stale BY run (k + 1) = (stale BY run k || decide (run < r)) := by rw [← hr, ← hs]; rfl
          have HSTEP := Lib.hid hstep
          have HK : Hid (∀ w', Below W4.heap.size W4 w' → w'.cell? ⟨x, 0, none⟩ = some (.slice (some ⟨sb, so, none⟩) m cp) ∧ w'.cell? ⟨g + 2, 0, none⟩ = some (.pointer (some ⟨g + 1, 0, none⟩)) ∧ w'.cell? ⟨g + 1, 3, none⟩ = some (.int .u64 (run : Int))) := fun w' hb =>
            ⟨(RowAt.below HX4.out hb).cell 0, (HI4.out.later hb).ptr.cell 0, (HI4.out.later hb).row.cell 3⟩
          clear hs hsl hrs hr hstep ho HMM
          have hbd : Below W4.heap.size W4 wr.drew := drewN_below hbr 1
          have HBD := Lib.hid hbd
          have hk1 := HK.out _ hbd
          clear hbr hbd
          go_wp2
          go_region_held (fun w' => w'.cell? ⟨x, 0, none⟩ = some (.slice (some ⟨sb, so, none⟩) m cp) ∧ w'.cell? ⟨g + 2, 0, none⟩ = some (.pointer (some ⟨g + 1, 0, none⟩)) ∧ w'.cell? ⟨g + 1, 3, none⟩ = some (.int .u64 (run : Int))) (first | assumption) (first
            | (go_simp; go_at_call 72; refine (HV.out wr.drew HBD.out _).mono ?_; rintro e w5 ⟨rfl, hb5⟩; have HB5 := Lib.hid (HBD.out.trans (hb5.mono HBD.out.size)); have hk5 := HK.out _ HB5.out; clear hb5))
          by_cases c1 : run < r
          · have c1I : (run : Int) < (r : Int) := by omega
            have HLP := Lib.hid (lookP_stale (n := n) HRB.out HBYP.out (stale_mono (m := k + 1) (by rw [HSTEP.out]; simp [c1]) (by omega)))
            go_wp2
            rw [Exit.noGoto_ret]
            go_ret2
            rw [HLP.out]
            exact ⟨HI4.out.bel.trans (HB5.out.mono (Nat.le_of_lt HI4.out.box.lt)) |> fun h => by rw [hg]; exact h, rfl⟩
          · have c1I : ¬ (run : Int) < (r : Int) := by omega
            go_wp2
            refine ⟨⟨k + 1, o + 512, by omega, by have := HO.out; omega, rfl, HB5.out, ?_⟩, by simp [intOf]; omega⟩
            rw [HSTEP.out, HST.out]
            simp [c1]
        · have hkn2 : k = n - 2 := by omega
          subst hkn2
          have homI : ¬ (o : Int) < (m : Int) := by omega
          have HRD5 := Lib.hid (HRD4.out.mono hbr)
          have HST5 := HST
          obtain ⟨P, hP⟩ : ∃ P, parse BY n base run (n + 1) 0 base [] = P := ⟨_, rfl⟩
          have HLP := Lib.hid (lookP_good HRB.out HBYP.out hr0 HST.out)
          rw [hP] at HLP
          have hg1 : g + 1 < wr.heap.size := HI5.out.row.lt
          have HSEC := Lib.hid (fun (w' : World) (hk : KeepA (fun y => y = g + 1) wr w') (allv : Value) (used : Nat) (hrow : LgRow w' (g + 1) b from_ n run base allv used false) (i : Nat) (hi : i ≤ 100000) =>
            sector_any w' g x (g + 2) (g + 1) n i sb so cp BY run base (hk.cell (HI5.out.box.cell 0) (by show ¬ g = g + 1; omega)) (by rw [HM.out]; exact hk.cell (HX5.out.cell 0) (by show ¬ x = g + 1; omega)) (hk.cell (HI5.out.ptr.cell 0) (by show ¬ g + 2 = g + 1; omega))
              (hrow.cell 3) (hrow.cell 4) (by omega) (by omega) hi (by rw [HM.out]; exact hBl) (by rw [HM.out]; exact hcp) (Rd.keepA HRD5.out hk (fun bb off he _ e => by cases he; omega)))
          have HEND : Hid (∀ (w' : World) (allv : Value) (used : Nat) (bs : List (List UInt8)), LInv wr w' g b from_ n run base allv used bs → (used, bs) = P → LookPost w b from_ n (lookP L from_ n) (.returned (.tuple #[.pointer (some ⟨g + 1, 0, none⟩), .int .i64 0])) w') := fun w' allv used bs h hp => by
            rw [HLP.out, ← hp]
            refine ⟨?_, g + 1, allv, rfl, by rw [hg]; omega, h.row, h.bats.down (by have := HI5.out.ptr.lt; omega)⟩
            rw [hg]
            exact HI5.out.bel.trans (h.keep.below (by omega) (fun k e => by omega))
          have HLI : Hid (LInv wr wr g b from_ n run base (.slice none 0 0) 0 []) := ⟨KeepA.refl _ _, HI5.out.row, Bats.nil _ _⟩
          have HPT : Hid (∀ w', KeepA (fun y => y = g + 1) wr w' → w'.cell? ⟨g + 2, 0, none⟩ = some (.pointer (some ⟨g + 1, 0, none⟩))) := fun w' hk => hk.cell (HI5.out.ptr.cell 0) (by show ¬ g + 2 = g + 1; omega)
          have HP := Lib.hid hP
          have p4 := HI5.out.row.cell 4
          have hbase64 := HLT.out.2
          simp only [List.getElem?_toArray, List.getElem?_cons_zero, List.getElem?_cons_succ] at p4
          clear HX4 HI4 HRD4 hbr hP HST HMM
          rename World => W5
          go_wp2
          go_step3
          go_wp2
          go_loopw [19] (fun i w' => ∃ (used least : Nat) (bs : List (List UInt8)) (allv : Value) (f : Nat), used ≤ n - 2 ∧ i = .int .u64 (least : Int) ∧ least < 18446744073709551616 ∧ n < used + f ∧ parse BY n base run f used least bs = P ∧ LInv W5 w' g b from_ n run base allv used bs ∧ bs.length ≤ used) (fun _ w' => n - (intOf ((w'.cell? ⟨g + 1, 6, none⟩).getD undef)).toNat)
          case atStart => exact ⟨0, base, [], _, n + 1, by omega, rfl, hbase64, by omega, HP.out, HLI.out, by simp⟩
          case round =>
            clear HLI
            obtain ⟨used, least, bs, allv, f, hu, rfl, hl64, hf, hparse, hli, hbs⟩ := hrel
            have HL := Lib.hid hli
            have p0 := HPT.out _ hli.keep
            have p6 := hli.row.cell 6
            simp only [List.getElem?_toArray, List.getElem?_cons_zero, List.getElem?_cons_succ] at p6
            have HSU := Lib.hid (HSEC.out wr hli.keep allv used hli.row used (by omega))
            have HPA := Lib.hid hparse
            obtain ⟨f, rfl⟩ : ∃ f', f = f' + 1 := ⟨f - 1, by omega⟩
            clear hli hparse
            go_wp2_with fail
            refine HSU.out.mono ?_
            rintro _ w6 ⟨⟨a, m6, c6, r, ok, rfl, hr64, hok, hdat⟩, hb6⟩
            have HL6 := Lib.hid (HL.out.later hb6)
            have HB6 := Lib.hid hb6
            have HOK := Lib.hid hok
            have HDAT := Lib.hid hdat
            have p0 := HPT.out _ HL6.out.keep
            clear hb6 hok hdat
            cases ok with
            | false =>
              go_wp2
              rw [Exit.noGoto_ret]
              go_ret2
              exact HEND.out _ _ _ _ HL6.out (by rw [← HPA.out, parse_stop (.inl HOK.out.symm)])
            | true =>
              obtain ⟨hr, hm6, hrd, hc6⟩ := HDAT.out rfl
              subst hm6
              have HRR := Lib.hid hr
              by_cases c1 : r < least
              · have c1I : (r : Int) < (least : Int) := by omega
                clear hr hrd
                go_wp2
                rw [Exit.noGoto_ret]
                go_ret2
                exact HEND.out _ _ _ _ HL6.out (by rw [← HPA.out, parse_stop (.inr (by rw [← HRR.out]; exact c1))])
              · have c1I : ¬ (r : Int) < (least : Int) := by omega
                have hdl : (dataOf BY used).length = 488 := by
                  have := HOK.out.symm
                  simp only [Bool.and_eq_true, decide_eq_true_eq] at this
                  have hmm := HM.out
                  unfold dataOf
                  rw [List.length_take, List.length_drop, sec_len (by omega)]
                  rfl
                obtain ⟨ab, ao, rfl, -, -⟩ := hrd.at (by omega)
                have HV := Lib.hid (fun (w' : World) (hb : Below w6.heap.size w6 w') (c : Nat) => value_any w' (some ⟨ab, ao, none⟩) ((dataOf BY used).take 4) 4 c (by rw [List.length_take]; omega) (by omega) (by have := (hrd.mono hb).sub 0 4; simpa using this))
                obtain ⟨y, hy⟩ : ∃ y, leB ((dataOf BY used).take 4) = y := ⟨_, rfl⟩
                have hy32 : y < 4294967296 := by
                  rw [← hy]
                  exact Nat.lt_of_lt_of_le (leB_lt _) (Nat.le_trans (Nat.pow_le_pow_right (by omega) (show ((dataOf BY used).take 4).length ≤ 4 by rw [List.length_take]; omega)) (by decide))
                obtain ⟨lg, hlg⟩ : ∃ z, y + 4 = z := ⟨_, rfl⟩
                have hlong : longOf BY used = lg := by unfold longOf; rw [hy, hlg]
                have HLONG := Lib.hid hlong
                rw [hy] at HV
                have hyw : IntKind.i64.wrap (y : Int) = (y : Int) := IntWalk.i64_in _ (by omega)
                have hyw4 : IntKind.i64.wrap ((y : Int) + 4) = (lg : Int) := by rw [IntWalk.i64_in _ (by omega)]; omega
                have hc64 : (4 : Int) ≤ (c6 : Int) := by omega
                clear hr hrd hy hdl hlong
                go_wp2_with fail
                refine (HV.out w6 (Below.refl _ _) _).mono ?_
                rintro _ W7 ⟨rfl, hb7⟩
                have HL7 := Lib.hid (HL6.out.later hb7)
                have HB7 := Lib.hid (below_trans HB6.out hb7)
                have p0 := HPT.out _ HL7.out.keep
                have p6 := HL7.out.row.cell 6
                simp only [List.getElem?_toArray, List.getElem?_cons_zero, List.getElem?_cons_succ] at p6
                clear hb7
                go_wp2
                obtain ⟨C, hC⟩ : ∃ C, coll BY n base run r lg (n - used) used [] = C := ⟨_, rfl⟩
                have HC0 := Lib.hid hC
                clear hC
                go_loopw [24, 25] (fun v i w' => ∃ (j : Nat) (acc : List UInt8), used ≤ j ∧ j ≤ n - 2 ∧ i = .int .i64 (j : Int) ∧ OwnB w' W7.heap.size 5 v acc ∧ Below W7.heap.size W7 w' ∧ acc.length = (j - used) * 488 ∧ coll BY n base run r lg (n - j) j acc = C) (fun _ i _ => n - (intOf i).toNat)
                case atStart => exact ⟨used, [], by omega, hu, rfl, OwnB.nil _ _ _, Below.refl _ _, by simp, HC0.out⟩
                case round =>
                  obtain ⟨j, acc, huj, hjn, rfl, hown, hbr, hacc, hcoll⟩ := hrel
                  have HOWN := Lib.hid hown
                  have HBR := Lib.hid hbr
                  have HCO := Lib.hid hcoll
                  have HACC := Lib.hid hacc
                  obtain ⟨av, cv, rfl, hcv, hrv⟩ := hown.rd
                  obtain ⟨la, hla⟩ : ∃ z, acc.length = z := ⟨_, rfl⟩
                  have HLA := Lib.hid hla
                  rw [hla] at hcv hacc HOWN ⊢
                  have HL8 := Lib.hid (HL7.out.later hbr)
                  have p0 := HPT.out _ HL8.out.keep
                  clear hown hbr hcoll hla
                  by_cases hlg2 : la < lg
                  · have hlgI : (la : Int) < (lg : Int) := by omega
                    have HSJ := Lib.hid (HSEC.out wr HL8.out.keep allv used HL8.out.row j (by omega))
                    clear hrv
                    go_wp2_with fail
                    refine HSJ.out.mono ?_
                    rintro _ w9 ⟨⟨a9, m9, c9, r9, ok9, rfl, hr964, hok9, hdat9⟩, hb9⟩
                    have HL9 := Lib.hid (HL8.out.later hb9)
                    have HB9 := Lib.hid hb9
                    have HOK9 := Lib.hid hok9
                    have HDAT9 := Lib.hid hdat9
                    have p0 := HPT.out _ HL9.out.keep
                    clear hb9 hok9 hdat9
                    cases ok9 with
                    | false =>
                      have HCN : Hid (C = none) := by rw [← HCO.out]; exact coll_no (by rw [HLA.out]; omega) (.inl HOK9.out.symm)
                      go_wp2
                      rw [Exit.noGoto_ret]
                      go_ret2
                      exact HEND.out _ _ _ _ HL9.out (by rw [← HPA.out, parse_cut (by rw [← HRR.out, HLONG.out, HC0.out, HCN.out])])
                    | true =>
                      obtain ⟨hr9, hm9, hrd9, hc9⟩ := HDAT9.out rfl
                      subst hm9
                      by_cases c2 : r9 = r
                      rotate_left
                      · have c2I : ¬ (r9 : Int) = (r : Int) := by omega
                        have HCN : Hid (C = none) := by rw [← HCO.out]; exact coll_no (by rw [HLA.out]; omega) (.inr (by rw [← hr9]; exact c2))
                        clear hr9 hrd9
                        go_wp2
                        rw [Exit.noGoto_ret]
                        go_ret2
                        exact HEND.out _ _ _ _ HL9.out (by rw [← HPA.out, parse_cut (by rw [← HRR.out, HLONG.out, HC0.out, HCN.out])])
                      subst c2
                      have hok9 := HOK9.out.symm
                      simp only [Bool.and_eq_true, decide_eq_true_eq] at hok9
                      have hjn2 := hok9.1
                      have hmm := HM.out
                      have hdl9 : (dataOf BY j).length = 488 := by
                        unfold dataOf
                        rw [List.length_take, List.length_drop, sec_len (by omega)]
                        rfl
                      have HRD9 := Lib.hid hrd9
                      have HR9 := Lib.hid hr9
                      have HDL9 := Lib.hid hdl9
                      have hfn : n - j = (n - (j + 1)) + 1 := by omega
                      have HCO2 : Hid (coll BY n base run r9 lg (n - (j + 1)) (j + 1) (acc ++ dataOf BY j) = C) := by
                        have h := HCO.out
                        rw [hfn, coll_yes (by rw [HLA.out]; omega) HOK9.out.symm HR9.out.symm] at h
                        exact h
                      have HO9 : Hid (OwnB w9 W7.heap.size 5 (.slice av la cv) acc) := HOWN.out.kept HB9.out (Nat.le_refl _)
                      have HB79 := Lib.hid (HBR.out.trans (HB9.out.mono HBR.out.size))
                      have hla2 : la ≤ 32000000 := by rw [hacc]; omega
                      clear hok9 hr9 hrd9 hdl9 hfn hacc hmm
                      go_wp2_with (at_builtin; refine step_appendB rfl (.tmp 181) (.tmp 182) rfl eltB W7.heap.size _ acc rfl _ _ _ (dataOf BY j) rfl HO9.out HDL9.out.symm HRD9.out (by rw [HLA.out, HDL9.out]; omega) HB79.out.size ?_; intro v10 w10 h1 h2; have HO10 := Lib.hid h1; have HB10 := Lib.hid (HB79.out.trans h2); clear h1 h2)
                      refine ⟨⟨j + 1, acc ++ dataOf BY j, by omega, by omega, by go_num, HO10.out, HB10.out, ?_, HCO2.out⟩, by simp [intOf]; omega⟩
                      rw [List.length_append, HACC.out, HDL9.out]
                      omega
                  · have hlgI : ¬ (la : Int) < (lg : Int) := by omega
                    have HCS : Hid (C = some (acc, j)) := by rw [← HCO.out]; exact coll_end (by rw [HLA.out]; omega)
                    have huj2 : used < j := by omega
                    obtain ⟨ob, oo, rfl, -, -⟩ := hrv.at (by rw [HLA.out]; omega)
                    have hob := World.ownsRow.lt HOWN.out ob rfl
                    have hlg4 : (4 : Int) ≤ (lg : Int) := by omega
                    have hlgc : (lg : Int) ≤ (cv : Int) := by omega
                    have hcv4 : ¬ cv = 4 := by omega
                    have hlgc2 : lg ≤ cv := by omega
                    have hlg42 : 4 ≤ lg := by omega
                    have HRV := Lib.hid hrv
                    have HB8d := Lib.hid (show Below wr.heap.size wr wr.drew from drewN_below (Below.refl _ wr) 1)
                    have HL8d := Lib.hid (HL8.out.later HB8d.out)
                    have q0 := HPT.out _ HL8d.out.keep
                    have q5 := HL8d.out.row.cell 5
                    simp only [List.getElem?_toArray, List.getElem?_cons_zero, List.getElem?_cons_succ] at q5
                    have hWs : W5.heap.size ≤ W7.heap.size := HL7.out.keep.size
                    have hg2 : g + 2 < W5.heap.size := HI5.out.ptr.lt
                    clear hrv hacc p6
                    obtain ⟨W9, hW9⟩ : ∃ y, (wr.alloc (.cells #[.slice (some ⟨ob, oo + 4, none⟩) (lg - 4) (cv - 4)] 22)).drew = y := ⟨_, rfl⟩
                    have hb9 : Below wr.heap.size wr W9 := by rw [← hW9]; exact drewN_below (below_alloc _) 1
                    have HR9 : Hid (RowAt W9 wr.heap.size 22 #[.slice (some ⟨ob, oo + 4, none⟩) (lg - 4) (cv - 4)]) := by rw [← hW9]; exact RowAt.new wr _ _
                    have HB9 := Lib.hid hb9
                    obtain ⟨l4, hl4⟩ : ∃ z, (acc.take lg).drop 4 = z := ⟨_, rfl⟩
                    have hl4l : l4.length = lg - 4 := by rw [← hl4, List.length_drop, List.length_take, HLA.out]; omega
                    have HRL : Hid (RdB W9 (some ⟨ob, oo + 4, none⟩) l4) := by
                      have h := (HRV.out.mono hb9).sub 4 (lg - 4)
                      rw [← hl4, List.drop_take]
                      exact h
                    have HL4 := Lib.hid hl4
                    have HL4L := Lib.hid hl4l
                    have q9 := HPT.out _ (HL8.out.later hb9).keep
                    have HHA : Hid (∀ ad, (some (⟨ob, oo + 4, none⟩ : Addr)) = some ad → W5.heap.size ≤ ad.block ∧ ad.block < W9.heap.size ∧ allv.ownBlock ≠ some ad.block) := fun ad he => by
                      cases he
                      refine ⟨by show _ ≤ ob; omega, by have := hb9.size; show ob < _; omega, fun e => ?_⟩
                      have h1 : ob < W7.heap.size := (HL7.out.bats.lt _ e).2
                      omega
                    have hW9s : W5.heap.size ≤ W9.heap.size := (HL8.out.later hb9).keep.size
                    clear hb9 hl4 hl4l
                    go_wp2
                    refine wp_region_held_drew (S := fun w' => w'.cell? ⟨g + 2, 0, none⟩ = some (.pointer (some ⟨g + 1, 0, none⟩))) (by kernel_rfl) q0 (fun hHeld => ?_)
                    refine wpAnyH_take (i := 0) (v := ?_) rfl (by kernel_rfl) (by kernel_rfl) (by kernel_rfl) (fun _ _ _ h => h) (Or.inl ⟨by rfl, ?_⟩) hHeld ?_
                    rotate_left
                    · intro w' hS'
                      (try dsimp only at hS')
                      go_simp
                      try with_reducible rfl
                    try simp only [List.getElem_toArray, List.getElem_cons_succ, List.getElem_cons_zero, Act.put, List.setIfInBounds_toArray, List.set_cons_zero, List.set_cons_succ]
                    refine wpAnyH_take (i := 1) (v := ?_) rfl (by kernel_rfl) (by kernel_rfl) (by kernel_rfl) (fun _ _ _ h => h) (Or.inl ⟨by rfl, ?_⟩) hHeld ?_
                    rotate_left
                    · intro w' hS'
                      (try dsimp only at hS')
                      go_simp
                      try with_reducible rfl
                    try simp only [List.getElem_toArray, List.getElem_cons_succ, List.getElem_cons_zero, Act.put, List.setIfInBounds_toArray, List.set_cons_zero, List.set_cons_succ]
                    refine wpAnyH_take (i := 2) (v := ?_) rfl (by kernel_rfl) (by kernel_rfl) (by kernel_rfl) (fun _ _ _ h => h) (Or.inl ⟨by rfl, ?_⟩) hHeld ?_
                    rotate_left
                    · intro w' hS'
                      (try dsimp only at hS')
                      go_simp
                      try with_reducible rfl
                    try simp only [List.getElem_toArray, List.getElem_cons_succ, List.getElem_cons_zero, Act.put, List.setIfInBounds_toArray, List.set_cons_zero, List.set_cons_succ]
                    refine wpAnyH_take (i := 3) (v := ?_) rfl (by kernel_rfl) (by kernel_rfl) (by kernel_rfl) (fun _ _ _ h => h) (Or.inl ⟨by rfl, ?_⟩) hHeld ?_
                    rotate_left
                    · intro w' hS'
                      (try dsimp only at hS')
                      go_simp
                      try with_reducible rfl
                    try simp only [List.getElem_toArray, List.getElem_cons_succ, List.getElem_cons_zero, Act.put, List.setIfInBounds_toArray, List.set_cons_zero, List.set_cons_succ]
                    refine wpAnyH_take (i := 5) (v := ?_) rfl (by kernel_rfl) (by kernel_rfl) (by kernel_rfl) (fun _ _ _ h => h) (Or.inl ⟨by rfl, ?_⟩) hHeld ?_
                    rotate_left
                    · intro w' hS'
                      (try dsimp only at hS')
                      go_simp
                      try with_reducible rfl
                    try simp only [List.getElem_toArray, List.getElem_cons_succ, List.getElem_cons_zero, Act.put, List.setIfInBounds_toArray, List.set_cons_zero, List.set_cons_succ]
                    refine wpAnyH_take (i := 6) (v := ?_) rfl (by kernel_rfl) (by kernel_rfl) (by kernel_rfl) (fun _ _ _ h => h) (Or.inl ⟨by rfl, ?_⟩) hHeld ?_
                    rotate_left
                    · intro w' hS'
                      (try dsimp only at hS')
                      go_simp
                      try with_reducible rfl
                    try simp only [List.getElem_toArray, List.getElem_cons_succ, List.getElem_cons_zero, Act.put, List.setIfInBounds_toArray, List.set_cons_zero, List.set_cons_succ]
                    refine wpAnyH_take (i := 7) (v := ?_) rfl (by kernel_rfl) (by kernel_rfl) (by kernel_rfl) (fun _ _ _ h => h) (Or.inl ⟨by rfl, ?_⟩) hHeld ?_
                    rotate_left
                    · intro w' hS'
                      (try dsimp only at hS')
                      go_simp
                      try with_reducible rfl
                    try simp only [List.getElem_toArray, List.getElem_cons_succ, List.getElem_cons_zero, Act.put, List.setIfInBounds_toArray, List.set_cons_zero, List.set_cons_succ]
                    refine wpAnyH_ready (rs := [4, 8]) (by kernel_rfl) (by simp) (AllReadyH.cons rfl (fun K hK => ?_) (AllReadyH.cons rfl (fun K hK => ?_) AllReadyH.nil))
                    · go_simp
                      refine hK.out _ _ q0 (fun hHeld => ?_)
                      try simp only [List.getElem_toArray, List.getElem_cons_succ, List.getElem_cons_zero, Act.put, List.setIfInBounds_toArray, List.set_cons_zero, List.set_cons_succ]
                      clear hK K
                      refine wpAnyH_ready (rs := [8]) (by kernel_rfl) (by simp) (AllReadyH.cons rfl (fun K hK => ?_) AllReadyH.nil)
                      go_simp
                      try rw [hW9]
                      refine hK.out _ _ q9 (fun hHeld => ?_)
                      try simp only [List.getElem_toArray, List.getElem_cons_succ, List.getElem_cons_zero, Act.put, List.setIfInBounds_toArray, List.set_cons_zero, List.set_cons_succ]
                      clear hK K
                      refine wpAnyH_ready (rs := [9]) (by kernel_rfl) (by simp) (AllReadyH.cons rfl (fun K hK => ?_) AllReadyH.nil)
                      rw [if_pos (by rfl)]
                      refine wp_pushV (.tmp 188) (.tmp 192) rfl W5.heap.size allv bs rfl wr.heap.size (some ⟨ob, oo + 4, none⟩) l4 (cv - 4) rfl (HL8.out.later HB9.out).bats (by rw [HL4L.out]; exact HR9.out) HRL.out HHA.out (by omega) hW9s ?_
                      intro v10 w10 k1 k2 k3
                      obtain ⟨va, vn, vc, rfl⟩ := k1.sl
                      have hkp := HL8.out.grownK HB9.out k2
                      have hr10 := HL8.out.grown (by omega) HB9.out k2
                      have HF := Lib.hid (HL8.out.push (by omega) HB9.out k2 k1 j)
                      have q10 := HPT.out _ hkp
                      have q5 := hr10.cell 5
                      have z5 := hr10.frozen 5
                      have hr11 := hr10.set 5 (.slice va vn vc)
                      have q11 : (w10.setCell ⟨g + 1, 5, none⟩ (.slice va vn vc)).cell? ⟨g + 2, 0, none⟩ = some (.pointer (some ⟨g + 1, 0, none⟩)) := HPT.out _ (hkp.setCell (a := ⟨g + 1, 5, none⟩) (X := fun y => y = g + 1) rfl)
                      have q6 := hr11.cell 6
                      have z6 := hr11.frozen 6
                      simp only [List.getElem?_toArray, List.getElem?_cons_zero, List.getElem?_cons_succ] at q5
                      have q6' : (w10.setCell ⟨g + 1, 5, none⟩ (.slice va vn vc)).cell? ⟨g + 1, 6, none⟩ = some (.int .i64 (used : Int)) := q6
                      clear q6 hr10 hr11 hkp k1 k2 k3
                      refine hK.out _ _ q10 (fun hHeld => ?_)
                      try simp only [List.getElem_toArray, List.getElem_cons_succ, List.getElem_cons_zero, Act.put, List.setIfInBounds_toArray, List.set_cons_zero, List.set_cons_succ]
                      clear hK K
                      refine wpAnyH_take (i := 10) (v := ?_) rfl (by kernel_rfl) (by kernel_rfl) (by kernel_rfl) (fun _ _ _ h => h) (Or.inl ⟨by rfl, ?_⟩) hHeld ?_
                      rotate_left
                      · intro w' hS'
                        (try dsimp only at hS')
                        go_simp
                        try with_reducible rfl
                      try simp only [List.getElem_toArray, List.getElem_cons_succ, List.getElem_cons_zero, Act.put, List.setIfInBounds_toArray, List.set_cons_zero, List.set_cons_succ]
                      refine wpAnyH_take (i := 11) (v := ?_) rfl (by kernel_rfl) (by kernel_rfl) (by kernel_rfl) (fun _ _ _ h => h) (Or.inl ⟨by rfl, ?_⟩) hHeld ?_
                      rotate_left
                      · intro w' hS'
                        (try dsimp only at hS')
                        go_simp
                        try with_reducible rfl
                      try simp only [List.getElem_toArray, List.getElem_cons_succ, List.getElem_cons_zero, Act.put, List.setIfInBounds_toArray, List.set_cons_zero, List.set_cons_succ]
                      refine wpAnyH_ready (rs := [12]) (by kernel_rfl) (by simp) (AllReadyH.cons rfl (fun K hK => ?_) AllReadyH.nil)
                      go_simp
                      refine hK.out _ _ q11 (fun hHeld => ?_)
                      try simp only [List.getElem_toArray, List.getElem_cons_succ, List.getElem_cons_zero, Act.put, List.setIfInBounds_toArray, List.set_cons_zero, List.set_cons_succ]
                      clear hK K
                      refine wpAnyH_done (by kernel_rfl) ?_ _
                      go_wp2
                      refine ⟨⟨j, r, bs ++ [l4], _, f, by omega, rfl, hr64, by omega, ?_, HF.out, by rw [List.length_append, List.length_singleton]; omega⟩, ?_⟩
                      · rw [← HPA.out, parse_more HOK.out.symm (by rw [← HRR.out]; omega) (by rw [← HRR.out, HLONG.out, HC0.out, HCS.out]), ← HRR.out, HLONG.out, HL4.out]
                      · have e1 := HL.out.row.cell 6
                        have e2 := HF.out.row.cell 6
                        simp only [List.getElem?_toArray, List.getElem?_cons_zero, List.getElem?_cons_succ] at e1 e2
                        rw [e1, e2]
                        simp [intOf]
                        omega
                    · go_simp
                      try rw [hW9]
                      have q59 := (HL8.out.later HB9.out).row.cell 5
                      simp only [List.getElem?_toArray, List.getElem?_cons_zero, List.getElem?_cons_succ] at q59
                      refine hK.out _ _ q9 (fun hHeld => ?_)
                      try simp only [List.getElem_toArray, List.getElem_cons_succ, List.getElem_cons_zero, Act.put, List.setIfInBounds_toArray, List.set_cons_zero, List.set_cons_succ]
                      clear hK K
                      refine wpAnyH_ready (rs := [4]) (by kernel_rfl) (by simp) (AllReadyH.cons rfl (fun K hK => ?_) AllReadyH.nil)
                      go_simp
                      refine hK.out _ _ q9 (fun hHeld => ?_)
                      try simp only [List.getElem_toArray, List.getElem_cons_succ, List.getElem_cons_zero, Act.put, List.setIfInBounds_toArray, List.set_cons_zero, List.set_cons_succ]
                      clear hK K
                      refine wpAnyH_ready (rs := [9]) (by kernel_rfl) (by simp) (AllReadyH.cons rfl (fun K hK => ?_) AllReadyH.nil)
                      rw [if_pos (by rfl)]
                      refine wp_pushV (.tmp 188) (.tmp 192) rfl W5.heap.size allv bs rfl wr.heap.size (some ⟨ob, oo + 4, none⟩) l4 (cv - 4) rfl (HL8.out.later HB9.out).bats (by rw [HL4L.out]; exact HR9.out) HRL.out HHA.out (by omega) hW9s ?_
                      intro v10 w10 k1 k2 k3
                      obtain ⟨va, vn, vc, rfl⟩ := k1.sl
                      have hkp := HL8.out.grownK HB9.out k2
                      have hr10 := HL8.out.grown (by omega) HB9.out k2
                      have HF := Lib.hid (HL8.out.push (by omega) HB9.out k2 k1 j)
                      have q10 := HPT.out _ hkp
                      have q5 := hr10.cell 5
                      have z5 := hr10.frozen 5
                      have hr11 := hr10.set 5 (.slice va vn vc)
                      have q11 : (w10.setCell ⟨g + 1, 5, none⟩ (.slice va vn vc)).cell? ⟨g + 2, 0, none⟩ = some (.pointer (some ⟨g + 1, 0, none⟩)) := HPT.out _ (hkp.setCell (a := ⟨g + 1, 5, none⟩) (X := fun y => y = g + 1) rfl)
                      have q6 := hr11.cell 6
                      have z6 := hr11.frozen 6
                      simp only [List.getElem?_toArray, List.getElem?_cons_zero, List.getElem?_cons_succ] at q5
                      have q6' : (w10.setCell ⟨g + 1, 5, none⟩ (.slice va vn vc)).cell? ⟨g + 1, 6, none⟩ = some (.int .i64 (used : Int)) := q6
                      clear q6 hr10 hr11 hkp k1 k2 k3
                      refine hK.out _ _ q10 (fun hHeld => ?_)
                      try simp only [List.getElem_toArray, List.getElem_cons_succ, List.getElem_cons_zero, Act.put, List.setIfInBounds_toArray, List.set_cons_zero, List.set_cons_succ]
                      clear hK K
                      refine wpAnyH_take (i := 10) (v := ?_) rfl (by kernel_rfl) (by kernel_rfl) (by kernel_rfl) (fun _ _ _ h => h) (Or.inl ⟨by rfl, ?_⟩) hHeld ?_
                      rotate_left
                      · intro w' hS'
                        (try dsimp only at hS')
                        go_simp
                        try with_reducible rfl
                      try simp only [List.getElem_toArray, List.getElem_cons_succ, List.getElem_cons_zero, Act.put, List.setIfInBounds_toArray, List.set_cons_zero, List.set_cons_succ]
                      refine wpAnyH_take (i := 11) (v := ?_) rfl (by kernel_rfl) (by kernel_rfl) (by kernel_rfl) (fun _ _ _ h => h) (Or.inl ⟨by rfl, ?_⟩) hHeld ?_
                      rotate_left
                      · intro w' hS'
                        (try dsimp only at hS')
                        go_simp
                        try with_reducible rfl
                      try simp only [List.getElem_toArray, List.getElem_cons_succ, List.getElem_cons_zero, Act.put, List.setIfInBounds_toArray, List.set_cons_zero, List.set_cons_succ]
                      refine wpAnyH_ready (rs := [12]) (by kernel_rfl) (by simp) (AllReadyH.cons rfl (fun K hK => ?_) AllReadyH.nil)
                      go_simp
                      refine hK.out _ _ q11 (fun hHeld => ?_)
                      try simp only [List.getElem_toArray, List.getElem_cons_succ, List.getElem_cons_zero, Act.put, List.setIfInBounds_toArray, List.set_cons_zero, List.set_cons_succ]
                      clear hK K
                      refine wpAnyH_done (by kernel_rfl) ?_ _
                      go_wp2
                      refine ⟨⟨j, r, bs ++ [l4], _, f, by omega, rfl, hr64, by omega, ?_, HF.out, by rw [List.length_append, List.length_singleton]; omega⟩, ?_⟩
                      · rw [← HPA.out, parse_more HOK.out.symm (by rw [← HRR.out]; omega) (by rw [← HRR.out, HLONG.out, HC0.out, HCS.out]), ← HRR.out, HLONG.out, HL4.out]
                      · have e1 := HL.out.row.cell 6
                        have e2 := HF.out.row.cell 6
                        simp only [List.getElem?_toArray, List.getElem?_cons_zero, List.getElem?_cons_succ] at e1 e2
                        rw [e1, e2]
                        simp [intOf]
                        omega
end Go.Proofs.Ytagipfkgnobjlaa
namespace Go.Proofs.Ytagipfkgnobjlaa
open Go.RowKit

theorem step_pushV {ops : Array Oper} {rest : List Oper} {o : Oper} {act : Act} {Q : Exit → Act → World → Prop} {w : World} (hgd : o.guard = none) (s x : Operand)
    (ho : o.op = .call { callee := .builtin .append, args := #[s, x], argTypes := #[94, 94] }) (base : Nat)
    (v : Value) (bs : List (List UInt8)) (hv : act.eval s = v) (g : Nat) (a : Option Addr) (l : List UInt8) (c : Nat) (hx : act.eval x = .slice (some ⟨g, 0, none⟩) 1 1)
    (hB : Bats w base v bs) (hg : RowAt w g 22 #[.slice a l.length c]) (hr : RdB w a l) (ha : ∀ ad, a = some ad → base ≤ ad.block ∧ ad.block < w.heap.size ∧ v.ownBlock ≠ some ad.block) (hsz : bs.length ≤ 1000000) (hbase : base ≤ w.heap.size)
    (h : ∀ v' w', Bats w' base v' (bs ++ [l]) → w.grownBy w' v.ownBlock → NewRow w v v' → wpList Try.prog ops Q rest (act.put o.dst v') w') : wpList Try.prog ops Q (o :: rest) act w :=
  wpList_plain hgd fun _ hK => wp_pushV s x ho base v bs hv g a l c hx hB hg hr ha hsz hbase fun v' w' q1 q2 q3 => hK _ _ (h v' w' q1 q2 q3)
theorem Bats.at {w : World} {base : Nat} {v : Value} {bs : List (List UInt8)} (h : Bats w base v bs) : ∃ a cp, v = .slice a bs.length cp ∧ bs.length ≤ cp ∧ ∀ j (hj : j < bs.length), ∃ hb ho xa xc, a = some ⟨hb, ho, none⟩ ∧ hb < w.heap.size ∧ w.cell? ⟨hb, ho + j, none⟩ = some (.slice xa bs[j].length xc) ∧ RdB w xa bs[j] := by
  obtain ⟨xs, h1, h2, h3⟩ := h
  obtain ⟨a, cp, hv, hcp, hrd⟩ := Rd.of_own h2
  subst h1
  refine ⟨a, cp, by rw [List.length_map]; exact hv, by rw [List.length_map]; exact hcp, fun j hj0 => ?_⟩
  have hj : j < xs.length := by simpa using hj0
  rcases hrd with h | ⟨hb, ho, ha, hlt, hc⟩
  · have : xs.length = 0 := by have := congrArg List.length h; simpa using this
    omega
  · have hx := hc j (by simpa using hj)
    refine ⟨hb, ho, (xs[j]).1, (xs[j]).2.1, ha, hlt, ?_, ?_⟩
    · rw [hx]
      simp
    · have := (h3 xs[j] (List.getElem_mem hj)).1
      simpa using this
set_option maxRecDepth 100000 in
set_option maxHeartbeats 2000000 in
theorem copied_any (w : World) (base : Nat) (v : Value) (bs : List (List UInt8)) (h : Bats w base v bs) (hn : bs.length ≤ 1000000) (hs : ∀ b ∈ bs, b.length ≤ 100000000) :
    Calls Try.prog 58 #[v] w fun e w' => (∃ v', e = .returned v' ∧ Bats w' w.heap.size v' bs) ∧ Below w.heap.size w w' := by
  obtain ⟨a, cp, rfl, hcp, hat⟩ := h.at
  have HAT := Lib.hid hat
  obtain ⟨m, hm⟩ : ∃ m, bs.length = m := ⟨_, rfl⟩
  rw [hm] at hcp hn ⊢
  have HM := Lib.hid hm
  clear h hat hm
  go_enter Try.func58, Try.ntmps58
  go_wp2
  go_loopw [3, 8] (fun v' i wr => ∃ j : Nat, j ≤ m ∧ i = .int .i64 (j : Int) ∧ Bats wr w.heap.size v' (bs.take j) ∧ Below w.heap.size w wr) (fun _ i _ => m - (intOf i).toNat)
  case atStart => exact ⟨0, by omega, rfl, Bats.nil _ _, Below.refl _ _⟩
  case round =>
    obtain ⟨j, hj, rfl, hB, hb⟩ := hrel
    have HB := Lib.hid hB
    have HBB := Lib.hid hb
    clear hB hb
    by_cases hjm : j < m
    · have hjI : (j : Int) < (m : Int) := by omega
      have hjl : j < bs.length := by rw [HM.out]; exact hjm
      obtain ⟨hbk, ho, xa, xc, rfl, hlt, hc, hr⟩ := HAT.out j hjl
      have hc1 := cell_later HBB.out hlt hc
      obtain ⟨l, hl⟩ : ∃ l, bs[j] = l := ⟨_, rfl⟩
      have hll : l.length ≤ 100000000 := by rw [← hl]; exact hs _ (List.getElem_mem hjl)
      rw [hl] at hc1 hr
      have HC := Lib.hid (clone_any xa l l.length xc wr rfl hll (hr.mono HBB.out))
      have htk : bs.take (j + 1) = bs.take j ++ [l] := by rw [← hl]; exact (List.take_append_getElem hjl).symm
      have HTK := Lib.hid htk
      obtain ⟨ll, hll2⟩ : ∃ z, l.length = z := ⟨_, rfl⟩
      have HLL := Lib.hid hll2
      rw [hll2] at hc1 HC
      clear hc hr hl htk hll2 hll
      go_wp2_with fail
      refine HC.out.mono ?_
      rintro _ w2 ⟨v2, rfl, ho2, hb2⟩
      obtain ⟨a2, c2, rfl, hc2, hr2⟩ := ho2.rd
      have HO2 := Lib.hid ho2
      have HR2 := Lib.hid hr2
      have HB2 := Lib.hid (HB.out.later hb2)
      have HBW := Lib.hid (HBB.out.trans (hb2.mono HBB.out.size))
      have HBS := Lib.hid hb2.size
      rw [HLL.out] at hc2 HO2 ⊢
      clear ho2 hr2 hb2
      obtain ⟨W3, hW3⟩ : ∃ y, w2.alloc (.cells #[.slice a2 ll c2] 22) = y := ⟨_, rfl⟩
      have hb3 : Below w2.heap.size w2 W3 := by rw [← hW3]; exact below_alloc _
      have HR3 : Hid (RowAt W3 w2.heap.size 22 #[.slice a2 l.length c2]) := by rw [← hW3, HLL.out]; exact RowAt.new _ _ _
      have HB3 := Lib.hid (HB2.out.later hb3)
      have HRD3 := Lib.hid (HR2.out.mono hb3)
      have HBW3 := Lib.hid (HBW.out.trans (hb3.mono HBW.out.size))
      have HHA : Hid (∀ ad, a2 = some ad → w.heap.size ≤ ad.block ∧ ad.block < W3.heap.size ∧ ∀ vv, Bats wr w.heap.size vv (bs.take j) → vv.ownBlock ≠ some ad.block) := fun ad he => by
        subst he
        have h1 := World.ownsRow.lt HO2.out ad.block rfl
        have h2 := HBB.out.size
        have h3 := hb3.size
        refine ⟨by omega, by omega, fun vv hv e => ?_⟩
        have := (hv.lt _ e).2
        omega
      have htl : (bs.take j).length ≤ 1000000 := by rw [List.length_take, HM.out]; omega
      have HTL := Lib.hid htl
      clear hb3 htl
      go_wp2_with (at_builtin; refine step_pushV rfl (.tmp 12) (.tmp 15) rfl w.heap.size _ (bs.take j) rfl w2.heap.size a2 l c2 rfl HB3.out HR3.out HRD3.out (fun ad he => ⟨(HHA.out ad he).1, (HHA.out ad he).2.1, (HHA.out ad he).2.2 _ HB.out⟩) HTL.out HBW3.out.size ?_; intro v4 w4 k1 k2 k3; have HB4 := Lib.hid k1; have HBW4 := Lib.hid (HBW3.out.trans (below_of_grown k2 HBW3.out.size (fun g hg => (HB3.out.lt g hg).1))); clear k1 k2 k3)
      refine ⟨⟨j + 1, by omega, by go_num, by rw [HTK.out]; exact HB4.out, HBW4.out⟩, by simp [intOf]; omega⟩
    · have hjm2 : j = m := by omega
      subst hjm2
      have hjI : ¬ (j : Int) < (j : Int) := by omega
      go_wp2
      go_ret
      refine ⟨⟨_, rfl, ?_⟩, HBB.out⟩
      have h := HB.out
      rw [List.take_of_length_le (by rw [HM.out]; omega)] at h
      exact h
end Go.Proofs.Ytagipfkgnobjlaa
namespace Go.Proofs.Ytagipfkgnobjlaa
open Go.RowKit

theorem results_tmp4 {fn : Func} {t u v x : Tmp} (h : fn.results = #[.tmp t, .tmp u, .tmp v, .tmp x]) (tmps : Array Value) (P : Program) (w : World) :
    (results fn tmps).run P w = .ok (.tuple #[tmps.getD t undef, tmps.getD u undef, tmps.getD v undef, tmps.getD x undef]) w := by
  simp [results, h]
theorem coll_len {BY : List UInt8} {n base run r long : Nat} : ∀ (f i : Nat) (acc : List UInt8) (a' : List UInt8) (i' : Nat), coll BY n base run r long f i acc = some (a', i') → a'.length ≤ acc.length + f * 488 ∧ i ≤ i' ∧ i' ≤ i + f
  | 0, i, acc, a', i', h => by
    unfold coll at h
    split at h
    · cases h
      omega
    · cases h
  | f + 1, i, acc, a', i', h => by
    unfold coll at h
    split at h
    · cases h
      omega
    · split at h
      · obtain ⟨h1, h2, h3⟩ := coll_len f (i + 1) _ a' i' h
        rw [List.length_append] at h1
        have : (dataOf BY i).length ≤ 488 := by unfold dataOf; rw [List.length_take]; omega
        exact ⟨by omega, by omega, by omega⟩
      · cases h
theorem parse_small {BY : List UInt8} {n base run : Nat} : ∀ (f used least : Nat) (bs : List (List UInt8)), (∀ b ∈ bs, b.length ≤ n * 488) → (∀ b ∈ (parse BY n base run f used least bs).2, b.length ≤ n * 488) ∧ (parse BY n base run f used least bs).2.length ≤ bs.length + f
  | 0, used, least, bs, h => by unfold parse; exact ⟨h, by simp⟩
  | f + 1, used, least, bs, h => by
    unfold parse
    split
    · split
      · exact ⟨h, by simp⟩
      · rename_i acc i hc
        obtain ⟨h1, h2, h3⟩ := coll_len _ _ _ _ _ hc
        have hl : ((acc.take (longOf BY used)).drop 4).length ≤ n * 488 := by
          rw [List.length_drop, List.length_take]
          have : (n - used) * 488 ≤ n * 488 := Nat.mul_le_mul_right _ (by omega)
          simp only [List.length_nil] at h1
          omega
        obtain ⟨h4, h5⟩ := parse_small f i (leB ((sec BY used).take 8)) (bs ++ [(acc.take (longOf BY used)).drop 4]) (fun b hb => by
          rcases List.mem_append.1 hb with hb | hb
          · exact h b hb
          · rw [List.mem_singleton.1 hb]; exact hl)
        refine ⟨h4, ?_⟩
        rw [List.length_append, List.length_singleton] at h5
        omega
    · exact ⟨h, by simp⟩
theorem headsP_small {L : Int → List UInt8} (from_ : Int) : ∀ k, (headsP L from_ k).1 < 4611686018427387904 ∧ (headsP L from_ k).2 ≤ (headsP L from_ k).1
  | 0 => by unfold headsP; exact ⟨by decide, by decide⟩
  | k + 1 => by
    unfold headsP hdStep
    split
    · rename_i h
      unfold hdOk at h
      simp only [Bool.and_eq_true, decide_eq_true_eq] at h
      exact ⟨h.2.1, h.2.2.2.2⟩
    · exact headsP_small from_ k
theorem lookP_small {L : Int → List UInt8} {from_ : Int} {n run base used : Nat} {bs : List (List UInt8)} (h : lookP L from_ n = some (run, base, used, bs)) (hn : n ≤ 65536) : (∀ b ∈ bs, b.length ≤ 100000000) ∧ bs.length ≤ 65537 ∧ run < 4611686018427387904 ∧ base ≤ run := by
  unfold lookP at h
  split at h
  · cases h
  · split at h
    · cases h
    · have h1 := parse_small (BY := bodyP L from_ n) (n := n) (base := (headsP L from_ 2).2) (run := (headsP L from_ 2).1) (n + 1) 0 (headsP L from_ 2).2 [] (fun b hb => by cases hb)
      have h2 := headsP_small (L := L) from_ 2
      obtain ⟨e1, e2⟩ := Prod.mk.inj (Option.some.inj h)
      obtain ⟨e2, e3⟩ := Prod.mk.inj e2
      rw [e3] at h1
      rw [e1, e2] at h2
      refine ⟨fun b hb => Nat.le_trans (h1.1 b hb) (by omega), ?_, h2⟩
      have := h1.2
      simp only [List.length_nil] at this
      omega
theorem LgRow.cells {w : World} {lb d : Nat} {from_ : Int} {n run base : Nat} {allv : Value} {used : Nat} {dead : Bool} (h : LgRow w lb d from_ n run base allv used dead) :
    w.cell? ⟨lb, 0, none⟩ = some (.pointer (some ⟨d, 0, none⟩)) ∧ w.cell? ⟨lb, 1, none⟩ = some (.int .i64 from_) ∧ w.cell? ⟨lb, 2, none⟩ = some (.int .i64 (n : Int)) ∧ w.cell? ⟨lb, 3, none⟩ = some (.int .u64 (run : Int)) ∧ w.cell? ⟨lb, 4, none⟩ = some (.int .u64 (base : Int)) ∧ w.cell? ⟨lb, 5, none⟩ = some allv ∧ w.cell? ⟨lb, 6, none⟩ = some (.int .i64 (used : Int)) ∧ w.cell? ⟨lb, 7, none⟩ = some (.bool dead) :=
  ⟨RowAt.cell h 0, RowAt.cell h 1, RowAt.cell h 2, RowAt.cell h 3, RowAt.cell h 4, RowAt.cell h 5, RowAt.cell h 6, RowAt.cell h 7⟩
set_option maxRecDepth 100000 in
theorem wnone_nil (w : World) : Calls Try.prog 56 #[.pointer none] w fun e w' => e = .returned (.bool true) ∧ w' = w := by
  go_enter Try.func56, Try.ntmps56
  go_wp2
  go_ret
  exact ⟨rfl, rfl⟩
set_option maxRecDepth 100000 in
theorem wnone_any (w : World) (lb d : Nat) (from_ : Int) (n run base : Nat) (allv : Value) (used : Nat) (dead : Bool) (h : LgRow w lb d from_ n run base allv used dead) :
    Calls Try.prog 56 #[.pointer (some ⟨lb, 0, none⟩)] w fun e w' => e = .returned (.bool false) ∧ w' = w := by
  have h0 := h.cells.1
  clear h
  go_enter Try.func56, Try.ntmps56
  go_wp2
  go_ret
  exact ⟨rfl, rfl⟩
def roomOf (n used : Nat) : Int := ((n : Int) - 2 - (used : Int)) * 488 - 4
set_option maxRecDepth 100000 in
theorem room_any (w : World) (lb d : Nat) (from_ : Int) (n run base : Nat) (allv : Value) (used : Nat) (dead : Bool) (h : LgRow w lb d from_ n run base allv used dead) (hn : n ≤ 65536) (hu : used ≤ 65536) :
    Calls Try.prog 67 #[.pointer (some ⟨lb, 0, none⟩)] w fun e w' => e = .returned (.int .i64 (roomOf n used)) ∧ Below w.heap.size w w' := by
  obtain ⟨-, -, h2, -, -, -, h6, -⟩ := h.cells
  have e1 : IntKind.i64.wrap ((n : Int) - 2) = (n : Int) - 2 := IntWalk.i64_in _ (by omega)
  have e2 : IntKind.i64.wrap ((n : Int) - 2 - (used : Int)) = (n : Int) - 2 - (used : Int) := IntWalk.i64_in _ (by omega)
  have e3 : IntKind.i64.wrap (((n : Int) - 2 - (used : Int)) * 488) = ((n : Int) - 2 - (used : Int)) * 488 := IntWalk.i64_in _ (by omega)
  have e4 : IntKind.i64.wrap (((n : Int) - 2 - (used : Int)) * 488 - 4) = roomOf n used := by rw [IntWalk.i64_in _ (by omega)]; rfl
  clear h
  go_enter Try.func67, Try.ntmps67
  go_wp2
  go_quiet (fail)
  go_wp2
  go_ret
  exact ⟨rfl, drewN_below (Below.refl _ _) _⟩
set_option maxRecDepth 100000 in
theorem dies_any (w : World) (lb d : Nat) (from_ : Int) (n run base : Nat) (allv : Value) (used : Nat) (dead : Bool) (er : Int) (h : LgRow w lb d from_ n run base allv used dead) :
    Calls Try.prog 60 #[.pointer (some ⟨lb, 0, none⟩), .int .i64 er] w fun e w' => e = .returned (.int .i64 er) ∧ LgRow w' lb d from_ n run base allv used (dead || er != 0) ∧ KeepA (fun x => x = lb) w w' := by
  obtain ⟨-, -, -, -, -, -, -, h7⟩ := h.cells
  have z7 := RowAt.frozen h 7
  have hset := RowAt.set h 7 (.bool (dead || er != 0))
  have HSET : Hid (LgRow (w.setCell ⟨lb, 7, none⟩ (.bool (dead || er != 0))) lb d from_ n run base allv used (dead || er != 0)) := hset
  have HK : Hid (KeepA (fun x => x = lb) w (w.setCell ⟨lb, 7, none⟩ (.bool (dead || er != 0)))) := keep_grown (grown_setCell _ _ _)
  clear h hset
  cases dead with
  | true =>
    go_enter Try.func60, Try.ntmps60
    go_wp2
    go_ret
    exact ⟨rfl, HSET.out, HK.out⟩
  | false =>
    obtain ⟨c, hc⟩ : ∃ c : Bool, (er != 0) = c := ⟨_, rfl⟩
    rw [hc] at HSET HK ⊢
    go_enter Try.func60, Try.ntmps60
    go_wp2
    go_ret
    exact ⟨rfl, HSET.out, HK.out⟩
end Go.Proofs.Ytagipfkgnobjlaa
namespace Go.Proofs.Ytagipfkgnobjlaa
open Go.RowKit

/-- Batches in the heap, their blocks in a set. -/
def BatsT (w : World) (U : Nat → Prop) (v : Value) (bs : List (List UInt8)) : Prop :=
  ∃ xs : List (Option Addr × Nat × List UInt8), xs.map (fun x => x.2.2) = bs ∧ w.ownsRow 0 22 1 v xs.length (xs.map fun x => .slice x.1 x.2.2.length x.2.1) ∧ (∀ g, v.ownBlock = some g → U g) ∧
    ∀ x ∈ xs, RdB w x.1 x.2.2 ∧ ∀ ad, x.1 = some ad → U ad.block ∧ ad.block < w.heap.size ∧ v.ownBlock ≠ some ad.block
theorem BatsT.nil (w : World) (U : Nat → Prop) : BatsT w U (.slice none 0 0) [] := ⟨[], rfl, World.ownsRow_nil w 0 _ 1, fun g h => by simp [Value.ownBlock] at h, fun x hx => by cases hx⟩
theorem Bats.toT {w : World} {base : Nat} {v : Value} {bs : List (List UInt8)} (h : Bats w base v bs) : BatsT w (fun x => base ≤ x) v bs := by
  have h0 := h.lt
  obtain ⟨xs, h1, h2, h3⟩ := h
  obtain ⟨xs', h1', h2', h3'⟩ := Bats.down ⟨xs, h1, h2, h3⟩ (Nat.zero_le base)
  refine ⟨xs, h1, ⟨h2.1, ?_⟩, fun g hg => (h0 g hg).1, h3⟩
  rcases h2.2 with h | ⟨g, cap, cur, hv, hg, r⟩
  · exact .inl h
  · exact .inr ⟨g, cap, cur, hv, Nat.zero_le _, r⟩
theorem BatsT.toB {w : World} {U : Nat → Prop} {v : Value} {bs : List (List UInt8)} (h : BatsT w U v bs) : Bats w 0 v bs := by
  obtain ⟨xs, h1, h2, _, h3⟩ := h
  exact ⟨xs, h1, h2, fun x hx => ⟨(h3 x hx).1, fun ad he => ⟨Nat.zero_le _, ((h3 x hx).2 ad he).2⟩⟩⟩
theorem BatsT.mono {w : World} {U V : Nat → Prop} {v : Value} {bs : List (List UInt8)} (h : BatsT w U v bs) (hu : ∀ x, x < w.heap.size → U x → V x) : BatsT w V v bs := by
  have hl := h.toB.lt
  obtain ⟨xs, h1, h2, h0, h3⟩ := h
  exact ⟨xs, h1, h2, fun g hg => hu _ (hl g hg).2 (h0 g hg), fun x hx => ⟨(h3 x hx).1, fun ad he => ⟨hu _ ((h3 x hx).2 ad he).2.1 ((h3 x hx).2 ad he).1, ((h3 x hx).2 ad he).2⟩⟩⟩
theorem BatsT.mono' {w : World} {U V : Nat → Prop} {v : Value} {bs : List (List UInt8)} (h : BatsT w U v bs) (hu : ∀ x, U x → V x) : BatsT w V v bs := h.mono fun x _ => hu x
theorem BatsT.keep {w w' : World} {X U : Nat → Prop} (hk : KeepA X w w') {v : Value} {bs : List (List UInt8)} (h : BatsT w U v bs) (hx : ∀ g, U g → ¬ X g) : BatsT w' U v bs := by
  obtain ⟨xs, h1, h2, h0, h3⟩ := h
  refine ⟨xs, h1, own_keep hk h2 (fun g hg => hx g (h0 g hg)), h0, fun x hm => ?_⟩
  obtain ⟨r, q⟩ := h3 x hm
  refine ⟨Rd.keepA r hk (fun b off he _ => hx b (q _ he).1), fun ad he => ?_⟩
  obtain ⟨q1, q2, q3⟩ := q ad he
  exact ⟨q1, Nat.lt_of_lt_of_le q2 hk.size, q3⟩
theorem wp_pushT {o : Oper} {act : Act} {K : Act → World → Prop} {Q : Exit → Act → World → Prop} {w : World} (s x : Operand)
    (ho : o.op = .call { callee := .builtin .append, args := #[s, x], argTypes := #[94, 94] }) (U V : Nat → Prop)
    (v : Value) (bs : List (List UInt8)) (hv : act.eval s = v) (g : Nat) (a : Option Addr) (l : List UInt8) (c : Nat) (hx : act.eval x = .slice (some ⟨g, 0, none⟩) 1 1)
    (hB : BatsT w U v bs) (hg : RowAt w g 22 #[.slice a l.length c]) (hr : RdB w a l) (ha : ∀ ad, a = some ad → V ad.block ∧ ad.block < w.heap.size ∧ v.ownBlock ≠ some ad.block) (hsz : bs.length ≤ 1000000)
    (hUV : ∀ x, U x → V x) (hnew : ∀ x, w.heap.size ≤ x → V x)
    (h : ∀ v' w', BatsT w' V v' (bs ++ [l]) → w.grownBy w' v.ownBlock → NewRow w v v' → K (act.put o.dst v') w') : o.wp Try.prog act w K Q := by
  obtain ⟨xs, h1, h2, h0, h3⟩ := hB
  have hxl : xs.length = bs.length := by rw [← h1, List.length_map]
  have hrd : Rd w (some ⟨g, 0, none⟩) [.slice a l.length c] := .inr ⟨g, 0, rfl, hg.lt, fun k hkl => by
    obtain rfl : k = 0 := by simpa using hkl
    exact hg.cell 0⟩
  obtain ⟨v', w', hrun, q2, q3, q4⟩ := run_append_any eltV w 0 o.type v xs.length _ h2 (some ⟨g, 0, none⟩) 1 1 [.slice a l.length c] rfl hrd (fun u hu => by rw [List.mem_singleton.1 hu]; rfl) (by omega) (by omega) (Nat.zero_le _)
  unfold Oper.wp execOp
  simp only [ho, resolve, invoke, builtin, Sem.run_bind, Sem.run_pure, Result.andThen_ok, List.map_toArray, List.map_cons, List.map_nil, hv, hx, hrun]
  refine h v' w' ⟨xs ++ [(a, c, l)], by simp [h1], ?_, fun gg hgg => ?_, fun y hy => ?_⟩ q3 q4
  · rw [List.map_append, List.length_append]
    exact q2
  · rcases q4 _ hgg with e2 | e2
    · exact hUV _ (h0 _ e2)
    · exact hnew _ e2
  · have key : ∀ (z : Option Addr × Nat × List UInt8), RdB w z.1 z.2.2 → (∀ ad, z.1 = some ad → V ad.block ∧ ad.block < w.heap.size ∧ v.ownBlock ≠ some ad.block) → RdB w' z.1 z.2.2 ∧ ∀ ad, z.1 = some ad → V ad.block ∧ ad.block < w'.heap.size ∧ v'.ownBlock ≠ some ad.block := by
      intro z hz hzz
      refine ⟨Rd.keepA hz (keep_grownO q3) (fun b off he hb e => (hzz _ he).2.2 e), fun ad he => ⟨(hzz ad he).1, Nat.lt_of_lt_of_le (hzz ad he).2.1 q3.size, fun e => ?_⟩⟩
      rcases q4 _ e with e2 | e2
      · exact (hzz ad he).2.2 e2
      · exact absurd (hzz ad he).2.1 (by omega)
    rcases List.mem_append.1 hy with hy | hy
    · exact key y (h3 y hy).1 (fun ad he => ⟨hUV _ ((h3 y hy).2 ad he).1, ((h3 y hy).2 ad he).2⟩)
    · obtain rfl := List.mem_singleton.1 hy
      exact key _ hr ha
/-- A log and its disk: T holds all their blocks. -/
structure LgAt (w : World) (T S : Nat → Prop) (lb d : Nat) (D : DK) (F : Nat) (from_ : Int) (n run base : Nat) (allv : Value) (used : Nat) (dead : Bool) (bs : List (List UInt8)) : Prop where
  dk : DkS w S d D F
  row : LgRow w lb d from_ n run base allv used dead
  bats : BatsT w (fun x => T x ∧ ¬ S x ∧ x ≠ lb) allv bs
  sub : ∀ x, S x → T x
  lbT : T lb
  lbS : ¬ S lb
  lt : ∀ x, T x → x < w.heap.size
theorem LgAt.keep {w w' : World} {X T S : Nat → Prop} {lb d : Nat} {D : DK} {F : Nat} {from_ : Int} {n run base : Nat} {allv : Value} {used : Nat} {dead : Bool} {bs : List (List UInt8)} (h : LgAt w T S lb d D F from_ n run base allv used dead bs)
    (hk : KeepA X w w') (hx : ∀ x, T x → ¬ X x) : LgAt w' T S lb d D F from_ n run base allv used dead bs :=
  ⟨h.dk.keep hk (fun x hs => hx x (h.sub x hs)), row_keep hk h.row (hx lb h.lbT), h.bats.keep hk (fun g hg => hx g hg.1), h.sub, h.lbT, h.lbS, fun x hx' => Nat.lt_of_lt_of_le (h.lt x hx') hk.size⟩
theorem LgAt.later {w w' : World} {T S : Nat → Prop} {lb d : Nat} {D : DK} {F : Nat} {from_ : Int} {n run base : Nat} {allv : Value} {used : Nat} {dead : Bool} {bs : List (List UInt8)} (h : LgAt w T S lb d D F from_ n run base allv used dead bs)
    (hb : Below w.heap.size w w') : LgAt w' T S lb d D F from_ n run base allv used dead bs := h.keep (KeepA.of_below (X := fun _ => False) hb) fun _ _ h => h
/-- A step on the disk. -/
theorem LgAt.step {w w' : World} {T S : Nat → Prop} {lb d : Nat} {D D' : DK} {F F' : Nat} {from_ : Int} {n run base : Nat} {allv : Value} {used : Nat} {dead : Bool} {bs : List (List UInt8)} (h : LgAt w T S lb d D F from_ n run base allv used dead bs)
    (hd : DkS w' (Plus S (Span w w')) d D' F') (hk : KeepA S w w') : LgAt w' (Plus T (Span w w')) (Plus S (Span w w')) lb d D' F' from_ n run base allv used dead bs := by
  have hlb := h.lt lb h.lbT
  refine ⟨hd, row_keep hk h.row h.lbS, (h.bats.keep hk (fun g hg => hg.2.1)).mono' ?_, fun x hx => hx.imp (h.sub x) id, .inl h.lbT, fun hx => hx.elim h.lbS (fun e => by have := e.1; omega), fun x hx => ?_⟩
  · exact fun x hx => ⟨.inl hx.1, fun e => e.elim hx.2.1 (fun e => by have := h.lt x hx.1; have := e.1; omega), hx.2.2⟩
  · rcases hx with hx | hx
    · exact Nat.lt_of_lt_of_le (h.lt x hx) hk.size
    · exact hx.2
/-- A cell of the log is set. -/
theorem LgAt.setRow {w w' : World} {T S : Nat → Prop} {lb d : Nat} {D : DK} {F : Nat} {from_ : Int} {n run base run2 base2 : Nat} {allv : Value} {used used2 : Nat} {dead dead2 : Bool} {bs : List (List UInt8)} (h : LgAt w T S lb d D F from_ n run base allv used dead bs)
    (hr : LgRow w' lb d from_ n run2 base2 allv used2 dead2) (hk : KeepA (fun x => x = lb) w w') : LgAt w' T S lb d D F from_ n run2 base2 allv used2 dead2 bs :=
  ⟨h.dk.keep hk (fun x hs e => h.lbS (by rw [← e]; exact hs)), hr, h.bats.keep hk (fun g hg => hg.2.2), h.sub, h.lbT, h.lbS, fun x hx' => Nat.lt_of_lt_of_le (h.lt x hx') hk.size⟩
theorem LgAt.setNil {w w' : World} {T S : Nat → Prop} {lb d : Nat} {D : DK} {F : Nat} {from_ : Int} {n run base run2 base2 : Nat} {allv : Value} {used used2 : Nat} {dead dead2 : Bool} {bs : List (List UInt8)} (h : LgAt w T S lb d D F from_ n run base allv used dead bs)
    (hr : LgRow w' lb d from_ n run2 base2 (.slice none 0 0) used2 dead2) (hk : KeepA (fun x => x = lb) w w') : LgAt w' T S lb d D F from_ n run2 base2 (.slice none 0 0) used2 dead2 [] :=
  ⟨h.dk.keep hk (fun x hs e => h.lbS (by rw [← e]; exact hs)), hr, BatsT.nil _ _, h.sub, h.lbT, h.lbS, fun x hx' => Nat.lt_of_lt_of_le (h.lt x hx') hk.size⟩
end Go.Proofs.Ytagipfkgnobjlaa
