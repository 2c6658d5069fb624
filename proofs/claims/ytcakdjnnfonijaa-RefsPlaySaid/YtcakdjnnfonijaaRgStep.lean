/- A script's steps: how they lie; vast. -/
import Derived.Test.YtcakdjnnfonijaaRgAllS
namespace Go.Proofs.Ytcakdjnnfonijaa
open Go.RowKit

structure St where
  kind : Int
  v : Rf
  ta : Option Addr
  ts : List Rf
  tc : Nat
def stC (s : St) : List Value := [.int .i64 s.kind, .string s.v.1, .int .i64 s.v.2, .slice s.ta s.ts.length s.tc]
structure StAt (w : World) (b o : Nat) (s : St) : Prop where
  cells : CellsAt w stC b o s
  rd : RdRf w s.ta s.ts
  cap : s.ts.length ≤ s.tc
  len : s.ts.length ≤ 9223372036854775807
def RdSt (w : World) (a : Option Addr) (l : List St) : Prop := RowsAt w a 4 l (StAt w)
theorem RdSt.later {w w' : World} (hb : Below w.heap.size w w') {a : Option Addr} {l : List St} (h : RdSt w a l) : RdSt w' a l :=
  RowsAt.imp h hb.size fun _ _ _ hlt h => ⟨h.cells.later hb hlt, h.rd.later hb, h.cap, h.len⟩
set_option maxRecDepth 100000 in
set_option maxHeartbeats 2000000 in
theorem vast_any (w : World) (a : Option Addr) (l : List St) (n cap : Nat) (hn : n = l.length) (hn2 : n ≤ 9223372036854775807) (hl : RdSt w a l) :
    Calls Try.prog 9 #[.slice a n cap] w fun e w' => (∃ r : Bool, e = .returned (.bool r) ∧ (r = false → n ≤ 60 ∧ ∀ s ∈ l, s.ts.length ≤ 100)) ∧ w = w' := by
  have HL := Lib.hid hl
  have HN := Lib.hid hn
  clear hl hn
  obtain ⟨K, hK⟩ : ∃ K, (fun (e : Ending) (w' : World) => (∃ r : Bool, e = .returned (.bool r) ∧ (r = false → n ≤ 60 ∧ ∀ s ∈ l, s.ts.length ≤ 100)) ∧ w = w') = K := ⟨_, rfl⟩
  have HKT : Hid (K (.returned (.bool true)) w) := by show K _ _; rw [← hK]; exact ⟨⟨true, rfl, fun h => by cases h⟩, rfl⟩
  have HKF : Hid (n ≤ 60 → (∀ s ∈ l, s.ts.length ≤ 100) → K (.returned (.bool false)) w) := Lib.hid fun h1 h2 => by rw [← hK]; exact ⟨⟨false, rfl, fun _ => ⟨h1, h2⟩⟩, rfl⟩
  rw [hK]
  clear hK
  by_cases h60 : 60 < (n : Int)
  · go_enter Try.func9, Try.ntmps9
    go_wp2
    exact HKT.out
  · go_enter Try.func9, Try.ntmps9
    go_wp2
    go_loopw [3] (fun i wr => wr = w ∧ ∃ k : Nat, k ≤ n ∧ i = .int .i64 k ∧ ∀ s ∈ l.take k, s.ts.length ≤ 100) (fun i _ => n - (intOf i).toNat)
    case atStart => exact ⟨rfl, 0, Nat.zero_le _, rfl, fun s hs => by cases hs⟩
    case round =>
      obtain ⟨rfl, k, hk, rfl, hall⟩ := hrel
      have HALL := Lib.hid hall
      clear hall
      by_cases hkn : k < n
      · have hkl : k < l.length := by rw [← HN.out]; exact hkn
        obtain ⟨b, off, rfl, hlt, hrow⟩ := HL.out.resolve_left (by intro e; rw [e] at hkl; simp at hkl)
        have hst := hrow k hkl
        have htk : ∀ s ∈ l.take (k + 1), s ∈ l.take k ∨ s = l[k] := fun s hs => by rw [List.take_succ_eq_append_getElem hkl] at hs; exact (List.mem_append.1 hs).imp id fun h => List.mem_singleton.1 h
        obtain ⟨s, hs⟩ : ∃ s, l[k] = s := ⟨_, rfl⟩
        rw [hs] at hst htk
        have c1 := hst.cells 1 _ rfl
        have c3 := hst.cells 3 _ rfl
        have l3 := hst.len
        have HRD := Lib.hid hst.rd
        have HTK := Lib.hid htk
        have hb1 : (k : Int) < (n : Int) := by omega
        obtain ⟨m, hm⟩ : ∃ x, s.ts.length = x := ⟨_, rfl⟩
        rw [hm] at c3 l3
        have HM := Lib.hid hm
        obtain ⟨zs, hzs⟩ : ∃ z, s.v.1 = z := ⟨_, rfl⟩
        rw [hzs] at c1
        clear hrow hst htk hs hm
        by_cases t1 : 100 < (m : Int)
        · go_wp2
          exact HKT.out
        by_cases t2 : 1000 < (zs.size : Int)
        · go_wp2
          exact HKT.out
        go_wp2
        go_loopw [4] (fun i wq => wq = wr ∧ ∃ j : Nat, j ≤ m ∧ i = .int .i64 j) (fun i _ => m - (intOf i).toNat)
        case atStart => exact ⟨rfl, 0, Nat.zero_le _, rfl⟩
        case round =>
          obtain ⟨rfl, j, hj, rfl⟩ := hrel
          by_cases hjm : j < m
          · obtain ⟨tb, toff, hta, hcell⟩ := HRD.out.get j (by rw [HM.out]; exact hjm)
            rw [hta] at c3
            obtain ⟨t, ht⟩ : ∃ t, s.ts[j]'(by rw [HM.out]; exact hjm) = t := ⟨_, rfl⟩
            rw [ht] at hcell
            have d1 := (rf_cells (hcell _ (Below.refl _ _))).1
            obtain ⟨zt, hzt⟩ : ∃ z, t.1 = z := ⟨_, rfl⟩
            rw [hzt] at d1
            have hb2 : (j : Int) < (m : Int) := by omega
            clear hcell ht
            by_cases t3 : 1000 < (zt.size : Int)
            · go_wp2
              exact HKT.out
            · go_wp2
              exact ⟨⟨trivial, j + 1, by omega, by go_num⟩, by simp [intOf]; omega⟩
          · obtain rfl : j = m := by omega
            go_wp2
            refine ⟨⟨trivial, k + 1, by omega, by go_num, fun s' hs' => ?_⟩, by simp [intOf]; omega⟩
            rcases HTK.out s' hs' with h | rfl
            · exact HALL.out s' h
            · rw [HM.out]; omega
      · obtain rfl : k = n := by omega
        go_wp2
        exact HKF.out (by omega) (fun s hs => HALL.out s (by rw [HN.out, List.take_length]; exact hs))
end Go.Proofs.Ytcakdjnnfonijaa
