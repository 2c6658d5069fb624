/- long of the law, at two changes that have keys alone. -/
import Derived.Test.YtlchnfjbcefkoaaGreatTabCmp
namespace Go.Proofs.YtlchnfjbcefkoaaGreat
open Go.RowKit

/-- Not long. -/
def Short (n : Nat) (ps : List Pt) : Prop := n ≤ 20 ∧ ∀ p ∈ ps, p.s.length ≤ 1000
set_option maxRecDepth 100000 in
set_option maxHeartbeats 4000000 in
theorem long_any (g : Nat) (a a2 : Option Addr) (ps qs : List Pt) (n cap n2 cap2 : Nat) (w : World) (hn : Hid (n = ps.length)) (hn2 : Hid (n2 = qs.length)) (hl : RdP w a ps) (hl2 : RdP w a2 qs)
    (hr : RowAt w g 28 #[.string ⟨#[]⟩, .slice a n cap, .slice none 0 0, .bool false, .string ⟨#[]⟩, .slice a2 n2 cap2, .slice none 0 0, .bool false]) :
    Calls Tryz.prog 4 #[.slice (some ⟨g, 0, none⟩) 2 2] w fun e w' => (e = .returned (.bool true) ∨ e = .returned (.bool false) ∧ Short n ps ∧ Short n2 qs) ∧ w' = w := by
  have HL := Lib.hid hl
  have HL2 := Lib.hid hl2
  have g0 : w.cell? ⟨g, 0, none⟩ = some (.string ⟨#[]⟩) := hr.cell 0
  have g1 : w.cell? ⟨g, 1, none⟩ = some (.slice a n cap) := hr.cell 1
  have g2 : w.cell? ⟨g, 2, none⟩ = some (.slice none 0 0) := hr.cell 2
  have g4 : w.cell? ⟨g, 4, none⟩ = some (.string ⟨#[]⟩) := hr.cell 4
  have g5 : w.cell? ⟨g, 5, none⟩ = some (.slice a2 n2 cap2) := hr.cell 5
  have g6 : w.cell? ⟨g, 6, none⟩ = some (.slice none 0 0) := hr.cell 6
  clear hl hl2 hr
  obtain ⟨K, hK⟩ : ∃ K, (fun (e : Ending) (w' : World) => (e = .returned (.bool true) ∨ e = .returned (.bool false) ∧ Short n ps ∧ Short n2 qs) ∧ w' = w) = K := ⟨_, rfl⟩
  have HKT : Hid (K (.returned (.bool true)) w) := by show K _ _; rw [← hK]; exact ⟨.inl rfl, rfl⟩
  have HKF : Hid (Short n ps → Short n2 qs → K (.returned (.bool false)) w) := by show _ → _ → K _ _; intro h1 h2; rw [← hK]; exact ⟨.inr ⟨rfl, h1, h2⟩, rfl⟩
  rw [hK]
  clear hK
  go_enter Tryz.func4, Tryz.ntmps4
  go_wp2
  go_loopw [3] (fun i wr => wr = w ∧ ∃ j : Nat, j ≤ 2 ∧ i = .int .i64 (j : Int) ∧ (0 < j → Short n ps) ∧ (1 < j → Short n2 qs)) (fun i _ => 2 - (intOf i).toNat)
  case atStart => exact ⟨rfl, 0, by decide, rfl, fun h => by omega, fun h => by omega⟩
  case round =>
    obtain ⟨rfl, j, hj, rfl, hs1, hs2⟩ := hrel
    have HS1 := Lib.hid hs1
    have HS2 := Lib.hid hs2
    clear hs1 hs2
    rcases (by omega : j = 0 ∨ j = 1 ∨ j = 2) with rfl | rfl | rfl
    · by_cases h20 : 20 < n
      · go_wp2
        exact HKT.out
      · have h21 : n ≤ 20 := by omega
        go_wp2
        go_loopw [4] (fun i ws => ws = wr ∧ ∃ k : Nat, k ≤ n ∧ i = .int .i64 (k : Int) ∧ ∀ p ∈ ps.take k, p.s.length ≤ 1000) (fun i _ => n - (intOf i).toNat)
        case atStart => exact ⟨rfl, 0, Nat.zero_le _, rfl, by simp⟩
        case round =>
          obtain ⟨rfl, k, hk, rfl, hall⟩ := hrel
          have HA := Lib.hid hall
          clear hall
          by_cases hkn : k < n
          · have hkl : k < ps.length := by rw [← hn.out]; exact hkn
            obtain ⟨b1, o1, rfl, hlt1, hcell1⟩ := HL.out.at (by omega)
            have c0 := (cells_at hlt1 hcell1 (Below.refl _ _) k hkl).1
            have HN : Hid ((∀ p ∈ ps.take k, p.s.length ≤ 1000) → (ps[k]).s.length ≤ 1000 → ∀ p ∈ ps.take (k + 1), p.s.length ≤ 1000) := by
              intro h1 h2 p hp
              rw [List.take_succ_eq_append_getElem hkl] at hp
              rcases List.mem_append.1 hp with hp | hp
              · exact h1 p hp
              · rw [List.mem_singleton.1 hp]; exact h2
            obtain ⟨q, hq⟩ : ∃ q, ps[k] = q := ⟨_, rfl⟩
            rw [hq] at c0
            have HN2 : Hid ((∀ p ∈ ps.take k, p.s.length ≤ 1000) → q.s.length ≤ 1000 → ∀ p ∈ ps.take (k + 1), p.s.length ≤ 1000) := by rw [← hq]; exact HN
            obtain ⟨S, hS⟩ : ∃ S, str q.s = S := ⟨_, rfl⟩
            obtain ⟨L, hL⟩ : ∃ L, S.size = L := ⟨_, rfl⟩
            have HLL : Hid (L = q.s.length) := by show _ = _; rw [← hL, ← hS]; simp [str, ByteArray.size]
            rw [hS] at c0
            clear hq HN hS hcell1 hkl
            by_cases hL3 : 1000 < L
            · go_wp2
              exact HKT.out
            · go_wp2
              refine ⟨⟨trivial, k + 1, by omega, by go_num, HN2.out HA.out (by rw [← HLL.out]; omega)⟩, by simp [intOf]; omega⟩
          · have hk3 : k = n := by omega
            subst hk3
            have hall : ∀ p ∈ ps, p.s.length ≤ 1000 := by
              have h := HA.out
              rw [hn.out, List.take_length] at h
              exact h
            have HSH : Hid (Short k ps) := ⟨h21, hall⟩
            clear hall
            go_wp2
            refine ⟨⟨trivial, 1, by decide, rfl, fun _ => HSH.out, fun h => by omega⟩, by decide⟩
    · by_cases h20 : 20 < n2
      · go_wp2
        exact HKT.out
      · have h21 : n2 ≤ 20 := by omega
        go_wp2
        go_loopw [4] (fun i ws => ws = wr ∧ ∃ k : Nat, k ≤ n2 ∧ i = .int .i64 (k : Int) ∧ ∀ p ∈ qs.take k, p.s.length ≤ 1000) (fun i _ => n2 - (intOf i).toNat)
        case atStart => exact ⟨rfl, 0, Nat.zero_le _, rfl, by simp⟩
        case round =>
          obtain ⟨rfl, k, hk, rfl, hall⟩ := hrel
          have HA := Lib.hid hall
          clear hall
          by_cases hkn : k < n2
          · have hkl : k < qs.length := by rw [← hn2.out]; exact hkn
            obtain ⟨b1, o1, rfl, hlt1, hcell1⟩ := HL2.out.at (by omega)
            have c0 := (cells_at hlt1 hcell1 (Below.refl _ _) k hkl).1
            have HN : Hid ((∀ p ∈ qs.take k, p.s.length ≤ 1000) → (qs[k]).s.length ≤ 1000 → ∀ p ∈ qs.take (k + 1), p.s.length ≤ 1000) := by
              intro h1 h2 p hp
              rw [List.take_succ_eq_append_getElem hkl] at hp
              rcases List.mem_append.1 hp with hp | hp
              · exact h1 p hp
              · rw [List.mem_singleton.1 hp]; exact h2
            obtain ⟨q, hq⟩ : ∃ q, qs[k] = q := ⟨_, rfl⟩
            rw [hq] at c0
            have HN2 : Hid ((∀ p ∈ qs.take k, p.s.length ≤ 1000) → q.s.length ≤ 1000 → ∀ p ∈ qs.take (k + 1), p.s.length ≤ 1000) := by rw [← hq]; exact HN
            obtain ⟨S, hS⟩ : ∃ S, str q.s = S := ⟨_, rfl⟩
            obtain ⟨L, hL⟩ : ∃ L, S.size = L := ⟨_, rfl⟩
            have HLL : Hid (L = q.s.length) := by show _ = _; rw [← hL, ← hS]; simp [str, ByteArray.size]
            rw [hS] at c0
            clear hq HN hS hcell1 hkl
            by_cases hL3 : 1000 < L
            · go_wp2
              exact HKT.out
            · go_wp2
              refine ⟨⟨trivial, k + 1, by omega, by go_num, HN2.out HA.out (by rw [← HLL.out]; omega)⟩, by simp [intOf]; omega⟩
          · have hk3 : k = n2 := by omega
            subst hk3
            have hall : ∀ p ∈ qs, p.s.length ≤ 1000 := by
              have h := HA.out
              rw [hn2.out, List.take_length] at h
              exact h
            have HSH : Hid (Short k qs) := ⟨h21, hall⟩
            clear hall
            go_wp2
            refine ⟨⟨trivial, 2, by decide, rfl, fun _ => HS1.out (by decide), fun _ => HSH.out⟩, by decide⟩
    · go_wp2
      exact HKF.out (HS1.out (by decide)) (HS2.out (by decide))
end Go.Proofs.YtlchnfjbcefkoaaGreat
