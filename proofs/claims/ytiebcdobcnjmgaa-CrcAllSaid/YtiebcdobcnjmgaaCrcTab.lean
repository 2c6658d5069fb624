/- The two tables of the sums: what crc.table and crc.fingers hand back, and that nothing that was there is changed. -/
import Derived.Test.YtiebcdobcnjmgaaRows
import Derived.Test.YtiebcdobcnjmgaaPlain
import Derived.Test.YtiebcdobcnjmgaaHeap
import Derived.WalkLawsBesides
import Derived.WalkSpells
namespace Go.Proofs.Ytiebcdobcnjmgaa
open Go.RowKit

/-- A table, its first k places filled. -/
def tabOf (K : IntKind) (P k : Nat) : Array Value := ((List.range k).map (fun i => Value.int K (stps P 8 i : Nat)) ++ List.replicate (256 - k) (Value.int K 0)).toArray
theorem tabOf_zero (K : IntKind) (P : Nat) : tabOf K P 0 = Array.replicate 256 (.int K 0) := by
  unfold tabOf
  rw [List.range_zero, List.map_nil, List.nil_append, List.toArray_replicate]
theorem tabOf_size (K : IntKind) (P k : Nat) (h : k ≤ 256) : (tabOf K P k).size = 256 := by simp [tabOf]; omega
theorem tabOf_set (K : IntKind) (P k : Nat) (h : k < 256) : (tabOf K P k).setIfInBounds k (.int K (stps P 8 k : Nat)) = tabOf K P (k + 1) := by
  unfold tabOf
  rw [List.range_succ, List.map_append]
  apply Array.ext_getElem?
  intro i
  obtain ⟨m, hm⟩ : ∃ m, 256 - k = m + 1 := ⟨255 - k, by omega⟩
  rw [hm, show 256 - (k + 1) = m from by omega, List.replicate_succ]
  simp only [List.setIfInBounds_toArray, List.getElem?_toArray]
  rw [List.set_append_right _ _ (by simp), List.length_map, List.length_range, Nat.sub_self, List.set_cons_zero]
  simp
theorem tabOf_get (K : IntKind) (P i : Nat) (h : i < 256) : (tabOf K P 256)[i]? = some (.int K (stps P 8 i : Nat)) := by
  simp [tabOf, h]
theorem tabOf_old (K : IntKind) (P k : Nat) (h : k < 256) : (tabOf K P k)[k]? = some (.int K 0) := by
  unfold tabOf
  obtain ⟨m, hm⟩ : ∃ m, 256 - k = m + 1 := ⟨255 - k, by omega⟩
  rw [hm, List.replicate_succ]
  simp

theorem tabOf_one (K : IntKind) (P k : Nat) : (tabOf K P k).all (·.oneCell') = true := by
  unfold tabOf
  simp only [List.all_toArray, List.all_append, Bool.and_eq_true, List.all_eq_true, List.mem_map, List.mem_replicate]
  exact ⟨fun x ⟨i, _, h⟩ => by rw [← h]; rfl, fun x h => by rw [h.2]; rfl⟩

theorem zeroT32 (w : World) : (zeroValue 39).run Try.prog w = .ok (.agg (Array.replicate 256 (.int .u32 0))) w := by kernel_rfl
theorem zeroT64 (w : World) : (zeroValue 42).run Try.prog w = .ok (.agg (Array.replicate 256 (.int .u64 0))) w := by kernel_rfl

set_option maxRecDepth 100000 in
set_option maxHeartbeats 400000 in
theorem table_any (w : World) :
    Calls Try.prog 17 #[] w fun e w' => e = .returned (.agg (tabOf .u32 3988292384 256)) ∧ Below w.heap.size w w' := by
  have hz := zeroT32
  go_enter Try.func17, Try.ntmps17
  go_wp2
  go_loopw [1,2,3,4,9] (fun _ _ _ i _ wr => ∃ k : Nat, k ≤ 256 ∧ i = .int .i64 k ∧ wr = w.alloc (.cells (tabOf .u32 3988292384 k) 39)) (fun _ _ _ i _ _ => 256 - (intOf i).toNat)
  case atStart => exact ⟨0, by omega, rfl, by rw [tabOf_zero]⟩
  case round =>
    obtain ⟨k, hk, rfl, rfl⟩ := hrel
    by_cases hlt : k < 256
    · have hold := tabOf_old .u32 3988292384 k hlt
      go_wp2
      go_loop [2, 3, 9] (fun r _ i => ∃ j : Nat, ∃ x : Nat, j ≤ 8 ∧ i = .int .i64 j ∧ r = .int .u32 x ∧ x = stps 3988292384 j k) (fun _ _ i => 8 - (intOf i).toNat)
      case atStart => exact ⟨0, k, by omega, rfl, by go_num, rfl⟩
      case round =>
        obtain ⟨j, x, hj, rfl, rfl, hx⟩ := hrel
        have hb : x < 4294967296 := by rw [hx]; exact stps_lt _ 32 (by decide) _ _ (by omega)
        by_cases hj8 : j < 8
        · have HX := Lib.hid hx
          clear hx
          have ha : bits .and .u32 (x : Int) 1 = ((x % 2 : Nat) : Int) := by rw [show (1 : Int) = ((1 : Nat) : Int) from rfl, bits_and_nat .u32 rfl x 1 hb (by decide), Nat.and_one_is_mod]
          by_cases h2 : x % 2 = 1
          · have ht : (bits .and .u32 (x : Int) 1 == 1) = true := by rw [ha, h2]; rfl
            have hxx : bits .xor .u32 ((x : Int) / 2) 3988292384 = ((x / 2 ^^^ 3988292384 : Nat) : Int) := by
              rw [show ((x : Int) / 2) = ((x / 2 : Nat) : Int) from rfl]; exact bits_xor_nat .u32 rfl (x / 2) 3988292384 (by show x / 2 < 4294967296; omega) (by decide)
            have HR : Hid (x / 2 ^^^ 3988292384 = stps 3988292384 (j + 1) k) := by
              show _ = stp _ _
              rw [← HX.out]; unfold stp; rw [if_pos h2]
            clear h2 ha
            go_wp2
            go_round
            case rel => exact ⟨j + 1, _, by omega, by go_num, rfl, HR.out⟩
            case measure => simp [intOf]; omega
          · have ht : (bits .and .u32 (x : Int) 1 == 1) = false := by rw [ha]; simp; omega
            have HR : Hid (x / 2 = stps 3988292384 (j + 1) k) := by
              show _ = stp _ _
              rw [← HX.out]; unfold stp; rw [if_neg h2]
            clear h2 ha
            go_wp2
            go_round
            case rel => exact ⟨j + 1, x / 2, by omega, by go_num, by go_num, HR.out⟩
            case measure => simp [intOf]; omega
        · obtain rfl : j = 8 := by omega
          have HS : Hid ((tabOf .u32 3988292384 k).setIfInBounds k (.int .u32 (x : Int)) = tabOf .u32 3988292384 (k + 1)) := by
            unfold Hid; rw [hx]; exact tabOf_set .u32 3988292384 k hlt
          clear hx
          go_wp2
          go_roundw
          case rel => exact ⟨k + 1, by omega, by go_num, by rw [HS.out]⟩
          case measure => simp [intOf]; omega
    · obtain rfl : k = 256 := by omega
      have hg := heap_alloc_new w (.cells (tabOf .u32 3988292384 256) 39)
      have hs := tabOf_size .u32 3988292384 256 (by omega)
      have H1 := tabOf_one .u32 3988292384 256
      have HI : (Try.prog.info? 39).map (·.size) = some 256 := by kernel_rfl
      generalize hT : tabOf .u32 3988292384 256 = T at *
      have HT := Lib.hid hT
      clear hT
      have hi : (Try.prog.info? 39).map (·.size) = some T.size := by rw [hs]; exact HI
      go_wp2_with (first | (refine wpList_load_row rfl 39 _ rfl _ rfl _ T _ _ hg Try.underlying39 rfl hi ?_) | (refine wpList_store_row rfl 39 _ _ rfl _ T rfl rfl _ T hg hi rfl H1 ?_))
      rw [setRow_self _ _ _ _ _ hg]
      go_wp2_with fail
      exact bodyPost_ret (results_cell_row rfl _ _ _ _ T _ _ rfl hg Try.underlying39 rfl hi) rfl ⟨by rw [HT.out], (Below.refl _ _).alloc (Nat.le_refl _) _⟩
-- FINGERS (printed by gen_crctab.py)
set_option maxRecDepth 100000 in
set_option maxHeartbeats 400000 in
theorem fingers_any (w : World) :
    Calls Try.prog 18 #[] w fun e w' => e = .returned (.agg (tabOf .u64 13933329357911598997 256)) ∧ Below w.heap.size w w' := by
  have hz := zeroT64
  go_enter Try.func18, Try.ntmps18
  go_wp2
  go_loopw [1,2,3,4,9] (fun _ _ _ i _ wr => ∃ k : Nat, k ≤ 256 ∧ i = .int .i64 k ∧ wr = w.alloc (.cells (tabOf .u64 13933329357911598997 k) 42)) (fun _ _ _ i _ _ => 256 - (intOf i).toNat)
  case atStart => exact ⟨0, by omega, rfl, by rw [tabOf_zero]⟩
  case round =>
    obtain ⟨k, hk, rfl, rfl⟩ := hrel
    by_cases hlt : k < 256
    · have hold := tabOf_old .u64 13933329357911598997 k hlt
      go_wp2
      go_loop [2, 3, 9] (fun r _ i => ∃ j : Nat, ∃ x : Nat, j ≤ 8 ∧ i = .int .i64 j ∧ r = .int .u64 x ∧ x = stps 13933329357911598997 j k) (fun _ _ i => 8 - (intOf i).toNat)
      case atStart => exact ⟨0, k, by omega, rfl, by go_num, rfl⟩
      case round =>
        obtain ⟨j, x, hj, rfl, rfl, hx⟩ := hrel
        have hb : x < 18446744073709551616 := by rw [hx]; exact stps_lt _ 64 (by decide) _ _ (by omega)
        by_cases hj8 : j < 8
        · have HX := Lib.hid hx
          clear hx
          have ha : bits .and .u64 (x : Int) 1 = ((x % 2 : Nat) : Int) := by rw [show (1 : Int) = ((1 : Nat) : Int) from rfl, bits_and_nat .u64 rfl x 1 hb (by decide), Nat.and_one_is_mod]
          by_cases h2 : x % 2 = 1
          · have ht : (bits .and .u64 (x : Int) 1 == 1) = true := by rw [ha, h2]; rfl
            have hxx : bits .xor .u64 ((x : Int) / 2) 13933329357911598997 = ((x / 2 ^^^ 13933329357911598997 : Nat) : Int) := by
              rw [show ((x : Int) / 2) = ((x / 2 : Nat) : Int) from rfl]; exact bits_xor_nat .u64 rfl (x / 2) 13933329357911598997 (by show x / 2 < 18446744073709551616; omega) (by decide)
            have HR : Hid (x / 2 ^^^ 13933329357911598997 = stps 13933329357911598997 (j + 1) k) := by
              show _ = stp _ _
              rw [← HX.out]; unfold stp; rw [if_pos h2]
            clear h2 ha
            go_wp2
            go_round
            case rel => exact ⟨j + 1, _, by omega, by go_num, rfl, HR.out⟩
            case measure => simp [intOf]; omega
          · have ht : (bits .and .u64 (x : Int) 1 == 1) = false := by rw [ha]; simp; omega
            have HR : Hid (x / 2 = stps 13933329357911598997 (j + 1) k) := by
              show _ = stp _ _
              rw [← HX.out]; unfold stp; rw [if_neg h2]
            clear h2 ha
            go_wp2
            go_round
            case rel => exact ⟨j + 1, x / 2, by omega, by go_num, by go_num, HR.out⟩
            case measure => simp [intOf]; omega
        · obtain rfl : j = 8 := by omega
          have HS : Hid ((tabOf .u64 13933329357911598997 k).setIfInBounds k (.int .u64 (x : Int)) = tabOf .u64 13933329357911598997 (k + 1)) := by
            unfold Hid; rw [hx]; exact tabOf_set .u64 13933329357911598997 k hlt
          clear hx
          go_wp2
          go_roundw
          case rel => exact ⟨k + 1, by omega, by go_num, by rw [HS.out]⟩
          case measure => simp [intOf]; omega
    · obtain rfl : k = 256 := by omega
      have hg := heap_alloc_new w (.cells (tabOf .u64 13933329357911598997 256) 42)
      have hs := tabOf_size .u64 13933329357911598997 256 (by omega)
      have H1 := tabOf_one .u64 13933329357911598997 256
      have HI : (Try.prog.info? 42).map (·.size) = some 256 := by kernel_rfl
      generalize hT : tabOf .u64 13933329357911598997 256 = T at *
      have HT := Lib.hid hT
      clear hT
      have hi : (Try.prog.info? 42).map (·.size) = some T.size := by rw [hs]; exact HI
      go_wp2_with (first | (refine wpList_load_row rfl 42 _ rfl _ rfl _ T _ _ hg Try.underlying42 rfl hi ?_) | (refine wpList_store_row rfl 42 _ _ rfl _ T rfl rfl _ T hg hi rfl H1 ?_))
      rw [setRow_self _ _ _ _ _ hg]
      go_wp2_with fail
      exact bodyPost_ret (results_cell_row rfl _ _ _ _ T _ _ rfl hg Try.underlying42 rfl hi) rfl ⟨by rw [HT.out], (Below.refl _ _).alloc (Nat.le_refl _) _⟩
end Go.Proofs.Ytiebcdobcnjmgaa
