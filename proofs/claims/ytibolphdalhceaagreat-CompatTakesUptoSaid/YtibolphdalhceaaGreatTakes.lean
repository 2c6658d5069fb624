/- Which kinds take which: the program's answer and the document's are one, for any two numbers. -/
import Derived.Test.YtibolphdalhceaaGreatEvHand
import Derived.Test.YtibolphdalhceaaGreatHeap
import Derived.Test.YtibolphdalhceaaGreatProg
namespace Go.Proofs.YtibolphdalhceaaGreat
open Go.RowKit

/-- The first kind of a class. -/
def clsA (k : Nat) : Nat := match k with
  | 4 => 3 | 5 => 3 | 6 => 3 | 13 => 3 | 16 => 3 | 8 => 7 | 11 => 9 | 12 => 10 | k => k
def clsB (k : Nat) : Nat := match k with
  | 1 => 5 | 2 => 6 | 3 => 1 | 4 => 1 | 5 => 1 | 6 => 1 | 7 => 2 | 8 => 2 | 9 => 3 | 10 => 4 | 11 => 3 | 12 => 4 | 13 => 1 | 14 => 7 | 15 => 8 | 16 => 1 | 17 => 9 | _ => 0
noncomputable def sayInt (n : Nat) : AV → Ans
  | .v (.int .i64 (.ofNat m)) => match Nat.beq m n with
    | true => .yes
    | false => .no "another number"
  | _ => .no "no number"
theorem sayInt_real {n : Nat} (v : AV) (ρ : Env) (x : Value) (h : sayInt n v = .yes) (hx : v.real ρ = some x) : x = .int .i64 (n : Int) := by
  unfold sayInt at h
  split at h
  · split at h
    · rename_i hb
      rw [← Nat.eq_of_beq_eq_true hb]
      exact (Option.some.inj hx).symm
    · cases h
  · cases h
def kinds : List Nat := [1, 2, 3, 4, 5, 6, 7, 8, 9, 10, 11, 12, 13, 14, 15, 16, 17]
theorem kinds_mem {k : Nat} (h1 : 1 ≤ k) (h2 : k ≤ 17) : k ∈ kinds := by
  have : k = 1 ∨ k = 2 ∨ k = 3 ∨ k = 4 ∨ k = 5 ∨ k = 6 ∨ k = 7 ∨ k = 8 ∨ k = 9 ∨ k = 10 ∨ k = 11 ∨ k = 12 ∨ k = 13 ∨ k = 14 ∨ k = 15 ∨ k = 16 ∨ k = 17 := by omega
  simpa [kinds] using this
/-- All of a list answer yes. -/
noncomputable def allYes (g : Nat → Ans) : List Nat → Ans
  | [] => .yes
  | a :: r => match g a with
    | .yes => allYes g r
    | b => b
theorem allYes_mem {g : Nat → Ans} : ∀ {l : List Nat}, allYes g l = .yes → ∀ k ∈ l, g k = .yes
  | [], _, k, hk => by cases hk
  | a :: r, h, k, hk => by
    simp only [allYes] at h
    split at h
    · rename_i ha
      rcases List.mem_cons.1 hk with rfl | hk
      · exact ha
      · exact allYes_mem h k hk
    · rename_i b hb
      exact absurd h hb
theorem clsB_run : allYes (fun k => evEnter2 Tryz.prog [] (ecF Tryz.prog [] 20) 15 ([.int .i64 (.ofNat k)].map .v) ⟨.nil, 0⟩ (fun v _ => sayInt (clsB k) v)) kinds = .yes := by kernel_rfl
theorem clsB_in (k : Nat) (h1 : 1 ≤ k) (h2 : k ≤ 17) (w : World) : Calls Tryz.prog 15 #[.int .i64 (k : Int)] w fun e w' => e = .returned (.int .i64 (clsB k : Int)) ∧ Below w.heap.size w w' :=
  (quick_calls [.int .i64 (.ofNat k)] (allYes_mem clsB_run k (kinds_mem h1 h2)) w sayInt_real).mono fun _ _ ⟨⟨_, h1, h2⟩, h3⟩ => ⟨by rw [h1, h2], h3⟩
set_option maxRecDepth 100000 in
theorem clsB_out (k : Int) (h : k < 1 ∨ 17 < k) (w : World) : Calls Tryz.prog 15 #[.int .i64 k] w fun e w' => e = .returned (.int .i64 0) ∧ Below w.heap.size w w' := by
  by_cases hk : k < 1
  · go_enter Tryz.func15, Tryz.ntmps15
    go_wp2
    go_ret
    exact ⟨rfl, (Below.refl _ _).alloc (Nat.le_refl _) _⟩
  · have hk2 : 17 < k := by omega
    go_enter Tryz.func15, Tryz.ntmps15
    go_wp2
    go_ret
    exact ⟨rfl, (Below.refl _ _).alloc (Nat.le_refl _) _⟩
/-- Does a reader's kind take a writer's? -/
def tkB (a b : Nat) : Bool := (clsA a == clsA b) || (a == 15 && (b == 14 || b == 17))
theorem takesA_out (a b : Int) (h : a < 1 ∨ 17 < a ∨ b < 1 ∨ 17 < b) (w : World) : Calls Tryz.prog 5 #[.int .i64 a, .int .i64 b] w fun e w' => e = .returned (.bool false) ∧ Below w.heap.size w w' := by
  by_cases h1 : min a b < 1
  · go_enter Tryz.func5, Tryz.ntmps5
    go_wp2
    all_goals (go_ret; exact ⟨rfl, Below.refl _ _⟩)
  · have h2 : 17 < max a b := by omega
    go_enter Tryz.func5, Tryz.ntmps5
    go_wp2
    all_goals (go_ret; exact ⟨rfl, Below.refl _ _⟩)
noncomputable def sayB (b : Bool) : AV → Ans
  | .v (.bool c) => match boolSim c b with
    | true => .yes
    | false => .no "the other truth"
  | _ => .no "no truth"
theorem sayB_real {b : Bool} (v : AV) (ρ : Env) (x : Value) (h : sayB b v = .yes) (hx : v.real ρ = some x) : x = .bool b := by
  unfold sayB at h
  split at h
  · split at h
    · rename_i hb
      rw [← boolSim_ok hb]
      exact (Option.some.inj hx).symm
    · cases h
  · cases h
theorem takesA_run : allYes (fun k => allYes (fun l => evEnter2 Tryz.prog [] (ecF Tryz.prog [] 20) 5 ([.int .i64 (.ofNat k), .int .i64 (.ofNat l)].map .v) ⟨.nil, 0⟩ (fun v _ => sayB (tkB k l) v)) kinds) kinds = .yes := by kernel_rfl
theorem takesA_in (k l : Nat) (h1 : 1 ≤ k) (h2 : k ≤ 17) (h3 : 1 ≤ l) (h4 : l ≤ 17) (w : World) : Calls Tryz.prog 5 #[.int .i64 (k : Int), .int .i64 (l : Int)] w fun e w' => e = .returned (.bool (tkB k l)) ∧ Below w.heap.size w w' :=
  (quick_calls [.int .i64 (.ofNat k), .int .i64 (.ofNat l)] (allYes_mem (allYes_mem takesA_run k (kinds_mem h1 h2)) l (kinds_mem h3 h4)) w sayB_real).mono fun _ _ ⟨⟨_, h1, h2⟩, h3⟩ => ⟨by rw [h1, h2], h3⟩
theorem takesB_run : allYes (fun k => allYes (fun l => evEnter2 Tryz.prog [] (ecF Tryz.prog [] 20) 6 ([.int .i64 (.ofNat k), .int .i64 (.ofNat l)].map .v) ⟨.nil, 0⟩ (fun v _ => sayB (tkB k l) v)) kinds) kinds = .yes := by kernel_rfl
theorem takesB_in (k l : Nat) (h1 : 1 ≤ k) (h2 : k ≤ 17) (h3 : 1 ≤ l) (h4 : l ≤ 17) (w : World) : Calls Tryz.prog 6 #[.int .i64 (k : Int), .int .i64 (l : Int)] w fun e w' => e = .returned (.bool (tkB k l)) ∧ Below w.heap.size w w' :=
  (quick_calls [.int .i64 (.ofNat k), .int .i64 (.ofNat l)] (allYes_mem (allYes_mem takesB_run k (kinds_mem h1 h2)) l (kinds_mem h3 h4)) w sayB_real).mono fun _ _ ⟨⟨_, h1, h2⟩, h3⟩ => ⟨by rw [h1, h2], h3⟩
theorem takesB_outA (a b : Int) (h : a < 1 ∨ 17 < a) (w : World) : Calls Tryz.prog 6 #[.int .i64 a, .int .i64 b] w fun e w' => e = .returned (.bool false) ∧ Below w.heap.size w w' := by
  have H1 := Lib.hid (fun w => clsB_out a h w)
  have H2 : Hid (∃ y : Nat, ∀ w, Calls Tryz.prog 15 #[.int .i64 b] w fun e w' => e = .returned (.int .i64 (y : Int)) ∧ Below w.heap.size w w') := by
    by_cases hb : b < 1 ∨ 17 < b
    · exact ⟨0, fun w => clsB_out b hb w⟩
    · have := clsB_in b.toNat (by omega) (by omega)
      rw [show ((b.toNat : Nat) : Int) = b by omega] at this
      exact ⟨_, this⟩
  obtain ⟨y, H3⟩ := H2.out
  have H3 := Lib.hid H3
  clear H2 h
  obtain ⟨K, hK⟩ : ∃ K : Ending → World → Prop, (fun e w' => e = .returned (.bool false) ∧ Below w.heap.size w w') = K := ⟨_, rfl⟩
  have HK := Lib.hid hK
  rw [hK]
  clear hK
  go_enter Tryz.func6, Tryz.ntmps6
  go_wp2_with fail
  refine (H1.out _).mono ?_
  rintro _ w1 ⟨rfl, B1⟩
  have B1 := Lib.hid B1
  go_wp2_with fail
  refine (H3.out _).mono ?_
  rintro _ w2 ⟨rfl, B2⟩
  have B2 := Lib.hid (below_trans B1.out B2)
  go_wp2_with fail
  all_goals (try go_ret)
  all_goals (rw [← HK.out]; exact ⟨rfl, B2.out⟩)
theorem takesB_outB (a : Nat) (b : Int) (h1 : 1 ≤ a) (h2 : a ≤ 17) (h : b < 1 ∨ 17 < b) (w : World) : Calls Tryz.prog 6 #[.int .i64 (a : Int), .int .i64 b] w fun e w' => e = .returned (.bool false) ∧ Below w.heap.size w w' := by
  have H1 := Lib.hid (fun w => clsB_in a h1 h2 w)
  have H3 := Lib.hid (fun w => clsB_out b h w)
  have hx : clsB a ≠ 0 := by
    have : ∀ k ∈ kinds, clsB k ≠ 0 := by decide
    exact this a (kinds_mem h1 h2)
  obtain ⟨x, hxx⟩ : ∃ x, clsB a = x := ⟨_, rfl⟩
  rw [hxx] at H1 hx
  clear hxx h
  obtain ⟨K, hK⟩ : ∃ K : Ending → World → Prop, (fun e w' => e = .returned (.bool false) ∧ Below w.heap.size w w') = K := ⟨_, rfl⟩
  have HK := Lib.hid hK
  rw [hK]
  clear hK
  go_enter Tryz.func6, Tryz.ntmps6
  go_wp2_with fail
  refine (H1.out _).mono ?_
  rintro _ w1 ⟨rfl, B1⟩
  have B1 := Lib.hid B1
  go_wp2_with fail
  refine (H3.out _).mono ?_
  rintro _ w2 ⟨rfl, B2⟩
  have B2 := Lib.hid (below_trans B1.out B2)
  go_wp2_with fail
  all_goals (try go_ret)
  all_goals
    rw [← HK.out]
    first
      | exact ⟨rfl, B2.out⟩
      | (refine ⟨?_, B2.out⟩
         show Ending.returned (.bool (((x : Int) != 0) && ((x : Int) == 0))) = _
         have : ((x : Int) == 0) = false := by simpa using hx
         rw [this, Bool.and_false])
/-- Both answer alike. -/
theorem takes_both (a b : Int) : ∃ R : Bool, (∀ w, Calls Tryz.prog 5 #[.int .i64 a, .int .i64 b] w fun e w' => e = .returned (.bool R) ∧ Below w.heap.size w w') ∧ ∀ w, Calls Tryz.prog 6 #[.int .i64 a, .int .i64 b] w fun e w' => e = .returned (.bool R) ∧ Below w.heap.size w w' := by
  by_cases ha : a < 1 ∨ 17 < a
  · exact ⟨false, fun w => takesA_out a b (by omega) w, fun w => takesB_outA a b ha w⟩
  · obtain ⟨k, rfl⟩ : ∃ k : Nat, a = (k : Int) := ⟨a.toNat, by omega⟩
    by_cases hb : b < 1 ∨ 17 < b
    · exact ⟨false, fun w => takesA_out _ b (by omega) w, fun w => takesB_outB k b (by omega) (by omega) hb w⟩
    · obtain ⟨l, rfl⟩ : ∃ l : Nat, b = (l : Int) := ⟨b.toNat, by omega⟩
      exact ⟨tkB k l, fun w => takesA_in k l (by omega) (by omega) (by omega) (by omega) w, fun w => takesB_in k l (by omega) (by omega) (by omega) (by omega) w⟩
end Go.Proofs.YtibolphdalhceaaGreat
