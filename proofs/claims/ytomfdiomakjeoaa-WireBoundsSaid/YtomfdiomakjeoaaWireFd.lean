/- Fields in plain Lean: which may be, how one is told, how some are; and how one is read. -/
import Derived.Test.YtomfdiomakjeoaaWirePlain
import Derived.Test.YtomfdiomakjeoaaWireWay
namespace Go.Proofs.Ytomfdiomakjeoaa
open Go.RowKit

/-- A field. -/
structure Fd where
  num : Int
  typ : Int
  word : Nat
  bytes : List UInt8
deriving DecidableEq
/-- Its values are of Go's kinds. -/
structure Fd.Ok (f : Fd) : Prop where
  n0 : -9223372036854775808 ≤ f.num
  n1 : f.num < 9223372036854775808
  t0 : -9223372036854775808 ≤ f.typ
  t1 : f.typ < 9223372036854775808
  w1 : f.word < 18446744073709551616
def fdC (f : Fd) : List Value := [.int .i64 f.num, .int .i64 f.typ, .int .u64 (f.word : Int), .string (str f.bytes)]
/-- May it be? -/
def mayB (f : Fd) : Bool :=
  if f.num < 1 ∨ 536870912 ≤ f.num then false
  else if f.typ = 0 ∨ f.typ = 1 ∨ f.typ = 5 then decide (f.bytes = []) && (!(f.typ == 5) || decide ((f.word : Int) < 4294967296))
  else decide (f.typ = 2) && decide (f.word = 0)
theorem aggFd : Agg Try.prog 40 4 := ⟨⟨_, Try.underlying40⟩, by kernel_rfl⟩

theorem WayRet.open {t : Int} {w w' : World} {e : Ending} (h : WayRet t w e w') : Below w.heap.size w w' ∧ ∃ ws : Array Value, ws.size = 2 ∧ ws.all (·.oneCell') = true ∧ e = .returned (.tuple #[.agg ws, .bool (decide (t = 0 ∨ t = 1 ∨ t = 5))]) := by
  refine ⟨h.1, ?_⟩
  rcases h.2 with ⟨rfl, rfl⟩ | ⟨ht, b, _, _, rfl⟩ | ⟨h0, h1, h5, rfl⟩
  · exact ⟨wayVar, rfl, by simp [wayVar, Value.oneCell'], rfl⟩
  · exact ⟨wayV b, rfl, by simp [wayV, Value.oneCell'], by rw [decide_eq_true (.inr ht)]⟩
  · exact ⟨wayNil, rfl, by simp [wayNil, Value.oneCell'], by rw [decide_eq_false (by simp [h0, h1, h5])]⟩
theorem RowAt.cells4 {w : World} {b : Nat} {t : TypeId} {x0 x1 x2 x3 : Value} (h : RowAt w b t #[x0, x1, x2, x3]) :
    w.cell? ⟨b, 0, none⟩ = some x0 ∧ w.cell? ⟨b, 1, none⟩ = some x1 ∧ w.cell? ⟨b, 2, none⟩ = some x2 ∧ w.cell? ⟨b, 3, none⟩ = some x3 := ⟨h.cell 0, h.cell 1, h.cell 2, h.cell 3⟩
theorem RowAt.cells2 {w : World} {b : Nat} {t : TypeId} {x0 x1 : Value} (h : RowAt w b t #[x0, x1]) :
    w.cell? ⟨b, 0, none⟩ = some x0 ∧ w.cell? ⟨b, 1, none⟩ = some x1 := ⟨h.cell 0, h.cell 1⟩
set_option maxRecDepth 100000 in
set_option maxHeartbeats 400000 in
theorem may_any (f : Fd) (w : World) :
    Calls Try.prog 39 #[.agg (fdC f).toArray] w fun e w' => e = .returned (.bool (mayB f)) ∧ Below w.heap.size w w' := by
  obtain ⟨num, typ, word, bytes⟩ := f
  obtain ⟨s, hs⟩ : ∃ s, str bytes = s := ⟨_, rfl⟩
  have H0 : RowAt (w.alloc (.cells #[.int .i64 num, .int .i64 typ, .int .u64 (word : Int), .string s] 40)) w.heap.size 40 #[.int .i64 num, .int .i64 typ, .int .u64 (word : Int), .string s] := RowAt.new w 40 _
  have HB0 : Below w.heap.size w (w.alloc (.cells #[.int .i64 num, .int .i64 typ, .int .u64 (word : Int), .string s] 40)) := below_alloc _
  rw [show (fdC ⟨num, typ, word, bytes⟩).toArray = #[.int .i64 num, .int .i64 typ, .int .u64 (word : Int), .string s] by rw [← hs]; rfl]
  go_enter Try.func39, Try.ntmps39
  go_wp2_with fail
  refine (wayof_any typ _).mono ?_
  rintro e w1 hway
  obtain ⟨hb1, ws, hs2, hall, rfl⟩ := hway.open
  clear hway
  have hz : (w.alloc (.cells #[.int .i64 num, .int .i64 typ, .int .u64 (word : Int), .string s] 40)).heap.size = w.heap.size + 1 := by simp
  have H1 := H0.below hb1
  have HB1 := HB0.trans (hb1.mono (by rw [hz]; omega))
  have hsz := hb1.size
  rw [hz] at hsz
  clear hb1 hz H0 HB0
  have H2 := H1.below (below_alloc (.cells #[Value.nilFunc, Value.nilFunc] 74))
  have HB2 := HB1.alloc (Nat.le_trans (by omega) hsz) (.cells #[Value.nilFunc, Value.nilFunc] 74)
  obtain ⟨hp, hpd⟩ : ∃ b, (decide (typ = 0 ∨ typ = 1 ∨ typ = 5)) = b := ⟨_, rfl⟩
  rw [hpd]
  go_wp2_with (first | (go_at_call 49; refine (fits_any typ word _).mono ?_; rintro e _ ⟨rfl, rfl⟩) | (refine step_storeRow rfl 74 (.tmp 3) (.tmp 9) rfl rfl w1.heap.size ws rfl rfl 74 #[Value.nilFunc, Value.nilFunc] (by exact RowAt.new w1 _ _) (by rw [hs2]; exact aggWay.2) hs2.symm hall ?_; intro w2 h1 h2; have H3 := H2.grown h2 (fun g hg => by obtain rfl := Option.some.inj hg; omega); have HB3 := HB2.grown h2 (by simp; omega) (fun g hg => by obtain rfl := Option.some.inj hg; omega); obtain ⟨c0, c1, c2, c3⟩ := H3.cells4; clear H1 H2 HB2 H3 h1 h2))
  all_goals go_ret
  all_goals refine ⟨congrArg (fun b => Ending.returned (Value.bool b)) ?_, HB3⟩
  all_goals clear c0 c1 c2 c3 hall hs2 HB1 HB3 hsz
  all_goals subst hs hpd
  all_goals try rw [str_toList] at *
  all_goals unfold mayB
  all_goals dsimp only
  · rw [if_pos (by omega)]
  · rw [if_neg (by omega), if_pos (of_decide_eq_true (by assumption : decide (typ = 0 ∨ typ = 1 ∨ typ = 5) = true)), decide_eq_true (by assumption : bytes = [])]; rfl
  · rw [if_neg (by omega), if_pos (of_decide_eq_true (by assumption : decide (typ = 0 ∨ typ = 1 ∨ typ = 5) = true)), decide_eq_false (by assumption : ¬ bytes = [])]; rfl
  · rw [if_neg (by omega), if_neg (of_decide_eq_false (by assumption : decide (typ = 0 ∨ typ = 1 ∨ typ = 5) = false)), decide_eq_true (by assumption : typ = 2)]
    by_cases hw : word = 0
    · subst hw; rfl
    · simp [hw]
  · rw [if_neg (by omega), if_neg (of_decide_eq_false (by assumption : decide (typ = 0 ∨ typ = 1 ∨ typ = 5) = false)), decide_eq_false (by assumption : ¬ typ = 2)]; rfl
  · rw [if_pos (by omega)]

set_option maxRecDepth 100000 in
theorem notmay_any (f : Fd) (w : World) :
    Calls Try.prog 38 #[.agg (fdC f).toArray] w fun e w' => e = .returned (.bool (!mayB f)) ∧ Below w.heap.size w w' := by
  have H0 : RowAt (w.alloc (.cells (fdC f).toArray 40)) w.heap.size 40 (fdC f).toArray := RowAt.new w 40 _
  obtain ⟨cs, hcs⟩ : ∃ cs, (fdC f).toArray = cs := ⟨_, rfl⟩
  have hsz : cs.size = 4 := by rw [← hcs]; rfl
  have hmay := may_any f
  rw [hcs] at H0 hmay ⊢
  go_enter Try.func38, Try.ntmps38
  go_wp2_with (first | (go_at_call 39; refine (hmay _).mono ?_; rintro e w1 ⟨rfl, hb1⟩) | (refine step_loadRow rfl 40 (.tmp 1) rfl w.heap.size rfl H0 (by rw [hsz]; exact aggFd) ?_))
  go_ret
  exact ⟨rfl, below_trans (below_alloc _) hb1⟩
end Go.Proofs.Ytomfdiomakjeoaa
