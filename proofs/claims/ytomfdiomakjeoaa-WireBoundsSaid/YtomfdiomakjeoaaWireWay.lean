/- How words of a type are put and taken: wire.fixed, wire.wayOf, and the functions that they hand back. -/
import Derived.Test.YtomfdiomakjeoaaWireZig
import Derived.Test.YtomfdiomakjeoaaWireTake
import Derived.Test.YtomfdiomakjeoaaRow
namespace Go.Proofs.Ytomfdiomakjeoaa
open Go.RowKit

set_option maxRecDepth 100000 in
theorem fits_any (t : Int) (x : Nat) (w : World) :
    Calls Try.prog 49 #[.int .i64 t, .int .u64 (x : Int)] w fun e w' => e = .returned (.bool (!(t == 5) || decide ((x : Int) < 4294967296))) ∧ w = w' := by
  by_cases h5 : t = 5
  · subst h5
    go_enter Try.func49, Try.ntmps49
    go_wp2
    go_ret
    refine ⟨?_, rfl⟩
    simp
  · have h5' : (t == 5) = false := by simpa using h5
    go_enter Try.func49, Try.ntmps49
    go_wp2
    go_ret
    rw [h5']
    exact ⟨rfl, rfl⟩

def wayV (b : Nat) : Array Value := #[.func (.func 57) #[] #[.pointer (some ⟨b, 0, none⟩)], .func (.func 58) #[] #[.pointer (some ⟨b, 0, none⟩)]]
def wayVar : Array Value := #[.func (.func 36) #[] #[], .func (.func 13) #[] #[]]
def wayNil : Array Value := #[.nilFunc, .nilFunc]
theorem aggWay : Agg Try.prog 74 2 := ⟨⟨_, Try.underlying74⟩, by kernel_rfl⟩
set_option maxRecDepth 100000 in
theorem fixed_any (n : Nat) (w : World) :
    Calls Try.prog 53 #[.int .i64 (n : Int)] w fun e w' => ∃ b, w.heap.size ≤ b ∧ e = .returned (.agg (wayV b)) ∧
      Box w' b 3 (.int .i64 (n : Int)) ∧ Below w.heap.size w w' := by
  have hmf : ∀ fn first cap w, (Instr.makeFunc fn first cap).run Try.prog w = .ok (.func fn first cap) w := fun _ _ _ _ => rfl
  go_enter Try.func53, Try.ntmps53
  go_wp2_with (refine step_storeRow rfl 74 (.tmp 2) (.tmp 5) rfl rfl (w.heap.size + 1) (wayV w.heap.size) rfl rfl 74 wayNil (by exact heap_alloc2_new w _ _) aggWay.2 rfl (by simp [wayV, Value.oneCell']) ?_; intro w1 h1 h2)
  have hb := ((Below.refl w.heap.size w).alloc (Nat.le_refl _) (.cells #[.int .i64 (n : Int)] 3)).alloc (by simp) (.cells wayNil 74)
  have hb1 : Below w.heap.size w w1 := hb.grown h2 (by simp; omega) (fun g hg => by obtain rfl := Option.some.inj hg; omega)
  have hx : Box w1 w.heap.size 3 (.int .i64 (n : Int)) := (h2.block w.heap.size (by simp; omega) (fun e => by simp at e)).trans (heap_alloc2_old w _ _)
  go_wp2
  exact bodyPost_ret (results_row rfl rfl h1 aggWay) rfl ⟨_, Nat.le_refl _, rfl, hx, hb1⟩

/-- What wayOf hands back. -/
def WayRet (t : Int) (w : World) (e : Ending) (w' : World) : Prop := Below w.heap.size w w' ∧
  ((t = 0 ∧ e = .returned (.tuple #[.agg wayVar, .bool true])) ∨
   ((t = 1 ∨ t = 5) ∧ ∃ b, w.heap.size ≤ b ∧ Box w' b 3 (.int .i64 ((if t = 1 then 8 else 4 : Nat) : Int)) ∧ e = .returned (.tuple #[.agg (wayV b), .bool true])) ∨
   (t ≠ 0 ∧ t ≠ 1 ∧ t ≠ 5 ∧ e = .returned (.tuple #[.agg wayNil, .bool false])))
set_option maxRecDepth 100000 in
theorem wayof_any (t : Int) (w : World) : Calls Try.prog 40 #[.int .i64 t] w (WayRet t w) := by
  have H0 := RowAt.new w 74 #[Value.nilFunc, Value.nilFunc]
  have HB0 : Below w.heap.size w (w.alloc (.cells #[Value.nilFunc, Value.nilFunc] 74)) := below_alloc _
  have hs0 : (w.alloc (.cells #[Value.nilFunc, Value.nilFunc] 74)).heap.size = w.heap.size + 1 := by simp
  by_cases h0 : t = 0
  · subst h0
    go_enter Try.func40, Try.ntmps40
    go_wp2_with (refine step_storeRow rfl 74 (.tmp 2) (.tmp 12) rfl rfl w.heap.size wayVar rfl rfl 74 wayNil (by exact H0) aggWay.2 rfl (by simp [wayVar, Value.oneCell']) ?_; intro w1 h1 h2)
    have hb1 := HB0.grown h2 (by rw [hs0]; omega) (fun g hg => by obtain rfl := Option.some.inj hg; omega)
    exact bodyPost_ret (results_row2 rfl rfl h1 aggWay rfl) rfl ⟨hb1, .inl ⟨rfl, rfl⟩⟩
  · by_cases h1 : t = 1
    · subst h1
      go_enter Try.func40, Try.ntmps40
      go_wp2_with (first | (go_at_call 53; refine (fixed_any 8 _).mono ?_; rintro e w1 ⟨b, hb, rfl, hx, hb1⟩) | (refine step_storeRow rfl 74 (.tmp 2) (.tmp 16) rfl rfl w.heap.size (wayV _) rfl rfl 74 wayNil (by exact H0.below hb1) aggWay.2 rfl (by simp [wayV, Value.oneCell']) ?_; intro w2 h1 h2))
      have hb2 : Below w.heap.size w w2 := (HB0.trans (hb1.mono (by rw [hs0]; omega))).grown h2 (Nat.le_trans (by rw [hs0]; omega) hb1.size) (fun g hg => by obtain rfl := Option.some.inj hg; omega)
      have hb' : w.heap.size + 1 ≤ b := by rw [← hs0]; exact hb
      exact bodyPost_ret (results_row2 rfl rfl h1 aggWay rfl) rfl ⟨hb2, .inr (.inl ⟨.inl rfl, b, by omega, (h2.block b hx.lt (fun e => by have := Option.some.inj e; omega)).trans hx, rfl⟩)⟩
    · by_cases h5 : t = 5
      · subst h5
        go_enter Try.func40, Try.ntmps40
        go_wp2_with (first | (go_at_call 53; refine (fixed_any 4 _).mono ?_; rintro e w1 ⟨b, hb, rfl, hx, hb1⟩) | (refine step_storeRow rfl 74 (.tmp 2) (.tmp 16) rfl rfl w.heap.size (wayV _) rfl rfl 74 wayNil (by exact H0.below hb1) aggWay.2 rfl (by simp [wayV, Value.oneCell']) ?_; intro w2 h1 h2))
        have hb2 : Below w.heap.size w w2 := (HB0.trans (hb1.mono (by rw [hs0]; omega))).grown h2 (Nat.le_trans (by rw [hs0]; omega) hb1.size) (fun g hg => by obtain rfl := Option.some.inj hg; omega)
        have hb' : w.heap.size + 1 ≤ b := by rw [← hs0]; exact hb
        exact bodyPost_ret (results_row2 rfl rfl h1 aggWay rfl) rfl ⟨hb2, .inr (.inl ⟨.inr rfl, b, by omega, (h2.block b hx.lt (fun e => by have := Option.some.inj e; omega)).trans hx, rfl⟩)⟩
      · have g0 : (t == 0) = false := by simpa using h0
        have g1 : (t == 1) = false := by simpa using h1
        have g5 : (t == 5) = false := by simpa using h5
        go_enter Try.func40, Try.ntmps40
        go_wp2_with (refine step_storeRow rfl 74 (.tmp 2) (.tmp 17) rfl rfl w.heap.size wayNil rfl rfl 74 wayNil (by exact H0) aggWay.2 rfl (by simp [wayNil, Value.oneCell']) ?_; intro w1 k1 k2)
        have hb1 := HB0.grown k2 (by rw [hs0]; omega) (fun g hg => by obtain rfl := Option.some.inj hg; omega)
        exact bodyPost_ret (results_row2 rfl rfl k1 aggWay rfl) rfl ⟨hb1, .inr (.inr ⟨h0, h1, h5, rfl⟩)⟩

set_option maxRecDepth 100000 in
set_option maxHeartbeats 400000 in
theorem put_any (n : Nat) (hn : n ≤ 8) (x : Nat) (hx : x < 18446744073709551616) (v : Value) (l : List UInt8) (base b : Nat) (w : World) (hv : OwnB w base 5 v l) (hbase : base ≤ w.heap.size) (hs : l.length + 10 ≤ 140737488355328) (hbox : Box w b 3 (.int .i64 (n : Int))) :
    Calls Try.prog 57 #[v, .int .u64 (x : Int), .pointer (some ⟨b, 0, none⟩)] w fun e w' => ∃ v', e = .returned v' ∧ OwnB w' base 5 v' (l ++ lowB x n) ∧ Onto w v w' v' := by
  have HV := Lib.hid hv
  have HLEN := Lib.hid hs
  have hc := hbox.cell
  clear hv hs hbox
  go_enter Try.func57, Try.ntmps57
  go_wp2
  clear hc
  go_loopw [0, 1, 7] (fun u s i wr => ∃ k : Nat, k ≤ n ∧ i = .int .i64 k ∧ s = .int .u64 ((x / 256 ^ k : Nat) : Int) ∧ OwnB wr base 5 u (l ++ lowB x k) ∧ Onto w v wr u) (fun _ _ i _ => n - (intOf i).toNat)
  case atStart => exact ⟨0, Nat.zero_le _, rfl, by simp, by simpa [lowB] using HV.out, Onto.refl _ _⟩
  case round =>
    obtain ⟨k, hk, rfl, rfl, ho, hb⟩ := hrel
    have HO := Lib.hid ho
    have HB := Lib.hid hb
    clear ho hb
    by_cases hlt : k < n
    · obtain ⟨y, hy⟩ : ∃ y, x / 256 ^ k = y := ⟨_, rfl⟩
      have hylt : y < 18446744073709551616 := by rw [← hy]; exact Nat.lt_of_le_of_lt (Nat.div_le_self _ _) hx
      have hy2 : x / 256 ^ (k + 1) = y / 256 := by rw [← hy, Nat.pow_succ, Nat.div_div_eq_div_mul]
      rw [hy]
      have HC := Lib.hid (rd_byte (w := wr) y ((y : Int) % 256) 5 (by omega))
      have HS : Hid ((l ++ lowB x k).length + 1 ≤ 140737488355328) := by
        show _ ≤ _; rw [List.length_append, lowB_length]; have := HLEN.out; omega
      have HL : Hid ((l ++ lowB x k) ++ [UInt8.ofNat y] = l ++ lowB x (k + 1)) := by
        show _ = _; rw [List.append_assoc, lowB_snoc, hy]
      go_wp2_with (at_builtin; refine step_appendO rfl (.tmp 9) (.tmp 12) rfl eltB base _ (l ++ lowB x k) rfl _ _ _ [UInt8.ofNat y] rfl (HO.out.kept (below_alloc _) (Nat.le_refl _)) rfl HC.out (by simpa using HS.out) (by have := HB.out.grown.size; simp; omega) ?_; intro v' w' h1 h2)
      rw [HL.out] at h1
      have H1 := Lib.hid h1
      have H2 := Lib.hid ((HB.out.alloc _).trans h2)
      clear h1 h2
      go_wp2
      go_roundw
      case rel => exact ⟨k + 1, by omega, by go_num, by rw [hy2]; go_num, H1.out, H2.out⟩
      case measure => simp [intOf]; omega
    · obtain rfl : k = n := by omega
      go_wp2
      go_ret
      exact ⟨_, rfl, HO.out, HB.out⟩

/-- The number that the first n bytes say, the lowest first. -/
def leB : List UInt8 → Nat
  | [] => 0
  | x :: r => x.toNat + 256 * leB r
theorem leB_lt (l : List UInt8) : leB l < 256 ^ l.length := by
  induction l with
  | nil => simp [leB]
  | cons x r ih => have := x.toNat_lt; simp only [leB, List.length_cons, Nat.pow_succ]; omega
theorem leB_snoc (l : List UInt8) (x : UInt8) : leB (l ++ [x]) = leB l + 256 ^ l.length * x.toNat := by
  induction l with
  | nil => simp [leB]
  | cons y r ih => simp only [leB, List.cons_append, List.length_cons, ih, Nat.pow_succ, Nat.mul_add]; rw [Nat.mul_comm (256 ^ r.length) 256, Nat.mul_assoc]; omega
theorem leB_lowB (n : Nat) : ∀ x, x < 256 ^ n → leB (lowB x n) = x := by
  induction n with
  | zero => intro x h; simp at h; subst h; rfl
  | succ n ih =>
    intro x h
    simp only [lowB, leB]
    rw [ih (x / 256) (by rw [Nat.pow_succ] at h; omega), UInt8.toNat_ofNat']
    show x % 256 + _ = x
    omega
theorem lowB_leB (l : List UInt8) : lowB (leB l) l.length = l := by
  induction l with
  | nil => rfl
  | cons x r ih =>
    have := x.toNat_lt
    simp only [leB, List.length_cons, lowB]
    rw [show (x.toNat + 256 * leB r) / 256 = leB r by omega, ih]
    congr 1
    apply UInt8.toNat_inj.1
    rw [UInt8.toNat_ofNat']
    show (x.toNat + 256 * leB r) % 256 = x.toNat
    omega
theorem or_byte (z : Nat) (c : UInt8) (k : Nat) (hk : k < 8) (hz : z < 256 ^ k) : bits .or .u64 (z : Int) (IntKind.u64.wrap ((c.toNat : Int) * 2 ^ (8 * k))) = ((z + 256 ^ k * c.toNat : Nat) : Int) := by
  have hc := c.toNat_lt
  have h256 : (256 : Nat) ^ k = 2 ^ (8 * k) := by rw [show (256 : Nat) = 2 ^ 8 from rfl, ← Nat.pow_mul]
  have hp : (256 : Nat) ^ k * 256 ≤ 18446744073709551616 := by
    have : (256 : Nat) ^ k ≤ 256 ^ 7 := Nat.pow_le_pow_right (by decide) (by omega)
    omega
  have hm : c.toNat * 256 ^ k < 18446744073709551616 := by
    have : c.toNat * 256 ^ k < 256 * 256 ^ k := (Nat.mul_lt_mul_right (by rw [h256]; exact Nat.two_pow_pos _)).2 hc
    rw [Nat.mul_comm 256] at this
    omega
  have e1 : ((c.toNat : Int) * 2 ^ (8 * k)) = ((c.toNat * 256 ^ k : Nat) : Int) := by rw [h256]; push_cast; rfl
  have hz' : z < 18446744073709551616 := by
    have : (256 : Nat) ^ k ≤ 256 ^ 7 := Nat.pow_le_pow_right (by decide) (by omega)
    omega
  rw [e1, wrapU .u64 rfl _ hm, bits_or_nat .u64 rfl _ _ hz' hm]
  congr 1
  rw [Nat.mul_comm c.toNat, Nat.or_comm, h256, Nat.add_comm]
  rw [h256] at hz
  exact (Nat.two_pow_add_eq_or_of_lt hz _).symm

set_option maxRecDepth 100000 in
set_option maxHeartbeats 400000 in
theorem take_any (n : Nat) (hn : n ≤ 8) (a : Option Addr) (l : List UInt8) (m cap b : Nat) (w : World) (hm : Hid (m = l.length)) (hcap : m ≤ cap) (hl : RdB w a l) (hbox : Box w b 3 (.int .i64 (n : Int))) :
    Calls Try.prog 58 #[.slice a m cap, .pointer (some ⟨b, 0, none⟩)] w fun e w' =>
      e = .returned (if m < n then .tuple #[.int .u64 0, .int .i64 0, .int .i64 270] else .tuple #[.int .u64 (leB (l.take n) : Int), .int .i64 (n : Int), .int .i64 0]) ∧ Below w.heap.size w w' := by
  have HL := Lib.hid hl
  have hc := hbox.cell
  clear hl hbox
  by_cases hlt : m < n
  · rw [if_pos hlt]
    go_enter Try.func58, Try.ntmps58
    go_wp2
    go_ret3
    exact ⟨rfl, Below.refl _ _⟩
  · rw [if_neg hlt]
    go_enter Try.func58, Try.ntmps58
    go_wp2
    go_loopw [6, 17] (fun s i wr => wr = w ∧ ∃ k : Nat, k ≤ n ∧ i = .int .i64 k ∧ s = .int .u64 (leB (l.take k) : Int)) (fun _ i _ => n - (intOf i).toNat)
    case atStart => exact ⟨rfl, 0, Nat.zero_le _, rfl, rfl⟩
    case round =>
      obtain ⟨rfl, k, hk, rfl, rfl⟩ := hrel
      by_cases hkn : k < n
      · have hkl : k < l.length := by rw [← hm.out]; omega
        obtain ⟨b2, off, rfl, _, hcell⟩ := HL.out.at (by omega)
        have h1 := hcell k hkl
        have hor := or_byte (leB (l.take k)) l[k] k (by omega) (by have := leB_lt (l.take k); rw [List.length_take, Nat.min_eq_left (by omega)] at this; exact this)
        have hst : leB (l.take (k + 1)) = leB (l.take k) + 256 ^ k * l[k].toNat := by
          rw [take_snoc l k hkl, leB_snoc, List.length_take, Nat.min_eq_left (by omega)]
        rw [← hst] at hor
        clear hcell hst
        obtain ⟨c, hcc⟩ : ∃ c : Nat, l[k].toNat = c := ⟨_, rfl⟩
        have hc256 : c < 256 := by rw [← hcc]; exact l[k].toNat_lt
        rw [hcc] at h1 hor
        obtain ⟨z, hz⟩ : ∃ z : Nat, leB (l.take k) = z := ⟨_, rfl⟩
        obtain ⟨z', hz'⟩ : ∃ z : Nat, leB (l.take (k + 1)) = z := ⟨_, rfl⟩
        rw [hz, hz'] at hor
        rw [hz]
        go_wp2
        go_round
        case rel => refine ⟨trivial, k + 1, by omega, by go_num, by rw [hz']⟩
        case measure => simp [intOf]; omega
      · obtain rfl : k = n := by omega
        go_wp2
        go_quiet (fail)
        go_wp2
        go_ret3
        exact ⟨rfl, drewN_below (Below.refl _ _) _⟩
end Go.Proofs.Ytomfdiomakjeoaa
