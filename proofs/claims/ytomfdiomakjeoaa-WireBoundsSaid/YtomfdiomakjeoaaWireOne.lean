/- How a field is read: wire.one. -/
import Derived.Test.YtomfdiomakjeoaaWireBytes
namespace Go.Proofs.Ytomfdiomakjeoaa
open Go.RowKit Go.BigFrame

theorem RdB.dropA {w : World} {a : Option Addr} {l : List UInt8} (h : RdB w a l) (k c : Nat) (hc : l.length ≤ c) : RdB w (if c = k then a else Option.map (fun x => x.add k) a) (l.drop k) := by
  have := h.drop k c hc
  rwa [Nat.mul_one] at this
theorem RdB.dropB {w : World} {a : Option Addr} {l : List UInt8} (h : RdB w a l) (k c : Nat) (hc : l.length ≤ c) (hck : ¬ c = k) : RdB w (Option.map (fun x => x.add k) a) (l.drop k) := by
  have := h.dropA k c hc
  rwa [if_neg hck] at this
/-- The field at the beginning of some bytes, and how many bytes it has. -/
def rdOne (l : List UInt8) : Option (Fd × Nat) :=
  if verr l ≠ 0 ∨ 4294967296 ≤ vval l ∨ vval l < 8 then none
  else if vval l % 8 = 0 then (if verr (l.drop (vlen l)) = 0 then some (⟨(vval l / 8 : Nat), 0, vval (l.drop (vlen l)), []⟩, vlen l + vlen (l.drop (vlen l))) else none)
  else if vval l % 8 = 1 ∨ vval l % 8 = 5 then
    (if (l.drop (vlen l)).length < (if vval l % 8 = 1 then 8 else 4) then none else some (⟨(vval l / 8 : Nat), (vval l % 8 : Nat), leB ((l.drop (vlen l)).take (if vval l % 8 = 1 then 8 else 4)), []⟩, vlen l + (if vval l % 8 = 1 then 8 else 4)))
  else if vval l % 8 = 2 then
    (if verr (l.drop (vlen l)) ≠ 0 ∨ (l.drop (vlen l)).length - vlen (l.drop (vlen l)) < vval (l.drop (vlen l)) then none
     else some (⟨(vval l / 8 : Nat), 2, 0, ((l.drop (vlen l)).drop (vlen (l.drop (vlen l)))).take (vval (l.drop (vlen l)))⟩, vlen l + vlen (l.drop (vlen l)) + vval (l.drop (vlen l))))
  else none
/-- What 'one' hands back. -/
def OneRet (o : Option (Fd × Nat)) (e : Ending) : Prop := ∃ (cs : Array Value) (j er : Int), e = .returned (.tuple #[.agg cs, .int .i64 j, .int .i64 er]) ∧ cs.size = 4 ∧ cs.all (·.oneCell') = true ∧
  ((o = none ∧ er = 270) ∨ ∃ f k, o = some (f, k) ∧ cs = (fdC f).toArray ∧ j = (k : Int) ∧ er = 0)
def zeroFd : Array Value := #[.int .i64 0, .int .i64 0, .int .u64 0, .string ⟨#[]⟩]
theorem zeroFd_one : zeroFd.all (·.oneCell') = true := by simp [zeroFd, Value.oneCell']

set_option maxRecDepth 100000 in
set_option maxHeartbeats 4000000 in
theorem one_any (a : Option Addr) (l : List UInt8) (n cap : Nat) (w : World) (hn : Hid (n = l.length)) (hc : n ≤ cap) (hc2 : cap ≤ 9223372036854775807) (hl : RdB w a l) :
    Calls Try.prog 43 #[.slice a n cap] w fun e w' => OneRet (rdOne l) e ∧ Below w.heap.size w w' := by
  have HL := Lib.hid hl
  clear hl
  obtain ⟨ro, hro⟩ : ∃ ro, rdOne l = ro := ⟨_, rfl⟩
  rw [hro]
  go_enter Try.func43, Try.ntmps43
  go_wp2_with fail
  refine (takevarint_any a l n cap _ hn hc hc2 (HL.out.mono (below_alloc _))).mono ?_
  rintro e _ ⟨rfl, rfl⟩
  have hbad : verr l ≠ 0 ∨ 4294967296 ≤ vval l ∨ vval l < 8 → Hid (rdOne l = none) := fun h => by show _ = _; unfold rdOne; rw [if_pos h]
  have hgood : ¬ (verr l ≠ 0 ∨ 4294967296 ≤ vval l ∨ vval l < 8) → Hid (rdOne l = (if vval l % 8 = 0 then (if verr (l.drop (vlen l)) = 0 then some (⟨(vval l / 8 : Nat), 0, vval (l.drop (vlen l)), []⟩, vlen l + vlen (l.drop (vlen l))) else none)
      else if vval l % 8 = 1 ∨ vval l % 8 = 5 then
        (if (l.drop (vlen l)).length < (if vval l % 8 = 1 then 8 else 4) then none else some (⟨(vval l / 8 : Nat), (vval l % 8 : Nat), leB ((l.drop (vlen l)).take (if vval l % 8 = 1 then 8 else 4)), []⟩, vlen l + (if vval l % 8 = 1 then 8 else 4)))
      else if vval l % 8 = 2 then
        (if verr (l.drop (vlen l)) ≠ 0 ∨ (l.drop (vlen l)).length - vlen (l.drop (vlen l)) < vval (l.drop (vlen l)) then none
         else some (⟨(vval l / 8 : Nat), 2, 0, ((l.drop (vlen l)).drop (vlen (l.drop (vlen l)))).take (vval (l.drop (vlen l)))⟩, vlen l + vlen (l.drop (vlen l)) + vval (l.drop (vlen l))))
      else none)) := fun h => by show _ = _; unfold rdOne; rw [if_neg h]
  have hvl := vlen_le l
  have hve := verr_cases l
  have hvv := vval_lt l
  obtain ⟨tag, htag⟩ : ∃ x, vval l = x := ⟨_, rfl⟩
  obtain ⟨k1, hk1⟩ : ∃ x, vlen l = x := ⟨_, rfl⟩
  obtain ⟨er, her⟩ : ∃ x, verr l = x := ⟨_, rfl⟩
  rw [hro, htag, her] at hbad
  rw [hro, htag, her, hk1] at hgood
  rw [hk1, ← hn.out] at hvl
  rw [htag] at hvv
  rw [htag, hk1, her] at hve
  rw [htag, hk1, her]
  clear hro htag hk1 her
  have HW0 : RowAt (w.alloc (.cells zeroFd 40)) w.heap.size 40 zeroFd := RowAt.new _ _ _
  have HB0 : Below w.heap.size w (w.alloc (.cells zeroFd 40)) := below_alloc _
  have hs0 : (w.alloc (.cells zeroFd 40)).heap.size = w.heap.size + 1 := by simp
  unfold zeroFd at HW0 HB0 hs0
  have none_ok : ∀ (w' : World), Hid (ro = none) → Below w.heap.size w w' → OneRet ro (.returned (.tuple #[.agg zeroFd, .int .i64 0, .int .i64 270])) ∧ Below w.heap.size w w' := fun w' h hb =>
    ⟨⟨zeroFd, 0, 270, rfl, rfl, zeroFd_one, .inl ⟨h.out, rfl⟩⟩, hb⟩
  have any_ok : ∀ (w' : World) (m t x : Nat) (k er : Int), Hid ((ro = none ∧ er = 270) ∨ ∃ k1 : Nat, ro = some (⟨m, t, x, []⟩, k1) ∧ k = (k1 : Int) ∧ er = 0) → Below w.heap.size w w' →
      OneRet ro (.returned (.tuple #[.agg #[.int .i64 (m : Int), .int .i64 (t : Int), .int .u64 (x : Int), .string ⟨#[]⟩], .int .i64 k, .int .i64 er])) ∧ Below w.heap.size w w' := fun w' m t x k er h hb =>
    ⟨⟨_, k, er, rfl, rfl, by simp [Value.oneCell'], h.out.imp id fun ⟨k1, h1, h2, h3⟩ => ⟨_, k1, h1, rfl, h2, h3⟩⟩, hb⟩
  by_cases hb : er ≠ 0 ∨ 4294967296 ≤ tag ∨ tag < 8
  · have HN := hbad hb
    have NO := Lib.hid none_ok
    clear hbad hgood none_ok any_ok
    rcases hve with ⟨rfl, hk0⟩ | ⟨rfl, rfl, rfl⟩
    · have hb' : 4294967296 ≤ tag ∨ tag < 8 := by omega
      clear hb
      rcases hb' with hb | hb
      · have h32 : ((tag : Int) / 4294967296 == 0) = false := by simp; omega
        go_wp2_with (refine step_storeRow rfl 40 (.tmp 2) (.tmp 34) rfl rfl w.heap.size zeroFd rfl rfl 40 zeroFd (by exact HW0) aggFd.2 rfl zeroFd_one ?_; intro w1 h1 h2; have hb1 := HB0.grown h2 (by rw [hs0]; omega) (fun g hg => by obtain rfl := Option.some.inj hg; omega))
        exact bodyPost_ret (results_row3 (p := 2) (q := 3) (r := 4) (u := .int .i64 0) (v := .int .i64 270) rfl rfl h1 aggFd rfl rfl) rfl (NO.out _ HN hb1)
      · have h32 : ((tag : Int) / 4294967296 == 0) = true := by simp; omega
        have h3 : ((tag : Int) / 8 == 0) = true := by simp; omega
        go_wp2_with (refine step_storeRow rfl 40 (.tmp 2) (.tmp 34) rfl rfl w.heap.size zeroFd rfl rfl 40 zeroFd (by exact HW0) aggFd.2 rfl zeroFd_one ?_; intro w1 h1 h2; have hb1 := HB0.grown h2 (by rw [hs0]; omega) (fun g hg => by obtain rfl := Option.some.inj hg; omega))
        exact bodyPost_ret (results_row3 (p := 2) (q := 3) (r := 4) (u := .int .i64 0) (v := .int .i64 270) rfl rfl h1 aggFd rfl rfl) rfl (NO.out _ HN hb1)
    · clear hb
      go_wp2_with (refine step_storeRow rfl 40 (.tmp 2) (.tmp 34) rfl rfl w.heap.size zeroFd rfl rfl 40 zeroFd (by exact HW0) aggFd.2 rfl zeroFd_one ?_; intro w1 h1 h2; have hb1 := HB0.grown h2 (by rw [hs0]; omega) (fun g hg => by obtain rfl := Option.some.inj hg; omega))
      exact bodyPost_ret (results_row3 (p := 2) (q := 3) (r := 4) (u := .int .i64 0) (v := .int .i64 270) rfl rfl h1 aggFd rfl rfl) rfl (NO.out _ HN hb1)
  · have HG := hgood hb
    clear hbad hgood
    obtain ⟨rfl, hk0⟩ : er = 0 ∧ 0 < k1 := by omega
    have htg : 8 ≤ tag ∧ tag < 4294967296 := by omega
    obtain ⟨m, hm⟩ : ∃ m, tag / 8 = m := ⟨_, rfl⟩
    obtain ⟨t, ht⟩ : ∃ t, tag % 8 = t := ⟨_, rfl⟩
    have htm : tag = 8 * m + t := by omega
    have hm1 : 1 ≤ m := by omega
    have hm2 : m < 536870912 := by omega
    have ht8 : t < 8 := by omega
    rw [hm, ht] at HG
    clear hve hb hvv hm ht
    subst htm
    have h32 : ((8 * (m : Int) + t) / 4294967296) = 0 := by omega
    have h3 : ((8 * (m : Int) + t) / 8) = m := by omega
    have h7 : bits .and .u64 (8 * (m : Int) + t) 7 = t := by
      rw [show (8 * (m : Int) + t) = ((8 * m + t : Nat) : Int) by omega]
      refine (bits_and_nat .u64 rfl (8 * m + t) 7 (by show 8 * m + t < 18446744073709551616; omega) (by decide)).trans ?_
      have := Nat.and_two_pow_sub_one_eq_mod (8 * m + t) 3
      rw [show (7 : Nat) = 2 ^ 3 - 1 from rfl, this]
      omega
    have HW1 : RowAt ((w.alloc (.cells zeroFd 40)).alloc (.cells #[.int .i64 (m : Int), .int .i64 (t : Int), .int .u64 0, .string ⟨#[]⟩] 40)) w.heap.size 40 zeroFd := HW0.below (below_alloc _)
    have H81 : RowAt ((w.alloc (.cells zeroFd 40)).alloc (.cells #[.int .i64 (m : Int), .int .i64 (t : Int), .int .u64 0, .string ⟨#[]⟩] 40)) (w.heap.size + 1) 40 #[.int .i64 (m : Int), .int .i64 (t : Int), .int .u64 0, .string ⟨#[]⟩] := heap_alloc2_new _ _ _
    have HB1 : Below w.heap.size w ((w.alloc (.cells zeroFd 40)).alloc (.cells #[.int .i64 (m : Int), .int .i64 (t : Int), .int .u64 0, .string ⟨#[]⟩] 40)) := HB0.alloc (by simp) _
    have hs1 : ((w.alloc (.cells zeroFd 40)).alloc (.cells #[.int .i64 (m : Int), .int .i64 (t : Int), .int .u64 0, .string ⟨#[]⟩] 40)).heap.size = w.heap.size + 2 := by simp
    unfold zeroFd at HW1 H81 HB1 hs1
    have NO := Lib.hid none_ok
    have AO := Lib.hid any_ok
    clear none_ok any_ok HW0 HB0 hs0
    go_wp2_with fail
    refine (wayof_any (t : Int) _).mono ?_
    rintro e w2 ⟨hb2, hway⟩
    have HB2 := Lib.hid (HB1.trans (hb2.mono (by rw [hs1]; omega)))
    have HW2 := HW1.below hb2
    have H82 := H81.below hb2
    have hs2 := hb2.size
    rw [hs1] at hs2
    rcases (show t = 0 ∨ (t = 1 ∨ t = 5) ∨ t = 2 ∨ (t ≠ 0 ∧ t ≠ 1 ∧ t ≠ 5 ∧ t ≠ 2) by omega) with rfl | ht15 | rfl | ⟨ht0, ht1, ht5, ht2⟩
    · have hw0 : e = .returned (.tuple #[.agg wayVar, .bool true]) := by
        rcases hway with ⟨_, h⟩ | ⟨h, _⟩ | ⟨h, _⟩
        · exact h
        · omega
        · exact absurd rfl h
      subst hw0
      clear hway hb2 HW1 H81 HB1 hs1 h32 h3 h7
      go_wp2_with (first | (refine step_storeRow rfl 74 (.tmp 9) (.tmp 46) rfl rfl w2.heap.size wayVar rfl rfl 74 wayNil (by exact RowAt.new w2 _ _) aggWay.2 rfl (by simp [wayVar, Value.oneCell']) ?_; intro w3 h1 h2; obtain ⟨d0, d1⟩ := h1.cells2; have HW3 := (HW2.below (below_alloc _)).grown h2 (fun g hg => by obtain rfl := Option.some.inj hg; omega); have H83 := (H82.below (below_alloc _)).grown h2 (fun g hg => by obtain rfl := Option.some.inj hg; omega); have HB3 := Lib.hid ((HB2.out.alloc (by omega) _).grown h2 (by simp; omega) (fun g hg => by obtain rfl := Option.some.inj hg; omega)); have HG2 := Lib.hid h2; clear h1 h2))
      have hld : Hid (n - k1 = (l.drop k1).length) := by show _ = _; rw [List.length_drop, ← hn.out]
      have hrd := Lib.hid ((HL.out.mono HB3.out).dropA k1 cap (by rw [← hn.out]; omega))
      obtain ⟨x, k2, er, hx, hk2, hcall, HRX⟩ : ∃ x k2 er : Nat, x < 18446744073709551616 ∧ k2 ≤ n - k1 ∧ (∀ W, Below w3.heap.size w3 W → Calls Try.prog 13 #[.slice (if cap = k1 then a else Option.map (fun x => x.add k1) a) (n - k1) (cap - k1)] W fun e w' => e = .returned (.tuple #[.int .u64 (x : Int), .int .i64 (k2 : Int), .int .i64 (er : Int)]) ∧ Below W.heap.size W w') ∧
          Hid ((ro = none ∧ (er : Int) = 270) ∨ ∃ k : Nat, ro = some (⟨m, ((0 : Nat) : Int), x, []⟩, k) ∧ (k1 : Int) + k2 = (k : Int) ∧ (er : Int) = 0) := by
        refine ⟨vval (l.drop k1), vlen (l.drop k1), verr (l.drop k1), vval_lt _, by have := vlen_le (l.drop k1); rw [← hld.out] at this; exact this, fun W hW => (takevarint_any _ (l.drop k1) (n - k1) (cap - k1) W hld (by omega) (by omega) (hrd.out.mono hW)).mono fun e w' h => ⟨h.1, h.2 ▸ Below.refl _ _⟩, ?_⟩
        have HR : Hid (ro = if verr (l.drop k1) = 0 then some (⟨(m : Nat), 0, vval (l.drop k1), []⟩, k1 + vlen (l.drop k1)) else none) := HG.out
        rcases verr_cases (l.drop k1) with ⟨he, _⟩ | ⟨he, _, _⟩
        · exact .inr ⟨k1 + vlen (l.drop k1), by rw [HR.out, if_pos he]; rfl, by omega, by omega⟩
        · exact .inl ⟨by rw [HR.out, if_neg (by omega)], by omega⟩
      have hcall := Lib.hid hcall
      have hdc : ∀ x : Bel w3.heap.size w3, x.1.cell? ⟨w2.heap.size, 1, none⟩ = some _ := fun x => (x.below.cell (p := ⟨w2.heap.size, 1, none⟩) (World.block_lt_of_cell? w3 _ d1)).trans d1
      clear HG HG2 hrd hld
      haveI := Bel.here w3.heap.size w3
      refine wp_region_below w3.heap.size w3 (by kernel_rfl) (by kernel_rfl) (Below.refl _ _) ?_
      repeat (go_big_quiet_step (first | (go_at_call 13; exact Calls.bel rfl (hcall.out _ (Bel.below _)))))
      refine wpQuiet_nil ?_
      rintro w5 ⟨⟨_, hb5⟩, rfl⟩
      clear hdc this hcall
      obtain ⟨ad, had⟩ : ∃ ad, (if cap = k1 then a else Option.map (fun x => x.add k1) a) = ad := ⟨_, rfl⟩
      rw [had]
      clear had
      have HW5 := HW3.below hb5
      have H85 := H83.below hb5
      have HB5 := HB3.out.trans (hb5.mono HB3.out.size)
      clear hb5 HB3 H83 HW3 d0 d1
      go_wp2_with (first | (refine step_storeField rfl 22 (.tmp 60) (.tmp 59) rfl rfl (w.heap.size + 1) 2 (.int .u64 (x : Int)) rfl rfl 40 #[.int .i64 (m : Int), .int .i64 ((0 : Nat) : Int), .int .u64 0, .string ⟨#[]⟩] #[.int .i64 (m : Int), .int .i64 ((0 : Nat) : Int), .int .u64 (x : Int), .string ⟨#[]⟩] H85 (by kernel_rfl) (by show 2 < 4; decide) rfl (by simp) ?_; intro w6 h1 h2; have H86 := h1; have HW6 := HW5.grown h2 (fun g hg => by obtain rfl := Option.some.inj hg; omega); have HB6 := HB5.grown h2 HB5.size (fun g hg => by obtain rfl := Option.some.inj hg; omega); clear h1 h2) | (refine step_loadRow rfl 40 (.tmp 8) rfl (w.heap.size + 1) rfl H86 aggFd ?_) | (refine step_storeRow rfl 40 (.tmp 2) (.tmp 61) rfl rfl w.heap.size #[.int .i64 (m : Int), .int .i64 ((0 : Nat) : Int), .int .u64 (x : Int), .string ⟨#[]⟩] rfl rfl 40 zeroFd (by exact HW6) aggFd.2 rfl (by simp [Value.oneCell']) ?_; intro w7 h1 h2; have HB7 := HB6.grown h2 HB6.size (fun g hg => by obtain rfl := Option.some.inj hg; omega)))
      exact bodyPost_ret (results_row3 (p := 2) (q := 3) (r := 4) (u := .int .i64 ((k1 : Int) + k2)) (v := .int .i64 (er : Int)) rfl rfl h1 aggFd rfl rfl) rfl (AO.out _ m 0 x _ _ HRX HB7)
    · obtain ⟨bn, hbn, hbox, rfl⟩ : ∃ b, w.heap.size + 2 ≤ b ∧ Box w2 b 3 (.int .i64 ((if t = 1 then 8 else 4 : Nat) : Int)) ∧ e = .returned (.tuple #[.agg (wayV b), .bool true]) := by
        rcases hway with ⟨h, _⟩ | ⟨_, b, h1, h2, h3⟩ | ⟨_, h1, h5, h⟩
        · omega
        · rw [hs1] at h1
          refine ⟨b, h1, ?_, h3⟩
          rcases ht15 with rfl | rfl
          · exact h2
          · exact h2
        · omega
      obtain ⟨sz, hszn⟩ : ∃ sz : Nat, (if t = 1 then 8 else 4) = sz := ⟨_, rfl⟩
      have hsz8 : sz ≤ 8 := by rw [← hszn]; split <;> omega
      rw [hszn] at hbox
      have hbn2 := hbox.lt
      clear hway hb2 HW1 H81 HB1 hs1 h32 h3 h7
      go_wp2_with (first | (refine step_storeRow rfl 74 (.tmp 9) (.tmp 46) rfl rfl w2.heap.size (wayV bn) rfl rfl 74 wayNil (by exact RowAt.new w2 _ _) aggWay.2 rfl (by simp [wayV, Value.oneCell']) ?_; intro w3 h1 h2; obtain ⟨d0, d1⟩ := h1.cells2; have HW3 := (HW2.below (below_alloc _)).grown h2 (fun g hg => by obtain rfl := Option.some.inj hg; omega); have H83 := (H82.below (below_alloc _)).grown h2 (fun g hg => by obtain rfl := Option.some.inj hg; omega); have HB3 := Lib.hid ((HB2.out.alloc (by omega) _).grown h2 (by simp; omega) (fun g hg => by obtain rfl := Option.some.inj hg; omega)); have HG2 := Lib.hid h2; clear h1 h2))
      have hld : Hid (n - k1 = (l.drop k1).length) := by show _ = _; rw [List.length_drop, ← hn.out]
      have hrd := Lib.hid ((HL.out.mono HB3.out).dropA k1 cap (by rw [← hn.out]; omega))
      obtain ⟨x, k2, er, hx, hk2, hcall, HRX⟩ : ∃ x k2 er : Nat, x < 18446744073709551616 ∧ k2 ≤ n - k1 ∧ (∀ W, Below w3.heap.size w3 W → Calls Try.prog 58 #[.slice (if cap = k1 then a else Option.map (fun x => x.add k1) a) (n - k1) (cap - k1), .pointer (some ⟨bn, 0, none⟩)] W fun e w' => e = .returned (.tuple #[.int .u64 (x : Int), .int .i64 (k2 : Int), .int .i64 (er : Int)]) ∧ Below W.heap.size W w') ∧
          Hid ((ro = none ∧ (er : Int) = 270) ∨ ∃ k : Nat, ro = some (⟨m, (t : Int), x, []⟩, k) ∧ (k1 : Int) + k2 = (k : Int) ∧ (er : Int) = 0) := by
        have hbox3 : Box w3 bn 3 (.int .i64 (sz : Int)) := (HG2.out.block bn (by simp; omega) (fun e => by have := Option.some.inj e; omega)).trans ((Below.heap_alloc w2 _ bn hbn2).trans hbox)
        have HR : Hid (ro = if (l.drop k1).length < (if t = 1 then 8 else 4) then none else some (⟨(m : Nat), (t : Nat), leB ((l.drop k1).take (if t = 1 then 8 else 4)), []⟩, k1 + (if t = 1 then 8 else 4))) := by
          show _ = _
          rw [HG.out, if_neg (by omega), if_pos ht15]
        rw [hszn] at HR
        by_cases hsh : n - k1 < sz
        · refine ⟨0, 0, 270, by decide, Nat.zero_le _, fun W hW => (take_any sz hsz8 _ (l.drop k1) (n - k1) (cap - k1) bn W hld (by omega) (hrd.out.mono hW) (hbox3.below hW)).mono fun e w' h => ⟨by rw [h.1, if_pos hsh]; rfl, h.2⟩, ?_⟩
          exact .inl ⟨by rw [HR.out, ← hld.out, if_pos hsh], by omega⟩
        · have hlt := leB_lt ((l.drop k1).take sz)
          have hlt2 : (256 : Nat) ^ ((l.drop k1).take sz).length ≤ 256 ^ 8 := Nat.pow_le_pow_right (by decide) (by rw [List.length_take]; omega)
          refine ⟨leB ((l.drop k1).take sz), sz, 0, Nat.lt_of_lt_of_le hlt hlt2, by omega, fun W hW => (take_any sz hsz8 _ (l.drop k1) (n - k1) (cap - k1) bn W hld (by omega) (hrd.out.mono hW) (hbox3.below hW)).mono fun e w' h => ⟨by rw [h.1, if_neg hsh]; rfl, h.2⟩, ?_⟩
          exact .inr ⟨k1 + sz, by rw [HR.out, ← hld.out, if_neg hsh], by omega, by omega⟩
      have hcall := Lib.hid hcall
      have hdc : ∀ x : Bel w3.heap.size w3, x.1.cell? ⟨w2.heap.size, 1, none⟩ = some _ := fun x => (x.below.cell (p := ⟨w2.heap.size, 1, none⟩) (World.block_lt_of_cell? w3 _ d1)).trans d1
      clear HG HG2 hrd hld
      haveI := Bel.here w3.heap.size w3
      refine wp_region_below w3.heap.size w3 (by kernel_rfl) (by kernel_rfl) (Below.refl _ _) ?_
      repeat (go_big_quiet_step (first | (go_at_call 58; exact Calls.bel rfl (hcall.out _ (Bel.below _)))))
      refine wpQuiet_nil ?_
      rintro w5 ⟨⟨_, hb5⟩, rfl⟩
      clear hdc this hcall
      obtain ⟨ad, had⟩ : ∃ ad, (if cap = k1 then a else Option.map (fun x => x.add k1) a) = ad := ⟨_, rfl⟩
      rw [had]
      clear had
      have HW5 := HW3.below hb5
      have H85 := H83.below hb5
      have HB5 := HB3.out.trans (hb5.mono HB3.out.size)
      clear hb5 HB3 H83 HW3 d0 d1
      go_wp2_with (first | (refine step_storeField rfl 22 (.tmp 60) (.tmp 59) rfl rfl (w.heap.size + 1) 2 (.int .u64 (x : Int)) rfl rfl 40 #[.int .i64 (m : Int), .int .i64 (t : Int), .int .u64 0, .string ⟨#[]⟩] #[.int .i64 (m : Int), .int .i64 (t : Int), .int .u64 (x : Int), .string ⟨#[]⟩] H85 (by kernel_rfl) (by show 2 < 4; decide) rfl (by simp) ?_; intro w6 h1 h2; have H86 := h1; have HW6 := HW5.grown h2 (fun g hg => by obtain rfl := Option.some.inj hg; omega); have HB6 := HB5.grown h2 HB5.size (fun g hg => by obtain rfl := Option.some.inj hg; omega); clear h1 h2) | (refine step_loadRow rfl 40 (.tmp 8) rfl (w.heap.size + 1) rfl H86 aggFd ?_) | (refine step_storeRow rfl 40 (.tmp 2) (.tmp 61) rfl rfl w.heap.size #[.int .i64 (m : Int), .int .i64 (t : Int), .int .u64 (x : Int), .string ⟨#[]⟩] rfl rfl 40 zeroFd (by exact HW6) aggFd.2 rfl (by simp [Value.oneCell']) ?_; intro w7 h1 h2; have HB7 := HB6.grown h2 HB6.size (fun g hg => by obtain rfl := Option.some.inj hg; omega)))
      exact bodyPost_ret (results_row3 (p := 2) (q := 3) (r := 4) (u := .int .i64 ((k1 : Int) + k2)) (v := .int .i64 (er : Int)) rfl rfl h1 aggFd rfl rfl) rfl (AO.out _ m t x _ _ HRX HB7)
    · have hw0 : e = .returned (.tuple #[.agg wayNil, .bool false]) := by
        rcases hway with ⟨h, _⟩ | ⟨h, _⟩ | ⟨_, _, _, h⟩
        · omega
        · omega
        · exact h
      subst hw0
      clear hway hb2 HW1 H81 HB1 hs1 h32 h3 h7
      have HR := HG.out
      rw [if_neg (by omega), if_neg (by omega), if_pos rfl] at HR
      have hld : Hid (n - k1 = (l.drop k1).length) := by show _ = _; rw [List.length_drop, ← hn.out]
      have hvl2 := vlen_le (l.drop k1)
      have hve2 := verr_cases (l.drop k1)
      have hvv2 := vval_lt (l.drop k1)
      rw [← hld.out] at hvl2 HR
      rw [List.drop_drop] at HR
      obtain ⟨x, hx⟩ : ∃ x, vval (l.drop k1) = x := ⟨_, rfl⟩
      obtain ⟨k2, hk2⟩ : ∃ x, vlen (l.drop k1) = x := ⟨_, rfl⟩
      obtain ⟨er, her⟩ : ∃ x, verr (l.drop k1) = x := ⟨_, rfl⟩
      rw [hx, hk2, her] at HR hve2
      rw [hx] at hvv2
      rw [hk2] at hvl2
      have HRR := Lib.hid HR
      have hx := Lib.hid hx
      have hk2 := Lib.hid hk2
      have her := Lib.hid her
      clear HR HG
      have hc3 : n - k1 ≤ cap - k1 := by omega
      have hc4 : cap - k1 ≤ 9223372036854775807 := by omega
      rcases hve2 with ⟨rfl, hk20⟩ | ⟨rfl, rfl, rfl⟩
      · have hck : ¬ cap = k1 := by omega
        by_cases hbig : n - k1 - k2 < x
        · have HN : Hid (ro = none) := by show _ = _; rw [HRR.out, if_pos (.inr hbig)]
          have htest : decide ((n : Int) - ((k1 : Int) + k2) < (x : Int)) = true := decide_eq_true (by omega)
          clear HRR hbig
          go_wp2_with (first | (refine step_storeRow rfl 74 (.tmp 9) (.tmp 46) rfl rfl w2.heap.size wayNil rfl rfl 74 wayNil (by exact RowAt.new w2 _ _) aggWay.2 rfl (by simp [wayNil, Value.oneCell']) ?_; intro w3 h1 h2; have HW3 := (HW2.below (below_alloc _)).grown h2 (fun g hg => by obtain rfl := Option.some.inj hg; omega); have H83 := (H82.below (below_alloc _)).grown h2 (fun g hg => by obtain rfl := Option.some.inj hg; omega); have HB3 := Lib.hid ((HB2.out.alloc (by omega) _).grown h2 (by simp; omega) (fun g hg => by obtain rfl := Option.some.inj hg; omega)); clear h1 h2; obtain ⟨c0, c1, c2, c3⟩ := H83.cells4; have hrd := Lib.hid (RdB.dropB (HL.out.mono HB3.out) k1 cap (by rw [← hn.out]; omega) hck)) | (go_at_call 13; refine (takevarint_any _ (l.drop k1) (n - k1) (cap - k1) _ hld hc3 hc4 hrd.out).mono ?_; rw [hx.out, hk2.out, her.out]; rintro e _ ⟨rfl, rfl⟩; obtain ⟨ad, had⟩ : ∃ ad, Option.map (fun x : Addr => x.add k1) a = ad := ⟨_, rfl⟩; rw [had]; clear had hrd) | (refine step_storeRow rfl 40 (.tmp 2) (.tmp 92) rfl rfl w.heap.size zeroFd rfl rfl 40 zeroFd (by exact HW3) aggFd.2 rfl zeroFd_one ?_; intro w4 k1 k2; have hb1 := HB3.out.grown k2 HB3.out.size (fun g hg => by obtain rfl := Option.some.inj hg; omega)))
          exact bodyPost_ret (results_row3 (p := 2) (q := 3) (r := 4) (u := .int .i64 0) (v := .int .i64 270) rfl rfl k1 aggFd rfl rfl) rfl (NO.out _ HN hb1)
        · have HS : Hid (ro = some (⟨(m : Nat), 2, 0, (l.drop (k1 + k2)).take x⟩, k1 + k2 + x)) := by show _ = _; rw [HRR.out, if_neg (by omega)]
          have htest : decide ((n : Int) - ((k1 : Int) + k2) < (x : Int)) = false := decide_eq_false (by omega)
          have hxn : k1 + k2 + x ≤ n := by omega
          clear HRR hbig
          obtain ⟨s, hs⟩ : ∃ s, str ((l.drop (k1 + k2)).take x) = s := ⟨_, rfl⟩
          go_wp2_with (first | (refine step_storeRow rfl 74 (.tmp 9) (.tmp 46) rfl rfl w2.heap.size wayNil rfl rfl 74 wayNil (by exact RowAt.new w2 _ _) aggWay.2 rfl (by simp [wayNil, Value.oneCell']) ?_; intro w3 h1 h2; have HW3 := (HW2.below (below_alloc _)).grown h2 (fun g hg => by obtain rfl := Option.some.inj hg; omega); have H83 := (H82.below (below_alloc _)).grown h2 (fun g hg => by obtain rfl := Option.some.inj hg; omega); have HB3 := Lib.hid ((HB2.out.alloc (by omega) _).grown h2 (by simp; omega) (fun g hg => by obtain rfl := Option.some.inj hg; omega)); clear h1 h2; obtain ⟨c0, c1, c2, c3⟩ := H83.cells4; have hrd := Lib.hid (RdB.dropB (HL.out.mono HB3.out) k1 cap (by rw [← hn.out]; omega) hck)) | (go_at_call 13; refine (takevarint_any _ (l.drop k1) (n - k1) (cap - k1) _ hld hc3 hc4 hrd.out).mono ?_; rw [hx.out, hk2.out, her.out]; rintro e _ ⟨rfl, rfl⟩; obtain ⟨ad, had⟩ : ∃ ad, Option.map (fun x : Addr => x.add k1) a = ad := ⟨_, rfl⟩; rw [had]; clear had hrd) | (refine step_str rfl 23 9 5 (.tmp 99) rfl _ (k1 + k2 + x - (k1 + k2)) _ ((l.drop (k1 + k2)).take x) rfl Try.underlying23 Try.underlying5 Try.underlying9 (by rw [List.length_take, List.length_drop, ← hn.out]; omega) (RdB.take (RdB.dropA (HL.out.mono HB3.out) (k1 + k2) cap (by rw [← hn.out]; omega)) x) s hs ?_) | (refine step_storeField rfl 9 (.tmp 101) (.tmp 100) rfl rfl (w.heap.size + 1) 3 (.string s) rfl rfl 40 #[.int .i64 (m : Int), .int .i64 ((2 : Nat) : Int), .int .u64 0, .string ⟨#[]⟩] #[.int .i64 (m : Int), .int .i64 ((2 : Nat) : Int), .int .u64 0, .string s] H83 (by kernel_rfl) (by show 3 < 4; decide) rfl (by simp) ?_; intro w6 h1 h2; have H86 := h1; have HW6 := HW3.grown h2 (fun g hg => by obtain rfl := Option.some.inj hg; omega); have HB6 := HB3.out.grown h2 HB3.out.size (fun g hg => by obtain rfl := Option.some.inj hg; omega); clear h1 h2) | (refine step_loadRow rfl 40 (.tmp 8) rfl (w.heap.size + 1) rfl H86 aggFd ?_) | (refine step_storeRow rfl 40 (.tmp 2) (.tmp 102) rfl rfl w.heap.size #[.int .i64 (m : Int), .int .i64 ((2 : Nat) : Int), .int .u64 0, .string s] rfl rfl 40 zeroFd (by exact HW6) aggFd.2 rfl (by simp [Value.oneCell']) ?_; intro w7 h1 h2; have HB7 := HB6.grown h2 HB6.size (fun g hg => by obtain rfl := Option.some.inj hg; omega)))
          all_goals refine bodyPost_ret (results_row3 (p := 2) (q := 3) (r := 4) (u := .int .i64 ((k1 : Int) + k2 + x)) (v := .int .i64 0) rfl rfl h1 aggFd rfl rfl) rfl ⟨⟨_, _, _, rfl, rfl, by simp [Value.oneCell'], .inr ⟨_, _, HS.out, by rw [← hs]; rfl, by omega, rfl⟩⟩, HB7⟩
      · have HN : Hid (ro = none) := by show _ = _; rw [HRR.out, if_pos (.inl (by decide))]
        clear HRR
        go_wp2_with (first | (refine step_storeRow rfl 74 (.tmp 9) (.tmp 46) rfl rfl w2.heap.size wayNil rfl rfl 74 wayNil (by exact RowAt.new w2 _ _) aggWay.2 rfl (by simp [wayNil, Value.oneCell']) ?_; intro w3 h1 h2; have HW3 := (HW2.below (below_alloc _)).grown h2 (fun g hg => by obtain rfl := Option.some.inj hg; omega); have H83 := (H82.below (below_alloc _)).grown h2 (fun g hg => by obtain rfl := Option.some.inj hg; omega); have HB3 := Lib.hid ((HB2.out.alloc (by omega) _).grown h2 (by simp; omega) (fun g hg => by obtain rfl := Option.some.inj hg; omega)); clear h1 h2; obtain ⟨c0, c1, c2, c3⟩ := H83.cells4; have hrd := Lib.hid ((HL.out.mono HB3.out).dropA k1 cap (by rw [← hn.out]; omega))) | (go_at_call 13; refine (takevarint_any _ (l.drop k1) (n - k1) (cap - k1) _ hld hc3 hc4 hrd.out).mono ?_; rw [hx.out, hk2.out, her.out]; rintro e _ ⟨rfl, rfl⟩; obtain ⟨ad, had⟩ : ∃ ad, (if cap = k1 then a else Option.map (fun x => x.add k1) a) = ad := ⟨_, rfl⟩; rw [had]; clear had hrd) | (refine step_storeRow rfl 40 (.tmp 2) (.tmp 92) rfl rfl w.heap.size zeroFd rfl rfl 40 zeroFd (by exact HW3) aggFd.2 rfl zeroFd_one ?_; intro w4 k1 k2; have hb1 := HB3.out.grown k2 HB3.out.size (fun g hg => by obtain rfl := Option.some.inj hg; omega)))
        exact bodyPost_ret (results_row3 (p := 2) (q := 3) (r := 4) (u := .int .i64 0) (v := .int .i64 270) rfl rfl k1 aggFd rfl rfl) rfl (NO.out _ HN hb1)
    · have hw0 : e = .returned (.tuple #[.agg wayNil, .bool false]) := by
        rcases hway with ⟨h, _⟩ | ⟨h, _⟩ | ⟨_, _, _, h⟩
        · omega
        · omega
        · exact h
      subst hw0
      clear hway hb2 HW1 H81 HB1 hs1 h32 h3 h7
      have HN : Hid (ro = none) := by show _ = _; rw [HG.out, if_neg ht0, if_neg (by omega), if_neg ht2]
      have g2 : ((t : Int) == 2) = false := by simp; omega
      clear HG
      go_wp2_with (first | (refine step_storeRow rfl 74 (.tmp 9) (.tmp 46) rfl rfl w2.heap.size wayNil rfl rfl 74 wayNil (by exact RowAt.new w2 _ _) aggWay.2 rfl (by simp [wayNil, Value.oneCell']) ?_; intro w3 h1 h2; have HW3 := (HW2.below (below_alloc _)).grown h2 (fun g hg => by obtain rfl := Option.some.inj hg; omega); have H83 := (H82.below (below_alloc _)).grown h2 (fun g hg => by obtain rfl := Option.some.inj hg; omega); have HB3 := Lib.hid ((HB2.out.alloc (by omega) _).grown h2 (by simp; omega) (fun g hg => by obtain rfl := Option.some.inj hg; omega)); clear h1 h2; obtain ⟨c0, c1, c2, c3⟩ := H83.cells4) | (refine step_storeRow rfl 40 (.tmp 2) (.tmp 69) rfl rfl w.heap.size zeroFd rfl rfl 40 zeroFd (by exact HW3) aggFd.2 rfl zeroFd_one ?_; intro w4 k1 k2; have hb1 := HB3.out.grown k2 HB3.out.size (fun g hg => by obtain rfl := Option.some.inj hg; omega)))
      exact bodyPost_ret (results_row3 (p := 2) (q := 3) (r := 4) (u := .int .i64 0) (v := .int .i64 270) rfl rfl k1 aggFd rfl rfl) rfl (NO.out _ HN hb1)
end Go.Proofs.Ytomfdiomakjeoaa
